/- Part of the proofs: findI_cases, ref_like: each says what its head says. -/
import Derived.Test.YtaenackibigojaaDoorR5
set_option linter.unusedVariables false
set_option linter.unusedSimpArgs false
namespace Go.Proofs.YtaenackibigojaaDoor
open Go.RowKit Go.BK
theorem findI_cases (l : List File) (s : Str) : (findI l s = -1 ∧ dataOf l s = none) ∨ ∃ (i : Nat) (f : File), findI l s = i ∧ l[i]? = some f ∧ dataOf l s = some f.data := by
  unfold findI
  cases h : l.findIdx? (fun f => f.name == s) with
  | none =>
    refine .inl ⟨rfl, dataOf_none ?_⟩
    rw [List.findIdx?_eq_none_iff] at h
    unfold has
    rw [List.any_eq_false]
    intro x hx
    simp [h x hx]
  | some i =>
    rw [List.findIdx?_eq_some_iff_getElem] at h
    obtain ⟨hi, h1, h2⟩ := h
    refine .inr ⟨i, l[i], rfl, List.getElem?_eq_getElem hi, ?_⟩
    unfold dataOf
    have hfd : l.find? (fun f => f.name == s) = some l[i] := List.find?_eq_some_iff_getElem.2 ⟨h1, i, hi, rfl, fun j hj => by simpa using h2 j hj⟩
    rw [hfd]
    rfl

set_option maxHeartbeats 1000000 in
set_option maxRecDepth 100000 in
theorem ref_like (w : World) (A : Nat → Prop) (a : Option Addr) (n c : Nat) (l : List File) (a' : Option Addr) (n' c' : Nat) (l' : List File) (s : Str) (h : Holds kFile A w a n l) (h' : Holds kFile A w a' n' l') :
    Calls Tryd.prog 29 #[.slice a n c, .slice a' n' c', .string (mkS s)] w fun e w' => e = .returned (.bool (dataOf l s == dataOf l' s)) ∧ Ext w w' := by
  have f1 := ref_find w A a n c l s h
  have f2 := ref_find w A a' n' c' l' s h'
  have hl := Lib.hid h.1
  have hl' := Lib.hid h'.1
  have hnn := h.le
  have hnn' := h'.le
  rcases findI_cases l s with ⟨q1, q2⟩ | ⟨i, f, q1, q2, q3⟩
  · rcases findI_cases l' s with ⟨r1, r2⟩ | ⟨j, g, r1, r2, r3⟩
    · rw [q1] at f1
      rw [r1] at f2
      have hfin : Hid ((dataOf l s == dataOf l' s) = true) := Lib.hid (by rw [q2, r2]; rfl)
      clear q1 q2 r1 r2
      go_enter Tryd.func29, Tryd.ntmps29
      go_wp2_with (fail)
      refine f1.mono ?_
      rintro e w1 ⟨rfl, rfl⟩
      go_wp2_with (fail)
      refine f2.mono ?_
      rintro e w1 ⟨rfl, rfl⟩
      clear f1 f2
      go_wp2
      go_ret
      exact ⟨ret_b hfin.out.symm, Ext.refl _⟩
    · rw [q1] at f1
      rw [r1] at f2
      have hfin : Hid ((dataOf l s == dataOf l' s) = false) := Lib.hid (by rw [q2, r3]; rfl)
      have j0 : ¬ ((j : Int) < 0) := by omega
      clear q1 q2 r1 r2 r3
      go_enter Tryd.func29, Tryd.ntmps29
      go_wp2_with (fail)
      refine f1.mono ?_
      rintro e w1 ⟨rfl, rfl⟩
      go_wp2_with (fail)
      refine f2.mono ?_
      rintro e w1 ⟨rfl, rfl⟩
      clear f1 f2
      go_wp2
      go_ret
      exact ⟨ret_b hfin.out.symm, Ext.refl _⟩
  · rcases findI_cases l' s with ⟨r1, r2⟩ | ⟨j, g, r1, r2, r3⟩
    · rw [q1] at f1
      rw [r1] at f2
      have hfin : Hid ((dataOf l s == dataOf l' s) = false) := Lib.hid (by rw [q3, r2]; rfl)
      have j0 : ¬ ((i : Int) < 0) := by omega
      clear q1 q2 q3 r1 r2
      go_enter Tryd.func29, Tryd.ntmps29
      go_wp2_with (fail)
      refine f1.mono ?_
      rintro e w1 ⟨rfl, rfl⟩
      go_wp2_with (fail)
      refine f2.mono ?_
      rintro e w1 ⟨rfl, rfl⟩
      clear f1 f2
      go_wp2
      go_ret
      exact ⟨ret_b hfin.out.symm, Ext.refl _⟩
    · rw [q1] at f1
      rw [r1] at f2
      have hi := (List.getElem?_eq_some_iff.1 q2).1
      have hj := (List.getElem?_eq_some_iff.1 r2).1
      rw [hl.out] at hi
      rw [hl'.out] at hj
      obtain ⟨b, o, ad, m, cc, rfl, hA, hb, hc0, hc1, hns, hmc, hcm, hd⟩ := files_at h i f q2
      obtain ⟨b', o', ad', m', cc', rfl, hA', hb', hc0', hc1', hns', hmc', hcm', hd'⟩ := files_at h' j g r2
      have hcv := fun (W : World) (hW : Ext w W) => run_convert_holds (P := Tryd.prog) (src := 27) (dst := 9) (c := cc) Tryd.underlying27 Tryd.underlying5 Tryd.underlying9 (hd W hW)
      have hcv' := fun (W : World) (hW : Ext w W) => run_convert_holds (P := Tryd.prog) (src := 27) (dst := 9) (c := cc') Tryd.underlying27 Tryd.underlying5 Tryd.underlying9 (hd' W hW)
      have hfin : Hid ((dataOf l s == dataOf l' s) = (f.data == g.data)) := Lib.hid (by rw [q3, r3]; rfl)
      have i0 : (0 : Int) ≤ (i : Int) := by omega
      have i1 : (i : Int) < (n : Int) := by omega
      have i2 : (0 : Int) ≤ (j : Int) := by omega
      have i3 : (j : Int) < (n' : Int) := by omega
      have j0 : ¬ ((i : Int) < 0) := by omega
      have j1 : ¬ ((j : Int) < 0) := by omega
      clear q1 q2 q3 r1 r2 r3 hd hd'
      go_enter Tryd.func29, Tryd.ntmps29
      go_wp2_with (fail)
      refine f1.mono ?_
      rintro e w1 ⟨rfl, rfl⟩
      go_wp2_with (fail)
      refine f2.mono ?_
      rintro e w1 ⟨rfl, rfl⟩
      clear f1 f2
      go_wp2
      (refine wp_region_ext (by kernel_rfl) (by kernel_rfl) ?_; (repeat (go_big_quiet_step (fail))); refine wpQuiet_nil ?_; rintro _ ⟨⟨wq, hxq⟩, rfl⟩; try dsimp only)
      go_wp2
      go_ret
      refine ⟨ret_b ?_, hxq⟩
      rw [hfin.out]
end Go.Proofs.YtaenackibigojaaDoor

/- Part of the proofs: list_eq_of, file_ext, ref_same: each says what its head says. -/
import Derived.Test.YtaenackibigojaaDoorR1
set_option linter.unusedVariables false
set_option linter.unusedSimpArgs false
namespace Go.Proofs.YtaenackibigojaaDoor
open Go.RowKit Go.BK

theorem list_eq_of {α : Type} {a b : List α} (hl : a.length = b.length) (h : ∀ j x y, j < a.length → a[j]? = some x → b[j]? = some y → x = y) : a = b := by
  apply List.ext_getElem hl
  intro i h1 h2
  exact h i _ _ h1 (List.getElem?_eq_getElem h1) (List.getElem?_eq_getElem h2)

theorem file_ext {x y : File} (h1 : (x.name == y.name) = true) (h2 : (x.data == y.data) = true) : x = y := by
  cases x; cases y
  simp at h1 h2
  simp [h1, h2]

set_option maxHeartbeats 800000 in
set_option maxRecDepth 100000 in
theorem ref_same (w : World) (A A' : Nat → Prop) (a a' : Option Addr) (n c n' c' : Nat) (l l' : List File) (h : Holds kFile A w a n l) (h' : Holds kFile A' w a' n' l') :
    Calls Tryd.prog 13 #[.slice a n c, .slice a' n' c'] w fun e w' => e = .returned (.bool (decide (l = l'))) ∧ Ext w w' := by
  have hl := Lib.hid h.1
  have hl' := Lib.hid h'.1
  have hnn : n ≤ 9223372036854775807 := h.le
  have hnn' : n' ≤ 9223372036854775807 := h'.le
  cases hne : ((n : Int) == (n' : Int)) with
  | false =>
    have hne2 : ((n : Int) != (n' : Int)) = true := by simpa using hne
    go_enter Tryd.func13, Tryd.ntmps13
    go_wp2
    go_ret
    refine ⟨ret_b ?_, Ext.refl _⟩
    have : l ≠ l' := by
      rintro rfl
      have h1 := hl.out; have h2 := hl'.out
      rw [h1] at h2
      simp at hne
      omega
    simp [this]
  | true =>
  have hnn2 : n = n' := by
    have : (n : Int) = (n' : Int) := by simpa using hne
    omega
  subst hnn2
  have hne2 : ((n : Int) != (n : Int)) = false := by simp
  go_enter Tryd.func13, Tryd.ntmps13
  go_wp2
  go_loopw [5] (fun i wr => ∃ k : Nat, i = .int .i64 k ∧ k ≤ n ∧ (∀ (j : Nat) (x y : File), j < k → l[j]? = some x → l'[j]? = some y → x = y) ∧ Ext w wr) (fun i _ => n - (intOf i).toNat)
  case atStart => exact ⟨0, rfl, Nat.zero_le _, fun j f _ hj => absurd hj (by omega), Ext.refl _⟩
  case round =>
    obtain ⟨k, rfl, hkn, hno, hx⟩ := hrel
    have hno' := Lib.hid hno
    clear hno
    by_cases hlt : k < n
    · obtain ⟨x, hx1⟩ : ∃ f, l[k]? = some f := ⟨_, List.getElem?_eq_getElem (by rw [hl.out]; omega)⟩
      obtain ⟨y, hy1⟩ : ∃ f, l'[k]? = some f := ⟨_, List.getElem?_eq_getElem (by rw [hl'.out]; exact hlt)⟩
      obtain ⟨b, o, ad, m, cc, rfl, hA, hb, hc0, hc1, hns, hmc, hcm, hd⟩ := files_at h k x hx1
      obtain ⟨b', o', ad', m', cc', rfl, hA', hb', hc0', hc1', hns', hmc', hcm', hd'⟩ := files_at h' k y hy1
      have hcv := fun (W : World) (hW : Ext w W) => run_convert_holds (P := Tryd.prog) (src := 27) (dst := 9) (c := cc) Tryd.underlying27 Tryd.underlying5 Tryd.underlying9 (hd W hW)
      have hcv' := fun (W : World) (hW : Ext w W) => run_convert_holds (P := Tryd.prog) (src := 27) (dst := 9) (c := cc') Tryd.underlying27 Tryd.underlying5 Tryd.underlying9 (hd' W hW)
      have hx' := Lib.hid hx1
      have hy' := Lib.hid hy1
      clear hx1 hy1 hd hd'
      have i0 : (0 : Int) ≤ (k : Int) := by omega
      have i1 : (k : Int) < (n : Int) := by omega
      have bad : (x = y → False) → decide (l = l') = false := by
        intro hxy
        have : l ≠ l' := by
          rintro rfl
          have h1 := hx'.out; have h2 := hy'.out
          rw [h1] at h2
          exact hxy (Option.some.inj h2)
        simp [this]
      cases hs : x.name == y.name with
      | true =>
        cases hsd : x.data == y.data with
        | true =>
          go_wp2
          (refine wp_region_ext (by kernel_rfl) (by kernel_rfl) ?_; (repeat (go_big_quiet_step (fail))); refine wpQuiet_nil ?_; rintro _ ⟨⟨wq, hxq⟩, rfl⟩; try dsimp only)
          go_wp2
          go_roundw
          case rel =>
            refine ⟨k + 1, by go_num, by omega, fun j p q hj hp hq => ?_, hx.trans hxq⟩
            by_cases hjk : j < k
            · exact hno'.out j p q hjk hp hq
            · obtain rfl : j = k := by omega
              rw [hx'.out] at hp
              rw [hy'.out] at hq
              cases hp; cases hq
              exact file_ext hs hsd
          case measure => simp [intOf]; omega
        | false =>
          go_wp2
          (refine wp_region_ext (by kernel_rfl) (by kernel_rfl) ?_; (repeat (go_big_quiet_step (fail))); refine wpQuiet_nil ?_; rintro _ ⟨⟨wq, hxq⟩, rfl⟩; try dsimp only)
          go_wp2
          go_ret
          exact ⟨ret_b (bad (by rintro rfl; simp at hsd)).symm, hx.trans hxq⟩
      | false =>
        go_wp2
        (refine wp_region_ext (by kernel_rfl) (by kernel_rfl) ?_; (repeat (go_big_quiet_step (fail))); refine wpQuiet_nil ?_; rintro _ ⟨⟨wq, hxq⟩, rfl⟩; try dsimp only)
        go_wp2
        go_ret
        exact ⟨ret_b (bad (by rintro rfl; simp at hs)).symm, hx.trans hxq⟩
    · go_wp2
      go_ret
      refine ⟨ret_b ?_, hx⟩
      have : l = l' := list_eq_of (by rw [hl.out, hl'.out]) (fun j x y hj => hno'.out j x y (by have := hl.out; omega))
      simp [this]
end Go.Proofs.YtaenackibigojaaDoor

/- Part of the proofs: ref_sameO: each says what its head says. -/
import Derived.Test.YtaenackibigojaaDoorR12
set_option linter.unusedVariables false
set_option linter.unusedSimpArgs false
namespace Go.BK
structure PlainO (o : Stp) : Prop where
  n : o.n = 0
  keep : o.keep = []
  names : o.names = 0
  fill : o.fill = 0
end Go.BK
namespace Go.Proofs.YtaenackibigojaaDoor
open Go.RowKit Go.BK

set_option maxHeartbeats 2000000 in
set_option maxRecDepth 100000 in
theorem ref_sameO (w : World) (A A' : Nat → Prop) (a a' : Option Addr) (n c n' c' : Nat) (l : List Stp) (h : Holds kOp A w a n l) (h' : Holds kOp A' w a' n' l) (hp : ∀ o ∈ l, PlainO o) :
    Calls Tryd.prog 14 #[.slice a n c, .slice a' n' c'] w fun e w' => e = .returned (.bool true) ∧ Ext w w' := by
  have hl := Lib.hid h.1
  obtain rfl : n = n' := h.1.symm.trans h'.1
  have hnn := h.le
  have hne2 : ((n : Int) != (n : Int)) = false := by simp
  have hp' := Lib.hid hp
  clear hp
  go_enter Tryd.func14, Tryd.ntmps14
  go_wp2
  go_loopw [5] (fun i wr => ∃ k : Nat, i = .int .i64 k ∧ k ≤ n ∧ Ext w wr) (fun i _ => n - (intOf i).toNat)
  case atStart => exact ⟨0, rfl, Nat.zero_le _, Ext.refl _⟩
  case round =>
    obtain ⟨k, rfl, hkn, hx⟩ := hrel
    by_cases hlt : k < n
    · obtain ⟨x, hx1⟩ : ∃ f, l[k]? = some f := ⟨_, List.getElem?_eq_getElem (by rw [hl.out]; omega)⟩
      have hpx := hp'.out x (List.mem_of_getElem? hx1)
      obtain ⟨b, o, ad, m2, cc, ad', m', cc', rfl, hA, hb, hc0, hc1, hc2, hc3, hc4, hc5, hc6, hns, hmc, hcm, hd, hmc2, hcm2, hd2, _⟩ := ops_at h k x hx1
      obtain ⟨b', o', ad3, m3, cc3, ad4, m4, cc4, rfl, hA', hb', hc0', hc1', hc2', hc3', hc4', hc5', hc6', hns', hmc', hcm', hd', hmc2', hcm2', hd2', _⟩ := ops_at h' k x hx1
      have hm0 : m' = 0 := by have := (hd2 w (Ext.refl _)).1; rw [hpx.keep] at this; exact this.symm
      subst hm0
      rw [hpx.n] at hc3
      rw [hpx.names] at hc5
      rw [hpx.fill] at hc6
      have hcv := fun (W : World) (hW : Ext w W) => run_convert_holds (P := Tryd.prog) (src := 27) (dst := 9) (c := cc) Tryd.underlying27 Tryd.underlying5 Tryd.underlying9 (hd W hW)
      have hcv' := fun (W : World) (hW : Ext w W) => run_convert_holds (P := Tryd.prog) (src := 27) (dst := 9) (c := cc3) Tryd.underlying27 Tryd.underlying5 Tryd.underlying9 (hd' W hW)
      clear hx1 hd hd' hd2 hd2' hpx
      have i0 : (0 : Int) ≤ (k : Int) := by omega
      have i1 : (k : Int) < (n : Int) := by omega
      have hk0 : (x.kind != x.kind) = false := by simp
      have hk1 : (x.name != x.name) = false := by simp
      have hk2 : (x.data != x.data) = false := by simp
      go_wp2
      refine wp_region_ext (by kernel_rfl) (by kernel_rfl) ?_
      simp only [List.append]
      (repeat (go_big_quiet_step (fail)))
      refine wpQuiet_nil ?_
      rintro _ ⟨⟨wq, hxq⟩, rfl⟩
      try dsimp only
      go_wp2
      go_roundw
      case rel => exact ⟨k + 1, by go_num, by omega, hx.trans hxq⟩
      case measure => simp [intOf]; omega
    · go_wp2
      go_ret
      exact ⟨rfl, hx⟩
end Go.Proofs.YtaenackibigojaaDoor

/- Part of the proofs: fineF, all_false, rightM, ref_rightM: each says what its head says. -/
import Derived.Test.YtaenackibigojaaDoorR9
set_option linter.unusedVariables false
set_option linter.unusedSimpArgs false
namespace Go.BK
def fineF (f : File) : Bool := right f.name && decide (f.data.length ≤ 65536)
theorem all_false {α : Type} {l : List α} {f : α → Bool} {k : Nat} {x : α} (hx : l[k]? = some x) (h : f x = false) : l.all f = false := by
  rw [List.all_eq_false]
  exact ⟨x, List.mem_of_getElem? hx, by simp [h]⟩
end Go.BK
namespace Go.Proofs.YtaenackibigojaaDoor
open Go.RowKit Go.BK
def rightM (l : List File) : Bool := l.all fineF && decide (l.length < 201) && sortedB l

set_option maxHeartbeats 2000000 in
set_option maxRecDepth 100000 in
theorem ref_rightM (w : World) (A : Nat → Prop) (a : Option Addr) (n c : Nat) (l : List File) (h : Holds kFile A w a n l) (hm : ∀ f ∈ l, Fits f.name.length) (hmd : ∀ f ∈ l, Fits f.data.length) :
    Calls Tryd.prog 16 #[.slice a n c] w fun e w' => e = .returned (.bool (rightM l)) ∧ Ext w w' := by
  have hl := Lib.hid h.1
  have hnn := h.le
  have hmn := Lib.hid hm
  have hmd' := Lib.hid hmd
  have hmap := fun W (hW : Ext w W) => ref_map W A a n c l (h.ext hW)
  clear hm hmd
  go_enter Tryd.func16, Tryd.ntmps16
  go_wp2
  go_loopw [3] (fun i wr => ∃ k : Nat, k ≤ n ∧ i = .int .i64 k ∧ Hid (∀ (j : Nat) x, j < k → l[j]? = some x → fineF x = true) ∧ Ext w wr) (fun i _ => n - (intOf i).toNat)
  case atStart => exact ⟨0, Nat.zero_le _, rfl, Lib.hid (fun j f hj => absurd hj (by omega)), Ext.refl _⟩
  case round =>
    obtain ⟨k, hk, rfl, hok, hx⟩ := hrel
    by_cases hlt : k < n
    · obtain ⟨f, hfk⟩ : ∃ f, l[k]? = some f := ⟨_, List.getElem?_eq_getElem (by rw [hl.out]; exact hlt)⟩
      obtain ⟨b, o, ad, m2, cc, rfl, hA, hb, hc0, hc1, hns, hmc, hcm, hd⟩ := files_at h k f hfk
      have e0 := hc0 _ hx
      have hfk' := Lib.hid hfk
      have hrr := fun W => ref_right W f.name (hmn.out f (List.mem_of_getElem? hfk))
      have hm2 : f.data.length = m2 := (hd w (Ext.refl w)).1
      have hm2' := Lib.hid hm2
      clear hfk hc0 hd hmap hm2
      cases hr : right f.name with
      | false =>
        rw [hr] at hrr
        have hfin : Hid (rightM l = false) := Lib.hid (by unfold rightM; rw [all_false hfk'.out (f := fineF) (by simp [fineF, hr])]; rfl)
        clear hr
        go_wp2_with (go_at_call 27; refine (hrr _).mono ?_; rintro e w1 ⟨rfl, hx1⟩)
        go_ret
        exact ⟨ret_b hfin.out.symm, hx.trans hx1⟩
      | true =>
        rw [hr] at hrr
        by_cases hbig : 65536 < m2
        · have hfin : Hid (rightM l = false) := Lib.hid (by unfold rightM; rw [all_false hfk'.out (f := fineF) (by simp [fineF, hm2'.out]; intro _; omega)]; rfl)
          have t1 : (65536 : Int) < (m2 : Int) := by omega
          clear hr
          go_wp2_with (fail)
          refine (hrr _).mono ?_
          rintro e w1 ⟨rfl, hx1⟩
          have e1 := hc1 _ (hx.trans hx1)
          have hxx := hx.trans hx1
          clear hrr hc1
          go_wp2
          go_ret
          exact ⟨ret_b hfin.out.symm, hxx⟩
        · have hgx := Lib.hid (show fineF f = true by simp [fineF, hr, hm2'.out]; omega)
          have t1 : ¬ (65536 : Int) < (m2 : Int) := by omega
          clear hr
          go_wp2_with (fail)
          refine (hrr _).mono ?_
          rintro e w1 ⟨rfl, hx1⟩
          have e1 := hc1 _ (hx.trans hx1)
          have hxx := hx.trans hx1
          clear hrr hc1
          go_wp2
          go_roundw
          case rel =>
            refine ⟨k + 1, by omega, by go_num, Lib.hid (fun j y hj hy => ?_), hxx⟩
            by_cases hjk : j < k
            · exact hok.out j y hjk hy
            · obtain rfl : j = k := by omega
              rw [hfk'.out] at hy; cases hy; exact hgx.out
          case measure => simp [intOf]; omega
    · obtain rfl : k = n := by omega
      have hall := Lib.hid (all_of_get (l := l) (f := fineF) (fun t x ht => hok.out t x (by have := hl.out; omega)))
      have hmp := hmap _ hx
      clear hmap
      by_cases hbig : k < 201
      · have t1 : (k : Int) < (201 : Int) := by omega
        have hfin : Hid (rightM l = sortedB l) := Lib.hid (by unfold rightM; rw [hall.out, hl.out]; simp [hbig])
        go_wp2_with (go_at_call 8; refine hmp.mono ?_; rintro e w1 ⟨rfl, hx1⟩)
        go_ret
        exact ⟨ret_b hfin.out.symm, hx.trans hx1⟩
      · have t1 : ¬ (k : Int) < (201 : Int) := by omega
        have hfin : Hid (rightM l = false) := Lib.hid (by unfold rightM; rw [hall.out, hl.out]; simp [hbig])
        go_wp2
        go_ret
        exact ⟨ret_b hfin.out.symm, hx⟩
end Go.Proofs.YtaenackibigojaaDoor

/- Part of the proofs: CutAt.start, CutAt.on, CutAt.hit, CutAt.done, index_str, ref_parts: each says what its head says. -/
import Derived.Test.YtaenackibigojaaDoorR7
set_option linter.unusedVariables false
set_option linter.unusedSimpArgs false
namespace Go.BK
theorem cut_end : ∀ {t : Str}, (∀ (j : Nat) x, t[j]? = some x → x ≠ 47) → cut t = [t]
  | [], _ => rfl
  | c :: t, h => by
    have h0 : c ≠ 47 := h 0 c rfl
    have ih := cut_end (t := t) (fun j x hx => h (j + 1) x (by simpa using hx))
    rw [cut, if_neg h0, ih]
theorem cut_at : ∀ {t : Str} {i : Nat}, t[i]? = some 47 → (∀ (j : Nat) x, j < i → t[j]? = some x → x ≠ 47) → cut t = t.take i :: cut (t.drop (i + 1))
  | [], i, h, _ => by simp at h
  | c :: t, 0, h, _ => by
    have : c = 47 := by simpa using h
    subst this
    simp [cut]
  | c :: t, i + 1, h, hn => by
    have h0 : c ≠ 47 := hn 0 c (by omega) rfl
    have ih := cut_at (t := t) (i := i) (by simpa using h) (fun j x hj hx => hn (j + 1) x (by omega) (by simpa using hx))
    rw [cut, if_neg h0, ih]
    simp
/-- Where a walk over a text stands: the parts that are whole, and what is left. -/
structure CutAt (s : Str) (p k : Nat) (L : List Str) : Prop where
  le : p ≤ k
  eq : cut s = L ++ cut (s.drop p)
  no : ∀ (j : Nat) x, p ≤ j → j < k → s[j]? = some x → x ≠ 47
theorem CutAt.start (s : Str) : CutAt s 0 0 [] := ⟨Nat.le_refl _, by simp, fun j x _ hj => absurd hj (by omega)⟩
theorem CutAt.on {s : Str} {p k : Nat} {L : List Str} (h : CutAt s p k L) {x : UInt8} (hx : s[k]? = some x) (hne : x ≠ 47) : CutAt s p (k + 1) L := ⟨by have := h.le; omega, h.eq, fun j y hp hj hy => by
  by_cases hjk : j < k
  · exact h.no j y hp hjk hy
  · obtain rfl : j = k := by omega
    rw [hx] at hy; cases hy; exact hne⟩
theorem CutAt.hit {s : Str} {p k : Nat} {L : List Str} (h : CutAt s p k L) (hx : s[k]? = some 47) : CutAt s (k + 1) (k + 1) (L ++ [(s.drop p).take (k - p)]) := by
  refine ⟨Nat.le_refl _, ?_, fun j y hp hj => absurd hj (by omega)⟩
  have hle := h.le
  have h1 : (s.drop p)[k - p]? = some 47 := by rw [List.getElem?_drop]; rwa [show p + (k - p) = k by omega]
  rw [h.eq, cut_at h1 (fun j y hj hy => h.no (p + j) y (by omega) (by omega) (by rwa [List.getElem?_drop] at hy)), List.drop_drop, show p + (k - p + 1) = k + 1 by omega]
  simp
theorem CutAt.done {s : Str} {p k : Nat} {L : List Str} (h : CutAt s p k L) (hk : k = s.length) : cut s = L ++ [s.drop p] := by
  rw [h.eq, cut_end (fun j y hy => h.no (p + j) y (by omega) (by
    have := (List.getElem?_eq_some_iff.1 hy).1
    rw [List.length_drop] at this
    omega) (by rwa [List.getElem?_drop] at hy))]
end Go.BK
namespace Go.Proofs.YtaenackibigojaaDoor
open Go.RowKit Go.BK
theorem index_str (s : Str) (k : Nat) (c : UInt8) (h : s[k]? = some c) (W : World) : (Instr.index 9 (.string (mkS s)) (.int .i64 (k : Int))).run Tryd.prog W = .ok (.int .u8 (c.toNat : Int)) W := by
  have hk := (List.getElem?_eq_some_iff.1 h).1
  have hc := (List.getElem?_eq_some_iff.1 h).2
  rw [run_index_string W 9 (mkS s) .i64 k Tryd.underlying9, dif_pos ⟨by omega, by rw [mkS_size]; omega⟩]
  have : (mkS s)[(k : Int).toNat]'(by rw [mkS_size]; omega) = c := by rw [← hc]; rfl
  rw [this]

set_option maxHeartbeats 1000000 in
set_option maxRecDepth 100000 in
theorem ref_parts (w : World) (s : Str) (hf : Fits s.length) :
    Calls Tryd.prog 42 #[.string (mkS s)] w fun e w' => ∃ v, e = .returned v ∧ OwnsF kStr 9 w.heap.size (fun _ => False) w' v (cut s) ∧ Ext w w' := by
  have hnn := hf.out
  obtain ⟨n, hl⟩ : ∃ n, s.length = n := ⟨_, rfl⟩
  rw [hl] at hnn
  have hl' := Lib.hid hl
  have hsz : (mkS s).size = n := by rw [mkS_size, hl]
  go_enter Tryd.func42, Tryd.ntmps42
  go_wp2
  go_loopw [3, 4, 5] (fun out u4 i wr => ∃ k p m L, k ≤ n ∧ p ≤ k ∧ m ≤ k ∧ u4 = .int .i64 (p : Nat) ∧ i = .int .i64 (k : Nat) ∧ Hid (CutAt s p k L) ∧ OwnsF kStr 9 w.heap.size (fun _ => False) wr out L ∧ Ext w wr ∧ L.length = m)
    (fun _ _ i _ => n - (intOf i).toNat)
  case atStart => exact ⟨0, 0, 0, [], Nat.zero_le _, Nat.le_refl _, Nat.le_refl _, rfl, rfl, Lib.hid (CutAt.start s), OwnsF.nil _ _ _ _, Ext.refl _, rfl⟩
  case round =>
    obtain ⟨k, p, m, L, hk, hpk, hmk, rfl, rfl, hcut, hown, hx, hm⟩ := hrel
    have hm' := Lib.hid hm
    clear hm
    have hsx := hx.size
    have i0 : (0 : Int) ≤ (p : Int) := by omega
    have i1 : (p : Int) ≤ (k : Int) := by omega
    have i2 : (k : Int) ≤ (n : Int) := by omega
    by_cases hlt : k < n
    · obtain ⟨x, hxk⟩ : ∃ f, s[k]? = some f := ⟨_, List.getElem?_eq_getElem (by rw [hl]; exact hlt)⟩
      have hix := index_str s k x hxk
      have hxk' := Lib.hid hxk
      clear hxk hl
      cases h47 : ((x.toNat : Int) == 47) with
      | true =>
        have hx47 : x = 47 := by
          have : x.toNat = 47 := by have h := beq_iff_eq.1 h47; omega
          exact UInt8.toNat_inj.1 this
        have hc2 := Lib.hid (hcut.out.hit (by rw [hxk'.out, hx47]))
        have hlen : Hid (((s.drop p).take (k - p)).length ≤ maxLen) := Lib.hid (by simp [maxLen]; have := hl'.out; omega)
        clear hx47
        go_wp2_with (at_builtin; refine stop_here ?_)
        refine ⟨?_, trivial⟩
        have hxa := Ext.alloc wr (.cells #[.string (mkS ((s.drop p).take (k - p)))] 9)
        have hsa := (hx.trans hxa).size
        refine wpList_append_reps (K := kStr) rfl _ _ _ rfl el_strs (by decide) rfl m hm'.out (hown.ext hxa) _ _ _ _ rfl [(s.drop p).take (k - p)] rfl (by omega) _ (Kd.reps_single (A := fun _ => False) (show kStr.rep _ _ ((s.drop p).take (k - p)) [.string (mkS ((s.drop p).take (k - p)))] from ⟨rfl, hlen.out⟩)) (rangeAt_new' _ [.string (mkS ((s.drop p).take (k - p)))] _ (by simp)) ?_ ?_ ?_ ?_ ?_
        · intro k' hk'; exact hk'.elim
        · simp [maxLen]; omega
        · omega
        · omega
        intro g5 cap5 w5 hown5 hg5 hat5 hbase5 hlt5
        have hx5 : Ext w w5 := Below.grown (hx.trans hxa) hg5 hsa (fun k' hk' => (hown.block k' hk').1)
        have hown6 := Lib.hid (hown5.flat flat_str)
        clear hown hown5 hg5 hat5 hxa
        go_wp2
        go_roundw
        case rel => exact ⟨k + 1, k + 1, m + 1, _, by omega, by omega, by omega, by go_num, by go_num, hc2, hown6.out, hx5, by rw [List.length_append, hm'.out]; rfl⟩
        case measure => simp [intOf]; omega
      | false =>
        have hne : x ≠ 47 := by rintro rfl; exact absurd h47 (by decide)
        have hc2 := Lib.hid (hcut.out.on hxk'.out hne)
        clear hne
        go_wp2
        go_roundw
        case rel => exact ⟨k + 1, p, m, L, by omega, by omega, by omega, rfl, by go_num, hc2, hown, hx, hm'.out⟩
        case measure => simp [intOf]; omega
    · obtain rfl : k = n := by omega
      have hc2 := Lib.hid (hcut.out.done hl'.out.symm)
      have hlen : Hid ((s.drop p).length ≤ maxLen) := Lib.hid (by simp [maxLen]; have := hl'.out; omega)
      go_wp2_with (at_builtin; refine stop_here ?_)
      have hte : (s.drop p).take (k - p) = s.drop p := List.take_of_length_le (by rw [List.length_drop, hl'.out]; exact Nat.le_refl _)
      have hte' := Lib.hid hte
      rw [hte] 
      clear hte
      refine ⟨?_, trivial⟩
      have hxa := Ext.alloc wr (.cells #[.string (mkS (s.drop p))] 9)
      have hsa := (hx.trans hxa).size
      refine wpList_append_reps (K := kStr) rfl _ _ _ rfl el_strs (by decide) rfl m hm'.out (hown.ext hxa) _ _ _ _ rfl [s.drop p] rfl (by omega) _ (Kd.reps_single (A := fun _ => False) (show kStr.rep _ _ (s.drop p) [.string (mkS (s.drop p))] from ⟨rfl, hlen.out⟩)) (rangeAt_new' _ [.string (mkS (s.drop p))] _ (by simp)) ?_ ?_ ?_ ?_ ?_
      · intro k' hk'; exact hk'.elim
      · simp [maxLen]; omega
      · omega
      · omega
      intro g5 cap5 w5 hown5 hg5 hat5 hbase5 hlt5
      have hx5 : Ext w w5 := Below.grown (hx.trans hxa) hg5 hsa (fun k' hk' => (hown.block k' hk').1)
      have hown6 := Lib.hid (hown5.flat flat_str)
      clear hown hown5 hg5 hat5 hxa
      rw [← hc2.out] at hown6
      go_wp2
      go_ret
      exact ⟨_, rfl, hown6.out, hx5⟩
end Go.Proofs.YtaenackibigojaaDoor

/- Part of the proofs: namesS, allN_take, allN_len_take, allN_len, el_strs, names_: each says what its head says. -/
import Derived.Test.YtaenackibigojaaDoorP10
import Derived.Test.YtaenackibigojaaDoorPS2
set_option linter.unusedVariables false
set_option linter.unusedSimpArgs false
namespace Go.BK
theorem rangeAt_new' (w : World) (vs : List Value) (e : TypeId) {B : Nat} (hB : w.heap.size = B) : (w.alloc (.cells vs.toArray e)).rangeAt B 0 vs := hB ▸ rangeAt_new w vs e
theorem stop_here {p : Prop} (h : p ∧ True) : p := h.1
def allN (ls : List (List File)) : List Str := ls.flatMap fun l => l.map (·.name)
def namesS (ls : List (List File)) : List Str := Lib.compact ((allN ls).mergeSort fun x y => !ltS y x)
theorem allN_take (ls : List (List File)) (k : Nat) (l : List File) (h : ls[k]? = some l) : allN (ls.take (k + 1)) = allN (ls.take k) ++ l.map (·.name) := by
  unfold allN
  rw [List.take_add_one, h, List.flatMap_append]; simp
theorem allN_len_take (ls : List (List File)) (k : Nat) : (allN (ls.take k)).length ≤ (allN ls).length := by
  have h : allN ls = allN (ls.take k) ++ allN (ls.drop k) := by
    unfold allN
    rw [← List.flatMap_append, List.take_append_drop]
  rw [h, List.length_append]; omega
theorem allN_len (ls : List (List File)) (k : Nat) (l : List File) (h : ls[k]? = some l) : (allN (ls.take k)).length + l.length ≤ (allN ls).length := by
  have h1 := allN_len_take ls (k + 1)
  rw [allN_take ls k l h] at h1
  simp at h1 ⊢
  omega
end Go.BK
namespace Go.Proofs.YtaenackibigojaaDoor
open Go.RowKit Go.BK
theorem el_strs : ElemOf Tryd.prog 40 9 1 16 := ElemOf.mk' (z := .string .empty) Tryd.underlying40 (by kernel_rfl) rfl

set_option maxHeartbeats 1000000 in
set_option maxRecDepth 100000 in
theorem names_ (w : World) (A : Nat → Prop) (a : Option Addr) (n c : Nat) (ls : List (List File)) (h : Holds (kSlice kFile) A w a n ls) (hf : Fits (allN ls).length) :
    Calls Tryd.prog 30 #[.slice a n c] w fun e w' => ∃ v, e = .returned v ∧ Owns kStr 9 w.heap.size (fun k => w.heap.size ≤ k) w' v (namesS ls) ∧ Ext w w' := by
  have hl := Lib.hid h.1
  have hnn : n ≤ 9223372036854775807 := h.le
  have hfn := Lib.hid hf.out
  go_enter Tryd.func30, Tryd.ntmps30
  go_wp2
  go_loopw [3, 10] (fun out i wr => ∃ k, k ≤ n ∧ i = .int .i64 (k : Nat) ∧ OwnsF kStr 9 w.heap.size (fun _ => False) wr out (allN (ls.take k)) ∧ Ext w wr)
    (fun _ i _ => n - (intOf i).toNat)
  case atStart => exact ⟨0, Nat.zero_le _, rfl, OwnsF.nil _ _ _ _, Ext.refl _⟩
  case round =>
    obtain ⟨k, hk, rfl, hown, hx⟩ := hrel
    by_cases hlt : k < n
    · obtain ⟨l, hlk⟩ : ∃ f, ls[k]? = some f := ⟨_, List.getElem?_eq_getElem (by rw [hl.out]; exact hlt)⟩
      obtain ⟨b, o, us, rfl, hA, hb, ⟨ad, m, cc, rfl, hmc, hcm, hd⟩, hat⟩ := h.at_ k l hlk
      have hc0 : wr.cell? ⟨b, o + k, none⟩ = some (.slice ad m cc) := by
        have := hat 0 _ rfl
        simp only [kSlice, Nat.mul_one, Nat.add_zero] at this
        exact (hx.cell (p := ⟨b, o + k, none⟩) hb).trans this
      have hml := Lib.hid hd.1
      have hmm : m ≤ 9223372036854775807 := hd.le
      have hlen := Lib.hid (allN_len ls k l hlk)
      have hlk' := Lib.hid hlk
      clear hlk hat
      go_wp2
      go_loopw [3, 16] (fun out i wr => ∃ j, j ≤ m ∧ i = .int .i64 (j : Nat) ∧ OwnsF kStr 9 w.heap.size (fun _ => False) wr out (allN (ls.take k) ++ (l.take j).map (·.name)) ∧ Ext w wr)
        (fun _ i _ => m - (intOf i).toNat)
      case atStart => exact ⟨0, Nat.zero_le _, rfl, by simpa using hown, hx⟩
      case round =>
        obtain ⟨j, hj, rfl, hown2, hx2⟩ := hrel
        clear hown hx hc0
        by_cases hjt : j < m
        · obtain ⟨f, hf1⟩ : ∃ f, l[j]? = some f := ⟨_, List.getElem?_eq_getElem (by rw [hml.out]; exact hjt)⟩
          obtain ⟨b2, o2, ad2, m2, cc2, rfl, hA2, hb2, hd0, hd1, hns, hmc2, hcm2, hdd⟩ := files_at hd j f hf1
          have e0 := hd0 _ hx2
          have e1 := hd1 _ hx2
          have hf1' := Lib.hid hf1
          clear hf1 hdd hd0 hd1
          go_wp2_with (at_builtin; refine stop_here ?_)
          refine ⟨?_, trivial⟩
          refine wpList_append_reps (K := kStr) rfl _ _ _ rfl el_strs (by decide) rfl ((allN (ls.take k)).length + j) (by rw [List.length_append, List.length_map, List.length_take_of_le (by rw [hml.out]; exact hj)]) (hown2.ext ((Ext.alloc _ _).trans (Ext.alloc _ _))) _ _ _ _ rfl [f.name] rfl (by omega) _ (Kd.reps_single (A := fun _ => False) (show kStr.rep _ _ f.name [.string (mkS f.name)] from ⟨rfl, hns⟩)) (rangeAt_new' _ [Value.string (mkS f.name)] _ (by simp)) ?_ ?_ ?_ ?_ ?_
          · intro k hk; exact hk.elim
          · have := hfn.out; have := hlen.out; have := hml.out; simp [maxLen]; omega
          · have := hfn.out; have := hlen.out; have := hml.out; simp; omega
          · have := hx2.size; simp; omega
          intro g3 cap3 w3 hown3 hg3 hat3 hbase3 hlt3
          have hx4 : Ext w w3 := (hx2.trans ((Ext.alloc _ _).trans (Ext.alloc _ _))).grown hg3 (by have := hx2.size; simp; omega) (fun k' hk' => (hown2.block k' hk').1)
          have hown4 := hown3.flat flat_str
          clear hown2 hown3 hg3 e0 e1 hx2
          go_wp2
          go_roundw
          case rel =>
            have e1 : l.take j ++ [f] = l.take (j + 1) := by rw [List.take_add_one, hf1'.out]; rfl
            refine ⟨j + 1, by omega, by go_num, ?_, hx4⟩
            rw [← e1, List.map_append, ← List.append_assoc]
            exact hown4
          case measure => simp [intOf]; omega
        · obtain rfl : j = m := by omega
          have e1 : allN (ls.take k) ++ (l.take j).map (·.name) = allN (ls.take (k + 1)) := by
            rw [allN_take ls k l hlk'.out, List.take_of_length_le (l := l) (by rw [hml.out]; exact Nat.le_refl _)]
          rw [e1] at hown2
          have hown4 := Lib.hid hown2
          clear hown2
          go_wp2
          go_roundw
          case rel => exact ⟨k + 1, by omega, by go_num, hown4.out, hx2⟩
          case measure => simp [intOf]; omega
    · obtain rfl : k = n := by omega
      rw [List.take_of_length_le (by rw [hl.out]; exact Nat.le_refl _)] at hown
      have hfl : (allN ls).length < 4611686018427387904 := by have := hfn.out; omega
      go_wp2_with (go_at_call 43; refine (sort_strs w _ hx _ _ _ _ hown hfl).mono ?_; rintro e w2 ⟨rfl, hx2, hown2⟩)
      clear hown hx
      refine (compact_strs w w2 hx2 _ _ _ _ hown2 (by rw [List.length_mergeSort]; exact hfl)).mono ?_
      rintro e w3 ⟨v3, rfl, hx3, hown3⟩
      clear hown2 hx2
      go_wp2
      go_ret
      exact ⟨v3, rfl, ⟨_, fun _ h => h.elim, hown3⟩, hx3⟩
end Go.Proofs.YtaenackibigojaaDoor

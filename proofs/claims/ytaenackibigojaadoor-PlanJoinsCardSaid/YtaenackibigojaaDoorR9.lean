/- Part of the proofs: right_short, right_long, right_bad, right_part, all_of_get, ref_right: each says what its head says. -/
import Derived.Test.YtaenackibigojaaDoorR8
set_option linter.unusedVariables false
set_option linter.unusedSimpArgs false
namespace Go.BK
def okB (q : Str) : Bool := !(q == []) && !(q == [46]) && !(q == [46, 46])
theorem partB_eq (q : Str) : partB q = (q.all goodByte && okB q) := by
  unfold partB okB
  cases q with
  | nil => rfl
  | cons c q => simp [Bool.and_assoc]
theorem cut_good : ∀ s : Str, (cut s).all (fun q => q.all goodByte) = s.all goodByte
  | [] => rfl
  | c :: s => by
    have ih := cut_good s
    by_cases hc : c = 47
    · subst hc
      rw [cut, if_pos rfl]
      have h47 : goodByte 47 = true := by decide
      simp [h47, ih]
    · rw [cut, if_neg hc]
      cases hq : cut s with
      | nil => exact absurd hq (cut_ne s)
      | cons p ps =>
        rw [hq] at ih
        simp only [List.all_cons] at ih ⊢
        rw [← ih, Bool.and_assoc]
theorem all_and_all {α : Type} (l : List α) (f g : α → Bool) : l.all (fun x => f x && g x) = (l.all f && l.all g) := by
  induction l with
  | nil => rfl
  | cons x l ih =>
    simp only [List.all_cons, ih]
    cases f x <;> cases g x <;> cases l.all f <;> cases l.all g <;> rfl
theorem right_eq (s : Str) : right s = (decide (1 ≤ s.length) && decide (s.length ≤ 64) && s.all goodByte && (cut s).all okB) := by
  have h1 : (cut s).all partB = (s.all goodByte && (cut s).all okB) := by
    have : partB = fun q => q.all goodByte && okB q := funext partB_eq
    rw [this, all_and_all, cut_good]
  unfold right
  rw [h1]
  cases s with
  | nil => rfl
  | cons c s => simp [Bool.and_assoc]
theorem right_short {s : Str} (h : ¬ 1 ≤ s.length) : right s = false := by rw [right_eq]; simp [h]
theorem right_long {s : Str} (h : ¬ s.length ≤ 64) : right s = false := by rw [right_eq]; simp [h]
theorem right_bad {s : Str} {k : Nat} {x : UInt8} (hx : s[k]? = some x) (h : goodByte x = false) : right s = false := by
  have : s.all goodByte = false := by
    rw [List.all_eq_false]
    exact ⟨x, List.mem_of_getElem? hx, by simp [h]⟩
  rw [right_eq, this]; simp
theorem right_part {s : Str} {k : Nat} {q : Str} (hx : (cut s)[k]? = some q) (h : okB q = false) : right s = false := by
  have : (cut s).all okB = false := by
    rw [List.all_eq_false]
    exact ⟨q, List.mem_of_getElem? hx, by simp [h]⟩
  rw [right_eq, this]; simp
theorem all_of_get {α : Type} {l : List α} {f : α → Bool} (h : ∀ (j : Nat) x, j < l.length → l[j]? = some x → f x = true) : l.all f = true := by
  rw [List.all_eq_true]
  intro x hx
  obtain ⟨j, hj, rfl⟩ := List.mem_iff_getElem.1 hx
  exact h j _ hj (List.getElem?_eq_getElem hj)
end Go.BK
namespace Go.Proofs.YtaenackibigojaaDoor
open Go.RowKit Go.BK

set_option maxHeartbeats 2000000 in
set_option maxRecDepth 100000 in
theorem ref_right (w : World) (s : Str) (hf : Fits s.length) :
    Calls Tryd.prog 27 #[.string (mkS s)] w fun e w' => e = .returned (.bool (right s)) ∧ Ext w w' := by
  have hnn := hf.out
  obtain ⟨n, hl⟩ : ∃ n, s.length = n := ⟨_, rfl⟩
  rw [hl] at hnn
  have hl' := Lib.hid hl
  have hsz : (mkS s).size = n := by rw [mkS_size, hl]
  have hpt := ref_parts w s hf
  by_cases h1 : n < 1
  · have hfin := Lib.hid (right_short (s := s) (by rw [hl]; omega))
    have t1 : ((n : Int) < 1) := by omega
    clear hpt
    go_enter Tryd.func27, Tryd.ntmps27
    go_wp2
    go_ret
    exact ⟨ret_b hfin.out.symm, Ext.refl _⟩
  · have t1 : ¬ ((n : Int) < 1) := by omega
    by_cases h2 : 64 < n
    · have hfin := Lib.hid (right_long (s := s) (by rw [hl]; omega))
      have t2 : ((64 : Int) < (n : Int)) := by omega
      clear hpt
      go_enter Tryd.func27, Tryd.ntmps27
      go_wp2
      go_ret
      exact ⟨ret_b hfin.out.symm, Ext.refl _⟩
    · have t2 : ¬ ((64 : Int) < (n : Int)) := by omega
      have h1' := Lib.hid h1
      have h2' := Lib.hid h2
      clear h1 h2
      go_enter Tryd.func27, Tryd.ntmps27
      go_wp2
      go_loop [3] (fun i => ∃ k : Nat, k ≤ n ∧ i = .int .i64 k ∧ Hid (∀ (j : Nat) x, j < k → s[j]? = some x → goodByte x = true)) (fun i => n - (intOf i).toNat)
      case atStart => exact ⟨0, Nat.zero_le _, rfl, Lib.hid (fun j f hj => absurd hj (by omega))⟩
      case round =>
        obtain ⟨k, hk, rfl, hok⟩ := hrel
        by_cases hlt : k < n
        · obtain ⟨x, hxk⟩ : ∃ f, s[k]? = some f := ⟨_, List.getElem?_eq_getElem (by rw [hl]; exact hlt)⟩
          have hix := index_str s k x hxk
          have hxk' := Lib.hid hxk
          clear hxk hpt
          by_cases u1 : ((x.toNat : Int) < 33)
          · have hfin := Lib.hid (right_bad hxk'.out (by unfold goodByte; simp; omega))
            go_wp2
            go_ret
            exact ⟨ret_b hfin.out.symm, Ext.refl _⟩
          · by_cases u2 : ((126 : Int) < (x.toNat : Int))
            · have hfin := Lib.hid (right_bad hxk'.out (by unfold goodByte; simp; omega))
              go_wp2
              go_ret
              exact ⟨ret_b hfin.out.symm, Ext.refl _⟩
            · have hgx := Lib.hid (show goodByte x = true by unfold goodByte; simp; omega)
              go_wp2
              go_round
              case rel =>
                refine ⟨k + 1, by omega, by go_num, Lib.hid (fun j y hj hy => ?_)⟩
                by_cases hjk : j < k
                · exact hok.out j y hjk hy
                · obtain rfl : j = k := by omega
                  rw [hxk'.out] at hy; cases hy; exact hgx.out
              case measure => simp [intOf]; omega
        · obtain rfl : k = n := by omega
          have hgood := Lib.hid (all_of_get (l := s) (f := goodByte) (fun j x hj => hok.out j x (by have := hl'.out; omega)))
          have e0 : (ByteArray.mk #[]).toList = [] := mkS_toList []
          have e1 : (ByteArray.mk #[46]).toList = [46] := mkS_toList [46]
          have e2 : (ByteArray.mk #[46, 46]).toList = [46, 46] := mkS_toList [46, 46]
          go_wp2_with (fail)
          refine hpt.mono ?_
          rintro e w1 ⟨v1, rfl, hown, hx1⟩
          clear hpt
          obtain ⟨av, cv, rfl, hcv, hcv2, hh⟩ := hown.holds
          obtain ⟨m, hm⟩ : ∃ m, (cut s).length = m := ⟨_, rfl⟩
          rw [hm] at hh hcv
          rw [hm]
          have hm' := Lib.hid hm
          have hmm := hh.le
          clear hown hm
          go_wp2
          go_loop [5] (fun i => ∃ j : Nat, j ≤ m ∧ i = .int .i64 j ∧ Hid (∀ (t : Nat) q, t < j → (cut s)[t]? = some q → okB q = true)) (fun i => m - (intOf i).toNat)
          case atStart => exact ⟨0, Nat.zero_le _, rfl, Lib.hid (fun j f hj => absurd hj (by omega))⟩
          case round =>
            obtain ⟨j, hj, rfl, hok2⟩ := hrel
            by_cases hjt : j < m
            · obtain ⟨q, hq⟩ : ∃ f, (cut s)[j]? = some f := ⟨_, List.getElem?_eq_getElem (by rw [hm'.out]; exact hjt)⟩
              obtain ⟨b, o, rfl, hA, hb, hc, hns⟩ := strs_at hh j q hq
              have hc0 := hc _ (Ext.refl _)
              have hq' := Lib.hid hq
              clear hq hc
              cases q0 : q == [] with
              | true =>
                have hfin := Lib.hid (right_part hq'.out (by simp [okB, q0]))
                go_wp2
                go_ret
                exact ⟨ret_b hfin.out.symm, hx1⟩
              | false =>
                cases q1 : q == [46] with
                | true =>
                  have hfin := Lib.hid (right_part hq'.out (by simp [okB, q1]))
                  go_wp2
                  go_ret
                  exact ⟨ret_b hfin.out.symm, hx1⟩
                | false =>
                  cases q2 : q == [46, 46] with
                  | true =>
                    have hfin := Lib.hid (right_part hq'.out (by simp [okB, q2]))
                    go_wp2
                    go_ret
                    exact ⟨ret_b hfin.out.symm, hx1⟩
                  | false =>
                    have hgq := Lib.hid (show okB q = true by simp [okB, q0, q1, q2])
                    go_wp2
                    go_round
                    case rel =>
                      refine ⟨j + 1, by omega, by go_num, Lib.hid (fun t y ht hy => ?_)⟩
                      by_cases hjk : t < j
                      · exact hok2.out t y hjk hy
                      · obtain rfl : t = j := by omega
                        rw [hq'.out] at hy; cases hy; exact hgq.out
                    case measure => simp [intOf]; omega
            · have hall := Lib.hid (all_of_get (l := cut s) (f := okB) (fun t x ht => hok2.out t x (by have := hm'.out; omega)))
              have hfin : Hid (right s = true) := Lib.hid (by rw [right_eq, hgood.out, hall.out, hl'.out]; have := h1'.out; have := h2'.out; simp; omega)
              go_wp2
              go_ret
              exact ⟨ret_b hfin.out.symm, hx1⟩
end Go.Proofs.YtaenackibigojaaDoor

/- Part of the proofs: part: each says what its head says. -/
import Derived.Test.YtaenackibigojaaDoorQ2
import Derived.Test.YtaenackibigojaaDoorShelf
import Derived.Laws.RangeAny
set_option linter.unusedVariables false
set_option linter.unusedSimpArgs false
namespace Go.Proofs.YtaenackibigojaaDoor
open Go.RowKit Go.BK

set_option maxHeartbeats 800000 in
set_option maxRecDepth 100000 in
theorem part (w : World) (s : Str) (hs : Fits s.length) :
    Calls Tryd.prog 50 #[.string (mkS s)] w fun e w' => e = .returned (.bool (partB s)) ∧ Ext w w' := by
  go_enter Tryd.func50, Tryd.ntmps50
  go_wp2
  go_loopw [] (fun w' => ∃ pos : Nat, w' = w.iter (mkS s) pos ∧ pos ≤ s.length ∧ ∀ j, j < pos → ∀ c, s[j]? = some c → goodByte c = true) (fun w' => s.length - w'.iterPos w.heap.size)
  case atStart => exact ⟨0, rfl, Nat.zero_le _, fun j hj => absurd hj (by omega)⟩
  case round =>
    obtain ⟨pos, rfl, hps, hok⟩ := hrel
    have hok' := Lib.hid hok
    clear hok
    by_cases hp : pos < s.length
    · have hgb := Lib.hid (show s[pos]? = some s[pos] from List.getElem?_eq_getElem hp)
      have hp' : pos < (mkS s).size := hp
      have hat : (mkS s)[pos]'hp' = s[pos] := rfl
      generalize hb : s[pos] = b at *
      have bad : (goodByte b = false) → partB s = false := by
        intro hg
        have : s.all goodByte = false := by
          rw [List.all_eq_false]
          exact ⟨b, List.mem_of_getElem? hgb.out, by simp [hg]⟩
        simp [partB, this]
      by_cases ha : b.toNat < 128
      · have hnx := fun ty => run_next_ascii (P := Tryd.prog) w (mkS s) pos ty hp' (by rw [hat]; exact ha)
        rw [hat] at hnx
        clear hat hb
        by_cases h1 : b.toNat < 33
        · go_wp2
          go_ret
          exact ⟨ret_b (bad (by simp [goodByte]; omega)).symm, Ext.alloc _ _⟩
        · by_cases h2 : 126 < b.toNat
          · go_wp2
            go_ret
            exact ⟨ret_b (bad (by simp [goodByte]; omega)).symm, Ext.alloc _ _⟩
          · go_wp2
            go_roundw
            case rel =>
              refine ⟨pos + 1, rfl, by omega, fun j hj c hc => ?_⟩
              by_cases hjp : j < pos
              · exact hok'.out j hjp c hc
              · obtain rfl : j = pos := by omega
                rw [hgb.out] at hc
                cases hc
                simp [goodByte]; omega
            case measure => simp; omega
      · have hnx := fun ty => run_next_any (P := Tryd.prog) w (mkS s) pos ty hp'
        have hhi := decode_high (mkS s) pos hp' (by rw [hat]; omega)
        generalize Utf8.decode (mkS s) pos = dd at *
        obtain ⟨d1, d2⟩ := dd
        clear hat hb
        have h1 : ¬ d1 < 33 := by have := hhi.1; simp at this; omega
        have h2 : 126 < d1 := by have := hhi.1; simp at this; omega
        go_wp2
        go_ret
        exact ⟨ret_b (bad (by simp [goodByte]; omega)).symm, Ext.alloc _ _⟩
    · have hnx := fun ty => run_next_end (P := Tryd.prog) w (mkS s) pos ty hp
      have hall : Hid (s.all goodByte = true) := Lib.hid (List.all_eq_true.2 fun x hx => by
        obtain ⟨j, hj, rfl⟩ := List.mem_iff_getElem.1 hx
        exact hok'.out j (by omega) _ (List.getElem?_eq_getElem hj))
      cases e0 : s.isEmpty with
      | true =>
        go_wp2
        go_ret
        exact ⟨ret_b (by simp [partB, e0]), Ext.alloc _ _⟩
      | false =>
        cases e1 : s == [46] with
        | true =>
          go_wp2
          go_ret
          exact ⟨ret_b (by simp [partB, e1]), Ext.alloc _ _⟩
        | false =>
          cases e2 : s == [46, 46] with
          | true =>
            go_wp2
            go_ret
            exact ⟨ret_b (by simp [partB, e2]), Ext.alloc _ _⟩
          | false =>
            go_wp2
            go_ret
            exact ⟨ret_b (by simp [partB, hall.out, e0, e1, e2]), Ext.alloc _ _⟩
end Go.Proofs.YtaenackibigojaaDoor

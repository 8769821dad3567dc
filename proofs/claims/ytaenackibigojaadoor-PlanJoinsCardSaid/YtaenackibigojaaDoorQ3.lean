/- Part of the proofs: srtS_ext, compactUpTo_srt, namesS_srt: each says what its head says. -/
import Derived.Test.YtaenackibigojaaDoorR14
set_option linter.unusedVariables false
set_option linter.unusedSimpArgs false
namespace Go.BK
theorem srtS_ext : ∀ {l l' : List Str}, l.Pairwise (· < ·) → l'.Pairwise (· < ·) → (∀ x, x ∈ l ↔ x ∈ l') → l = l'
  | [], [], _, _, _ => rfl
  | [], y :: l', _, _, h => absurd ((h y).2 (List.mem_cons_self ..)) (by simp)
  | x :: l, [], _, _, h => absurd ((h x).1 (List.mem_cons_self ..)) (by simp)
  | x :: l, y :: l', h1, h2, h => by
    have p1 := List.pairwise_cons.1 h1
    have p2 := List.pairwise_cons.1 h2
    have hxy : x = y := by
      rcases List.mem_cons.1 ((h x).1 (List.mem_cons_self ..)) with e | hx
      · exact e
      · rcases List.mem_cons.1 ((h y).2 (List.mem_cons_self ..)) with e | hy
        · exact e.symm
        · exact absurd (str_lt_trans (p1.1 y hy) (p2.1 x hx)) (str_lt_irrefl x)
    subst hxy
    congr 1
    refine srtS_ext p1.2 p2.2 (fun z => ?_)
    constructor
    · intro hz
      rcases List.mem_cons.1 ((h z).1 (List.mem_cons_of_mem _ hz)) with e | hz'
      · subst e; exact absurd (p1.1 z hz) (str_lt_irrefl z)
      · exact hz'
    · intro hz
      rcases List.mem_cons.1 ((h z).2 (List.mem_cons_of_mem _ hz)) with e | hz'
      · subst e; exact absurd (p2.1 z hz) (str_lt_irrefl z)
      · exact hz'
theorem compactUpTo_srt (d : Array Str) (hs : ∀ i j, i < j → j < d.size → ¬ d[j]! < d[i]!) : ∀ m, m ≤ d.size → (Lib.compactUpTo d m).Pairwise (· < ·) ∧ ∀ x, x ∈ Lib.compactUpTo d m ↔ ∃ j, j < m ∧ d[j]! = x
  | 0, _ => by simp [Lib.compactUpTo]
  | m + 1, hm => by
    obtain ⟨ih1, ih2⟩ := compactUpTo_srt d hs m (by omega)
    rw [Lib.compactUpTo_succ]
    by_cases hk : Lib.keeps d m = true
    · rw [if_pos hk]
      refine ⟨?_, fun x => ?_⟩
      · rw [List.pairwise_append]
        refine ⟨ih1, List.pairwise_singleton .., fun x hx y hy => ?_⟩
        obtain rfl : y = d[m]! := by simpa using hy
        obtain ⟨j, hj, rfl⟩ := (ih2 x).1 hx
        have hne : d[m]! ≠ d[m - 1]! := by
          have := hk
          simp only [Lib.keeps, decide_eq_true_eq] at this
          exact this.resolve_left (by omega)
        have h1 : d[m - 1]! < d[m]! := by
          rcases str_le_of_not_lt (hs (m - 1) m (by omega) (by omega)) with h | h
          · exact h
          · exact absurd h hne
        rcases Nat.lt_or_ge j (m - 1) with hjm | hjm
        · rcases str_le_of_not_lt (hs j (m - 1) hjm (by omega)) with h | h
          · exact str_lt_trans h h1
          · rw [← h]; exact h1
        · obtain rfl : j = m - 1 := by omega
          exact h1
      · rw [List.mem_append, ih2]
        constructor
        · rintro (⟨j, hj, rfl⟩ | h)
          · exact ⟨j, by omega, rfl⟩
          · exact ⟨m, by omega, (List.mem_singleton.1 h).symm⟩
        · rintro ⟨j, hj, rfl⟩
          by_cases hjm : j < m
          · exact .inl ⟨j, hjm, rfl⟩
          · obtain rfl : j = m := by omega
            exact .inr (by simp)
    · rw [if_neg hk, List.append_nil]
      refine ⟨ih1, fun x => ?_⟩
      rw [ih2]
      simp only [Lib.keeps, decide_eq_true_eq, not_or, ne_eq, Decidable.not_not] at hk
      constructor
      · rintro ⟨j, hj, rfl⟩; exact ⟨j, by omega, rfl⟩
      · rintro ⟨j, hj, rfl⟩
        by_cases hjm : j < m
        · exact ⟨j, hjm, rfl⟩
        · obtain rfl : j = m := by omega
          exact ⟨j - 1, by omega, hk.2.symm⟩
theorem namesS_srt (ls : List (List File)) : (namesS ls).Pairwise (· < ·) ∧ ∀ x, x ∈ namesS ls ↔ x ∈ allN ls := by
  unfold namesS Lib.compact
  have hsorted : ((allN ls).mergeSort fun x y => !ltS y x).Pairwise (fun a b => (!ltS b a) = true) := by
    apply List.pairwise_mergeSort
    · intro a b c h1 h2
      simp only [Bool.not_eq_true', ltS_false] at h1 h2 ⊢
      intro h
      rcases str_le_of_not_lt h1 with h3 | h3
      · exact h2 (str_lt_trans h h3)
      · subst h3; exact h2 h
    · intro a b
      simp only [Bool.or_eq_true, Bool.not_eq_true', ltS_false]
      rcases str_lt_tri a b with h | h | h
      · exact .inl (fun h' => str_lt_irrefl a (str_lt_trans h h'))
      · subst h; exact .inl (str_lt_irrefl a)
      · exact .inr (fun h' => str_lt_irrefl a (str_lt_trans h' h))
  generalize hL : (allN ls).mergeSort (fun x y => !ltS y x) = L at *
  have hmem : ∀ x, x ∈ L ↔ x ∈ allN ls := fun x => by rw [← hL]; exact List.mem_mergeSort
  obtain ⟨h1, h2⟩ := compactUpTo_srt L.toArray (fun i j hij hj => by
    have hj' : j < L.length := by simpa using hj
    have := List.pairwise_iff_getElem.1 hsorted i j (by omega) hj' hij
    have e1 : L.toArray[j]! = L[j] := by simp [getElem!_pos, hj']
    have e2 : L.toArray[i]! = L[i]'(by omega) := by simp [getElem!_pos, show i < L.length by omega]
    rw [e1, e2]
    simpa [ltS_false] using this) L.length (by simp)
  refine ⟨h1, fun x => ?_⟩
  rw [h2, ← hmem]
  constructor
  · rintro ⟨j, hj, rfl⟩
    have : L.toArray[j]! = L[j] := by simp [getElem!_pos, hj]
    rw [this]; exact List.getElem_mem hj
  · intro hx
    obtain ⟨j, hj, rfl⟩ := List.mem_iff_getElem.1 hx
    exact ⟨j, hj, by simp [getElem!_pos, hj]⟩
end Go.BK

/- Part of the proofs: merge_base, merge_same, applyE_srt, applyE_at, dataOf_applied, merge_applied: each says what its head says. -/
import Derived.Test.YtaenackibigojaaDoorQ5
set_option linter.unusedVariables false
set_option linter.unusedSimpArgs false
namespace Go.BK
/-! Plain laws: putting maps together. -/
/-- What a name has when both changes are put together; false: they clash. -/
def chooseV {α : Type} [DecidableEq α] (x y z : Option α) : Option α × Bool := if y = z ∨ x = z then (y, true) else if x = y then (z, true) else (x, false)
def chosen (base a b : List File) (n : Str) : Option (List UInt8) × Bool := chooseV (dataOf base n) (dataOf a n) (dataOf b n)
def fileOf (n : Str) : Option (List UInt8) → List File
  | some d => [⟨n, d⟩]
  | none => []
def mergeL (base a b : List File) (ns : List Str) : List File := ns.flatMap fun n => fileOf n (chosen base a b n).1
def mergeC (base a b : List File) (ns : List Str) : List Str := ns.filter fun n => !(chosen base a b n).2
theorem chooseV_swap {α : Type} [DecidableEq α] (x y z : Option α) : chooseV x y z = chooseV x z y := by
  unfold chooseV
  by_cases h1 : y = z
  · subst h1; simp
  · by_cases h2 : x = z
    · subst h2
      have h3 : ¬ x = y := fun e => h1 e.symm
      simp [h1, h3]
    · by_cases h3 : x = y
      · subst h3; simp [h2]
      · have h4 : ¬ z = y := fun e => h1 e.symm
        simp [h1, h2, h3, h4]
theorem names_perm (base a b : List File) : namesS [base, a, b] = namesS [base, b, a] := by
  obtain ⟨h1, h2⟩ := namesS_srt [base, a, b]
  obtain ⟨h3, h4⟩ := namesS_srt [base, b, a]
  refine srtS_ext h1 h3 (fun x => ?_)
  rw [h2, h4]
  simp only [allN, List.flatMap_cons, List.flatMap_nil, List.append_nil, List.mem_append]
  constructor
  · rintro (h | h | h)
    · exact .inl h
    · exact .inr (.inr h)
    · exact .inr (.inl h)
  · rintro (h | h | h)
    · exact .inl h
    · exact .inr (.inr h)
    · exact .inr (.inl h)
theorem chosen_swap (base a b : List File) : chosen base a b = chosen base b a := by
  funext n; exact chooseV_swap _ _ _
theorem merge_swap (base a b : List File) : mergeL base a b (namesS [base, a, b]) = mergeL base b a (namesS [base, b, a]) ∧ mergeC base a b (namesS [base, a, b]) = mergeC base b a (namesS [base, b, a]) := by
  unfold mergeL mergeC
  rw [names_perm, chosen_swap]
  exact ⟨rfl, rfl⟩
theorem mem_mergeL {base a b : List File} {ns : List Str} {f : File} : f ∈ mergeL base a b ns ↔ f.name ∈ ns ∧ (chosen base a b f.name).1 = some f.data := by
  unfold mergeL
  rw [List.mem_flatMap]
  constructor
  · rintro ⟨n, hn, hf⟩
    cases hc : (chosen base a b n).1 with
    | none => rw [hc] at hf; cases hf
    | some d =>
      rw [hc] at hf
      obtain rfl := List.mem_singleton.1 hf
      exact ⟨hn, hc⟩
  · rintro ⟨hn, hc⟩
    refine ⟨f.name, hn, ?_⟩
    rw [hc]
    exact List.mem_singleton.2 rfl
theorem srt_mergeL (base a b : List File) : ∀ {ns : List Str}, ns.Pairwise (· < ·) → Srt (mergeL base a b ns)
  | [], _ => List.Pairwise.nil
  | n :: ns, h => by
    have p := List.pairwise_cons.1 h
    have ih := srt_mergeL base a b p.2
    show Srt (fileOf n (chosen base a b n).1 ++ mergeL base a b ns)
    refine List.pairwise_append.2 ⟨?_, ih, fun x hx y hy => ?_⟩
    · cases (chosen base a b n).1 with
      | none => exact List.Pairwise.nil
      | some d => exact List.pairwise_singleton ..
    · have hy1 := (mem_mergeL.1 hy).1
      have hx1 : x.name = n := by
        cases hc : (chosen base a b n).1 with
        | none => rw [hc] at hx; cases hx
        | some d => rw [hc] at hx; rw [List.mem_singleton.1 hx]
      rw [hx1]
      exact p.1 _ hy1
theorem mem_names3 {base a b : List File} {x : Str} : x ∈ namesS [base, a, b] ↔ (dataOf base x).isSome ∨ (dataOf a x).isSome ∨ (dataOf b x).isSome := by
  rw [(namesS_srt [base, a, b]).2]
  simp only [allN, List.flatMap_cons, List.flatMap_nil, List.append_nil, List.mem_append, ← has_mem, has_dataOf]
theorem dataOf_merge (base a b : List File) (t : Str) : dataOf (mergeL base a b (namesS [base, a, b])) t = (chosen base a b t).1 := by
  apply option_ext_iff
  intro d
  rw [dataOf_some (srt_mergeL base a b (namesS_srt _).1), mem_mergeL]
  constructor
  · rintro ⟨_, h⟩; exact h
  · intro h
    refine ⟨?_, h⟩
    show t ∈ _
    rw [mem_names3]
    cases h1 : dataOf base t with
    | some _ => exact .inl rfl
    | none =>
      cases h2 : dataOf a t with
      | some _ => exact .inr (.inl rfl)
      | none =>
        cases h3 : dataOf b t with
        | some _ => exact .inr (.inr rfl)
        | none => unfold chosen at h; rw [h1, h2, h3] at h; simp [chooseV] at h
theorem merge_base {base a : List File} (ha : Srt a) : mergeL base a base (namesS [base, a, base]) = a ∧ mergeC base a base (namesS [base, a, base]) = [] := by
  have hc : ∀ n, chosen base a base n = (dataOf a n, true) := fun n => by unfold chosen chooseV; simp
  constructor
  · exact srt_ext (srt_mergeL _ _ _ (namesS_srt _).1) ha (fun t => by rw [dataOf_merge, hc])
  · unfold mergeC
    rw [List.filter_eq_nil_iff]
    intro n _
    rw [hc]; simp
theorem merge_same {base a : List File} (ha : Srt a) : mergeL base a a (namesS [base, a, a]) = a ∧ mergeC base a a (namesS [base, a, a]) = [] := by
  have hc : ∀ n, chosen base a a n = (dataOf a n, true) := fun n => by unfold chosen chooseV; simp
  constructor
  · exact srt_ext (srt_mergeL _ _ _ (namesS_srt _).1) ha (fun t => by rw [dataOf_merge, hc])
  · unfold mergeC
    rw [List.filter_eq_nil_iff]
    intro n _
    rw [hc]; simp
theorem applyE_srt : ∀ {os : List Stp} {l L : List File}, applyE l os = .ok L → Srt l → Srt L
  | [], l, L, h, hs => by injection h with h; subst h; exact hs
  | o :: os, l, L, h, hs => by
    rw [applyE_cons] at h
    cases hst : stepE l o with
    | error y => rw [hst] at h; cases h
    | ok l1 =>
      rw [hst] at h
      refine applyE_srt (os := os) h ?_
      unfold stepE at hst
      split at hst
      · injection hst with hst
        subst hst
        split
        · exact srt_withP hs _ _
        · exact srt_withoutP hs _
      · cases hst
theorem applyE_at : ∀ {os : List Stp} {l L : List File} {o : Stp}, applyE l os = .ok L → Srt l → (os.map (·.name)).Nodup → o ∈ os → dataOf L o.name = if o.kind = 3 then some o.data else none
  | [], _, _, _, _, _, _, ho => by cases ho
  | x :: os, l, L, o, h, hs, hn, ho => by
    have hn' := List.nodup_cons.1 hn
    rw [applyE_cons] at h
    cases hst : stepE l x with
    | error y => rw [hst] at h; cases h
    | ok l1 =>
      rw [hst] at h
      have h' : applyE l1 os = .ok L := h
      have hs1 : Srt l1 := applyE_srt (os := [x]) (l := l) (L := l1) (by rw [applyE_cons, hst]; rfl) hs
      rcases List.mem_cons.1 ho with rfl | ho
      · rw [applyE_other h' hs1 (fun q hq e => hn'.1 (by show o.name ∈ _; rw [e]; exact List.mem_map.2 ⟨q, hq, rfl⟩))]
        unfold stepE at hst
        split at hst
        · injection hst with hst
          subst hst
          split
          · rw [dataOf_withP hs, if_pos rfl]
          · rw [dataOf_withoutP hs, if_pos rfl]
        · cases hst
      · exact applyE_at h' hs1 hn'.2 ho
theorem dataOf_applied {base a b z : List File} (hs : Srt base) (ha : Srt a) (hb : Srt b) (h : applyE b (diffR base a) = .ok z) (t : Str) : dataOf z t = if dataOf base t = dataOf a t then dataOf b t else dataOf a t := by
  by_cases he : dataOf base t = dataOf a t
  · rw [if_pos he]
    exact applyE_other h hb (fun o ho e => diffR_parts hs ha ho (by rw [← e]; exact he))
  · rw [if_neg he]
    cases hat : dataOf a t with
    | none =>
      have hm : delS t ∈ diffR base a := by
        cases hbt : dataOf base t with
        | none => rw [hat, hbt] at he; exact absurd rfl he
        | some d =>
          refine List.mem_append.2 (.inl (List.mem_map.2 ⟨⟨t, d⟩, List.mem_filter.2 ⟨(dataOf_some hs).1 hbt, ?_⟩, rfl⟩))
          simp [hat]
      exact applyE_at h hb (names_diffR hs ha) hm
    | some d =>
      have hm : putS t d ∈ diffR base a := by
        refine List.mem_append.2 (.inr (List.mem_map.2 ⟨⟨t, d⟩, List.mem_filter.2 ⟨(dataOf_some ha).1 hat, ?_⟩, rfl⟩))
        simpa using he
      exact applyE_at h hb (names_diffR hs ha) hm
/-- Where nothing clashes, the steps from the base to the one, done with the other, lead to what is put together. -/
theorem merge_applied {base a b z : List File} (hs : Srt base) (ha : Srt a) (hb : Srt b) (hc : mergeC base a b (namesS [base, a, b]) = []) (h : applyE b (diffR base a) = .ok z) : z = mergeL base a b (namesS [base, a, b]) := by
  refine srt_ext (applyE_srt h hb) (srt_mergeL _ _ _ (namesS_srt _).1) (fun t => ?_)
  rw [dataOf_applied hs ha hb h, dataOf_merge]
  unfold mergeC at hc
  rw [List.filter_eq_nil_iff] at hc
  by_cases hm : t ∈ namesS [base, a, b]
  · have h1 := hc t hm
    unfold chosen chooseV at h1 ⊢
    by_cases e1 : dataOf a t = dataOf b t
    · simp [e1]
    · by_cases e2 : dataOf base t = dataOf b t
      · by_cases e3 : dataOf base t = dataOf a t
        · exact absurd (e3.symm.trans e2) e1
        · simp [e2, e3, e1]
      · by_cases e3 : dataOf base t = dataOf a t
        · simp [e1, e2, e3]
        · simp [e1, e2, e3] at h1
  · rw [mem_names3] at hm
    unfold chosen chooseV
    cases h1 : dataOf base t <;> cases h2 : dataOf a t <;> cases h3 : dataOf b t <;> simp_all
end Go.BK

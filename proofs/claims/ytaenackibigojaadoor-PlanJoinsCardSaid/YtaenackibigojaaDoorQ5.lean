/- Part of the proofs: srt_nodup, apply_diffR, diffR_self, names_diffR, diffR_parts, apply_few: each says what its head says. -/
import Derived.Test.YtaenackibigojaaDoorQ4
set_option linter.unusedVariables false
set_option linter.unusedSimpArgs false
namespace Go.BK
/-! Plain laws: the steps from one map to another lead there; without one of them elsewhere. -/
theorem dataOf_some {l : List File} (h : Srt l) {t : Str} {d : List UInt8} : dataOf l t = some d ↔ ⟨t, d⟩ ∈ l := by
  constructor
  · intro hd
    unfold dataOf at hd
    cases hq : l.find? fun f => f.name == t with
    | none => rw [hq] at hd; cases hd
    | some f =>
      rw [hq] at hd
      have h1 := List.mem_of_find?_eq_some hq
      have h2 : f.name = t := by simpa using List.find?_some hq
      injection hd with hd
      subst h2 hd
      exact h1
  · intro hm
    exact dataOf_mem h hm
theorem option_ext_iff {α : Type} {a b : Option α} (h : ∀ x, a = some x ↔ b = some x) : a = b := by
  cases a with
  | none =>
    cases b with
    | none => rfl
    | some y => exact ((h y).2 rfl)
  | some x => exact ((h x).1 rfl).symm
theorem srt_form {l : List File} (h : Srt l) : l = (l.map (·.name)).map fun s => ⟨s, (dataOf l s).getD []⟩ := by
  rw [List.map_map]
  conv => lhs; rw [← List.map_id l]
  apply List.map_congr_left
  intro f hf
  show f = ⟨f.name, (dataOf l f.name).getD []⟩
  rw [dataOf_mem h hf]
  rfl
theorem srt_ext {l l' : List File} (h : Srt l) (h' : Srt l') (he : ∀ s, dataOf l s = dataOf l' s) : l = l' := by
  have hn : l.map (·.name) = l'.map (·.name) := srtS_ext (srt_names h) (srt_names h') (fun x => by
    rw [← has_mem, ← has_mem, has_dataOf, has_dataOf, he])
  rw [srt_form h, srt_form h', hn]
  apply List.map_congr_left
  intro s _
  rw [he]
theorem mem_withP_iff {l : List File} (h : Srt l) {s : Str} {d : List UInt8} {f : File} : f ∈ withP l s d ↔ f = ⟨s, d⟩ ∨ f ∈ withoutP l s := by
  unfold withP withoutP
  cases hh : has l s with
  | true =>
    simp only [if_true]
    have hp := has_pos_lt hh
    rw [without_at h hh, List.set_eq_take_append_cons_drop, if_pos hp, List.eraseIdx_eq_take_drop_succ]
    simp only [List.mem_append, List.mem_cons]
    constructor
    · rintro (h | h | h)
      · exact .inr (.inl h)
      · exact .inl h
      · exact .inr (.inr h)
    · rintro (h | h | h)
      · exact .inr (.inl h)
      · exact .inl h
      · exact .inr (.inr h)
  | false =>
    simp only [Bool.false_eq_true, if_false]
    rw [without_none hh]
    conv => rhs; rw [← List.take_append_drop (pos l s) l]
    simp only [List.mem_append, List.mem_cons]
    constructor
    · rintro (h | h | h)
      · exact .inr (.inl h)
      · exact .inl h
      · exact .inr (.inr h)
    · rintro (h | h | h)
      · exact .inr (.inl h)
      · exact .inl h
      · exact .inr (.inr h)
theorem dataOf_withoutP {l : List File} (h : Srt l) (s t : Str) : dataOf (withoutP l s) t = if t = s then none else dataOf l t := by
  apply option_ext_iff
  intro e
  rw [dataOf_some (srt_withoutP h s)]
  unfold withoutP
  rw [List.mem_filter]
  by_cases ht : t = s
  · simp [ht]
  · simp [ht, dataOf_some h]
theorem dataOf_withP {l : List File} (h : Srt l) (s t : Str) (d : List UInt8) : dataOf (withP l s d) t = if t = s then some d else dataOf l t := by
  apply option_ext_iff
  intro e
  rw [dataOf_some (srt_withP h s d), mem_withP_iff h, ← dataOf_some (srt_withoutP h s), dataOf_withoutP h]
  by_cases ht : t = s
  · subst ht
    simp [eq_comm]
  · simp [ht]
theorem stepE_other {l L : List File} {o : Stp} {t : Str} (h : stepE l o = .ok L) (hs : Srt l) (ht : t ≠ o.name) : Srt L ∧ dataOf L t = dataOf l t := by
  unfold stepE at h
  split at h
  · injection h with h
    subst h
    split
    · exact ⟨srt_withP hs _ _, by rw [dataOf_withP hs, if_neg ht]⟩
    · exact ⟨srt_withoutP hs _, by rw [dataOf_withoutP hs, if_neg ht]⟩
  · cases h
theorem applyE_other : ∀ {os : List Stp} {l L : List File} {t : Str}, applyE l os = .ok L → Srt l → (∀ o ∈ os, t ≠ o.name) → dataOf L t = dataOf l t
  | [], l, L, t, h, _, _ => by injection h with h; subst h; rfl
  | o :: os, l, L, t, h, hs, hn => by
    rw [applyE_cons] at h
    cases hst : stepE l o with
    | error y => rw [hst] at h; cases h
    | ok l1 =>
      rw [hst] at h
      obtain ⟨h1, h2⟩ := stepE_other hst hs (hn o (List.mem_cons_self ..))
      rw [applyE_other (os := os) h h1 (fun o ho => hn o (List.mem_cons_of_mem _ ho)), h2]
theorem srtS_sub : ∀ {l' l : List Str}, l.Pairwise (· < ·) → l'.Pairwise (· < ·) → (∀ x ∈ l, x ∈ l') → l.Sublist l'
  | [], [], _, _, _ => List.Sublist.refl _
  | [], x :: l, _, _, h => absurd (h x (List.mem_cons_self ..)) (by simp)
  | y :: l', [], _, _, _ => List.nil_sublist _
  | y :: l', x :: l, h1, h2, h => by
    have p1 := List.pairwise_cons.1 h1
    have p2 := List.pairwise_cons.1 h2
    rcases List.mem_cons.1 (h x (List.mem_cons_self ..)) with rfl | hx
    · refine List.Sublist.cons_cons _ (srtS_sub p1.2 p2.2 (fun z hz => ?_))
      rcases List.mem_cons.1 (h z (List.mem_cons_of_mem _ hz)) with rfl | hz'
      · exact absurd (p1.1 z hz) (str_lt_irrefl z)
      · exact hz'
    · refine List.Sublist.cons _ (srtS_sub h1 p2.2 (fun z hz => ?_))
      rcases List.mem_cons.1 hz with rfl | hz
      · exact hx
      · rcases List.mem_cons.1 (h z (List.mem_cons_of_mem _ hz)) with hzy | hz'
        · have h1 := p1.1 z hz
          rw [hzy] at h1
          exact absurd (str_lt_trans h1 (p2.1 x hx)) (str_lt_irrefl x)
        · exact hz'
theorem srt_sub_len {l b : List File} (h : Srt l) (hb : Srt b) (hn : ∀ s, has l s = true → has b s = true) : l.length ≤ b.length := by
  have := (srtS_sub (srt_names h) (srt_names hb) (fun x hx => has_mem.1 (hn x (has_mem.2 hx)))).length_le
  simpa using this
theorem len_withP_new {l : List File} {s : Str} {d : List UInt8} (h : has l s = false) : (withP l s d).length = l.length + 1 := by
  have := pos_le l s
  unfold withP
  rw [h]
  simp
  omega
theorem has_withP {l : List File} (h : Srt l) (s t : Str) (d : List UInt8) : has (withP l s d) t = (decide (t = s) || has l t) := by
  rw [has_dataOf, dataOf_withP h, has_dataOf]
  by_cases ht : t = s <;> simp [ht]
theorem applyE_dels : ∀ (ds : List Str) (l : List File), Srt l → ds.Nodup → (∀ s ∈ ds, has l s = true) → ∃ L, applyE l (ds.map delS) = .ok L ∧ Srt L ∧ ∀ t, dataOf L t = if t ∈ ds then none else dataOf l t
  | [], l, hs, _, _ => ⟨l, rfl, hs, fun t => by simp⟩
  | s :: ds, l, hs, hn, hh => by
    have hn' := List.nodup_cons.1 hn
    have h1 := hh s (List.mem_cons_self ..)
    have e1 : stepE l (delS s) = .ok (withoutP l s) := by
      simp [stepE, refusedE, delS, h1]
    obtain ⟨L, e2, hL, hd⟩ := applyE_dels ds (withoutP l s) (srt_withoutP hs s) hn'.2 (fun t ht => by
      have hne : t ≠ s := fun e => hn'.1 (e ▸ ht)
      rw [has_dataOf, dataOf_withoutP hs, if_neg hne, ← has_dataOf]
      exact hh t (List.mem_cons_of_mem _ ht))
    refine ⟨L, ?_, hL, fun t => ?_⟩
    · rw [List.map_cons, applyE_cons, e1]; exact e2
    · rw [hd, dataOf_withoutP hs]
      by_cases ht : t = s
      · simp [ht]
      · simp [ht]
theorem dataOf_cons (x : File) (l : List File) (t : Str) : dataOf (x :: l) t = if x.name = t then some x.data else dataOf l t := by
  unfold dataOf
  by_cases h : x.name = t
  · rw [List.find?_cons_of_pos (by simpa using h), if_pos h]; rfl
  · rw [List.find?_cons_of_neg (by simpa using h), if_neg h]
theorem applyE_puts {b : List File} (hb : Srt b) (hlen : b.length ≤ 200) : ∀ (xs : List File) (l : List File), Srt l → Srt xs → (∀ f ∈ xs, right f.name = true ∧ f.data.length ≤ 65536 ∧ has b f.name = true) → (∀ s, has l s = true → has b s = true) →
    ∃ L, applyE l (xs.map fun f => putS f.name f.data) = .ok L ∧ Srt L ∧ ∀ t, dataOf L t = (dataOf xs t).or (dataOf l t)
  | [], l, hs, _, _, _ => ⟨l, rfl, hs, fun t => by simp [dataOf]⟩
  | x :: xs, l, hs, hxs, hx, hl => by
    have p := List.pairwise_cons.1 hxs
    obtain ⟨h1, h2, h3⟩ := hx x (List.mem_cons_self ..)
    have hsub : ∀ s, has (withP l x.name x.data) s = true → has b s = true := fun s h => by
      rw [has_withP hs] at h
      simp only [Bool.or_eq_true, decide_eq_true_eq] at h
      rcases h with rfl | h
      · exact h3
      · exact hl s h
    have hfull : ¬ (has l x.name = false ∧ 200 ≤ l.length) := by
      rintro ⟨e, hge⟩
      have := srt_sub_len (srt_withP hs x.name x.data) hb hsub
      rw [len_withP_new e] at this
      omega
    have e1 : stepE l (putS x.name x.data) = .ok (withP l x.name x.data) := by
      have hr : refusedE l (putS x.name x.data) = 0 := by
        unfold refusedE putS
        dsimp only
        rw [if_neg (by decide), if_neg (by decide), if_neg (by simp [h1]), if_neg (by omega), if_neg hfull]
      unfold stepE
      rw [if_pos hr]
      rfl
    obtain ⟨L, e2, hL, hd⟩ := applyE_puts hb hlen xs (withP l x.name x.data) (srt_withP hs _ _) p.2 (fun f hf => hx f (List.mem_cons_of_mem _ hf)) hsub
    refine ⟨L, ?_, hL, fun t => ?_⟩
    · rw [List.map_cons, applyE_cons, e1]; exact e2
    · rw [hd, dataOf_withP hs, dataOf_cons]
      by_cases ht : x.name = t
      · subst ht
        have hno : dataOf xs x.name = none := by
          cases hq : dataOf xs x.name with
          | none => rfl
          | some e => exact absurd (p.1 _ ((dataOf_some p.2).1 hq)) (str_lt_irrefl _)
        simp [hno]
      · rw [if_neg (fun e => ht e.symm), if_neg ht]
theorem filter_data {l : List File} (h : Srt l) (p : File → Bool) (t : Str) : dataOf (l.filter p) t = match dataOf l t with | some d => if p ⟨t, d⟩ then some d else none | none => none := by
  apply option_ext_iff
  intro e
  rw [dataOf_some (h.sublist List.filter_sublist), List.mem_filter, ← dataOf_some h]
  cases hd : dataOf l t with
  | none => simp
  | some d =>
    constructor
    · rintro ⟨h1, h2⟩
      injection h1 with h1
      subst h1
      simp [h2]
    · intro h1
      by_cases hp : p ⟨t, d⟩ = true
      · simp only [hp, if_true] at h1
        injection h1 with h1
        subst h1
        exact ⟨rfl, hp⟩
      · simp only [hp] at h1
        cases h1
theorem srt_nodup {l : List File} (h : Srt l) : (l.map (·.name)).Nodup :=
  (srt_names h).imp fun {a b} (hab : a < b) (e : a = b) => str_lt_irrefl b (by rw [e] at hab; exact hab)
/-- The difference of two maps leads from the one to the other. -/
theorem apply_diffR {a b : List File} (ha : Srt a) (hb : Srt b) (hlen : b.length ≤ 200) (hf : ∀ f ∈ b, right f.name = true ∧ f.data.length ≤ 65536) : applyE a (diffR a b) = .ok b := by
  have hsg : Srt (a.filter fun f => (dataOf b f.name).isNone) := ha.sublist List.filter_sublist
  have hsp : Srt (b.filter fun f => !(dataOf a f.name == dataOf b f.name)) := hb.sublist List.filter_sublist
  have hgone : ∀ t, t ∈ (a.filter fun f => (dataOf b f.name).isNone).map (·.name) ↔ (dataOf a t).isSome = true ∧ dataOf b t = none := fun t => by
    rw [← has_mem, has_dataOf, filter_data ha]
    cases ha' : dataOf a t <;> cases hb' : dataOf b t <;> simp [hb']
  obtain ⟨L1, e1, h1, d1⟩ := applyE_dels ((a.filter fun f => (dataOf b f.name).isNone).map (·.name)) a ha (srt_nodup hsg) (fun s hs => by
    rw [has_dataOf]; exact ((hgone s).1 hs).1)
  obtain ⟨L2, e2, h2, d2⟩ := applyE_puts hb hlen (b.filter fun f => !(dataOf a f.name == dataOf b f.name)) L1 h1 hsp (fun f hf' => by
      have hm := (List.mem_filter.1 hf').1
      exact ⟨(hf f hm).1, (hf f hm).2, has_iff.2 ⟨f, hm, rfl⟩⟩) (fun s hs => by
      rw [has_dataOf, d1] at hs
      rw [has_dataOf]
      split at hs
      · cases hs
      · rename_i hn
        rw [hgone] at hn
        cases hb' : dataOf b s with
        | none => exact absurd ⟨hs, hb'⟩ hn
        | some e => rfl)
  have hL : L2 = b := srt_ext h2 hb (fun t => by
    rw [d2, d1, filter_data hb]
    cases hbt : dataOf b t with
    | none =>
      by_cases hg : t ∈ (a.filter fun f => (dataOf b f.name).isNone).map (·.name)
      · simp [hg]
      · rw [if_neg hg]
        rw [hgone] at hg
        cases hat : dataOf a t with
        | none => rfl
        | some e => exact absurd ⟨by simp [hat], hbt⟩ hg
    | some d =>
      have hg : ¬ t ∈ (a.filter fun f => (dataOf b f.name).isNone).map (·.name) := by
        rw [hgone, hbt]; rintro ⟨_, h⟩; cases h
      rw [if_neg hg]
      by_cases he : dataOf a t = some d
      · simp [hbt, he]
      · simp [hbt, he])
  subst hL
  unfold diffR
  unfold goneR putsR at *
  rw [show (List.map (fun f => delS f.name) (a.filter fun f => (dataOf L2 f.name).isNone)) = ((a.filter fun f => (dataOf L2 f.name).isNone).map (·.name)).map delS by rw [List.map_map]; rfl]
  unfold applyE at *
  rw [List.foldlM_append, e1]
  exact e2
theorem diffR_self {a : List File} (ha : Srt a) : diffR a a = [] := by
  unfold diffR goneR putsR
  have e1 : (a.filter fun f => (dataOf a f.name).isNone) = [] := by
    rw [List.filter_eq_nil_iff]
    intro f hf
    rw [dataOf_mem ha hf]; simp
  rw [e1]
  simp
theorem names_diffR {a b : List File} (ha : Srt a) (hb : Srt b) : ((diffR a b).map (·.name)).Nodup := by
  unfold diffR goneR putsR
  rw [List.map_append, List.map_map, List.map_map]
  have e1 : (a.filter fun f => (dataOf b f.name).isNone).map ((fun o => o.name) ∘ fun f => delS f.name) = (a.filter fun f => (dataOf b f.name).isNone).map (·.name) := rfl
  have e2 : (b.filter fun f => !(dataOf a f.name == dataOf b f.name)).map ((fun o => o.name) ∘ fun f => putS f.name f.data) = (b.filter fun f => !(dataOf a f.name == dataOf b f.name)).map (·.name) := rfl
  rw [e1, e2, List.nodup_append]
  refine ⟨srt_nodup (ha.sublist List.filter_sublist), srt_nodup (hb.sublist List.filter_sublist), fun x hx y hy he => ?_⟩
  subst he
  obtain ⟨f, hf, rfl⟩ := List.mem_map.1 hx
  obtain ⟨g, hg, hgn⟩ := List.mem_map.1 hy
  have h1 := (List.mem_filter.1 hf).2
  have h2 := dataOf_mem hb (List.mem_filter.1 hg).1
  rw [hgn] at h2
  rw [h2] at h1
  cases h1
theorem diffR_parts {a b : List File} (ha : Srt a) (hb : Srt b) {o : Stp} (ho : o ∈ diffR a b) : dataOf a o.name ≠ dataOf b o.name := by
  unfold diffR goneR putsR at ho
  rcases List.mem_append.1 ho with h | h
  · obtain ⟨f, hf, rfl⟩ := List.mem_map.1 h
    obtain ⟨h1, h2⟩ := List.mem_filter.1 hf
    show dataOf a f.name ≠ dataOf b f.name
    rw [dataOf_mem ha h1]
    intro e
    rw [← e] at h2
    cases h2
  · obtain ⟨f, hf, rfl⟩ := List.mem_map.1 h
    obtain ⟨h1, h2⟩ := List.mem_filter.1 hf
    show dataOf a f.name ≠ dataOf b f.name
    simpa using h2
/-- Without one of its steps it leads elsewhere. -/
theorem apply_few {a b z : List File} (ha : Srt a) (hb : Srt b) {k : Nat} (hk : k < (diffR a b).length) (h : applyE a ((diffR a b).take k ++ (diffR a b).drop (k + 1)) = .ok z) : z ≠ b := by
  intro he
  subst he
  have hn := names_diffR ha hb
  have hm : (diffR a z)[k] ∈ diffR a z := List.getElem_mem hk
  have hsplit : diffR a z = (diffR a z).take k ++ (diffR a z)[k] :: (diffR a z).drop (k + 1) := by rw [List.getElem_cons_drop, List.take_append_drop]
  generalize hD : diffR a z = D at *
  rw [hsplit, List.map_append, List.map_cons] at hn
  have hn2 := List.nodup_append.1 hn
  have hn3 := List.nodup_cons.1 hn2.2.1
  have h1 := applyE_other (t := D[k].name) h ha (fun o ho => by
    rcases List.mem_append.1 ho with h' | h'
    · exact fun e => hn2.2.2 o.name (List.mem_map.2 ⟨o, h', rfl⟩) D[k].name (List.mem_cons_self ..) e.symm
    · exact fun e => hn3.1 (by rw [e]; exact List.mem_map.2 ⟨o, h', rfl⟩))
  exact diffR_parts ha hb (o := D[k]) (by rw [hD]; exact hm) h1.symm
end Go.BK

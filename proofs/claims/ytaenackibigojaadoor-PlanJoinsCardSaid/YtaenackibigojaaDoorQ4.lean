/- Part of the proofs: dataOf_mem, has_mem, gone_names, puts_names, diffS_eq, plain_diffR: each says what its head says. -/
import Derived.Test.YtaenackibigojaaDoorQ3
set_option linter.unusedVariables false
set_option linter.unusedSimpArgs false
namespace Go.BK
theorem srt_names {l : List File} (h : Srt l) : (l.map (·.name)).Pairwise (· < ·) := by
  rw [List.pairwise_map]; exact h
theorem srt_inj {l : List File} (h : Srt l) {f g : File} (hf : f ∈ l) (hg : g ∈ l) (he : f.name = g.name) : f = g := by
  obtain ⟨i, hi⟩ := List.mem_iff_getElem?.1 hf
  obtain ⟨j, hj⟩ := List.mem_iff_getElem?.1 hg
  rcases Nat.lt_trichotomy i j with h1 | h1 | h1
  · exact absurd (he ▸ srt_get h h1 hi hj) (str_lt_irrefl _)
  · subst h1; rw [hi] at hj; exact Option.some.inj hj
  · exact absurd (he ▸ srt_get h h1 hj hi) (str_lt_irrefl _)
theorem dataOf_mem {l : List File} (h : Srt l) {f : File} (hf : f ∈ l) : dataOf l f.name = some f.data := by
  have hh : has l f.name = true := has_iff.2 ⟨f, hf, rfl⟩
  obtain ⟨g, hg, hn, hd⟩ := dataOf_at h hh
  rw [hd, srt_inj h (List.mem_of_getElem? hg) hf hn]
theorem has_mem {l : List File} {s : Str} : has l s = true ↔ s ∈ l.map (·.name) := by
  rw [has_iff, List.mem_map]
theorem gone_names {a b : List File} (ha : Srt a) : (namesS [a, b]).filter (fun s => !has b s) = (a.filter fun f => (dataOf b f.name).isNone).map (·.name) := by
  obtain ⟨h1, h2⟩ := namesS_srt [a, b]
  refine srtS_ext (h1.filter _) (srt_names (ha.sublist List.filter_sublist)) (fun x => ?_)
  rw [List.mem_filter, h2, List.mem_map]
  have hm : x ∈ allN [a, b] ↔ has a x = true ∨ has b x = true := by simp [allN, has_mem]
  rw [hm]
  constructor
  · rintro ⟨h | h, hx⟩
    · obtain ⟨f, hf, rfl⟩ := has_iff.1 h
      refine ⟨f, List.mem_filter.2 ⟨hf, ?_⟩, rfl⟩
      rw [has_dataOf] at hx
      cases hd : dataOf b f.name <;> simp_all
    · rw [h] at hx; cases hx
  · rintro ⟨f, hf, rfl⟩
    obtain ⟨hf1, hf2⟩ := List.mem_filter.1 hf
    refine ⟨.inl (has_iff.2 ⟨f, hf1, rfl⟩), ?_⟩
    rw [has_dataOf]
    cases hd : dataOf b f.name <;> simp_all
theorem puts_names {a b : List File} (hb : Srt b) : (namesS [a, b]).filter (fun s => has b s && !(dataOf a s == dataOf b s)) = (b.filter fun f => !(dataOf a f.name == dataOf b f.name)).map (·.name) := by
  obtain ⟨h1, h2⟩ := namesS_srt [a, b]
  refine srtS_ext (h1.filter _) (srt_names (hb.sublist List.filter_sublist)) (fun x => ?_)
  rw [List.mem_filter, h2, List.mem_map]
  have hm : x ∈ allN [a, b] ↔ has a x = true ∨ has b x = true := by simp [allN, has_mem]
  rw [hm]
  constructor
  · rintro ⟨_, hx⟩
    rw [Bool.and_eq_true] at hx
    obtain ⟨f, hf, rfl⟩ := has_iff.1 hx.1
    exact ⟨f, List.mem_filter.2 ⟨hf, hx.2⟩, rfl⟩
  · rintro ⟨f, hf, rfl⟩
    obtain ⟨hf1, hf2⟩ := List.mem_filter.1 hf
    have hh : has b f.name = true := has_iff.2 ⟨f, hf1, rfl⟩
    exact ⟨.inr hh, by rw [hh, hf2]; rfl⟩
theorem diffS_eq {a b : List File} (ha : Srt a) (hb : Srt b) : diffS a b = diffR a b := by
  unfold diffS diffR goneS goneR putsS putsR
  rw [gone_names ha, puts_names hb, List.map_map, List.map_map]
  congr 1
  apply List.map_congr_left
  intro f hf
  have hf1 := (List.mem_filter.1 hf).1
  show putS f.name ((dataOf b f.name).getD []) = putS f.name f.data
  rw [dataOf_mem hb hf1]; rfl
theorem plain_diffR (a b : List File) : ∀ o ∈ diffR a b, PlainO o := by
  intro o ho
  unfold diffR goneR putsR at ho
  rcases List.mem_append.1 ho with h | h
  · obtain ⟨f, _, rfl⟩ := List.mem_map.1 h
    exact ⟨rfl, rfl, rfl, rfl⟩
  · obtain ⟨f, _, rfl⟩ := List.mem_map.1 h
    exact ⟨rfl, rfl, rfl, rfl⟩
end Go.BK

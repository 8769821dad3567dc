/- Plain laws: names of members. -/
import Derived.Test.YtaenackibigojaaDoorQ1
import Derived.Lib.SplitLaws
set_option linter.unusedVariables false
set_option linter.unusedSimpArgs false
namespace Go.BK

def goodByte (c : UInt8) : Bool := decide (33 ≤ c.toNat) && decide (c.toNat ≤ 126)
/-- May a part be? -/
def partB (s : Str) : Bool := s.all goodByte && !s.isEmpty && !(s == [46]) && !(s == [46, 46])
/-- A text cut at each slash. -/
def cut : Str → List Str
  | [] => [[]]
  | c :: s => if c = 47 then [] :: cut s else match cut s with | p :: ps => (c :: p) :: ps | [] => [[c]]
/-- May a name be? -/
def right (s : Str) : Bool := decide (s.length ≤ 64) && (cut s).all partB

theorem cut_ne (s : Str) : cut s ≠ [] := by
  cases s with
  | nil => simp [cut]
  | cons c s => unfold cut; split; · simp
                split <;> simp
theorem cut_splitK : ∀ s : Str, Lib.splitK [47] 0 (s.count 47) s = cut s
  | [] => rfl
  | c :: l => by
    have ih := cut_splitK l
    by_cases hc : c = 47
    · subst hc
      have hix : Lib.index (47 :: l) [47] = 0 := by rw [Lib.index]; simp [List.isPrefixOf]
      rw [List.count_cons_self, Lib.splitK, hix, cut, if_pos rfl, ← ih]
      simp
    · have hne : (47 : UInt8) ≠ c := fun e => hc e.symm
      have hix : Lib.index (c :: l) [47] = if Lib.index l [47] == -1 then -1 else Lib.index l [47] + 1 := by
        rw [Lib.index]; simp [List.isPrefixOf, hne]
      rw [List.count_cons_of_ne hc, cut, if_neg hc, ← ih]
      cases hk : l.count 47 with
      | zero => rfl
      | succ k =>
        rw [Lib.splitK, Lib.splitK, hix]
        have hge : -1 ≤ Lib.index l [47] := by rw [Lib.index_one]; exact Lib.indexByte_ge _ _
        by_cases hm : Lib.index l [47] = -1
        · simp [hm]
        · obtain ⟨i, hi⟩ : ∃ i : Nat, Lib.index l [47] = i := ⟨(Lib.index l [47]).toNat, by omega⟩
          have h1 : ¬ ((i : Int) == -1) = true := by simp <;> omega
          have h2 : ¬ ((i : Int) + 1 == -1) = true := by simp <;> omega
          have h3 : ((i : Int) + 1).toNat = i + 1 := by omega
          rw [hi, if_neg h1, if_neg h2, if_neg h1]
          simp [h3]
theorem cut_mem_len : ∀ {s p : Str}, p ∈ cut s → p.length ≤ s.length
  | [], p, h => by simp [cut] at h; simp [h]
  | c :: l, p, h => by
    unfold cut at h
    split at h
    · rcases List.mem_cons.1 h with rfl | h
      · simp
      · have := cut_mem_len h; simp; omega
    · split at h
      · rename_i q qs hq
        rcases List.mem_cons.1 h with rfl | h
        · have := cut_mem_len (s := l) (p := q) (by rw [hq]; simp); simp; omega
        · have := cut_mem_len (s := l) (p := p) (by rw [hq]; simp [h]); simp; omega
      · rename_i hq; exact absurd hq (cut_ne l)
theorem cut_len (s : Str) : (cut s).length = s.count 47 + 1 := by
  induction s with
  | nil => rfl
  | cons c l ih =>
    by_cases hc : c = 47
    · subst hc; rw [cut, if_pos rfl, List.count_cons_self]; simp [ih]
    · rw [cut, if_neg hc, List.count_cons_of_ne hc]
      cases hq : cut l with
      | nil => exact absurd hq (cut_ne l)
      | cons p ps => rw [hq] at ih; simpa using ih

/-- Why a step can't be done. -/
def refusedE (l : List File) (o : Stp) : Int :=
  if o.kind = 11 then (if has l o.name then 0 else 7)
  else if o.kind ≠ 3 then 1
  else if right o.name = false then 6
  else if 65536 < o.data.length then 5
  else if has l o.name = false ∧ 200 ≤ l.length then 14
  else 0

/-- A map in which a name has data. -/
def withP (l : List File) (s : Str) (d : List UInt8) : List File := if has l s then l.set (pos l s) ⟨s, d⟩ else l.take (pos l s) ++ ⟨s, d⟩ :: l.drop (pos l s)
def withoutP (l : List File) (s : Str) : List File := l.filter fun f => f.name != s
def stepE (l : List File) (o : Stp) : Except Int (List File) :=
  if refusedE l o = 0 then .ok (if o.kind = 3 then withP l o.name o.data else withoutP l o.name) else .error (refusedE l o)
def applyE (l : List File) (os : List Stp) : Except Int (List File) := os.foldlM stepE l
theorem applyE_nil (l : List File) : applyE l [] = .ok l := rfl
theorem applyE_cons (l : List File) (o : Stp) (os : List Stp) : applyE l (o :: os) = (stepE l o).bind fun l' => applyE l' os := rfl
theorem applyE_snoc (l : List File) (os : List Stp) (o : Stp) : applyE l (os ++ [o]) = (applyE l os).bind fun l' => stepE l' o := by
  unfold applyE
  rw [List.foldlM_append]
  congr 1
  funext l'
  show (stepE l' o).bind pure = stepE l' o
  cases stepE l' o <;> rfl
theorem applyE_stop {l : List File} {os : List Stp} {k : Nat} {o : Stp} {x : Int} {L : List File} (ho : os[k]? = some o) (hL : applyE l (os.take k) = .ok L) (hx : stepE L o = .error x) : applyE l os = .error x := by
  obtain ⟨hk, rfl⟩ := List.getElem?_eq_some_iff.1 ho
  have h1 : os = os.take k ++ os[k] :: os.drop (k + 1) := by rw [List.getElem_cons_drop, List.take_append_drop]
  rw [h1]
  unfold applyE at *
  rw [List.foldlM_append, hL]
  show (stepE L os[k]).bind _ = _
  rw [hx]; rfl

theorem ltS_mem_take : ∀ {l : List File} {s : Str}, ∀ f ∈ l.take (pos l s), f.name < s
  | [], s, f, h => by simp at h
  | x :: l, s, f, h => by
    by_cases hx : x.name < s
    · have hp : pos (x :: l) s = pos l s + 1 := by simp [pos, List.takeWhile_cons, ltS_iff.2 hx]
      rw [hp, List.take_succ_cons] at h
      rcases List.mem_cons.1 h with rfl | h
      · exact hx
      · exact ltS_mem_take f h
    · have hp : pos (x :: l) s = 0 := by simp [pos, List.takeWhile_cons, ltS_false.2 hx]
      rw [hp] at h
      simp at h
theorem pos_not_lt {l : List File} {s : Str} {f : File} (h : l[pos l s]? = some f) : ¬ f.name < s := by
  induction l with
  | nil => simp at h
  | cons x l ih =>
    by_cases hx : x.name < s
    · have hp : pos (x :: l) s = pos l s + 1 := by simp [pos, List.takeWhile_cons, ltS_iff.2 hx]
      rw [hp] at h
      exact ih (by simpa using h)
    · have hp : pos (x :: l) s = 0 := by simp [pos, List.takeWhile_cons, ltS_false.2 hx]
      rw [hp] at h
      simp at h
      subst h
      exact hx
theorem ge_mem_drop {l : List File} {s : Str} (hs : Srt l) (hh : has l s = false) : ∀ f ∈ l.drop (pos l s), s < f.name := by
  intro f hf
  obtain ⟨j, hj⟩ := List.mem_iff_getElem?.1 hf
  rw [List.getElem?_drop] at hj
  have hne : f.name ≠ s := fun he => by rw [has_iff.2 ⟨f, List.mem_of_getElem? hj, he⟩] at hh; cases hh
  have hnl : ¬ f.name < s := by
    obtain ⟨y, hy⟩ : ∃ y, l[pos l s]? = some y := ⟨_, List.getElem?_eq_getElem (by have := (List.getElem?_eq_some_iff.1 hj).1; omega)⟩
    have h0 := pos_not_lt hy
    rcases Nat.eq_zero_or_pos j with h | h
    · subst h; rw [Nat.add_zero] at hj; rw [hy] at hj; cases hj; exact h0
    · intro hlt
      exact h0 (str_lt_trans (srt_get hs (show pos l s < pos l s + j by omega) hy hj) hlt)
  rcases str_tri_ne hne with h | h
  · exact absurd h hnl
  · exact h
theorem srt_withP {l : List File} (hs : Srt l) (s : Str) (d : List UInt8) : Srt (withP l s d) := by
  unfold withP
  cases hh : has l s with
  | true =>
    simp only [if_true]
    obtain ⟨f, hf, hfn, _⟩ := dataOf_at hs hh
    obtain ⟨hlt, rfl⟩ := List.getElem?_eq_some_iff.1 hf
    unfold Srt
    have e : (l.set (pos l s) ⟨s, d⟩).map (·.name) = l.map (·.name) := by
      rw [List.map_set]
      apply List.ext_getElem (by simp)
      intro i h1 h2
      rw [List.getElem_set]
      split
      · rename_i he; subst he; simp [hfn]
      · rfl
    have h1 : (l.map (·.name)).Pairwise (· < ·) := List.pairwise_map.2 hs
    rw [← e] at h1
    exact List.pairwise_map.1 h1
  | false =>
    simp only [Bool.false_eq_true, if_false]
    refine List.pairwise_append.2 ⟨hs.sublist (List.take_sublist _ _), List.pairwise_cons.2 ⟨ge_mem_drop hs hh, hs.sublist (List.drop_sublist _ _)⟩, fun x hx y hy => ?_⟩
    have hxs := ltS_mem_take x hx
    rcases List.mem_cons.1 hy with rfl | hy
    · exact hxs
    · exact str_lt_trans hxs (ge_mem_drop hs hh y hy)
theorem srt_withoutP {l : List File} (hs : Srt l) (s : Str) : Srt (withoutP l s) := hs.sublist List.filter_sublist
theorem len_withP (l : List File) (s : Str) (d : List UInt8) : (withP l s d).length ≤ l.length + 1 := by
  unfold withP; split
  · simp
  · have := pos_le l s; simp; omega
theorem mem_withP {l : List File} {s : Str} {d : List UInt8} {f : File} (h : f ∈ withP l s d) : f ∈ l ∨ f = ⟨s, d⟩ := by
  unfold withP at h
  split at h
  · exact List.mem_or_eq_of_mem_set h
  · rcases List.mem_append.1 h with h | h
    · exact .inl (List.mem_of_mem_take h)
    · rcases List.mem_cons.1 h with h | h
      · exact .inr h
      · exact .inl (List.mem_of_mem_drop h)
theorem len_withoutP (l : List File) (s : Str) : (withoutP l s).length ≤ l.length := List.length_filter_le _ _
theorem mem_withoutP {l : List File} {s : Str} {f : File} (h : f ∈ withoutP l s) : f ∈ l := (List.mem_filter.1 h).1
end Go.BK

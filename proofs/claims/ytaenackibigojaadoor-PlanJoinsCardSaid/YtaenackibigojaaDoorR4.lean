/- Part of the proofs: walkR, withR, walkR_snoc, walkR_low, walkR_high, withR_srt: each says what its head says. -/
import Derived.Test.YtaenackibigojaaDoorR3
set_option linter.unusedVariables false
set_option linter.unusedSimpArgs false
namespace Go.BK
def stepR (s : Str) (d : List UInt8) (r : Bool × List File) (g : File) : Bool × List File :=
  let r1 := if !r.1 && !ltS g.name s then (true, r.2 ++ [⟨s, d⟩]) else r
  (r1.1, if g.name != s then r1.2 ++ [g] else r1.2)
def walkR (l : List File) (s : Str) (d : List UInt8) : Bool × List File := l.foldl (stepR s d) (false, [])
def withR (l : List File) (s : Str) (d : List UInt8) : List File := if (walkR l s d).1 then (walkR l s d).2 else (walkR l s d).2 ++ [⟨s, d⟩]
theorem walkR_snoc (l : List File) (g : File) (s : Str) (d : List UInt8) : walkR (l ++ [g]) s d = stepR s d (walkR l s d) g := by simp [walkR]
theorem walkR_low : ∀ (l : List File) (s : Str) (d : List UInt8) (acc : List File), (∀ g ∈ l, g.name < s) → l.foldl (stepR s d) (false, acc) = (false, acc ++ l)
  | [], s, d, acc, _ => by simp
  | g :: l, s, d, acc, h => by
    have h1 : g.name < s := h g (List.mem_cons_self ..)
    have h2 : g.name ≠ s := fun e => str_lt_irrefl s (by rw [e] at h1; exact h1)
    rw [List.foldl_cons]
    have e : stepR s d (false, acc) g = (false, acc ++ [g]) := by simp [stepR, ltS_iff.2 h1, h2]
    rw [e, walkR_low l s d _ (fun x hx => h x (List.mem_cons_of_mem _ hx))]
    simp
theorem walkR_high : ∀ (l : List File) (s : Str) (d : List UInt8) (acc : List File), (∀ g ∈ l, s < g.name) → l.foldl (stepR s d) (true, acc) = (true, acc ++ l)
  | [], s, d, acc, _ => by simp
  | g :: l, s, d, acc, h => by
    have h1 : s < g.name := h g (List.mem_cons_self ..)
    have h2 : g.name ≠ s := fun e => str_lt_irrefl s (by rw [e] at h1; exact h1)
    rw [List.foldl_cons]
    have e : stepR s d (true, acc) g = (true, acc ++ [g]) := by simp [stepR, h2]
    rw [e, walkR_high l s d _ (fun x hx => h x (List.mem_cons_of_mem _ hx))]
    simp
theorem withR_srt {l : List File} (hs : Srt l) (s : Str) (d : List UInt8) : withR l s d = withP l s d := by
  have hlow : ∀ g ∈ l.take (pos l s), g.name < s := fun g hg => ltS_mem_take g hg
  cases hh : has l s with
  | false =>
    have hhigh := ge_mem_drop hs hh
    have e1 : withP l s d = l.take (pos l s) ++ ⟨s, d⟩ :: l.drop (pos l s) := by simp [withP, hh]
    rw [e1]
    have e2 : walkR l s d = (l.drop (pos l s)).foldl (stepR s d) (false, l.take (pos l s)) := by
      conv => lhs; unfold walkR; rw [← List.take_append_drop (pos l s) l, List.foldl_append]
      rw [walkR_low _ s d [] hlow]; simp
    unfold withR
    rw [e2]
    cases hd : l.drop (pos l s) with
    | nil => simp
    | cons g r =>
      have h1 : s < g.name := hhigh g (by rw [hd]; exact List.mem_cons_self ..)
      have h2 : g.name ≠ s := fun e => str_lt_irrefl s (by rw [e] at h1; exact h1)
      have h3 : ltS g.name s = false := ltS_false.2 (fun h => str_lt_irrefl s (str_lt_trans h1 h))
      have e3 : stepR s d (false, l.take (pos l s)) g = (true, l.take (pos l s) ++ [⟨s, d⟩] ++ [g]) := by simp [stepR, h3, h2]
      rw [List.foldl_cons, e3, walkR_high r s d _ (fun x hx => hhigh x (by rw [hd]; exact List.mem_cons_of_mem _ hx))]
      simp
  | true =>
    obtain ⟨f, hf, hfn, _⟩ := dataOf_at hs hh
    have hp := has_pos_lt hh
    have e1 : withP l s d = l.set (pos l s) ⟨s, d⟩ := by simp [withP, hh]
    rw [e1, List.set_eq_take_append_cons_drop, if_pos hp]
    have hdrop : l.drop (pos l s) = f :: l.drop (pos l s + 1) := by
      rw [List.drop_eq_getElem_cons hp]
      congr 1
      exact (List.getElem?_eq_some_iff.1 hf).2
    have hhigh : ∀ g ∈ l.drop (pos l s + 1), s < g.name := fun g hg => by
      obtain ⟨j, hj⟩ := List.mem_iff_getElem?.1 hg
      rw [List.getElem?_drop] at hj
      have := srt_get hs (show pos l s < pos l s + 1 + j by omega) hf hj
      rwa [hfn] at this
    have e2 : walkR l s d = (l.drop (pos l s)).foldl (stepR s d) (false, l.take (pos l s)) := by
      conv => lhs; unfold walkR; rw [← List.take_append_drop (pos l s) l, List.foldl_append]
      rw [walkR_low _ s d [] hlow]; simp
    have h3 : ltS f.name s = false := by rw [hfn]; exact ltS_false.2 (str_lt_irrefl s)
    have e3 : stepR s d (false, l.take (pos l s)) f = (true, l.take (pos l s) ++ [⟨s, d⟩]) := by simp [stepR, hfn, ltS_false.2 (str_lt_irrefl s)]
    unfold withR
    rw [e2, hdrop, List.foldl_cons, e3, walkR_high _ s d _ hhigh]
    simp
end Go.BK

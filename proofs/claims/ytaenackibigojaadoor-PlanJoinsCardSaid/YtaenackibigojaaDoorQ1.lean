/- Plain laws: files in the order of their names. -/
import Derived.Test.YtaenackibigojaaDoorK2
import Derived.Lib.Bytealg
set_option linter.unusedVariables false
set_option linter.unusedSimpArgs false
namespace Go.BK

theorem str_lt_trans {a b c : Str} (h1 : a < b) (h2 : b < c) : a < c := List.lt_trans h1 h2
theorem str_lt_irrefl (a : Str) : ¬ a < a := List.lt_irrefl a
theorem str_lt_tri (a b : Str) : a < b ∨ a = b ∨ b < a := by
  by_cases h1 : a < b
  · exact .inl h1
  · by_cases h2 : b < a
    · exact .inr (.inr h2)
    · exact .inr (.inl (List.le_antisymm (List.not_lt.1 h2) (List.not_lt.1 h1)))
theorem str_le_of_not_lt {a b : Str} (h : ¬ a < b) : b < a ∨ a = b := by
  rcases str_lt_tri a b with h1 | h1 | h1
  · exact absurd h1 h
  · exact .inr h1
  · exact .inl h1
theorem str_tri_ne {a b : Str} (h : a ≠ b) : a < b ∨ b < a := by
  rcases str_lt_tri a b with h1 | h1 | h1
  · exact .inl h1
  · exact absurd h1 h
  · exact .inr h1
theorem ltS_iff {a b : Str} : ltS a b = true ↔ a < b := by simp [ltS]
theorem ltS_false {a b : Str} : ltS a b = false ↔ ¬ a < b := by simp [ltS]

/-- strings.Compare's answer. -/
def cmpS (a b : Str) : Int := Lib.compareBytes a b
theorem cmpS_lt : ∀ {a b : Str}, a < b → cmpS a b = -1
  | [], [], h => absurd h (by simp)
  | [], _ :: _, _ => rfl
  | _ :: _, [], h => absurd h (by simp)
  | a :: x, b :: y, h => by
    unfold cmpS Lib.compareBytes
    rw [List.cons_lt_cons_iff] at h
    rcases h with h | ⟨h1, h2⟩
    · rw [if_pos h]
    · subst h1
      have : ¬ a < a := by simp
      rw [if_neg this, if_neg this]
      exact cmpS_lt h2
theorem cmpS_eq : ∀ (a : Str), cmpS a a = 0
  | [] => rfl
  | a :: x => by
    unfold cmpS Lib.compareBytes
    have : ¬ a < a := by simp
    rw [if_neg this, if_neg this]
    exact cmpS_eq x
theorem cmpS_gt : ∀ {a b : Str}, b < a → cmpS a b = 1
  | [], [], h => absurd h (by simp)
  | [], _ :: _, h => absurd h (by simp)
  | _ :: _, [], _ => rfl
  | a :: x, b :: y, h => by
    unfold cmpS Lib.compareBytes
    rw [List.cons_lt_cons_iff] at h
    rcases h with h | ⟨h1, h2⟩
    · have h3 : ¬ a < b := by
        intro h4
        have := UInt8.lt_iff_toNat_lt.1 h; have := UInt8.lt_iff_toNat_lt.1 h4; omega
      rw [if_neg h3, if_pos h]
    · subst h1
      have : ¬ b < b := by simp
      rw [if_neg this, if_neg this]
      exact cmpS_gt h2

/-- Rising by names. -/
abbrev Srt (l : List File) : Prop := l.Pairwise fun x y => x.name < y.name
/-- Where a name stands, or would. -/
def pos (l : List File) (s : Str) : Nat := (l.takeWhile fun f => ltS f.name s).length
def has (l : List File) (s : Str) : Bool := l.any fun f => f.name == s

theorem pos_eq {l : List File} {s : Str} {i : Nat} (hi : i ≤ l.length) (h1 : ∀ t f, t < i → l[t]? = some f → f.name < s) (h2 : ∀ f, l[i]? = some f → ¬ f.name < s) : pos l s = i := by
  unfold pos
  induction l generalizing i with
  | nil => simp at hi; simp [hi]
  | cons x l ih =>
    cases i with
    | zero =>
      have := h2 x rfl
      simp [List.takeWhile_cons, ltS_false.2 this]
    | succ i =>
      have := h1 0 x (by omega) rfl
      rw [List.takeWhile_cons, ltS_iff.2 this]
      simp only [if_true, List.length_cons]
      rw [ih (by simpa using hi) (fun t f ht hf => h1 (t + 1) f (by omega) (by simpa using hf)) (fun f hf => h2 f (by simpa using hf))]
theorem pos_le (l : List File) (s : Str) : pos l s ≤ l.length := (List.takeWhile_sublist _).length_le

theorem srt_get {l : List File} (h : Srt l) {i j : Nat} {x y : File} (hij : i < j) (hx : l[i]? = some x) (hy : l[j]? = some y) : x.name < y.name := by
  obtain ⟨h1, rfl⟩ := List.getElem?_eq_some_iff.1 hx
  obtain ⟨h2, rfl⟩ := List.getElem?_eq_some_iff.1 hy
  exact List.pairwise_iff_getElem.1 h i j h1 h2 hij
theorem has_iff {l : List File} {s : Str} : has l s = true ↔ ∃ f, f ∈ l ∧ f.name = s := by simp [has]
theorem has_at {l : List File} {s : Str} {i : Nat} (h1 : ∀ t f, t < i → l[t]? = some f → f.name < s) (h2 : ∀ t f, i < t → l[t]? = some f → s < f.name) :
    has l s = match l[i]? with | some f => f.name == s | none => false := by
  rw [Bool.eq_iff_iff, has_iff]
  constructor
  · rintro ⟨f, hf, hs⟩
    obtain ⟨t, ht⟩ := List.mem_iff_getElem?.1 hf
    have hti : t = i := by
      rcases Nat.lt_trichotomy t i with h | h | h
      · have := h1 t f h ht; rw [hs] at this; exact absurd this (str_lt_irrefl _)
      · exact h
      · have := h2 t f h ht; rw [hs] at this; exact absurd this (str_lt_irrefl _)
    subst hti
    simp [ht, hs]
  · intro h
    cases hi : l[i]? with
    | none => rw [hi] at h; cases h
    | some f =>
      rw [hi] at h
      exact ⟨f, List.mem_of_getElem? hi, by simpa using h⟩
theorem takeWhile_lt_of_any {α : Type} {p : α → Bool} : ∀ {l : List α}, (∃ x, x ∈ l ∧ p x = false) → (l.takeWhile p).length < l.length
  | [], h => by obtain ⟨x, hx, _⟩ := h; cases hx
  | x :: l, h => by
    cases hp : p x with
    | false => simp [List.takeWhile_cons, hp]
    | true =>
      rw [List.takeWhile_cons, hp]
      simp only [if_true, List.length_cons]
      obtain ⟨y, hy, hpy⟩ := h
      rcases List.mem_cons.1 hy with rfl | hy
      · rw [hp] at hpy; cases hpy
      · have := takeWhile_lt_of_any (p := p) ⟨y, hy, hpy⟩
        omega
theorem has_pos_lt {l : List File} {s : Str} (h : has l s = true) : pos l s < l.length := by
  obtain ⟨f, hf, rfl⟩ := has_iff.1 h
  exact takeWhile_lt_of_any ⟨f, hf, by simp [ltS]⟩
theorem without_none {l : List File} {s : Str} (h : has l s = false) : (l.filter fun f => f.name != s) = l := by
  rw [List.filter_eq_self]
  intro f hf
  simp only [bne_iff_ne, ne_eq]
  intro he
  rw [has_iff.2 ⟨f, hf, he⟩] at h
  cases h
theorem without_at : ∀ {l : List File} {s : Str}, Srt l → has l s = true → (l.filter fun f => f.name != s) = l.eraseIdx (pos l s)
  | [], _, _, h => by simp [has] at h
  | x :: l, s, hs, h => by
    have hs2 := List.pairwise_cons.1 hs
    by_cases hx : x.name = s
    · subst hx
      have h0 : pos (x :: l) x.name = 0 := by simp [pos, ltS]
      rw [h0, List.eraseIdx_cons_zero, List.filter_cons]
      simp only [bne_self_eq_false]
      rw [if_neg (by simp), List.filter_eq_self]
      intro f hf
      have := hs2.1 f hf
      simp only [bne_iff_ne, ne_eq]
      intro he
      rw [he] at this
      exact str_lt_irrefl _ this
    · have h2 : has l s = true := by
        obtain ⟨f, hf, hfs⟩ := has_iff.1 h
        rcases List.mem_cons.1 hf with rfl | hf
        · exact absurd hfs hx
        · exact has_iff.2 ⟨f, hf, hfs⟩
      have hlt : x.name < s := by
        obtain ⟨f, hf, rfl⟩ := has_iff.1 h2
        exact hs2.1 f hf
      have hp : pos (x :: l) s = pos l s + 1 := by simp [pos, List.takeWhile_cons, ltS_iff.2 hlt]
      rw [hp, List.eraseIdx_cons_succ, List.filter_cons, if_pos (by simpa using hx), without_at hs2.2 h2]
/-- What a map has for a name. -/
def dataOf (l : List File) (s : Str) : Option (List UInt8) := (l.find? fun f => f.name == s).map (·.data)
theorem dataOf_none {l : List File} {s : Str} (h : has l s = false) : dataOf l s = none := by
  unfold dataOf
  rw [List.find?_eq_none.2]
  · rfl
  · intro f hf he
    rw [has_iff.2 ⟨f, hf, by simpa using he⟩] at h
    cases h
theorem dataOf_at : ∀ {l : List File} {s : Str}, Srt l → has l s = true → ∃ f, l[pos l s]? = some f ∧ f.name = s ∧ dataOf l s = some f.data
  | [], _, _, h => by simp [has] at h
  | x :: l, s, hs, h => by
    have hs2 := List.pairwise_cons.1 hs
    by_cases hx : x.name = s
    · subst hx
      refine ⟨x, by simp [pos, ltS], rfl, by simp [dataOf]⟩
    · have h2 : has l s = true := by
        obtain ⟨f, hf, hfs⟩ := has_iff.1 h
        rcases List.mem_cons.1 hf with rfl | hf
        · exact absurd hfs hx
        · exact has_iff.2 ⟨f, hf, hfs⟩
      have hlt : x.name < s := by
        obtain ⟨f, hf, rfl⟩ := has_iff.1 h2
        exact hs2.1 f hf
      have hp : pos (x :: l) s = pos l s + 1 := by simp [pos, List.takeWhile_cons, ltS_iff.2 hlt]
      obtain ⟨f, h3, h4, h5⟩ := dataOf_at hs2.2 h2
      exact ⟨f, by rw [hp]; simpa using h3, h4, by rw [dataOf, List.find?_cons_of_neg (by simpa using hx)]; exact h5⟩
theorem has_dataOf (l : List File) (s : Str) : has l s = (dataOf l s).isSome := by
  cases h : has l s with
  | false => rw [dataOf_none h]; rfl
  | true =>
    obtain ⟨f, hf, hs⟩ := has_iff.1 h
    unfold dataOf
    cases hq : l.find? fun f => f.name == s with
    | some g => rfl
    | none => exact absurd (List.find?_eq_none.1 hq f hf) (by simp [hs])
end Go.BK

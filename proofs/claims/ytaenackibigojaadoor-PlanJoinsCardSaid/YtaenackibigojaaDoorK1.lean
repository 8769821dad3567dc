/- Words of the proofs: the world's order, what a value in memory stands for. No program is named here. -/
import Derived.WalkKit
import Derived.WalkSpells
import Derived.Below
import Derived.OwnWalk
import Derived.LoopTactic
import Derived.Lib.Hide
import Derived.Deep.MidRow
import Derived.Deep.AppendLies
import Derived.Maps.AppendAt
import Derived.Deep.AppendSrc
import Derived.Deep.QuietTactic
import Derived.BigQuiet
import Derived.WalkLawsBesides
import Derived.Laws.BytesArg
import Derived.Laws.BytesString
set_option linter.unusedVariables false
set_option linter.unusedSimpArgs false
namespace Go.BK
open Go.RowKit

/-- Blocks of the old world other than those in S are as they were. -/
structure Keep (S : Nat → Prop) (w w' : World) : Prop where
  size : w.heap.size ≤ w'.heap.size
  block : ∀ k, k < w.heap.size → ¬ S k → w'.heap[k]? = w.heap[k]?

/-- A size that is far from all limits of the machine (2^40), kept behind a name. -/
def Fits (n : Nat) : Prop := n ≤ 1099511627776
theorem Fits.le {n m : Nat} (h : Fits n) (hm : m ≤ n) : Fits m := Nat.le_trans hm h
theorem Fits.of {n : Nat} (m : Nat) (hm : n ≤ m) (h : m ≤ 1099511627776) : Fits n := Nat.le_trans hm h
theorem Fits.out {n : Nat} (h : Fits n) : n ≤ 1099511627776 := h

abbrev Ext (w w' : World) : Prop := Below w.heap.size w w'

theorem Keep.of_ext {S : Nat → Prop} {w w' : World} (h : Ext w w') : Keep S w w' := ⟨h.size, fun k hk _ => h.block k hk⟩
theorem Keep.of_below {S : Nat → Prop} {B : Nat} {w w' : World} (h : Below B w w') (hS : ∀ k, B ≤ k → S k) : Keep S w w' :=
  ⟨h.size, fun k _ hs => h.block k (Nat.lt_of_not_le fun hb => hs (hS k hb))⟩
theorem Keep.of_grown {w w' : World} {row : Option Nat} (h : w.grownBy w' row) : Keep (fun k => some k = row) w w' := ⟨h.size, fun k hk hs => h.block k hk hs⟩
theorem Keep.refl {S : Nat → Prop} (w : World) : Keep S w w := ⟨Nat.le_refl _, fun _ _ _ => rfl⟩
theorem Keep.trans {S : Nat → Prop} {a b c : World} (h : Keep S a b) (k : Keep S b c) : Keep S a c :=
  ⟨Nat.le_trans h.size k.size, fun i hi hs => (k.block i (Nat.lt_of_lt_of_le hi h.size) hs).trans (h.block i hi hs)⟩
theorem Keep.mono {S S' : Nat → Prop} {w w' : World} (h : Keep S w w') (hs : ∀ k, k < w.heap.size → S k → S' k) : Keep S' w w' :=
  ⟨h.size, fun k hk hn => h.block k hk fun hk' => hn (hs k hk hk')⟩

theorem Ext.refl (w : World) : Ext w w := Below.refl _ _
theorem Ext.trans {a b c : World} (h : Ext a b) (k : Ext b c) : Ext a c := Below.trans h (Below.mono k h.size)
theorem Ext.alloc (w : World) (o : Obj) : Ext w (w.alloc o) := (Below.refl _ _).alloc (Nat.le_refl _) o
theorem Ext.drew (w : World) : Ext w w.drew := (Below.refl _ _).drew
theorem Below.of_ext {B : Nat} {w w1 w2 : World} (h : Below B w w1) (hB : B ≤ w1.heap.size) (k : Ext w1 w2) : Below B w w2 := h.trans (Below.mono k hB)

/-- What a value of a kind stands for, in a world: x is written in the cells vs, what they lead to lies in blocks of A. -/
structure Kd (α : Type) where
  sz : Nat
  rep : (Nat → Prop) → World → α → List Value → Prop
  len : ∀ {A w x vs}, rep A w x vs → vs.length = sz
  one : ∀ {A w x vs}, rep A w x vs → ∀ v ∈ vs, v.oneCell' = true
  keep : ∀ {A w w' x vs}, rep A w x vs → w.heap.size ≤ w'.heap.size → (∀ k, A k → k < w.heap.size → w'.heap[k]? = w.heap[k]?) → rep A w' x vs
  wide : ∀ {A A' w x vs}, rep A w x vs → (∀ k, A k → A' k) → rep A' w x vs
  real : ∀ {A w x vs}, rep A w x vs → rep (fun k => A k ∧ k < w.heap.size) w x vs

namespace Kd
variable {α β : Type}

def reps (K : Kd α) (A : Nat → Prop) (w : World) : List α → List Value → Prop
  | [], vs => vs = []
  | x :: xs, vs => ∃ v1 v2, vs = v1 ++ v2 ∧ K.rep A w x v1 ∧ K.reps A w xs v2

theorem reps_len {K : Kd α} {A : Nat → Prop} {w : World} : ∀ {xs : List α} {vs : List Value}, K.reps A w xs vs → vs.length = xs.length * K.sz
  | [], vs, h => by cases h; simp
  | x :: xs, vs, h => by
    obtain ⟨v1, v2, rfl, h1, h2⟩ := h
    have := reps_len h2
    rw [List.length_append, K.len h1, this, List.length_cons, Nat.succ_mul]
    omega

theorem reps_one {K : Kd α} {A : Nat → Prop} {w : World} : ∀ {xs : List α} {vs : List Value}, K.reps A w xs vs → ∀ v ∈ vs, v.oneCell' = true
  | [], vs, h => by cases h; simp
  | x :: xs, vs, h => by
    obtain ⟨v1, v2, rfl, h1, h2⟩ := h
    intro v hv
    rcases List.mem_append.1 hv with hv | hv
    · exact K.one h1 v hv
    · exact reps_one h2 v hv

theorem reps_keep {K : Kd α} {A : Nat → Prop} {w w' : World} (hs : w.heap.size ≤ w'.heap.size) (hk : ∀ k, A k → k < w.heap.size → w'.heap[k]? = w.heap[k]?) : ∀ {xs : List α} {vs : List Value}, K.reps A w xs vs → K.reps A w' xs vs
  | [], vs, h => h
  | x :: xs, vs, h => by
    obtain ⟨v1, v2, rfl, h1, h2⟩ := h
    exact ⟨v1, v2, rfl, K.keep h1 hs hk, reps_keep hs hk h2⟩

theorem reps_wide {K : Kd α} {A A' : Nat → Prop} {w : World} (hA : ∀ k, A k → A' k) : ∀ {xs : List α} {vs : List Value}, K.reps A w xs vs → K.reps A' w xs vs
  | [], vs, h => h
  | x :: xs, vs, h => by
    obtain ⟨v1, v2, rfl, h1, h2⟩ := h
    exact ⟨v1, v2, rfl, K.wide h1 hA, reps_wide hA h2⟩

theorem reps_real {K : Kd α} {A : Nat → Prop} {w : World} : ∀ {xs : List α} {vs : List Value}, K.reps A w xs vs → K.reps (fun k => A k ∧ k < w.heap.size) w xs vs
  | [], vs, h => h
  | x :: xs, vs, h => by
    obtain ⟨v1, v2, rfl, h1, h2⟩ := h
    exact ⟨v1, v2, rfl, K.real h1, reps_real h2⟩

theorem reps_append {K : Kd α} {A : Nat → Prop} {w : World} : ∀ {xs ys : List α} {vs us : List Value}, K.reps A w xs vs → K.reps A w ys us → K.reps A w (xs ++ ys) (vs ++ us)
  | [], ys, vs, us, h, h' => by cases h; exact h'
  | x :: xs, ys, vs, us, h, h' => by
    obtain ⟨v1, v2, rfl, h1, h2⟩ := h
    exact ⟨v1, v2 ++ us, by simp, h1, reps_append h2 h'⟩

theorem reps_single {K : Kd α} {A : Nat → Prop} {w : World} {x : α} {vs : List Value} (h : K.rep A w x vs) : K.reps A w [x] vs := ⟨vs, [], by simp, h, rfl⟩

/-- The i-th: where its cells lie among all. -/
theorem reps_at {K : Kd α} {A : Nat → Prop} {w : World} : ∀ {xs : List α} {vs : List Value} (i : Nat) (x : α), K.reps A w xs vs → xs[i]? = some x →
    ∃ us, K.rep A w x us ∧ ∀ j u, us[j]? = some u → vs[i * K.sz + j]? = some u
  | [], vs, i, x, _, hx => by simp at hx
  | y :: xs, vs, i, x, h, hx => by
    obtain ⟨v1, v2, rfl, h1, h2⟩ := h
    cases i with
    | zero =>
      simp at hx
      subst hx
      exact ⟨v1, h1, fun j u hu => by rw [Nat.zero_mul, Nat.zero_add, List.getElem?_append_left (by have := List.getElem?_eq_some_iff.1 hu; exact this.1)]; exact hu⟩
    | succ i =>
      simp at hx
      obtain ⟨us, hr, ha⟩ := reps_at i x h2 hx
      refine ⟨us, hr, fun j u hu => ?_⟩
      have hl := K.len h1
      rw [List.getElem?_append_right (by rw [hl, Nat.succ_mul]; omega), hl, show (i + 1) * K.sz + j - K.sz = i * K.sz + j by rw [Nat.succ_mul]; omega]
      exact ha j u hu

theorem reps_take {K : Kd α} {A : Nat → Prop} {w : World} : ∀ {xs : List α} {vs : List Value} (n : Nat), K.reps A w xs vs → K.reps A w (xs.take n) (vs.take (n * K.sz))
  | [], vs, n, h => by cases h; simp [reps]
  | x :: xs, vs, 0, h => by simp [reps]
  | x :: xs, vs, n + 1, h => by
    obtain ⟨v1, v2, rfl, h1, h2⟩ := h
    have hl := K.len h1
    rw [List.take_succ_cons]
    refine ⟨v1, v2.take (n * K.sz), ?_, h1, reps_take n h2⟩
    rw [List.take_append, hl, List.take_of_length_le (by rw [hl, Nat.succ_mul]; omega), Nat.succ_mul, Nat.add_sub_cancel]

theorem reps_drop {K : Kd α} {A : Nat → Prop} {w : World} : ∀ {xs : List α} {vs : List Value} (n : Nat), K.reps A w xs vs → K.reps A w (xs.drop n) (vs.drop (n * K.sz))
  | [], vs, n, h => by cases h; simp [reps]
  | x :: xs, vs, 0, h => by simpa using h
  | x :: xs, vs, n + 1, h => by
    obtain ⟨v1, v2, rfl, h1, h2⟩ := h
    have hl := K.len h1
    have e1 : (v1 ++ v2).drop ((n + 1) * K.sz) = v2.drop (n * K.sz) := by
      have hle : v1.length ≤ (n + 1) * K.sz := by rw [hl, Nat.succ_mul]; omega
      rw [List.drop_append, List.drop_eq_nil_of_le hle, List.nil_append, hl, Nat.succ_mul, Nat.add_sub_cancel]
    rw [List.drop_succ_cons, e1]
    exact reps_drop n h2
end Kd

theorem rangeAt_keep {w w' : World} {b o : Nat} {vs : List Value} (h : w.rangeAt b o vs) (hk : w'.heap[b]? = w.heap[b]?) : w'.rangeAt b o vs := fun j v hv => by
  rw [World.cell?_of_block (w := w) hk]
  exact h j v hv

/-- A slice's cells: what it holds. -/
def Holds {α : Type} (K : Kd α) (A : Nat → Prop) (w : World) (a : Option Addr) (n : Nat) (xs : List α) : Prop :=
  xs.length = n ∧ n ≤ maxLen ∧ ∃ vs, K.reps A w xs vs ∧ (0 < n → ∃ b o, a = some ⟨b, o, none⟩ ∧ A b ∧ b < w.heap.size ∧ w.rangeAt b o vs)

theorem Holds.keep {α : Type} {K : Kd α} {A : Nat → Prop} {w w' : World} {a : Option Addr} {n : Nat} {xs : List α} (h : Holds K A w a n xs) (hs : w.heap.size ≤ w'.heap.size)
    (hk : ∀ k, A k → k < w.heap.size → w'.heap[k]? = w.heap[k]?) : Holds K A w' a n xs := by
  obtain ⟨h1, h2, vs, h3, h4⟩ := h
  refine ⟨h1, h2, vs, Kd.reps_keep hs hk h3, fun hn => ?_⟩
  obtain ⟨b, o, ha, hA, hb, hr⟩ := h4 hn
  exact ⟨b, o, ha, hA, Nat.lt_of_lt_of_le hb hs, rangeAt_keep hr (hk b hA hb)⟩

theorem Holds.wide {α : Type} {K : Kd α} {A A' : Nat → Prop} {w : World} {a : Option Addr} {n : Nat} {xs : List α} (h : Holds K A w a n xs) (hA : ∀ k, A k → A' k) : Holds K A' w a n xs := by
  obtain ⟨h1, h2, vs, h3, h4⟩ := h
  refine ⟨h1, h2, vs, Kd.reps_wide hA h3, fun hn => ?_⟩
  obtain ⟨b, o, ha, hb, hlt, hr⟩ := h4 hn
  exact ⟨b, o, ha, hA b hb, hlt, hr⟩

theorem Holds.real {α : Type} {K : Kd α} {A : Nat → Prop} {w : World} {a : Option Addr} {n : Nat} {xs : List α} (h : Holds K A w a n xs) : Holds K (fun k => A k ∧ k < w.heap.size) w a n xs := by
  obtain ⟨h1, h2, vs, h3, h4⟩ := h
  refine ⟨h1, h2, vs, Kd.reps_real h3, fun hn => ?_⟩
  obtain ⟨b, o, ha, hb, hlt, hr⟩ := h4 hn
  exact ⟨b, o, ha, ⟨hb, hlt⟩, hlt, hr⟩

theorem Holds.of_keep {α : Type} {K : Kd α} {A S : Nat → Prop} {w w' : World} {a : Option Addr} {n : Nat} {xs : List α} (h : Holds K A w a n xs) (hk : Keep S w w') (hS : ∀ k, A k → ¬ S k) : Holds K A w' a n xs :=
  h.keep hk.size fun k hA hlt => hk.block k hlt (hS k hA)
theorem Holds.ext {α : Type} {K : Kd α} {A : Nat → Prop} {w w' : World} {a : Option Addr} {n : Nat} {xs : List α} (h : Holds K A w a n xs) (hk : Ext w w') : Holds K A w' a n xs :=
  h.keep hk.size fun k hA hlt => hk.block k hlt
theorem Kd.rep_ext {α : Type} {K : Kd α} {A : Nat → Prop} {w w' : World} {x : α} {vs : List Value} (h : K.rep A w x vs) (hk : Ext w w') : K.rep A w' x vs :=
  K.keep h hk.size fun k _ hlt => hk.block k hlt
theorem Kd.rep_keep {α : Type} {K : Kd α} {A S : Nat → Prop} {w w' : World} {x : α} {vs : List Value} (h : K.rep A w x vs) (hk : Keep S w w') (hS : ∀ k, A k → ¬ S k) : K.rep A w' x vs :=
  K.keep h hk.size fun k hA hlt => hk.block k hlt (hS k hA)

/-- The i-th element of a slice that is read. -/
theorem Holds.at_ {α : Type} {K : Kd α} {A : Nat → Prop} {w : World} {a : Option Addr} {n : Nat} {xs : List α} (h : Holds K A w a n xs) (i : Nat) (x : α) (hx : xs[i]? = some x) :
    ∃ b o us, a = some ⟨b, o, none⟩ ∧ A b ∧ b < w.heap.size ∧ K.rep A w x us ∧ w.rangeAt b (o + i * K.sz) us := by
  obtain ⟨h1, h2, vs, h3, h4⟩ := h
  have hi : i < xs.length := (List.getElem?_eq_some_iff.1 hx).1
  obtain ⟨b, o, ha, hA, hlt, hr⟩ := h4 (by omega)
  obtain ⟨us, hus, hat⟩ := Kd.reps_at i x h3 hx
  refine ⟨b, o, us, ha, hA, hlt, hus, fun j u hu => ?_⟩
  rw [Nat.add_assoc]
  exact hr _ u (hat j u hu)

theorem Holds.nil {α : Type} (K : Kd α) (A : Nat → Prop) (w : World) (a : Option Addr) : Holds K A w a 0 [] := ⟨rfl, Nat.zero_le _, [], rfl, fun h => absurd h (by omega)⟩
theorem Holds.length {α : Type} {K : Kd α} {A : Nat → Prop} {w : World} {a : Option Addr} {n : Nat} {xs : List α} (h : Holds K A w a n xs) : xs.length = n := h.1
theorem Holds.le {α : Type} {K : Kd α} {A : Nat → Prop} {w : World} {a : Option Addr} {n : Nat} {xs : List α} (h : Holds K A w a n xs) : n ≤ 9223372036854775807 := h.2.1

theorem ret_i {k : IntKind} {a b : Int} (h : a = b) : Ending.returned (.int k a) = .returned (.int k b) := by rw [h]
theorem ret_b {a b : Bool} (h : a = b) : Ending.returned (.bool a) = .returned (.bool b) := by rw [h]
theorem ext_drewN (w : World) (n : Nat) : Ext w (w.drewN n) := by
  induction n with
  | zero => exact Ext.refl _
  | succ n ih => rw [← World.drew_drewN]; exact Below.drew ih

/-! ### Texts -/
abbrev Str := List UInt8
/-- A text out of its bytes; the walk doesn't look into it. -/
def mkS (l : Str) : ByteArray := ⟨⟨l⟩⟩
def ltS (a b : Str) : Bool := decide (a < b)
theorem mkS_data (s : ByteArray) : mkS s.data.toList = s := rfl
theorem mkS_toList (l : Str) : (mkS l).toList = l := by rw [ByteArray.toList_eq]; rfl
theorem mkS_dataList (l : Str) : (mkS l).data.toList = l := rfl
theorem mkS_size (l : Str) : (mkS l).size = l.length := rfl
theorem mkS_beq (a b : Str) : ((mkS a).toList == (mkS b).toList) = (a == b) := by rw [mkS_toList, mkS_toList]
theorem bytesLess_ltS : ∀ a b : Str, Op.bytesLess a b = ltS a b
  | _, [] => by simp [Op.bytesLess, ltS]
  | [], _ :: _ => by simp [Op.bytesLess, ltS]
  | a :: x, b :: y => by
    rw [Op.bytesLess, bytesLess_ltS x y]
    simp only [ltS, List.cons_lt_cons_iff]
    rw [Bool.eq_iff_iff]
    simp
theorem mkS_less (a b : Str) : Op.bytesLess (mkS a).toList (mkS b).toList = ltS a b := by rw [mkS_toList, mkS_toList, bytesLess_ltS]
theorem mkS_append (a b : Str) : mkS a ++ mkS b = mkS (a ++ b) := by
  apply ByteArray.ext
  simp [mkS, ByteArray.data_append]
theorem mkS_extract (a : Str) (i j : Nat) : (mkS a).extract i j = mkS ((a.drop i).take (j - i)) := by
  apply ByteArray.ext
  simp [mkS, ByteArray.data_extract]
theorem mkS_inj {a b : Str} (h : mkS a = mkS b) : a = b := by
  have := congrArg (fun s => s.data.toList) h
  simpa [mkS] using this
theorem mkS_empty : mkS [] = ByteArray.empty := rfl
attribute [go_sem] mkS_size mkS_toList bytesLess_ltS mkS_append mkS_extract

/-! ### Kinds -/
def kInt (k : IntKind) : Kd Int where
  sz := 1
  rep := fun _ _ x vs => vs = [.int k x] ∧ k.min ≤ x ∧ x ≤ k.max
  len := by rintro _ _ _ _ ⟨rfl, _⟩; rfl
  one := by rintro _ _ _ _ ⟨rfl, _⟩; simp [Value.oneCell']
  keep := fun h _ _ => h
  wide := fun h _ => h
  real := fun h => h
def kByte : Kd UInt8 where
  sz := 1
  rep := fun _ _ x vs => vs = [.int .u8 x.toNat]
  len := by rintro _ _ _ _ rfl; rfl
  one := by rintro _ _ _ _ rfl; simp [Value.oneCell']
  keep := fun h _ _ => h
  wide := fun h _ => h
  real := fun h => h
def kBool : Kd Bool where
  sz := 1
  rep := fun _ _ x vs => vs = [.bool x]
  len := by rintro _ _ _ _ rfl; rfl
  one := by rintro _ _ _ _ rfl; simp [Value.oneCell']
  keep := fun h _ _ => h
  wide := fun h _ => h
  real := fun h => h
def kStr : Kd (List UInt8) where
  sz := 1
  rep := fun _ _ x vs => vs = [.string (mkS x)] ∧ x.length ≤ maxLen
  len := by rintro _ _ _ _ ⟨rfl, _⟩; rfl
  one := by rintro _ _ _ _ ⟨rfl, _⟩; simp [Value.oneCell']
  keep := fun h _ _ => h
  wide := fun h _ => h
  real := fun h => h
def kSlice {α : Type} (K : Kd α) : Kd (List α) where
  sz := 1
  rep := fun A w xs vs => ∃ a n c, vs = [.slice a n c] ∧ n ≤ c ∧ c ≤ maxLen ∧ Holds K A w a n xs
  len := by rintro _ _ _ _ ⟨_, _, _, rfl, _⟩; rfl
  one := by rintro _ _ _ _ ⟨_, _, _, rfl, _⟩; simp [Value.oneCell']
  keep := by
    rintro A w w' x vs ⟨a, n, c, rfl, h1, h2, h3⟩ hs hk
    exact ⟨a, n, c, rfl, h1, h2, h3.keep hs hk⟩
  wide := by
    rintro A A' w x vs ⟨a, n, c, rfl, h1, h2, h3⟩ hA
    exact ⟨a, n, c, rfl, h1, h2, h3.wide hA⟩
  real := by
    rintro A w x vs ⟨a, n, c, rfl, h1, h2, h3⟩
    exact ⟨a, n, c, rfl, h1, h2, h3.real⟩

def kPair {α β : Type} (K : Kd α) (L : Kd β) : Kd (α × β) where
  sz := K.sz + L.sz
  rep := fun A w x vs => ∃ v1 v2, vs = v1 ++ v2 ∧ K.rep A w x.1 v1 ∧ L.rep A w x.2 v2
  len := by rintro _ _ _ _ ⟨v1, v2, rfl, h1, h2⟩; rw [List.length_append, K.len h1, L.len h2]
  one := by
    rintro _ _ _ _ ⟨v1, v2, rfl, h1, h2⟩ v hv
    rcases List.mem_append.1 hv with hv | hv
    · exact K.one h1 v hv
    · exact L.one h2 v hv
  keep := by rintro A w w' x vs ⟨v1, v2, rfl, h1, h2⟩ hs hk; exact ⟨v1, v2, rfl, K.keep h1 hs hk, L.keep h2 hs hk⟩
  wide := by rintro A A' w x vs ⟨v1, v2, rfl, h1, h2⟩ hA; exact ⟨v1, v2, rfl, K.wide h1 hA, L.wide h2 hA⟩
  real := by rintro A w x vs ⟨v1, v2, rfl, h1, h2⟩; exact ⟨v1, v2, rfl, K.real h1, L.real h2⟩
def kMap {α β : Type} (K : Kd α) (f : β → α) : Kd β where
  sz := K.sz
  rep := fun A w x vs => K.rep A w (f x) vs
  len := K.len
  one := K.one
  keep := K.keep
  wide := K.wide
  real := K.real

/-! ### Rows of the call's own -/
structure OwnsF {α : Type} (K : Kd α) (e : TypeId) (base : Nat) (F : Nat → Prop) (w : World) (v : Value) (xs : List α) : Prop where
  lt : ∀ k, F k → k < w.heap.size
  apart : ∀ k, v.ownBlock = some k → ¬ F k
  row : ∃ vs, w.ownsRow base e K.sz v xs.length vs ∧ K.reps F w xs vs

def Owns {α : Type} (K : Kd α) (e : TypeId) (base : Nat) (A : Nat → Prop) (w : World) (v : Value) (xs : List α) : Prop :=
  ∃ F, (∀ k, F k → A k) ∧ OwnsF K e base F w v xs

section
variable {α : Type} {K : Kd α} {e : TypeId} {base : Nat} {F A : Nat → Prop} {w w' : World} {v : Value} {xs : List α}

theorem ownsRow_size {n : Nat} {us : List Value} {size : Nat} (h : w.ownsRow base e size v n us) : ∀ k, v.ownBlock = some k → base ≤ k ∧ k < w.heap.size := h.lt
theorem OwnsF.block (h : OwnsF K e base F w v xs) : ∀ k, v.ownBlock = some k → base ≤ k ∧ k < w.heap.size := by
  obtain ⟨vs, h1, _⟩ := h.row
  exact h1.lt
theorem OwnsF.keep {S : Nat → Prop} (h : OwnsF K e base F w v xs) (hk : Keep S w w') (hF : ∀ k, F k → ¬ S k) (hv : ∀ k, v.ownBlock = some k → ¬ S k) : OwnsF K e base F w' v xs := by
  obtain ⟨vs, h1, h2⟩ := h.row
  refine ⟨fun k hf => Nat.lt_of_lt_of_le (h.lt k hf) hk.size, h.apart, vs, ?_, Kd.reps_keep hk.size (fun k hf hlt => hk.block k hlt (hF k hf)) h2⟩
  obtain ⟨hl, hr⟩ := h1
  refine ⟨hl, ?_⟩
  rcases hr with hr | ⟨g, cap, cur, rfl, hb, hh, hrest⟩
  · exact .inl hr
  · have hg : g < w.heap.size := (Array.getElem?_eq_some_iff.1 hh).1
    exact .inr ⟨g, cap, cur, rfl, hb, by rw [hk.block g hg (hv g rfl)]; exact hh, hrest⟩
theorem OwnsF.ext (h : OwnsF K e base F w v xs) (hk : Ext w w') : OwnsF K e base F w' v xs :=
  h.keep (S := fun _ => False) (Keep.of_ext hk) (fun _ _ h => h) (fun _ _ h => h)
theorem Owns.ext (h : Owns K e base A w v xs) (hk : Ext w w') : Owns K e base A w' v xs := by
  obtain ⟨F, h1, h2⟩ := h
  exact ⟨F, h1, h2.ext hk⟩
theorem OwnsF.nil (w : World) (K : Kd α) (e : TypeId) (base : Nat) : OwnsF K e base (fun _ => False) w (.slice none 0 0) [] :=
  ⟨fun _ h => h.elim, fun k h => by simp [Value.ownBlock] at h, [], World.ownsRow_nil _ _ _ _, rfl⟩
theorem OwnsF.form (h : OwnsF K e base F w v xs) : ∃ a c, v = .slice a xs.length c ∧ xs.length ≤ c ∧ c ≤ maxLen := by
  obtain ⟨vs, ⟨hl, hr⟩, h2⟩ := h.row
  rcases hr with ⟨rfl, h0⟩ | ⟨g, cap, cur, rfl, hb, hh, h3, h4, _⟩
  · exact ⟨none, 0, by rw [h0], by omega, by simp [maxLen]⟩
  · exact ⟨_, cap, rfl, h3, h4⟩
theorem Owns.form (h : Owns K e base A w v xs) : ∃ a c, v = .slice a xs.length c ∧ xs.length ≤ c ∧ c ≤ maxLen := by
  obtain ⟨F, _, h⟩ := h
  exact h.form
theorem OwnsF.holds (h : OwnsF K e base F w v xs) : ∃ a c, v = .slice a xs.length c ∧ xs.length ≤ c ∧ c ≤ maxLen ∧ Holds K (fun k => F k ∨ v.ownBlock = some k) w a xs.length xs := by
  obtain ⟨vs, hown, h2⟩ := h.row
  obtain ⟨a, c, rfl, hc, hm⟩ := h.form
  refine ⟨a, c, rfl, hc, hm, rfl, Nat.le_trans hc hm, vs, Kd.reps_wide (fun k hk => .inl hk) h2, fun hn => ?_⟩
  obtain ⟨g, cap, he, hb, hlt⟩ := hown.form hn
  injection he with he1 he2 he3
  subst he1
  refine ⟨g, 0, rfl, .inr rfl, hlt, fun j u hu => ?_⟩
  have := hown.cells (g := g) rfl j u hu
  rwa [show (⟨g, 0, none⟩ : Addr).add j = ⟨g, 0 + j, none⟩ by rw [Addr.add_mid]] at this
theorem OwnsF.holds' {a : Option Addr} {n c : Nat} (h : OwnsF K e base F w (.slice a n c) xs) : Holds K (fun k => F k ∨ (Value.slice a n c).ownBlock = some k) w a n xs ∧ xs.length = n ∧ n ≤ c ∧ c ≤ maxLen := by
  obtain ⟨a', c', he, h1, h2, h3⟩ := h.holds
  injection he with e1 e2 e3
  subst e1 e2 e3
  exact ⟨h3, rfl, h1, h2⟩
theorem Owns.holds (h : Owns K e base A w v xs) : ∃ a c, v = .slice a xs.length c ∧ xs.length ≤ c ∧ c ≤ maxLen ∧ Holds K (fun k => A k ∨ base ≤ k) w a xs.length xs := by
  obtain ⟨F, hF, h⟩ := h
  obtain ⟨a, c, hv, hc, hm, hh⟩ := h.holds
  refine ⟨a, c, hv, hc, hm, hh.wide fun k hk => ?_⟩
  rcases hk with hk | hk
  · exact .inl (hF k hk)
  · exact .inr (h.block k hk).1
theorem Owns.wide {A' : Nat → Prop} (h : Owns K e base A w v xs) (hA : ∀ k, A k → A' k) : Owns K e base A' w v xs := by
  obtain ⟨F, hF, h⟩ := h
  exact ⟨F, fun k hk => hA k (hF k hk), h⟩
theorem OwnsF.lower {base' : Nat} (h : OwnsF K e base F w v xs) (hb : base' ≤ base) : OwnsF K e base' F w v xs := by
  obtain ⟨vs, ⟨hl, hr⟩, h2⟩ := h.row
  refine ⟨h.lt, h.apart, vs, ⟨hl, ?_⟩, h2⟩
  rcases hr with hr | ⟨g, cap, cur, rfl, hb', hrest⟩
  · exact .inl hr
  · exact .inr ⟨g, cap, cur, rfl, Nat.le_trans hb hb', hrest⟩
theorem Owns.lower {base' : Nat} (h : Owns K e base A w v xs) (hb : base' ≤ base) : Owns K e base' A w v xs := by
  obtain ⟨F, hF, h⟩ := h
  exact ⟨F, hF, h.lower hb⟩
end

theorem rangeAt_new (w : World) (vs : List Value) (e : TypeId) : (w.alloc (.cells vs.toArray e)).rangeAt w.heap.size 0 vs := fun j v hv => by
  rw [cell_of_row _ _ _ _ _ _ (heap_alloc_new w _)]
  simpa using hv

/-! ### append -/
section
variable {P : Program} {α : Type} {K : Kd α} {e : TypeId} {base : Nat} {F F2 : Nat → Prop} {w : World} {v : Value} {xs ys : List α}

/-- What is told of an element's type. -/
structure ElemOf (P : Program) (t e : TypeId) (size bytes : Nat) : Prop where
  under : P.underlying t = some (.slice e)
  info : ∃ i z, P.info? e = some i ∧ i.zero = some z ∧ i.size = size ∧ i.bytes = bytes ∧ z.cells.size = size

theorem ElemOf.mk' {P : Program} {t e : TypeId} {size bytes : Nat} {z : Value} (h1 : P.underlying t = some (.slice e)) (h2 : (P.info? e).map (fun i => (i.zero, i.size, i.bytes)) = some (some z, size, bytes)) (h3 : z.cells.size = size) :
    ElemOf P t e size bytes := by
  obtain ⟨i0, hi, hzz⟩ := Option.map_eq_some_iff.1 h2
  simp only [Prod.mk.injEq] at hzz
  exact ⟨h1, i0, z, hi, hzz.1, hzz.2.1, hzz.2.2, h3⟩

theorem run_append_reps {t ty : TypeId} {bytes : Nat} (he : ElemOf P t e K.sz bytes) (hsz : 0 < K.sz) (hown : OwnsF K e base F w v xs)
    (b o m c : Nat) (hm : ys.length = m) (hpos : 0 < m) (news : List Value) (hr : K.reps F2 w ys news) (hat : w.rangeAt b o news) (hF2 : ∀ k, F2 k → k < w.heap.size ∧ v.ownBlock ≠ some k)
    (h63 : xs.length + m ≤ maxLen) (hbytes : (xs.length + m) * bytes ≤ 140737488355328) (hbase : base ≤ w.heap.size) :
    ∃ g cap w', (Builtin.append_ #[t, t] ty #[v, .slice (some ⟨b, o, none⟩) m c]).run P w = .ok (.slice (some ⟨g, 0, none⟩) (xs ++ ys).length cap) w' ∧
      OwnsF K e base (fun k => F k ∨ F2 k) w' (.slice (some ⟨g, 0, none⟩) (xs ++ ys).length cap) (xs ++ ys) ∧ w.grownBy w' v.ownBlock ∧ (v.ownBlock = some g ∨ g = w.heap.size) ∧ base ≤ g ∧ g < w'.heap.size := by
  obtain ⟨vs, hrow, hreps⟩ := hown.row
  obtain ⟨i, z, hi, hz, hs1, hs2, hs3⟩ := he.info
  have hl : (xs ++ ys).length = xs.length + m := by rw [List.length_append, hm]
  obtain ⟨g, cap, w', hrun, hrow', hg, hwhere, hlt⟩ := run_append_lies (P := P) w t ty base e i z K.sz bytes he.under hi hz hs1 hs2 hs3 hsz v xs.length vs hrow
    ⟨b, o, none⟩ m c news (by rw [Kd.reps_len hr, hm]) (fun j u hu => by rw [Addr.add_mid]; exact hat j u hu) (Kd.reps_one hr) hpos h63 hbytes hbase w.heap.size rfl
  have hkeep := Keep.of_grown hg
  refine ⟨g, cap, w', by rw [hl]; exact hrun, ⟨?_, ?_, vs ++ news, by rw [hl]; exact hrow', ?_⟩, hg, hwhere, ?_, hlt⟩
  · rintro k (hk | hk)
    · exact Nat.lt_of_lt_of_le (hown.lt k hk) hg.size
    · exact Nat.lt_of_lt_of_le (hF2 k hk).1 hg.size
  · intro k hk hF
    have hkg : g = k := by simpa [Value.ownBlock] using hk
    subst hkg
    rcases hwhere with h | h
    · rcases hF with hF | hF
      · exact hown.apart _ h hF
      · exact (hF2 _ hF).2 h
    · subst h
      rcases hF with hF | hF
      · have := hown.lt _ hF; omega
      · have := (hF2 _ hF).1; omega
  · refine Kd.reps_append (Kd.reps_wide (fun k hk => .inl hk) (Kd.reps_keep hg.size (fun k hk hlt => hg.block k hlt fun hh => hown.apart k hh.symm hk) hreps))
      (Kd.reps_wide (fun k hk => .inr hk) (Kd.reps_keep hg.size (fun k hk hlt => hg.block k hlt fun hh => (hF2 k hk).2 hh.symm) hr))
  · exact (hrow'.lt g rfl).1

/-- The same in a walk, in a region in the text's order. -/
theorem wpList_append_reps {ops : Array Oper} {rest : List Oper} {o : Oper} {a : Act} {Q : Exit → Act → World → Prop} (hgd : o.guard = none) (s x : Operand) (t : TypeId)
    (ho : o.op = .call { callee := .builtin .append, args := #[s, x], argTypes := #[t, t] }) {bytes : Nat} (he : ElemOf P t e K.sz bytes) (hsz : 0 < K.sz) (hs : a.eval s = v) (n : Nat) (hn : xs.length = n) (hown : OwnsF K e base F w v xs)
    (b o' m c : Nat) (hx : a.eval x = .slice (some ⟨b, o', none⟩) m c) (ys : List α) (hm : ys.length = m) (hpos : 0 < m) (news : List Value) (hr : K.reps F2 w ys news) (hat : w.rangeAt b o' news) (hF2 : ∀ k, F2 k → k < w.heap.size ∧ v.ownBlock ≠ some k)
    (h63 : n + m ≤ maxLen) (hbytes : (n + m) * bytes ≤ 140737488355328) (hbase : base ≤ w.heap.size)
    (h : ∀ g cap w', OwnsF K e base (fun k => F k ∨ F2 k) w' (.slice (some ⟨g, 0, none⟩) (n + m) cap) (xs ++ ys) → w.grownBy w' v.ownBlock → (v.ownBlock = some g ∨ g = w.heap.size) → base ≤ g → g < w'.heap.size →
      wpList P ops Q rest (a.put o.dst (.slice (some ⟨g, 0, none⟩) (n + m) cap)) w') : wpList P ops Q (o :: rest) a w :=
  wpList_plain hgd fun K' hK => by
    subst hn
    obtain ⟨g, cap, w', hrun, h2, h3, h4, h5, h6⟩ := run_append_reps (P := P) (ty := o.type) he hsz hown b o' m c hm hpos news hr hat hF2 h63 hbytes hbase
    have hl : (xs ++ ys).length = xs.length + m := by rw [List.length_append, hm]
    rw [hl] at hrun h2
    unfold Oper.wp execOp
    simp only [ho, resolve, invoke, builtin, Sem.run_bind, Sem.run_pure, Result.andThen_ok, List.map_toArray, List.map_cons, List.map_nil, hs, hx, hrun]
    exact hK _ _ (h g cap w' h2 h3 h4 h5 h6)

/-- The same in a region that draws its order. -/
theorem step_append_reps {ops : Array Oper} {o : Oper} {a : Act} {K' : Act → World → Prop} {Q : Exit → Act → World → Prop} {E : Prop} (hgd : o.guard = none) (s x : Operand) (t : TypeId)
    (ho : o.op = .call { callee := .builtin .append, args := #[s, x], argTypes := #[t, t] }) {bytes : Nat} (he : ElemOf P t e K.sz bytes) (hsz : 0 < K.sz) (hs : a.eval s = v) (n : Nat) (hn : xs.length = n) (hown : OwnsF K e base F w v xs)
    (b o' m c : Nat) (hx : a.eval x = .slice (some ⟨b, o', none⟩) m c) (ys : List α) (hm : ys.length = m) (hpos : 0 < m) (news : List Value) (hr : K.reps F2 w ys news) (hat : w.rangeAt b o' news) (hF2 : ∀ k, F2 k → k < w.heap.size ∧ v.ownBlock ≠ some k)
    (h63 : n + m ≤ maxLen) (hbytes : (n + m) * bytes ≤ 140737488355328) (hbase : base ≤ w.heap.size)
    (h : ∀ g cap w', OwnsF K e base (fun k => F k ∨ F2 k) w' (.slice (some ⟨g, 0, none⟩) (n + m) cap) (xs ++ ys) → w.grownBy w' v.ownBlock → (v.ownBlock = some g ∨ g = w.heap.size) → base ≤ g → g < w'.heap.size →
      K' (a.put o.dst (.slice (some ⟨g, 0, none⟩) (n + m) cap)) w') : if Region.wanted o (yielded ops a.tmps) = true then Oper.wp P o a w K' Q else E := by
  have hw : Region.wanted o (yielded ops a.tmps) = true := by simp [Region.wanted, hgd]
  rw [if_pos hw]
  subst hn
  obtain ⟨g, cap, w', hrun, h2, h3, h4, h5, h6⟩ := run_append_reps (P := P) (ty := o.type) he hsz hown b o' m c hm hpos news hr hat hF2 h63 hbytes hbase
  have hl : (xs ++ ys).length = xs.length + m := by rw [List.length_append, hm]
  rw [hl] at hrun h2
  unfold Oper.wp execOp
  simp only [ho, resolve, invoke, builtin, Sem.run_bind, Sem.run_pure, Result.andThen_ok, List.map_toArray, List.map_cons, List.map_nil, hs, hx, hrun]
  exact h g cap w' h2 h3 h4 h5 h6

theorem run_append_none' (w : World) {t ty e : TypeId} {size n c : Nat} {us : List Value} {i : TypeInfo} (ht : P.underlying t = some (.slice e)) (hi : P.info? e = some i) (h : w.ownsRow base e size v n us) :
    (Builtin.append_ #[t, t] ty #[v, .slice none 0 c]).run P w = .ok v w := by
  rcases h.2 with ⟨rfl, rfl⟩ | ⟨g, cap, cur, rfl, _, _, hnc, _⟩
  · simp [Builtin.append_, run_underlying ht, sizeOf, typeInfo, hi, Builtin.lenOf, Builtin.firstCells]
  · simp [Builtin.append_, run_underlying ht, sizeOf, typeInfo, hi, Builtin.lenOf, Builtin.firstCells, hnc, storeCells]

/-- 'append(v, s...)', s any slice that is read. -/
theorem run_append_holds {t ty : TypeId} {bytes : Nat} (he : ElemOf P t e K.sz bytes) (hsz : 0 < K.sz) (hown : OwnsF K e base F w v xs)
    (a : Option Addr) (m c : Nat) (hh : Holds K F2 w a m ys) (hF2 : ∀ k, F2 k → k < w.heap.size → v.ownBlock ≠ some k)
    (h63 : xs.length + m ≤ maxLen) (hbytes : (xs.length + m) * bytes ≤ 140737488355328) (hbase : base ≤ w.heap.size) :
    ∃ v' w', (Builtin.append_ #[t, t] ty #[v, .slice a m c]).run P w = .ok v' w' ∧
      OwnsF K e base (fun k => F k ∨ (F2 k ∧ k < w.heap.size)) w' v' (xs ++ ys) ∧ w.grownBy w' v.ownBlock ∧ (v'.ownBlock = v.ownBlock ∨ v'.ownBlock = some w.heap.size) := by
  obtain ⟨vs, hrow, hreps⟩ := hown.row
  obtain ⟨i, z, hi, hz, hs1, hs2, hs3⟩ := he.info
  obtain ⟨hlen, hmax, news, hnews, hat⟩ := hh.real
  have fin : ∀ v' w', w'.ownsRow base e K.sz v' (xs.length + m) (vs ++ news) → w.grownBy w' v.ownBlock → (v'.ownBlock = v.ownBlock ∨ v'.ownBlock = some w.heap.size) →
      OwnsF K e base (fun k => F k ∨ (F2 k ∧ k < w.heap.size)) w' v' (xs ++ ys) := by
    intro v' w' hrow' hg hwhere
    refine ⟨?_, ?_, vs ++ news, by rw [List.length_append, hlen]; exact hrow', ?_⟩
    · rintro k (hk | hk)
      · exact Nat.lt_of_lt_of_le (hown.lt k hk) hg.size
      · exact Nat.lt_of_lt_of_le hk.2 hg.size
    · intro k hk hF
      rcases hwhere with h | h
      · rw [h] at hk
        rcases hF with hF | hF
        · exact hown.apart _ hk hF
        · exact hF2 _ hF.1 hF.2 hk
      · rw [h] at hk
        obtain rfl : w.heap.size = k := by simpa using hk
        rcases hF with hF | hF
        · have := hown.lt _ hF; omega
        · have := hF.2; omega
    · refine Kd.reps_append (Kd.reps_wide (fun k hk => .inl hk) (Kd.reps_keep hg.size (fun k hk hlt => hg.block k hlt fun hh => hown.apart k hh.symm hk) hreps))
        (Kd.reps_wide (fun k hk => .inr hk) (Kd.reps_keep hg.size (fun k hk hlt => hg.block k hlt fun hh => hF2 k hk.1 hk.2 hh.symm) hnews))
  cases a with
  | none =>
    have h0 : m = 0 := by
      rcases Nat.eq_zero_or_pos m with h0 | h0
      · exact h0
      · obtain ⟨b, o, hh, _⟩ := hat h0; cases hh
    subst h0
    obtain rfl := List.eq_nil_of_length_eq_zero hlen
    have hn0 : news = [] := hnews
    subst hn0
    have hg : w.grownBy w v.ownBlock := ⟨rfl, rfl, rfl, Nat.le_refl _, fun _ _ _ => rfl⟩
    exact ⟨v, w, run_append_none' w he.under hi hrow, fin v w (by simpa using hrow) hg (.inl rfl), hg, .inl rfl⟩
  | some ad =>
    have hne : ∀ j u, news[j]? = some u → w.cell? (ad.add j) = some u := by
      intro j u hu
      rcases Nat.eq_zero_or_pos m with h0 | h0
      · subst h0
        obtain rfl := List.eq_nil_of_length_eq_zero hlen
        have hn0 : news = [] := hnews
        subst hn0
        simp at hu
      · obtain ⟨b, o, hh, _, _, hr⟩ := hat h0
        cases hh
        rw [Addr.add_mid]
        exact hr j u hu
    obtain ⟨v', w', hrun, hrow', hg, _, hwhere⟩ := run_append_own_at (P := P) w base t ty e i z K.sz bytes he.under hi hz hs1 hs2 hs3 hsz v xs.length vs hrow ad m c news
      (by rw [Kd.reps_len hnews, hlen]) hne (Kd.reps_one hnews) h63 hbytes hbase
    exact ⟨v', w', hrun, fin v' w' hrow' hg hwhere, hg, hwhere⟩

theorem wpList_append_holds {ops : Array Oper} {rest : List Oper} {o : Oper} {a : Act} {Q : Exit → Act → World → Prop} (hgd : o.guard = none) (s x : Operand) (t : TypeId)
    (ho : o.op = .call { callee := .builtin .append, args := #[s, x], argTypes := #[t, t] }) {bytes : Nat} (he : ElemOf P t e K.sz bytes) (hsz : 0 < K.sz) (hs : a.eval s = v) (hown : OwnsF K e base F w v xs)
    (ad : Option Addr) (m c : Nat) (hx : a.eval x = .slice ad m c) (hh : Holds K F2 w ad m ys) (hF2 : ∀ k, F2 k → k < w.heap.size → v.ownBlock ≠ some k)
    (h63 : xs.length + m ≤ maxLen) (hbytes : (xs.length + m) * bytes ≤ 140737488355328) (hbase : base ≤ w.heap.size)
    (h : ∀ v' w', OwnsF K e base (fun k => F k ∨ (F2 k ∧ k < w.heap.size)) w' v' (xs ++ ys) → w.grownBy w' v.ownBlock → (v'.ownBlock = v.ownBlock ∨ v'.ownBlock = some w.heap.size) →
      wpList P ops Q rest (a.put o.dst v') w') : wpList P ops Q (o :: rest) a w :=
  wpList_plain hgd fun K' hK => by
    obtain ⟨v', w', hrun, h2, h3, h4⟩ := run_append_holds (P := P) (ty := o.type) he hsz hown ad m c hh hF2 h63 hbytes hbase
    unfold Oper.wp execOp
    simp only [ho, resolve, invoke, builtin, Sem.run_bind, Sem.run_pure, Result.andThen_ok, List.map_toArray, List.map_cons, List.map_nil, hs, hx, hrun]
    exact hK _ _ (h v' w' h2 h3 h4)

theorem OwnsF.iff {F' : Nat → Prop} (h : OwnsF K e base F w v xs) (hF : ∀ k, F k ↔ F' k) : OwnsF K e base F' w v xs := by
  obtain rfl : F = F' := funext fun k => propext (hF k)
  exact h

/-- 'append(v, ..)' where there is room. -/
theorem run_append_room_reps {t ty : TypeId} {bytes : Nat} (he : ElemOf P t e K.sz bytes) (g cap : Nat) (hown : OwnsF K e base F w (.slice (some ⟨g, 0, none⟩) xs.length cap) xs)
    (b o m c : Nat) (hm : ys.length = m) (news : List Value) (hr : K.reps F2 w ys news) (hat : w.rangeAt b o news) (hF2 : ∀ k, F2 k → k < w.heap.size ∧ k ≠ g)
    (hroom : xs.length + m ≤ cap) :
    ∃ w', (Builtin.append_ #[t, t] ty #[.slice (some ⟨g, 0, none⟩) xs.length cap, .slice (some ⟨b, o, none⟩) m c]).run P w = .ok (.slice (some ⟨g, 0, none⟩) (xs ++ ys).length cap) w' ∧
      OwnsF K e base (fun k => F k ∨ F2 k) w' (.slice (some ⟨g, 0, none⟩) (xs ++ ys).length cap) (xs ++ ys) ∧ w.grownBy w' (some g) := by
  obtain ⟨vs, hrow, hreps⟩ := hown.row
  obtain ⟨i, z, hi, hz, hs1, hs2, hs3⟩ := he.info
  have hl : (xs ++ ys).length = xs.length + m := by rw [List.length_append, hm]
  obtain ⟨w', hrun, hrow', hg⟩ := run_append_fits (P := P) w base t ty e i K.sz he.under hi hs1 g xs.length cap vs hrow ⟨b, o, none⟩ m c news (by rw [Kd.reps_len hr, hm])
    (fun j u hu => by rw [Addr.add_mid]; exact hat j u hu) (Kd.reps_one hr) hroom
  have hap : ∀ k, F k → k ≠ g := fun k hk hkg => hown.apart k (by rw [hkg]; rfl) hk
  refine ⟨w', by rw [hl]; exact hrun, ⟨?_, ?_, vs ++ news, by rw [hl]; exact hrow', ?_⟩, hg⟩
  · rintro k (hk | hk)
    · exact Nat.lt_of_lt_of_le (hown.lt k hk) hg.size
    · exact Nat.lt_of_lt_of_le (hF2 k hk).1 hg.size
  · intro k hk hF
    have hkg : g = k := Option.some.inj hk
    rcases hF with hF | hF
    · exact hap k hF hkg.symm
    · exact (hF2 k hF).2 hkg.symm
  · refine Kd.reps_append (Kd.reps_wide (fun k hk => .inl hk) (Kd.reps_keep hg.size (fun k hk hlt => hg.block k hlt fun hh => hap k hk (Option.some.inj hh)) hreps))
      (Kd.reps_wide (fun k hk => .inr hk) (Kd.reps_keep hg.size (fun k hk hlt => hg.block k hlt fun hh => (hF2 k hk).2 (Option.some.inj hh)) hr))

theorem step_append_room_reps {ops : Array Oper} {o : Oper} {a : Act} {K' : Act → World → Prop} {Q : Exit → Act → World → Prop} {E : Prop} (hgd : o.guard = none) (s x : Operand) (t : TypeId)
    (ho : o.op = .call { callee := .builtin .append, args := #[s, x], argTypes := #[t, t] }) {bytes : Nat} (he : ElemOf P t e K.sz bytes) (g cap n : Nat) (hs : a.eval s = .slice (some ⟨g, 0, none⟩) n cap) (hn : xs.length = n)
    (hown : OwnsF K e base F w (.slice (some ⟨g, 0, none⟩) n cap) xs)
    (b o' m c : Nat) (hx : a.eval x = .slice (some ⟨b, o', none⟩) m c) (ys : List α) (hm : ys.length = m) (news : List Value) (hr : K.reps F2 w ys news) (hat : w.rangeAt b o' news) (hF2 : ∀ k, F2 k → k < w.heap.size ∧ k ≠ g)
    (hroom : n + m ≤ cap)
    (h : ∀ w', OwnsF K e base (fun k => F k ∨ F2 k) w' (.slice (some ⟨g, 0, none⟩) (n + m) cap) (xs ++ ys) → w.grownBy w' (some g) →
      K' (a.put o.dst (.slice (some ⟨g, 0, none⟩) (n + m) cap)) w') : if Region.wanted o (yielded ops a.tmps) = true then Oper.wp P o a w K' Q else E := by
  have hw : Region.wanted o (yielded ops a.tmps) = true := by simp [Region.wanted, hgd]
  rw [if_pos hw]
  subst hn
  obtain ⟨w', hrun, h2, h3⟩ := run_append_room_reps (P := P) (ty := o.type) he g cap hown b o' m c hm news hr hat hF2 hroom
  have hl : (xs ++ ys).length = xs.length + m := by rw [List.length_append, hm]
  rw [hl] at hrun h2
  unfold Oper.wp execOp
  simp only [ho, resolve, invoke, builtin, Sem.run_bind, Sem.run_pure, Result.andThen_ok, List.map_toArray, List.map_cons, List.map_nil, hs, hx, hrun]
  exact h w' h2 h3

/-- What leads nowhere. -/
def Kd.Flat {α : Type} (K : Kd α) : Prop := ∀ A A' w w' x vs, K.rep A w x vs → K.rep A' w' x vs
theorem Kd.Flat.reps {α : Type} {K : Kd α} (h : K.Flat) {A A' : Nat → Prop} {w w' : World} : ∀ {xs : List α} {vs : List Value}, K.reps A w xs vs → K.reps A' w' xs vs
  | [], vs, hr => hr
  | x :: xs, vs, hr => by
    obtain ⟨v1, v2, rfl, h1, h2⟩ := hr
    exact ⟨v1, v2, rfl, h _ _ _ _ _ _ h1, Kd.Flat.reps h h2⟩
theorem OwnsF.flat (hK : K.Flat) (h : OwnsF K e base F w v xs) : OwnsF K e base (fun _ => False) w v xs := by
  obtain ⟨vs, h1, h2⟩ := h.row
  exact ⟨fun _ hf => hf.elim, fun _ _ hf => hf, vs, h1, hK.reps h2⟩
theorem flat_byte : kByte.Flat := fun _ _ _ _ _ _ h => h
theorem flat_bool : kBool.Flat := fun _ _ _ _ _ _ h => h
theorem flat_str : kStr.Flat := fun _ _ _ _ _ _ h => h
theorem flat_int (k : IntKind) : (kInt k).Flat := fun _ _ _ _ _ _ h => h

/-- A new row, its cells written out. -/
theorem OwnsF.lit {xs : List α} {vs : List Value} (w : World) (K : Kd α) (e : TypeId) (base : Nat) (F : Nat → Prop) (hr : K.reps F w xs vs) (hF : ∀ k, F k → k < w.heap.size) (hb : base ≤ w.heap.size) (hm : xs.length ≤ maxLen) :
    OwnsF K e base F (w.alloc (.cells vs.toArray e)) (.slice (some ⟨w.heap.size, 0, none⟩) xs.length xs.length) xs :=
  ⟨fun k hk => by have := hF k hk; simp; omega, fun k hk hf => by
    have hkg : w.heap.size = k := by simpa [Value.ownBlock] using hk
    have := hF k hf
    omega, vs, by simpa using World.ownsRow_lit (base := base) (e := e) w vs.toArray xs.length hb hm (by simpa using Kd.reps_len hr), Kd.reps_keep (by simp) (fun k hk hlt => Below.heap_alloc w _ k hlt) hr⟩
end

/-! ### What is known of old memory holds in every world behind -/
theorem ext_alloc {w W : World} (h : Ext w W) (o : Obj) : Ext w (W.alloc o) := h.trans (Ext.alloc _ _)
theorem ext_drew {w W : World} (h : Ext w W) : Ext w W.drew := Below.drew h
theorem ext_drewN' {w W : World} (h : Ext w W) (n : Nat) : Ext w (W.drewN n) := Ext.trans h (ext_drewN _ _)
theorem ext_same (w : World) : Ext w w := Ext.refl w
structure After (w : World) where
  at_ : World
  ext : Ext w at_
instance (w : World) : Nonempty (After w) := ⟨⟨w, Ext.refl w⟩⟩
theorem After.of {w W : World} (h : Ext w W) (e : After W) : Ext w e.at_ := Ext.trans h e.ext
attribute [go_sem] ext_alloc ext_drew ext_drewN' ext_same After.of

section
variable {P : Program}
theorem wp_region_ext {id : Nat} {Q : Exit → Act → World → Prop} {a : Act} {w : World} {l : List Oper} (hm : P.follows .mixedOrders = true) (hB : Region.lexB .any l.toArray = true)
    (h : wpQuiet P l.toArray (fun w' => ∃ e : After w, w' = e.at_) (fun a' => ∀ w', (∃ e : After w, w' = e.at_) → Q .normal a' w') l a) : (Code.region id l.toArray true).wp P Q a w :=
  wp_region_quiet (C := fun w' => ∃ e : After w, w' = e.at_) hm hB ⟨⟨_, Ext.drew w⟩, rfl⟩ (by simpa using h)
theorem Calls.quiet_ext {f : FuncId} {args : Array Value} {w : World} {e : After w} {v : Value} (h : Calls P f args e.at_ fun r w' => r = .returned v ∧ Ext e.at_ w') :
    Calls P f args e.at_ fun r w'' => r = .returned v ∧ ∃ e2 : After w, w'' = e2.at_ :=
  h.mono fun _ w' ⟨he, hx⟩ => ⟨he, ⟨w', Ext.trans e.ext hx⟩, rfl⟩

theorem run_convert_holds {w : World} {src dst e : TypeId} (hs : P.underlying src = some (.slice e)) (he : P.underlying e = some (.int .u8)) (hd : P.underlying dst = some .string)
    {A : Nat → Prop} {a : Option Addr} {n c : Nat} {xs : List UInt8} (h : Holds kByte A w a n xs) : (convert src dst (.slice a n c)).run P w = .ok (.string (mkS xs)) w := by
  obtain ⟨hl, hm, vs, hr, hat⟩ := h
  have hvs : ∀ {xs : List UInt8} {vs : List Value}, kByte.reps A w xs vs → vs = xs.map fun x => .int .u8 (x.toNat : Int) := by
    intro xs
    induction xs with
    | nil => intro vs h; exact h
    | cons x xs ih =>
      rintro vs ⟨v1, v2, rfl, h1, h2⟩
      rw [ih h2, show v1 = [.int .u8 (x.toNat : Int)] from h1]; rfl
  have hvs := hvs hr
  have hid : xs.map ((fun n : Int => UInt8.ofNat n.toNat) ∘ fun x : UInt8 => (x.toNat : Int)) = xs := by
    conv => rhs; rw [← List.map_id xs]
    refine List.map_congr_left fun x _ => ?_
    simp
  have hstr : strOfNums (xs.map fun x => (x.toNat : Int)) = mkS xs := by
    apply ByteArray.ext
    apply Array.ext'
    rw [strOfNums_data, mkS_dataList, List.map_map, hid]
  cases a with
  | none =>
    have h0 : n = 0 := by
      rcases Nat.eq_zero_or_pos n with h0 | h0
      · exact h0
      · obtain ⟨b, o, hh, _⟩ := hat h0; cases hh
    subst h0
    obtain rfl := List.eq_nil_of_length_eq_zero hl
    exact run_convert_bytes_nil w src e hs he 0 c dst hd
  | some ad =>
    have hcell : ∀ j v, (xs.map fun x => Value.int .u8 (x.toNat : Int))[j]? = some v → w.cell? (ad.add j) = some v := by
      intro j v hv
      have hj : j < xs.length := by
        rcases Nat.lt_or_ge j xs.length with h | h
        · exact h
        · simp [List.getElem?_eq_none h] at hv
      obtain ⟨b, o, hh, _, _, hra⟩ := hat (by omega)
      cases hh
      rw [Addr.add_mid]
      exact hra j v (by rw [hvs]; exact hv)
    have hl2 : (loadCells ad n).run P w = .ok ((xs.map fun x => (x.toNat : Int)).map (Value.int .u8)).toArray w := by
      have := run_loadCells_list (P := P) w ad (xs.map fun x => Value.int .u8 (x.toNat : Int)) hcell
      simpa [hl, Function.comp_def] using this
    rw [run_convert_bytes_string w src dst e _ n c hs he hd, run_bytesToString w _ n c _ hl2, foldl_push_bytes, ← hstr]
    simp [strOfNums, ByteArray.empty, ByteArray.emptyWithCapacity]
    rfl
end
end Go.BK

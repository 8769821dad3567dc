/- Part of the proofs: cmpS_tot, ext_put, ownsRow_grow, strCompare, sort_strs, compact_strs: each says what its head says. -/
import Derived.Test.YtaenackibigojaaDoorP1
import Derived.Test.YtaenackibigojaaDoorShelf
import Derived.Lib.OwnBridge
import Derived.Lib.SortBridge
set_option linter.unusedVariables false
set_option linter.unusedSimpArgs false
namespace Go.BK
open Go.Sort Go.RowKit Go.Lib Go.Shelf Go.Proofs
theorem reps_kStr {A : Nat → Prop} {w : World} : ∀ {l : List Str} {vs : List Value}, kStr.reps A w l vs ↔ (vs = l.map Proofs.encStr ∧ ∀ x ∈ l, x.length ≤ maxLen)
  | [], vs => by simp [Kd.reps]
  | x :: l, vs => by
    simp only [Kd.reps, List.map_cons, List.mem_cons, forall_eq_or_imp]
    constructor
    · rintro ⟨u, r, rfl, ⟨rfl, hx⟩, hr⟩
      obtain ⟨rfl, h⟩ := reps_kStr.1 hr
      exact ⟨rfl, hx, by simpa using h⟩
    · rintro ⟨rfl, hx, h⟩
      exact ⟨[.string (mkS x)], l.map Proofs.encStr, rfl, ⟨rfl, hx⟩, reps_kStr.2 ⟨rfl, h⟩⟩

theorem cmpS_ltOf (x y : Str) : ltOf cmpS x y = ltS x y := by
  unfold ltOf
  rcases str_lt_tri x y with h | h | h
  · rw [cmpS_lt h, ltS_iff.2 h]; rfl
  · subst h; rw [cmpS_eq, ltS_false.2 (str_lt_irrefl x)]; rfl
  · rw [cmpS_gt h, ltS_false.2 (fun h' => str_lt_irrefl x (str_lt_trans h' h))]; rfl
theorem cmpS_swo : SWO (ltOf cmpS) where
  irrefl x := by rw [cmpS_ltOf]; exact ltS_false.2 (str_lt_irrefl x)
  trans x y z h1 h2 := by rw [cmpS_ltOf] at *; exact ltS_iff.2 (str_lt_trans (ltS_iff.1 h1) (ltS_iff.1 h2))
  ntrans x y z h1 h2 := by
    rw [cmpS_ltOf] at *
    rw [ltS_false] at *
    intro h
    rcases str_le_of_not_lt h1 with h3 | h3
    · rcases str_le_of_not_lt h2 with h4 | h4
      · exact str_lt_irrefl _ (str_lt_trans h (str_lt_trans h4 h3))
      · subst h4; exact h1 h
    · subst h3; exact h2 h
theorem cmpS_tot (x y : Str) (h1 : ltOf cmpS x y = false) (h2 : ltOf cmpS y x = false) : x = y := by
  rw [cmpS_ltOf] at *
  rcases str_le_of_not_lt (ltS_false.1 h1) with h3 | h3
  · exact absurd h3 (ltS_false.1 h2)
  · exact h3

theorem ext_put {B : Nat} {w0 w : World} (h : Below B w0 w) (hw : B ≤ w.heap.size) {g q : Nat} {enc : Str → Value} (d : Array Str) (os : Array Obj) (hg : B ≤ g) : Below B w0 (grow (putRow enc (Sort.ahead w q) g 0 d) os) := by
  have h1 := below_putRow (q := q) (d := d) (enc := enc) h hg
  refine ⟨h1.os, h1.tape, h1.output, ?_, fun k hk => ?_⟩
  · have := h1.size
    simp only [grow, Array.size_append]; omega
  · rw [← h1.block k hk]
    exact heap_grow_old _ _ (by simp [putRow, mapBlock, Sort.ahead]; omega)

theorem ownsRow_grow {w : World} {os : Array Obj} {base : Nat} {e : TypeId} {size n : Nat} {v : Value} {us : List Value} (h : w.ownsRow base e size v n us) : (grow w os).ownsRow base e size v n us := by
  refine ⟨h.1, ?_⟩
  rcases h.2 with h | ⟨g, cap, cur, rfl, hb, hh, hr⟩
  · exact .inl h
  · refine .inr ⟨g, cap, cur, rfl, hb, ?_, hr⟩
    rw [heap_grow_old _ _ (by rcases Nat.lt_or_ge g w.heap.size with h' | h'; exact h'; rw [Array.getElem?_eq_none h'] at hh; cases hh)]
    exact hh
end Go.BK

namespace Go.Proofs.YtaenackibigojaaDoor
open Go.RowKit Go.BK Go.Sort Go.Lib Go.Shelf

theorem strCompare (x y : Str) (W : World) : Calls Tryd.prog 44 #[.string (mkS x), .string (mkS y)] W fun e w' => e = .returned (.int .i64 (cmpS x y)) ∧ ∃ q, w' = W.drewN q := by
  refine (Tryd.strings_Compare (mkS x) (mkS y) W).mono ?_
  intro e w' h
  obtain ⟨rfl, rfl⟩ := h
  exact ⟨by rw [cmpS]; rfl, 0, rfl⟩

/-- slices.SortFunc with strings.Compare, on a row that the caller owns. -/
theorem sort_strs (w0 w : World) (hx : Ext w0 w) (F : Nat → Prop) (e : TypeId) (v : Value) (l : List Str) (h : OwnsF kStr e w0.heap.size F w v l) (hl : l.length < 4611686018427387904) :
    Calls Tryd.prog 43 #[v, .func (.func 44) #[] #[]] w fun r w' =>
      r = .returned (.tuple #[]) ∧ Ext w0 w' ∧ OwnsF kStr e w0.heap.size F w' v (l.mergeSort fun x y => !ltS y x) := by
  obtain ⟨vs, hrow, hreps⟩ := h.row
  obtain ⟨rfl, hmem⟩ := reps_kStr.1 hreps
  by_cases hv : v = .slice none 0 0
  · subst hv
    have h0 : l = [] := by
      have := hrow.2
      rcases this with ⟨_, h0⟩ | ⟨g, cap, cur, he, _⟩
      · exact List.eq_nil_of_length_eq_zero h0
      · cases he
    subst h0
    have hS := AnyF.slices_SortFunc_none (P := Tryd.prog) (ρ := Tryd.laysSlF6_f43_ren) { Tryd.laysSlF6_f43 with } none 0 (.func (.func 44) #[] #[]) w
    refine Calls.mono hS ?_
    rintro r w' ⟨rfl, rfl⟩
    exact ⟨rfl, hx, by simpa using h⟩
  · obtain ⟨g, cap, rfl, hb, hg, hn, hm, hlen, hH⟩ := holds_of_ownsRow hrow hv
    have eg : ∀ args w, (callFunc 44 args).run Tryd.prog w = .ok (.enter 44 args) w := enters_of Tryd.func44 (by kernel_rfl) rfl
    have hcr : CmpReads Tryd.prog 44 #[] Proofs.encStr cmpS g 0 l.toArray.size w := fun _ _ _ _ x y => strCompare x y _
    have hS := Any.slices_SortFunc_total Tryd.laysSlF6_f43 Proofs.encStr (fun _ => rfl) cmpS cmpS_swo 44 #[] g 0 cap l.toArray w eg hcr.lays hH hg (by simpa using hl) cmpS_tot
    have hfe : (fun x y => !(ltOf cmpS) y x) = fun x y => !ltS y x := by funext x y; rw [cmpS_ltOf]
    rw [hfe] at hS
    refine Calls.mono hS ?_
    rintro r w' ⟨rfl, n, os, rfl⟩
    refine ⟨rfl, ext_put hx (Nat.le_trans hx.size (Nat.le_refl _)) _ _ hb, ?_, h.apart, (l.mergeSort fun x y => !ltS y x).map Proofs.encStr, ?_, ?_⟩
    · intro k hk
      have := h.lt k hk
      simp only [sortWorld, grow, Array.size_append]
      refine Nat.lt_of_lt_of_le ?_ (Nat.le_add_right _ _)
      simpa [putRow, mapBlock, Sort.ahead] using this
    · have hy : (l.mergeSort fun x y => !ltS y x).length = l.length := List.length_mergeSort ..
      rw [hy]
      have := ownsRow_putRow (q := n) hrow hy (Nat.le_refl _)
      rw [List.take_of_length_le (Nat.le_of_eq hy)] at this
      exact ownsRow_grow this
    · exact reps_kStr.2 ⟨rfl, fun x hx => hmem x (List.mem_mergeSort.1 hx)⟩
#print axioms sort_strs

/-- slices.Compact on a row that the caller owns. -/
theorem compact_strs (w0 w : World) (hx : Ext w0 w) (F : Nat → Prop) (e : TypeId) (v : Value) (l : List Str) (h : OwnsF kStr e w0.heap.size F w v l) (hl : l.length < 4611686018427387904) :
    Calls Tryd.prog 45 #[v] w fun r w' =>
      ∃ v', r = .returned v' ∧ Ext w0 w' ∧ OwnsF kStr e w0.heap.size F w' v' (Lib.compact l) := by
  obtain ⟨vs, hrow, hreps⟩ := h.row
  obtain ⟨rfl, hmem⟩ := reps_kStr.1 hreps
  by_cases hv : v = .slice none 0 0
  · subst hv
    have h0 : l = [] := by
      have := hrow.2
      rcases this with ⟨_, h0⟩ | ⟨g, cap, cur, he, _⟩
      · exact List.eq_nil_of_length_eq_zero h0
      · cases he
    subst h0
    refine (Tryd.slices_Compact_string_empty none 0 w).mono ?_
    rintro r w' ⟨rfl, rfl⟩
    exact ⟨_, rfl, hx, h⟩
  · obtain ⟨g, cap, rfl, hb, hg, hn, hm, hlen, hH⟩ := holds_of_ownsRow hrow hv
    refine (Tryd.slices_Compact_string g 0 cap l w hH (by omega) hn).mono ?_
    rintro r w' ⟨rfl, q, rfl⟩
    have hcl := compact_length_le l
    refine ⟨_, rfl, ?_, ?_, ?_, (Lib.compact l).map Proofs.encStr, ?_, ?_⟩
    · exact below_putRow hx hb
    · intro k hk
      have := h.lt k hk
      simpa [putRow, mapBlock, Sort.ahead] using this
    · exact h.apart
    · have := ownsRow_putRow (q := q) (ys := Lib.compact l ++ List.replicate (l.length - (Lib.compact l).length) []) hrow (by simp; omega) hcl
      rw [List.take_left'] at this
      · exact this
      · rfl
    · refine reps_kStr.2 ⟨rfl, fun x hx => hmem x ?_⟩
      unfold Lib.compact compactUpTo at hx
      obtain ⟨j, hj, rfl⟩ := List.mem_map.1 hx
      have := List.mem_range.1 (List.mem_filter.1 hj).1
      simp [getElem!_pos, this]
#print axioms compact_strs
end Go.Proofs.YtaenackibigojaaDoor

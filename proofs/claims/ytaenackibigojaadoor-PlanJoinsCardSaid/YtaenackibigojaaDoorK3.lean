/- copy, and rows that grow, at elements of whatever size. -/
import Derived.Test.YtaenackibigojaaDoorK1
import Derived.Laws.IdiomCopy
import Derived.Laws.CopyOwn
import Derived.Lib.AppendZerosOnto
import Derived.Deep.MidRow
set_option linter.unusedVariables false
set_option linter.unusedSimpArgs false
namespace Go.BK
open Go.RowKit

section
variable {P : Program}

theorem run_copy_k (w : World) (dT sT ty elem : TypeId) (size : Nat) (b o dLen dCap : Nat) (a : Addr) (sLen sCap : Nat) (cs : List Value)
    (hu : P.underlying dT = some (.slice elem)) (hs : (P.info? elem).map (·.size) = some size) (hn : cs.length = Nat.min sLen dLen * size)
    (hsrc : ∀ j v, cs[j]? = some v → w.cell? (a.add j) = some v) (hc : ∀ j, j < cs.length → (w.cell? ⟨b, o + j, none⟩).isSome = true) (hf : ∀ j, j < cs.length → w.frozen? ⟨b, o + j, none⟩ = false) (h1 : ∀ v ∈ cs, v.oneCell' = true) :
    (Builtin.copy_ #[dT, sT] ty #[.slice (some ⟨b, o, none⟩) dLen dCap, .slice (some a) sLen sCap]).run P w = .ok (goInt (Nat.min sLen dLen)) (w.setCells b o cs) := by
  have hl := run_loadCells_list (P := P) w a cs hsrc
  have hst := run_storeCells_cells (P := P) b o cs 0 w (by simpa using hc) (by simpa using hf) h1
  cases hq : P.info? elem with
  | none => simp [hq] at hs
  | some i =>
    have hi : i.size = size := by simpa [hq] using hs
    rw [hn] at hl
    simp [Builtin.copy_, run_underlying hu, Builtin.lenOf, Builtin.firstCells, sizeOf, typeInfo, hq, hi, hl, hst]

theorem heap_setCells_other (b : Nat) : ∀ (vs : List Value) (o : Nat) (w : World) (k : Nat), k ≠ b → (w.setCells b o vs).heap[k]? = w.heap[k]?
  | [], _, _, _, _ => rfl
  | v :: r, o, w, k, hk => by rw [World.setCells, heap_setCells_other b r (o + 1) _ k hk, Below.heap_setCell _ _ _ _ hk]
theorem size_setCells (b : Nat) : ∀ (vs : List Value) (o : Nat) (w : World), (w.setCells b o vs).heap.size = w.heap.size
  | [], _, _ => rfl
  | v :: r, o, w => by rw [World.setCells, size_setCells b r (o + 1)]; simp [World.setCell]
theorem os_setCells (b : Nat) : ∀ (vs : List Value) (o : Nat) (w : World), (w.setCells b o vs).os = w.os
  | [], _, _ => rfl
  | v :: r, o, w => by rw [World.setCells, os_setCells b r (o + 1)]; rfl
theorem tape_setCells (b : Nat) : ∀ (vs : List Value) (o : Nat) (w : World), (w.setCells b o vs).tape = w.tape
  | [], _, _ => rfl
  | v :: r, o, w => by rw [World.setCells, tape_setCells b r (o + 1)]; rfl
theorem output_setCells (b : Nat) : ∀ (vs : List Value) (o : Nat) (w : World), (w.setCells b o vs).output = w.output
  | [], _, _ => rfl
  | v :: r, o, w => by rw [World.setCells, output_setCells b r (o + 1)]; rfl
theorem heap_setCells_same (b : Nat) : ∀ (vs : List Value) (o : Nat) (w : World) (cur : List Value) (t : TypeId) (fr : Nat × Nat), w.heap[b]? = some (.cells cur.toArray t fr) → o + vs.length ≤ cur.length →
    (w.setCells b o vs).heap[b]? = some (.cells (splice cur o vs).toArray t fr)
  | [], o, w, cur, t, fr, h, _ => by simpa [splice, World.setCells] using h
  | v :: r, o, w, cur, t, fr, h, hl => by
    simp only [List.length_cons] at hl
    have h1 : (w.setCell ⟨b, o, none⟩ v).heap[b]? = some (.cells (cur.set o v).toArray t fr) := by
      simp [World.setCell, Array.getElem?_modify, h]
    rw [World.setCells, heap_setCells_same b r (o + 1) _ _ t fr h1 (by simp; omega)]
    have hlt : o < cur.length := by omega
    have hto : (cur.take o).length = o := by simp; omega
    have e : cur.set o v = cur.take o ++ v :: cur.drop (o + 1) := by rw [List.set_eq_take_append_cons_drop, if_pos hlt]
    have e1 : (cur.set o v).take (o + 1) = cur.take o ++ [v] := by
      rw [e, List.take_append, hto, List.take_of_length_le (by omega), show o + 1 - o = 1 by omega]; rfl
    have e2 : (cur.set o v).drop (o + 1 + r.length) = cur.drop (o + (r.length + 1)) := by
      rw [e, List.drop_append, hto, List.drop_eq_nil_of_le (by omega), List.nil_append, show o + 1 + r.length - o = r.length + 1 by omega, List.drop_succ_cons, List.drop_drop]
      congr 1; omega
    unfold splice
    rw [e1, e2]
    simp

theorem grown_setCells (w : World) (g o : Nat) (us : List Value) : w.grownBy (w.setCells g o us) (some g) :=
  ⟨os_setCells _ _ _ _, tape_setCells _ _ _ _, output_setCells _ _ _ _, Nat.le_of_eq (size_setCells _ _ _ _).symm, fun k _ hk => heap_setCells_other g us o w k (fun e => hk (by rw [e]))⟩

theorem splice_take {α : Type} (L : List α) (o N : Nat) (us : List α) (h : o + us.length ≤ N) (hL : o ≤ L.length) : (splice L o us).take N = splice (L.take N) o us := by
  unfold splice
  have ht : (L.take o).length = o := by simp; omega
  rw [List.take_append, List.take_append, ht, List.take_take, List.take_take, List.take_of_length_le (show us.length ≤ N - o by omega), List.drop_take, show min N o = o by omega, show min o N = o by omega,
    show N - o - us.length = N - (o + us.length) by omega]

/-- An element of a row of the call's own is written. -/
theorem OwnsF.store {α : Type} {K : Kd α} {e : TypeId} {base : Nat} {F F2 : Nat → Prop} {w : World} {g n cap : Nat} {xs : List α} (h : OwnsF K e base F w (.slice (some ⟨g, 0, none⟩) n cap) xs) (hn : xs.length = n) (i : Nat) (hi : i < n) (y : α) (us : List Value)
    (hy : K.rep F2 w y us) (hF2 : ∀ k, F2 k → k < w.heap.size ∧ k ≠ g) :
    OwnsF K e base (fun k => F k ∨ F2 k) (w.setCells g (i * K.sz) us) (.slice (some ⟨g, 0, none⟩) n cap) (xs.set i y) ∧ w.there g (i * K.sz) us.length := by
  obtain ⟨vs, ⟨hl, hr⟩, hreps⟩ := h.row
  have hus := K.len hy
  have hap : ∀ k, F k → k ≠ g := fun k hk hkg => h.apart k (by rw [hkg]; rfl) hk
  rcases hr with ⟨he, _⟩ | ⟨g', cap', cur, he, hb, hh, hnc, hcm, hcs, htk⟩
  · cases he
  · cases he
    have h1 : i * K.sz + us.length ≤ xs.length * K.sz := by
      rw [hus, ← Nat.succ_mul]; exact Nat.mul_le_mul_right _ (by omega)
    have h2 : xs.length * K.sz ≤ cap * K.sz := Nat.mul_le_mul_right _ hnc
    have hcl : cur.toList.length = cap * K.sz := by rw [Array.length_toList]; exact hcs
    have hfit : i * K.sz + us.length ≤ cur.toList.length := by omega
    have hset := heap_setCells_same g us (i * K.sz) w cur.toList e (0, 0) (by simpa using hh) hfit
    refine ⟨⟨?_, ?_, splice vs (i * K.sz) us, ⟨?_, .inr ⟨g, cap, _, by simp [hn], hb, hset, by simpa using hnc, hcm, ?_, ?_⟩⟩, ?_⟩, ?_⟩
    · intro k hk
      rw [size_setCells]
      rcases hk with hk | hk
      · exact h.lt k hk
      · exact (hF2 k hk).1
    · intro k hk hF
      have hkg : g = k := Option.some.inj hk
      rcases hF with hF | hF
      · exact hap k hF hkg.symm
      · exact (hF2 k hF).2 hkg.symm
    · rw [length_splice _ _ _ (by rw [hl]; exact h1), hl]; simp
    · simp [length_splice _ _ _ hfit, hcs]
    · have hvs : vs.length = xs.length * K.sz := hl
      simp only [List.length_set]
      rw [← htk]
      exact splice_take _ _ _ _ h1 (by omega)
    · have hF' : ∀ k, F k ∨ F2 k → k < w.heap.size → (w.setCells g (i * K.sz) us).heap[k]? = w.heap[k]? := by
        intro k hk _
        refine heap_setCells_other g us _ w k ?_
        rcases hk with hk | hk
        · exact hap k hk
        · exact (hF2 k hk).2
      refine Kd.reps_keep (w := w) (by rw [size_setCells]; exact Nat.le_refl _) hF' ?_
      have e1 : xs.set i y = xs.take i ++ ([y] ++ xs.drop (i + 1)) := by rw [List.set_eq_take_append_cons_drop, if_pos (by omega)]; rfl
      rw [e1]
      unfold splice
      refine Kd.reps_append (Kd.reps_wide (fun k hk => .inl hk) (Kd.reps_take i hreps)) (Kd.reps_append (Kd.reps_wide (fun k hk => .inr hk) (Kd.reps_single hy)) ?_)
      have := Kd.reps_drop (i + 1) hreps
      rw [hus, ← Nat.succ_mul]
      exact Kd.reps_wide (fun k hk => .inl hk) this
    · intro j hj
      refine ⟨by rw [cell_of_row _ _ _ _ _ _ hh]; simp [hcs]; simp at hfit; omega, frozen_of_row _ _ _ _ _ hh⟩

/-- The first ones of a row of the call's own, the whole row's room behind them. -/
theorem OwnsF.front {α : Type} {K : Kd α} {e : TypeId} {base : Nat} {F : Nat → Prop} {w : World} {g n cap : Nat} {xs : List α} (h : OwnsF K e base F w (.slice (some ⟨g, 0, none⟩) n cap) xs) (hn : xs.length = n) (i : Nat) (hi : i ≤ n) :
    OwnsF K e base F w (.slice (some ⟨g, 0, none⟩) i cap) (xs.take i) := by
  obtain ⟨vs, ⟨hl, hr⟩, hreps⟩ := h.row
  have hlt : (xs.take i).length = i := by simp; omega
  rcases hr with ⟨he, _⟩ | ⟨g', cap', cur, he, hb, hh, hnc, hcm, hcs, htk⟩
  · cases he
  · cases he
    have h1 : i * K.sz ≤ xs.length * K.sz := Nat.mul_le_mul_right _ hi
    refine ⟨h.lt, h.apart, vs.take (i * K.sz), ⟨?_, .inr ⟨g, cap, cur, by rw [hlt], hb, hh, by omega, hcm, hcs, ?_⟩⟩, Kd.reps_take i hreps⟩
    · rw [hlt, List.length_take, hl]; omega
    · rw [hlt, ← htk, List.take_take, Nat.min_eq_left h1]

/-- What is written behind a row's elements leaves it. -/
theorem OwnsF.beyond {α : Type} {K : Kd α} {e : TypeId} {base : Nat} {F : Nat → Prop} {w : World} {g n cap : Nat} {xs : List α} (h : OwnsF K e base F w (.slice (some ⟨g, 0, none⟩) n cap) xs) (hn : xs.length = n) (i : Nat) (hi : n ≤ i) (us : List Value)
    (hfit : i * K.sz + us.length ≤ cap * K.sz) :
    OwnsF K e base F (w.setCells g (i * K.sz) us) (.slice (some ⟨g, 0, none⟩) n cap) xs ∧ w.there g (i * K.sz) us.length := by
  obtain ⟨vs, ⟨hl, hr⟩, hreps⟩ := h.row
  have hap : ∀ k, F k → k ≠ g := fun k hk hkg => h.apart k (by rw [hkg]; rfl) hk
  rcases hr with ⟨he, _⟩ | ⟨g', cap', cur, he, hb, hh, hnc, hcm, hcs, htk⟩
  · cases he
  · cases he
    have h1 : xs.length * K.sz ≤ i * K.sz := Nat.mul_le_mul_right _ hi
    have hcl : cur.toList.length = cap * K.sz := by rw [Array.length_toList]; exact hcs
    have hset := heap_setCells_same g us (i * K.sz) w cur.toList e (0, 0) (by simpa using hh) (by omega)
    refine ⟨⟨?_, h.apart, vs, ⟨hl, .inr ⟨g, cap, _, rfl, hb, hset, hnc, hcm, ?_, ?_⟩⟩, ?_⟩, ?_⟩
    · intro k hk; rw [size_setCells]; exact h.lt k hk
    · simp [length_splice _ _ _ (show i * K.sz + us.length ≤ cur.toList.length by omega), hcs]
    · rw [← htk]
      unfold splice
      have ht : (cur.toList.take (i * K.sz)).length = i * K.sz := by simp; simp at hcl; omega
      simp only
      rw [List.take_append, ht, List.take_take, Nat.min_eq_left h1, show xs.length * K.sz - i * K.sz = 0 by omega]
      simp
    · exact Kd.reps_keep (w := w) (by rw [size_setCells]; exact Nat.le_refl _) (fun k hk _ => heap_setCells_other g us _ w k (hap k hk)) hreps
    · intro j hj
      refine ⟨by rw [cell_of_row _ _ _ _ _ _ hh]; simp [hcs]; omega, frozen_of_row _ _ _ _ _ hh⟩

theorem run_clear_k (w : World) (t e ty : TypeId) (z : Value) (ht : P.underlying t = some (.slice e)) (hv : ∀ w, (zeroValue e).run P w = .ok z w) (b o n c : Nat) (hn : 0 < n) (zs : List Value) (hz : (Builtin.zeroCells z.cells n).toList = zs) (h1 : ∀ v ∈ zs, v.oneCell' = true)
    (hc : w.there b o zs.length) : (Builtin.clear_ #[t] ty #[.slice (some ⟨b, o, none⟩) n c]).run P w = .ok (.tuple #[]) (w.setCells b o zs) := by
  have hst := run_storeCells_cells (P := P) b o zs 0 w (fun j hj => by simpa using (hc j hj).1) (fun j hj => by simpa using (hc j hj).2) h1
  simp only [Nat.add_zero] at hst
  obtain ⟨m, rfl⟩ : ∃ m, n = m + 1 := ⟨n - 1, by omega⟩
  simp [Builtin.clear_, run_underlying ht, hv, hz, hst]

/-- A copy into a row of the call's own, known whole. -/
theorem wpList_copy_k {ops : Array Oper} {rest : List Oper} {o : Oper} {a : Act} {w : World} {Q : Exit → Act → World → Prop} (hgd : o.guard = none) (d s : Operand) (dT sT : TypeId)
    (ho : o.op = .call { callee := .builtin .copy, args := #[d, s], argTypes := #[dT, sT] }) (elem size : Nat) (hu : P.underlying dT = some (.slice elem)) (hsz : (P.info? elem).map (·.size) = some size)
    (g off dLen dCap : Nat) (ad : Addr) (sLen sCap : Nat) (hd : a.eval d = .slice (some ⟨g, off, none⟩) dLen dCap) (hs : a.eval s = .slice (some ad) sLen sCap)
    (cur : List Value) (t : TypeId) (hg : w.heap[g]? = some (.cells cur.toArray t (0, 0))) (cs : List Value) (hn : cs.length = Nat.min sLen dLen * size)
    (hsrc : ∀ j v, cs[j]? = some v → w.cell? (ad.add j) = some v) (hfit : off + cs.length ≤ cur.length) (h1 : ∀ v ∈ cs, v.oneCell' = true)
    (h : ∀ w', w'.heap[g]? = some (.cells (splice cur off cs).toArray t (0, 0)) → w.grownBy w' (some g) → wpList P ops Q rest (a.put o.dst (goInt (Nat.min sLen dLen))) w') :
    wpList P ops Q (o :: rest) a w :=
  wpList_plain hgd fun K' hK => by
    have hrun := run_copy_k (P := P) w dT sT o.type elem size g off dLen dCap ad sLen sCap cs hu hsz hn hsrc
      (fun j hj => by rw [cell_of_row _ _ _ _ _ _ hg]; simp; omega) (fun j hj => frozen_of_row _ _ _ _ _ hg) h1
    unfold Oper.wp execOp
    simp only [ho, resolve, invoke, builtin, Sem.run_bind, Sem.run_pure, Result.andThen_ok, List.map_toArray, List.map_cons, List.map_nil, hd, hs, hrun]
    exact hK _ _ (h _ (heap_setCells_same g cs off w cur t _ hg hfit) ⟨by rw [os_setCells], by rw [tape_setCells], by rw [output_setCells], Nat.le_of_eq (size_setCells g cs off w).symm, fun k _ hk => heap_setCells_other g cs off w k (fun e => hk (by rw [e]))⟩)
end
end Go.BK

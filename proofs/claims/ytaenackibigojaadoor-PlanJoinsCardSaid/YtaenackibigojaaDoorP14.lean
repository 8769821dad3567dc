/- Part of the proofs: ext_bytes, reps_kByte, holds_bytes, cell_set_far, equal_value, diff2: each says what its head says. -/
import Derived.Test.YtaenackibigojaaDoorP13
import Derived.Lib.ConvBytes
import Derived.Laws.StructEq
set_option linter.unusedVariables false
set_option linter.unusedSimpArgs false
namespace Go.BK
theorem ext_bytes (w : World) (e : TypeId) (s : ByteArray) : Ext w (Lib.bytesWorld w e s) := by
  refine ⟨rfl, rfl, rfl, by rw [Lib.bytesWorld_size]; omega, fun k hk => Lib.bytesWorld_at_old w e s k hk⟩
@[go_sem] theorem ext_bytes' {w W : World} (h : Ext w W) (e : TypeId) (s : ByteArray) : Ext w (Lib.bytesWorld W e s) := h.trans (ext_bytes _ _ _)
theorem reps_kByte (A : Nat → Prop) (w : World) : ∀ l : List UInt8, kByte.reps A w l (l.map fun x => Value.int .u8 (x.toNat : Int))
  | [] => rfl
  | x :: l => ⟨[.int .u8 (x.toNat : Int)], _, rfl, rfl, reps_kByte A w l⟩
theorem holds_bytes (w : World) (e : TypeId) (s : Str) (h : s.length ≤ maxLen) : Holds kByte (fun k => w.heap.size ≤ k) (Lib.bytesWorld w e (mkS s)) (some ⟨w.heap.size, 0, none⟩) s.length s := by
  refine ⟨rfl, h, _, reps_kByte _ _ s, fun _ => ⟨_, _, rfl, Nat.le_refl _, by rw [Lib.bytesWorld_size]; omega, fun j v hv => ?_⟩⟩
  rw [List.getElem?_map, Option.map_eq_some_iff] at hv
  obtain ⟨x, hx, rfl⟩ := hv
  have hj := (List.getElem?_eq_some_iff.1 hx).1
  have := Lib.bytesWorld_cell w e (mkS s) j (by simpa [mkS, ByteArray.size] using hj)
  rw [Nat.zero_add, this]
  have e1 : (mkS s).data.toList = s := rfl
  rw [e1, List.getD_eq_getElem?_getD, hx]; rfl
theorem cell_set_far {w : World} {b o b' o' : Nat} {v : Value} (h : b ≠ b') : (w.setCell ⟨b', o', none⟩ v).cell? ⟨b, o, none⟩ = w.cell? ⟨b, o, none⟩ := World.cell?_setCell_far _ _ _ _ (fun e => h e.symm)
end Go.BK
namespace Go.Proofs.YtaenackibigojaaDoor
open Go.RowKit Go.BK
set_option maxRecDepth 100000 in
theorem equal_value (x y : Bool) (s t : Str) (w : World) : (Op.equalIn 10000 61 (.agg #[.bool x, .string (mkS s)]) (.agg #[.bool y, .string (mkS t)])).run Tryd.prog w = .ok (x == y && decide (s = t)) w := by
  have u3 := Tryd.underlying4
  have a3 := Tryd.isAgg4
  have z3 := Tryd.sizeOf4
  have u4 := Tryd.underlying9
  have a4 := Tryd.isAgg9
  have z4 := Tryd.sizeOf9
  have hS : Tryd.prog.underlying 61 = some (.struct (Tryd.prog.fieldsOf 61)) := by kernel_rfl
  have hp : Tryd.prog.stoodInHeld 61 = false := by kernel_rfl

  rw [show (10000 : Nat) = 9999 + 1 from rfl, run_equalIn_struct w 9999 61 _ _ hS hp]
  simp only [Program.fieldsOf, Tryd.underlying61]
  go_simp
  by_cases h1 : x = y <;> by_cases h2 : s = t <;> simp [h1, h2]

set_option maxHeartbeats 1000000 in
set_option maxRecDepth 100000 in
theorem diff2 (w : World) (A : Nat → Prop) (aa : Option Addr) (na ca : Nat) (la : List File) (ab : Option Addr) (nb cb : Nat) (lb : List File) (s : Str) (BA BB : Nat) (hbA : BA < w.heap.size) (hBA : w.cell? ⟨BA, 0, none⟩ = some (.slice aa na ca)) (hbB : BB < w.heap.size) (hBB : w.cell? ⟨BB, 0, none⟩ = some (.slice ab nb cb))
    (hA : Holds kFile A w aa na la) (hmA : Mild la) (hsA : Srt la) (hB : Holds kFile A w ab nb lb) (hmB : Mild lb) (hsB : Srt lb) (hsl : s.length ≤ maxLen) :
    Calls Tryd.prog 34 #[.string (mkS s), .pointer (some ⟨BB, 0, none⟩), .pointer (some ⟨BA, 0, none⟩)] w fun e w' => ∃ us, e = .returned (.tuple #[.agg us.toArray, .bool (has lb s && !(dataOf la s == dataOf lb s))]) ∧ Ext w w' ∧ kOp.rep (fun k => w.heap.size ≤ k) w' (putS s ((dataOf lb s).getD [])) us := by
  have hneq := equal_value
  have hgd : Tryd.prog.eqGuardType Tryd.prog.depth 61 = false := by kernel_rfl
  have kc := fun W => Lib.run_convert_string_bytes (P := Tryd.prog) W 9 27 5 (mkS ((dataOf lb s).getD [])) Tryd.underlying9 Tryd.underlying27 Tryd.underlying5
  obtain ⟨W0, hW0⟩ : ∃ W, w.alloc (.cells #[.int .i64 0, .string ⟨#[]⟩, .slice none 0 0, .int .i64 0, .slice none 0 0, .int .i64 0, .int .u8 0] 49) = W := ⟨_, rfl⟩
  have hx0 : Ext w W0 := by rw [← hW0]; exact Ext.alloc _ _
  have hn0 : W0.heap[w.heap.size]? = some (.cells #[.int .i64 0, .string ⟨#[]⟩, .slice none 0 0, .int .i64 0, .slice none 0 0, .int .i64 0, .int .u8 0] 49 (0, 0)) := by rw [← hW0]; exact heap_alloc_new w _
  have hsz0 : w.heap.size < W0.heap.size := by rw [← hW0]; simp
  have hcA : ∀ W, Ext W0 W → W.cell? ⟨BA, 0, none⟩ = some (.slice aa na ca) := fun W hW => ((hx0.trans hW).cell (p := ⟨BA, 0, none⟩) hbA).trans hBA
  have hcB : W0.cell? ⟨BB, 0, none⟩ = some (.slice ab nb cb) := (hx0.cell (p := ⟨BB, 0, none⟩) hbB).trans hBB
  have hof := of_ W0 A ab nb cb lb s (hB.ext hx0) hmB hsB
  have hofA := fun W (hW : Ext W0 W) => of_ W A aa na ca la s (hA.ext (hx0.trans hW)) hmA hsA
  have hT : Hid ((has lb s && !(dataOf la s == dataOf lb s)) = (has lb s && !(has la s && decide ((dataOf la s).getD [] = (dataOf lb s).getD [])))) := Lib.hid (by
    rw [has_dataOf la, has_dataOf lb]
    cases dataOf la s <;> cases dataOf lb s <;> simp
    rw [Bool.eq_iff_iff]; simp)
  rw [hT.out]
  clear hT
  have hc0 : ∀ W, Ext W0 W → W.cell? ⟨w.heap.size, 0, none⟩ = some (.int .i64 0) := fun W hW => (cell_of_row _ _ _ _ _ _ ((hW.block _ hsz0).trans hn0)).trans rfl
  have hc1 : ∀ W, Ext W0 W → W.cell? ⟨w.heap.size, 1, none⟩ = some (.string ⟨#[]⟩) := fun W hW => (cell_of_row _ _ _ _ _ _ ((hW.block _ hsz0).trans hn0)).trans rfl
  have hc2 : ∀ W, Ext W0 W → W.cell? ⟨w.heap.size, 2, none⟩ = some (.slice none 0 0) := fun W hW => (cell_of_row _ _ _ _ _ _ ((hW.block _ hsz0).trans hn0)).trans rfl
  have hc3 : ∀ W, Ext W0 W → W.cell? ⟨w.heap.size, 3, none⟩ = some (.int .i64 0) := fun W hW => (cell_of_row _ _ _ _ _ _ ((hW.block _ hsz0).trans hn0)).trans rfl
  have hc4 : ∀ W, Ext W0 W → W.cell? ⟨w.heap.size, 4, none⟩ = some (.slice none 0 0) := fun W hW => (cell_of_row _ _ _ _ _ _ ((hW.block _ hsz0).trans hn0)).trans rfl
  have hc5 : ∀ W, Ext W0 W → W.cell? ⟨w.heap.size, 5, none⟩ = some (.int .i64 0) := fun W hW => (cell_of_row _ _ _ _ _ _ ((hW.block _ hsz0).trans hn0)).trans rfl
  have hc6 : ∀ W, Ext W0 W → W.cell? ⟨w.heap.size, 6, none⟩ = some (.int .u8 0) := fun W hW => (cell_of_row _ _ _ _ _ _ ((hW.block _ hsz0).trans hn0)).trans rfl
  have hz0 : ∀ W, Ext W0 W → W.frozen? ⟨w.heap.size, 0, none⟩ = false := fun W hW => frozen_of_row _ _ _ _ _ ((hW.block _ hsz0).trans hn0)
  have hz1 : ∀ W, Ext W0 W → W.frozen? ⟨w.heap.size, 1, none⟩ = false := fun W hW => frozen_of_row _ _ _ _ _ ((hW.block _ hsz0).trans hn0)
  have hz2 : ∀ W, Ext W0 W → W.frozen? ⟨w.heap.size, 2, none⟩ = false := fun W hW => frozen_of_row _ _ _ _ _ ((hW.block _ hsz0).trans hn0)
  have hz3 : ∀ W, Ext W0 W → W.frozen? ⟨w.heap.size, 3, none⟩ = false := fun W hW => frozen_of_row _ _ _ _ _ ((hW.block _ hsz0).trans hn0)
  have hz4 : ∀ W, Ext W0 W → W.frozen? ⟨w.heap.size, 4, none⟩ = false := fun W hW => frozen_of_row _ _ _ _ _ ((hW.block _ hsz0).trans hn0)
  have hz5 : ∀ W, Ext W0 W → W.frozen? ⟨w.heap.size, 5, none⟩ = false := fun W hW => frozen_of_row _ _ _ _ _ ((hW.block _ hsz0).trans hn0)
  have hz6 : ∀ W, Ext W0 W → W.frozen? ⟨w.heap.size, 6, none⟩ = false := fun W hW => frozen_of_row _ _ _ _ _ ((hW.block _ hsz0).trans hn0)
  have hmB' : ((dataOf lb s).getD []).length ≤ maxLen := by
    cases hd : dataOf lb s with
    | none => simp
    | some d =>
      obtain ⟨f, hf, rfl⟩ : ∃ f, f ∈ lb ∧ f.data = d := by
        unfold dataOf at hd
        obtain ⟨f, hf, hfd⟩ := Option.map_eq_some_iff.1 hd
        exact ⟨f, List.mem_of_find?_eq_some hf, hfd⟩
      have := (hmB.data f hf).out
      simp [maxLen]; omega
  generalize has lb s = hvb at *
  generalize (dataOf lb s).getD [] = lkb at *
  generalize has la s = hva at *
  generalize (dataOf la s).getD [] = lka at *
  have hlen : lkb.length ≤ maxLen := hmB'
  clear hA hsA hmA hB hsB hmB hBA hBB hn0
  have fin : ∀ (Wc : World) (av : Option Addr) (cv : Nat), Ext W0 Wc → Holds kByte (fun k => W0.heap.size ≤ k) Wc av lkb.length lkb → lkb.length ≤ cv → cv ≤ maxLen →
      Ext w (((((((Wc.setCell ⟨w.heap.size, 0, none⟩ (.int .i64 3)).setCell ⟨w.heap.size, 1, none⟩ (.string (mkS s))).setCell ⟨w.heap.size, 2, none⟩ (.slice av lkb.length cv)).setCell ⟨w.heap.size, 3, none⟩ (.int .i64 0)).setCell ⟨w.heap.size, 4, none⟩ (.slice none 0 0)).setCell ⟨w.heap.size, 5, none⟩ (.int .i64 0)).setCell ⟨w.heap.size, 6, none⟩ (.int .u8 0)) ∧ kOp.rep (fun k => w.heap.size ≤ k) (((((((Wc.setCell ⟨w.heap.size, 0, none⟩ (.int .i64 3)).setCell ⟨w.heap.size, 1, none⟩ (.string (mkS s))).setCell ⟨w.heap.size, 2, none⟩ (.slice av lkb.length cv)).setCell ⟨w.heap.size, 3, none⟩ (.int .i64 0)).setCell ⟨w.heap.size, 4, none⟩ (.slice none 0 0)).setCell ⟨w.heap.size, 5, none⟩ (.int .i64 0)).setCell ⟨w.heap.size, 6, none⟩ (.int .u8 0)) (putS s lkb) [.int .i64 3, .string (mkS s), .slice av lkb.length cv, .int .i64 0, .slice none 0 0, .int .i64 0, .int .u8 0] := fun Wc av cv hxc hh h1 h2 => by
    have hxw : Ext w Wc := hx0.trans hxc
    refine ⟨(((((((hxw.set (Nat.le_refl _) _).set (Nat.le_refl _) _).set (Nat.le_refl _) _).set (Nat.le_refl _) _).set (Nat.le_refl _) _).set (Nat.le_refl _) _).set (Nat.le_refl _) _), kOp_mk (o := putS s lkb) hsl h1 h2 (Holds.wide (hh.keep ?_ ?_) ?_) (Nat.le_refl _) (by decide) holds_none lit3 lit0 lit0⟩
    · exact Nat.le_of_eq (size_setCells w.heap.size [.int .i64 3, .string (mkS s), .slice av lkb.length cv, .int .i64 0, .slice none 0 0, .int .i64 0, .int .u8 0] 0 Wc).symm
    · intro k hk _
      exact heap_setCells_other w.heap.size [.int .i64 3, .string (mkS s), .slice av lkb.length cv, .int .i64 0, .slice none 0 0, .int .i64 0, .int .u8 0] 0 Wc k (by omega)
    · intro k hk; omega
  cases hvb with
  | false =>
    go_enter Tryd.func34, Tryd.ntmps34
    go_wp2_with (fail)
    refine hof.mono ?_
    rintro e w1 ⟨rfl, hx1⟩
    obtain ⟨W1, hW1⟩ : ∃ W, w1.alloc (.cells #[.bool false, .string (mkS lkb)] 61) = W := ⟨_, rfl⟩
    have hx10 : Ext w1 W1 := by rw [← hW1]; exact Ext.alloc _ _
    have hn1 : W1.heap[w1.heap.size]? = some (.cells #[.bool false, .string (mkS lkb)] 61 (0, 0)) := by rw [← hW1]; exact heap_alloc_new w1 _
    have hsz1 : w1.heap.size < W1.heap.size := by rw [← hW1]; simp
    have hlt1 : w.heap.size < w1.heap.size := Nat.lt_of_lt_of_le hsz0 hx1.size
    have hSc : ∀ W, Ext W1 W → ∀ b o v, b < W1.heap.size → W1.cell? ⟨b, o, none⟩ = some v → W.cell? ⟨b, o, none⟩ = some v := fun W h b o v hlt hv => (h.cell (p := ⟨b, o, none⟩) hlt).trans hv
    have hSe : ∀ W, Ext W1 W → (W.cell? ⟨BA, 0, none⟩ = some (.slice aa na ca) ∧ W.cell? ⟨w1.heap.size, 0, none⟩ = some (.bool false) ∧ W.cell? ⟨w1.heap.size, 1, none⟩ = some (.string (mkS lkb))) := fun W h => ⟨hSc W h _ _ _ (by have := (hx0.trans (hx1.trans hx10)).size; omega) (hcA _ (hx1.trans hx10)), hSc W h _ _ _ hsz1 ((cell_of_row _ _ _ _ _ _ hn1).trans rfl), hSc W h _ _ _ hsz1 ((cell_of_row _ _ _ _ _ _ hn1).trans rfl)⟩
    have hSs : ∀ W V, Ext W1 W → ((((((((W.setCell ⟨w.heap.size, 0, none⟩ (.int .i64 3)).setCell ⟨w.heap.size, 1, none⟩ (.string (mkS s))).setCell ⟨w.heap.size, 2, none⟩ (V)).setCell ⟨w.heap.size, 3, none⟩ (.int .i64 0)).setCell ⟨w.heap.size, 4, none⟩ (.slice none 0 0)).setCell ⟨w.heap.size, 5, none⟩ (.int .i64 0)).setCell ⟨w.heap.size, 6, none⟩ (.int .u8 0)).cell? ⟨BA, 0, none⟩ = some (.slice aa na ca) ∧ (((((((W.setCell ⟨w.heap.size, 0, none⟩ (.int .i64 3)).setCell ⟨w.heap.size, 1, none⟩ (.string (mkS s))).setCell ⟨w.heap.size, 2, none⟩ (V)).setCell ⟨w.heap.size, 3, none⟩ (.int .i64 0)).setCell ⟨w.heap.size, 4, none⟩ (.slice none 0 0)).setCell ⟨w.heap.size, 5, none⟩ (.int .i64 0)).setCell ⟨w.heap.size, 6, none⟩ (.int .u8 0)).cell? ⟨w1.heap.size, 0, none⟩ = some (.bool false) ∧ (((((((W.setCell ⟨w.heap.size, 0, none⟩ (.int .i64 3)).setCell ⟨w.heap.size, 1, none⟩ (.string (mkS s))).setCell ⟨w.heap.size, 2, none⟩ (V)).setCell ⟨w.heap.size, 3, none⟩ (.int .i64 0)).setCell ⟨w.heap.size, 4, none⟩ (.slice none 0 0)).setCell ⟨w.heap.size, 5, none⟩ (.int .i64 0)).setCell ⟨w.heap.size, 6, none⟩ (.int .u8 0)).cell? ⟨w1.heap.size, 1, none⟩ = some (.string (mkS lkb))) := fun W V h => by
      have hne1 : BA ≠ w.heap.size := by omega
      have hne2 : w1.heap.size ≠ w.heap.size := by omega
      have := hSe W h
      simpa only [cell_set_far hne1, cell_set_far hne2] using this
    have hxw1 : Ext W0 W1 := hx1.trans hx10
    clear hSc hn1 hcB hcA
    have hxd : Ext W1 W1.drew := Ext.drew _
    go_wp2_with (fail)
    have hxx := hxw1.trans hxd
    refine wp_region_held_drew (S := (fun w' => w'.cell? ⟨BA, 0, none⟩ = some (.slice aa na ca) ∧ w'.cell? ⟨w1.heap.size, 0, none⟩ = some (.bool false) ∧ w'.cell? ⟨w1.heap.size, 1, none⟩ = some (.string (mkS lkb)))) (by kernel_rfl) (hSe _ hxd) (fun hHeld => ?_)
    refine wpAnyH_take (i := 0) (oi := _) (v := ?_) rfl (by kernel_rfl) (by kernel_rfl) (by kernel_rfl) (fun _ _ _ h => h) (Or.inl ⟨by kernel_rfl, ?_⟩) (by assumption) ?_
    rotate_left
    · intro w hSw; (try dsimp only at hSw); go_simp; first | done | with_reducible rfl
    try simp only [Act.put, List.getElem_toArray, List.getElem_cons_succ, List.getElem_cons_zero, List.setIfInBounds_toArray, List.set_cons_zero, List.set_cons_succ]
    refine wpAnyH_take (i := 1) (oi := _) (v := ?_) rfl (by kernel_rfl) (by kernel_rfl) (by kernel_rfl) (fun _ _ _ h => h) (Or.inl ⟨by kernel_rfl, ?_⟩) (by assumption) ?_
    rotate_left
    · intro w hSw; (try dsimp only at hSw); go_simp; first | done | with_reducible rfl
    try simp only [Act.put, List.getElem_toArray, List.getElem_cons_succ, List.getElem_cons_zero, List.setIfInBounds_toArray, List.set_cons_zero, List.set_cons_succ]
    refine wpAnyH_take (i := 2) (oi := _) (v := ?_) rfl (by kernel_rfl) (by kernel_rfl) (by kernel_rfl) (fun _ _ _ h => h) (Or.inl ⟨by kernel_rfl, ?_⟩) (by assumption) ?_
    rotate_left
    · intro w hSw; (try dsimp only at hSw); go_simp; first | done | with_reducible rfl
    try simp only [Act.put, List.getElem_toArray, List.getElem_cons_succ, List.getElem_cons_zero, List.setIfInBounds_toArray, List.set_cons_zero, List.set_cons_succ]
    refine wpAnyH_take (i := 5) (oi := _) (v := ?_) rfl (by kernel_rfl) (by kernel_rfl) (by kernel_rfl) (fun _ _ _ h => h) (Or.inl ⟨by kernel_rfl, ?_⟩) (by assumption) ?_
    rotate_left
    · intro w hSw; (try dsimp only at hSw); go_simp; first | done | with_reducible rfl
    try simp only [Act.put, List.getElem_toArray, List.getElem_cons_succ, List.getElem_cons_zero, List.setIfInBounds_toArray, List.set_cons_zero, List.set_cons_succ]
    refine wpAnyH_take (i := 6) (oi := _) (v := ?_) rfl (by kernel_rfl) (by kernel_rfl) (by kernel_rfl) (fun _ _ _ h => h) (Or.inl ⟨by kernel_rfl, ?_⟩) (by assumption) ?_
    rotate_left
    · intro w hSw; (try dsimp only at hSw); go_simp; first | done | with_reducible rfl
    try simp only [Act.put, List.getElem_toArray, List.getElem_cons_succ, List.getElem_cons_zero, List.setIfInBounds_toArray, List.set_cons_zero, List.set_cons_succ]
    refine wpAnyH_take (i := 7) (oi := _) (v := ?_) rfl (by kernel_rfl) (by kernel_rfl) (by kernel_rfl) (fun _ _ _ h => h) (Or.inl ⟨by kernel_rfl, ?_⟩) (by assumption) ?_
    rotate_left
    · intro w hSw; (try dsimp only at hSw); go_simp; first | done | with_reducible rfl
    try simp only [Act.put, List.getElem_toArray, List.getElem_cons_succ, List.getElem_cons_zero, List.setIfInBounds_toArray, List.set_cons_zero, List.set_cons_succ]
    refine wpAnyH_take (i := 8) (oi := _) (v := undef) rfl (by kernel_rfl) (by kernel_rfl) (by kernel_rfl) (fun _ _ _ h => h) (Or.inr ⟨by kernel_rfl, rfl⟩) (by assumption) ?_
    try simp only [Act.put, List.getElem_toArray, List.getElem_cons_succ, List.getElem_cons_zero, List.setIfInBounds_toArray, List.set_cons_zero, List.set_cons_succ]
    refine wpAnyH_take (i := 9) (oi := _) (v := undef) rfl (by kernel_rfl) (by kernel_rfl) (by kernel_rfl) (fun _ _ _ h => h) (Or.inr ⟨by kernel_rfl, rfl⟩) (by assumption) ?_
    try simp only [Act.put, List.getElem_toArray, List.getElem_cons_succ, List.getElem_cons_zero, List.setIfInBounds_toArray, List.set_cons_zero, List.set_cons_succ]
    refine wpAnyH_take (i := 11) (oi := _) (v := undef) rfl (by kernel_rfl) (by kernel_rfl) (by kernel_rfl) (fun _ _ _ h => h) (Or.inr ⟨by kernel_rfl, rfl⟩) (by assumption) ?_
    try simp only [Act.put, List.getElem_toArray, List.getElem_cons_succ, List.getElem_cons_zero, List.setIfInBounds_toArray, List.set_cons_zero, List.set_cons_succ]
    refine wpAnyH_ready (rs := [3, 10]) (by kernel_rfl) (by simp) (AllReadyH.cons (o := _) rfl (fun K hK => ?_) (AllReadyH.cons (o := _) rfl (fun K hK => ?_) AllReadyH.nil))
    rotate_left
    · -- the guarded call first
      go_simp
      refine hK.out _ _ (hSe _ hxd) (fun hHeld => ?_)
      clear hK K
      refine wpAnyH_take (i := 12) (oi := _) (v := undef) rfl (by kernel_rfl) (by kernel_rfl) (by kernel_rfl) (fun _ _ _ h => h) (Or.inr ⟨by kernel_rfl, rfl⟩) (by assumption) ?_
      try simp only [Act.put, List.getElem_toArray, List.getElem_cons_succ, List.getElem_cons_zero, List.setIfInBounds_toArray, List.set_cons_zero, List.set_cons_succ]
      refine wpAnyH_take (i := 13) (oi := _) (v := ?_) rfl (by kernel_rfl) (by kernel_rfl) (by kernel_rfl) (fun _ _ _ h => h) (Or.inl ⟨by kernel_rfl, ?_⟩) (by assumption) ?_
      rotate_left
      · intro w hSw; (try dsimp only at hSw); go_simp; first | done | with_reducible rfl
      try simp only [Act.put, List.getElem_toArray, List.getElem_cons_succ, List.getElem_cons_zero, List.setIfInBounds_toArray, List.set_cons_zero, List.set_cons_succ]
      refine wpAnyH_ready (rs := [3]) (by kernel_rfl) (by simp) (AllReadyH.cons (o := _) rfl (fun K hK => ?_) AllReadyH.nil)
      go_simp
      refine hK.out _ _ (hSe _ (ext_bytes' hxd _ _)) (fun hHeld => ?_)
      clear hK K
      refine wpAnyH_take (i := 4) (oi := _) (v := ?_) rfl (by kernel_rfl) (by kernel_rfl) (by kernel_rfl) (fun _ _ _ h => h) (Or.inl ⟨by kernel_rfl, ?_⟩) (by assumption) ?_
      rotate_left
      · intro w hSw; (try dsimp only at hSw); go_simp; first | done | with_reducible rfl
      try simp only [Act.put, List.getElem_toArray, List.getElem_cons_succ, List.getElem_cons_zero, List.setIfInBounds_toArray, List.set_cons_zero, List.set_cons_succ]
      refine wpAnyH_ready (rs := [14]) (by kernel_rfl) (by simp) (AllReadyH.cons (o := _) rfl (fun K hK => ?_) AllReadyH.nil)
      go_simp
      refine hK.out _ _ (hSs _ _ (ext_bytes' hxd _ _)) (fun hHeld => ?_)
      clear hK K
      refine wpAnyH_take (i := 15) (oi := _) (v := ?_) rfl (by kernel_rfl) (by kernel_rfl) (by kernel_rfl) (fun _ _ _ h => h) (Or.inl ⟨by kernel_rfl, ?_⟩) (by assumption) ?_
      rotate_left
      · intro w hSw; (try dsimp only at hSw); go_simp; first | done | with_reducible rfl
      try simp only [Act.put, List.getElem_toArray, List.getElem_cons_succ, List.getElem_cons_zero, List.setIfInBounds_toArray, List.set_cons_zero, List.set_cons_succ]
      refine wpAnyH_done (by kernel_rfl) ?_ _
      go_wp2
      (obtain ⟨Wc, av, cv, hxc, hhc, h1, h2, hWc, hcv, hav⟩ : ∃ (Wc : World) (av : Option Addr) (cv : Nat), Ext W0 Wc ∧ Holds kByte (fun k => W0.heap.size ≤ k) Wc av lkb.length lkb ∧ lkb.length ≤ cv ∧ cv ≤ maxLen ∧ Lib.bytesWorld W1.drew 5 (mkS lkb) = Wc ∧ grownCap W1.drew lkb.length 0 5 = cv ∧ some (Addr.mk W1.heap.size 0 none) = av := ⟨_, _, _, ext_bytes' hxx _ _, ((holds_bytes W1.drew 5 lkb hlen).wide (fun k hk => Nat.le_trans hxx.size hk)), grownCap_ge _ _ _ _, grownCap_le_maxLen _ _ _ _ hlen, rfl, rfl, rfl⟩
       rw [hWc, hcv, hav]
       obtain ⟨r1, r2⟩ := fin Wc av cv hxc hhc h1 h2
       clear fin hWc hcv hav hhc
       have d0 := hc0 _ hxc
       have d1 := hc1 _ hxc
       have d2 := hc2 _ hxc
       have d3 := hc3 _ hxc
       have d4 := hc4 _ hxc
       have d5 := hc5 _ hxc
       have d6 := hc6 _ hxc
       exact bodyPost_ret (v := .tuple #[.agg #[.int .i64 3, .string (mkS s), .slice av lkb.length cv, .int .i64 0, .slice none 0 0, .int .i64 0, .int .u8 0], .bool (false && !(hva && decide (lka = lkb)))]) (by simp [results, Tryd.results34, go_sem, d0, d1, d2, d3, d4, d5, d6]) rfl ⟨[.int .i64 3, .string (mkS s), .slice av lkb.length cv, .int .i64 0, .slice none 0 0, .int .i64 0, .int .u8 0], rfl, r1, r2⟩)
    · go_simp
      refine hK.out _ _ (hSe _ (ext_bytes' hxd _ _)) (fun hHeld => ?_)
      clear hK K
      refine wpAnyH_take (i := 4) (oi := _) (v := ?_) rfl (by kernel_rfl) (by kernel_rfl) (by kernel_rfl) (fun _ _ _ h => h) (Or.inl ⟨by kernel_rfl, ?_⟩) (by assumption) ?_
      rotate_left
      · intro w hSw; (try dsimp only at hSw); go_simp; first | done | with_reducible rfl
      try simp only [Act.put, List.getElem_toArray, List.getElem_cons_succ, List.getElem_cons_zero, List.setIfInBounds_toArray, List.set_cons_zero, List.set_cons_succ]
      refine wpAnyH_ready (rs := [10]) (by kernel_rfl) (by simp) (AllReadyH.cons (o := _) rfl (fun K hK => ?_) AllReadyH.nil)
      go_simp
      refine hK.out _ _ (hSe _ (ext_bytes' hxd _ _)) (fun hHeld => ?_)
      clear hK K
      refine wpAnyH_take (i := 12) (oi := _) (v := undef) rfl (by kernel_rfl) (by kernel_rfl) (by kernel_rfl) (fun _ _ _ h => h) (Or.inr ⟨by kernel_rfl, rfl⟩) (by assumption) ?_
      try simp only [Act.put, List.getElem_toArray, List.getElem_cons_succ, List.getElem_cons_zero, List.setIfInBounds_toArray, List.set_cons_zero, List.set_cons_succ]
      refine wpAnyH_take (i := 13) (oi := _) (v := ?_) rfl (by kernel_rfl) (by kernel_rfl) (by kernel_rfl) (fun _ _ _ h => h) (Or.inl ⟨by kernel_rfl, ?_⟩) (by assumption) ?_
      rotate_left
      · intro w hSw; (try dsimp only at hSw); go_simp; first | done | with_reducible rfl
      try simp only [Act.put, List.getElem_toArray, List.getElem_cons_succ, List.getElem_cons_zero, List.setIfInBounds_toArray, List.set_cons_zero, List.set_cons_succ]
      refine wpAnyH_ready (rs := [14]) (by kernel_rfl) (by simp) (AllReadyH.cons (o := _) rfl (fun K hK => ?_) AllReadyH.nil)
      go_simp
      refine hK.out _ _ (hSs _ _ (ext_bytes' hxd _ _)) (fun hHeld => ?_)
      clear hK K
      refine wpAnyH_take (i := 15) (oi := _) (v := ?_) rfl (by kernel_rfl) (by kernel_rfl) (by kernel_rfl) (fun _ _ _ h => h) (Or.inl ⟨by kernel_rfl, ?_⟩) (by assumption) ?_
      rotate_left
      · intro w hSw; (try dsimp only at hSw); go_simp; first | done | with_reducible rfl
      try simp only [Act.put, List.getElem_toArray, List.getElem_cons_succ, List.getElem_cons_zero, List.setIfInBounds_toArray, List.set_cons_zero, List.set_cons_succ]
      refine wpAnyH_done (by kernel_rfl) ?_ _
      go_wp2
      (obtain ⟨Wc, av, cv, hxc, hhc, h1, h2, hWc, hcv, hav⟩ : ∃ (Wc : World) (av : Option Addr) (cv : Nat), Ext W0 Wc ∧ Holds kByte (fun k => W0.heap.size ≤ k) Wc av lkb.length lkb ∧ lkb.length ≤ cv ∧ cv ≤ maxLen ∧ Lib.bytesWorld W1.drew 5 (mkS lkb) = Wc ∧ grownCap W1.drew lkb.length 0 5 = cv ∧ some (Addr.mk W1.heap.size 0 none) = av := ⟨_, _, _, ext_bytes' hxx _ _, ((holds_bytes W1.drew 5 lkb hlen).wide (fun k hk => Nat.le_trans hxx.size hk)), grownCap_ge _ _ _ _, grownCap_le_maxLen _ _ _ _ hlen, rfl, rfl, rfl⟩
       rw [hWc, hcv, hav]
       obtain ⟨r1, r2⟩ := fin Wc av cv hxc hhc h1 h2
       clear fin hWc hcv hav hhc
       have d0 := hc0 _ hxc
       have d1 := hc1 _ hxc
       have d2 := hc2 _ hxc
       have d3 := hc3 _ hxc
       have d4 := hc4 _ hxc
       have d5 := hc5 _ hxc
       have d6 := hc6 _ hxc
       exact bodyPost_ret (v := .tuple #[.agg #[.int .i64 3, .string (mkS s), .slice av lkb.length cv, .int .i64 0, .slice none 0 0, .int .i64 0, .int .u8 0], .bool (false && !(hva && decide (lka = lkb)))]) (by simp [results, Tryd.results34, go_sem, d0, d1, d2, d3, d4, d5, d6]) rfl ⟨[.int .i64 3, .string (mkS s), .slice av lkb.length cv, .int .i64 0, .slice none 0 0, .int .i64 0, .int .u8 0], rfl, r1, r2⟩)
  | true =>
    go_enter Tryd.func34, Tryd.ntmps34
    go_wp2_with (fail)
    refine hof.mono ?_
    rintro e w1 ⟨rfl, hx1⟩
    obtain ⟨W1, hW1⟩ : ∃ W, w1.alloc (.cells #[.bool true, .string (mkS lkb)] 61) = W := ⟨_, rfl⟩
    have hx10 : Ext w1 W1 := by rw [← hW1]; exact Ext.alloc _ _
    have hn1 : W1.heap[w1.heap.size]? = some (.cells #[.bool true, .string (mkS lkb)] 61 (0, 0)) := by rw [← hW1]; exact heap_alloc_new w1 _
    have hsz1 : w1.heap.size < W1.heap.size := by rw [← hW1]; simp
    have hlt1 : w.heap.size < w1.heap.size := Nat.lt_of_lt_of_le hsz0 hx1.size
    have hSc : ∀ W, Ext W1 W → ∀ b o v, b < W1.heap.size → W1.cell? ⟨b, o, none⟩ = some v → W.cell? ⟨b, o, none⟩ = some v := fun W h b o v hlt hv => (h.cell (p := ⟨b, o, none⟩) hlt).trans hv
    have hSe : ∀ W, Ext W1 W → (W.cell? ⟨BA, 0, none⟩ = some (.slice aa na ca) ∧ W.cell? ⟨w1.heap.size, 0, none⟩ = some (.bool true) ∧ W.cell? ⟨w1.heap.size, 1, none⟩ = some (.string (mkS lkb))) := fun W h => ⟨hSc W h _ _ _ (by have := (hx0.trans (hx1.trans hx10)).size; omega) (hcA _ (hx1.trans hx10)), hSc W h _ _ _ hsz1 ((cell_of_row _ _ _ _ _ _ hn1).trans rfl), hSc W h _ _ _ hsz1 ((cell_of_row _ _ _ _ _ _ hn1).trans rfl)⟩
    have hSs : ∀ W V, Ext W1 W → ((((((((W.setCell ⟨w.heap.size, 0, none⟩ (.int .i64 3)).setCell ⟨w.heap.size, 1, none⟩ (.string (mkS s))).setCell ⟨w.heap.size, 2, none⟩ (V)).setCell ⟨w.heap.size, 3, none⟩ (.int .i64 0)).setCell ⟨w.heap.size, 4, none⟩ (.slice none 0 0)).setCell ⟨w.heap.size, 5, none⟩ (.int .i64 0)).setCell ⟨w.heap.size, 6, none⟩ (.int .u8 0)).cell? ⟨BA, 0, none⟩ = some (.slice aa na ca) ∧ (((((((W.setCell ⟨w.heap.size, 0, none⟩ (.int .i64 3)).setCell ⟨w.heap.size, 1, none⟩ (.string (mkS s))).setCell ⟨w.heap.size, 2, none⟩ (V)).setCell ⟨w.heap.size, 3, none⟩ (.int .i64 0)).setCell ⟨w.heap.size, 4, none⟩ (.slice none 0 0)).setCell ⟨w.heap.size, 5, none⟩ (.int .i64 0)).setCell ⟨w.heap.size, 6, none⟩ (.int .u8 0)).cell? ⟨w1.heap.size, 0, none⟩ = some (.bool true) ∧ (((((((W.setCell ⟨w.heap.size, 0, none⟩ (.int .i64 3)).setCell ⟨w.heap.size, 1, none⟩ (.string (mkS s))).setCell ⟨w.heap.size, 2, none⟩ (V)).setCell ⟨w.heap.size, 3, none⟩ (.int .i64 0)).setCell ⟨w.heap.size, 4, none⟩ (.slice none 0 0)).setCell ⟨w.heap.size, 5, none⟩ (.int .i64 0)).setCell ⟨w.heap.size, 6, none⟩ (.int .u8 0)).cell? ⟨w1.heap.size, 1, none⟩ = some (.string (mkS lkb))) := fun W V h => by
      have hne1 : BA ≠ w.heap.size := by omega
      have hne2 : w1.heap.size ≠ w.heap.size := by omega
      have := hSe W h
      simpa only [cell_set_far hne1, cell_set_far hne2] using this
    have hxw1 : Ext W0 W1 := hx1.trans hx10
    clear hSc hn1 hcB hcA
    have hxd : Ext W1 W1.drew := Ext.drew _
    go_wp2_with (fail)
    refine wp_region_held_drew (S := (fun w' => w'.cell? ⟨BA, 0, none⟩ = some (.slice aa na ca) ∧ w'.cell? ⟨w1.heap.size, 0, none⟩ = some (.bool true) ∧ w'.cell? ⟨w1.heap.size, 1, none⟩ = some (.string (mkS lkb)))) (by kernel_rfl) (hSe _ hxd) (fun hHeld => ?_)
    (refine wpAnyH_take (i := 0) (oi := _) (v := ?_) rfl (by kernel_rfl) (by kernel_rfl) (by kernel_rfl) (fun _ _ _ h => h) (Or.inl ⟨by kernel_rfl, ?_⟩) (by assumption) ?_; rotate_left; (focus (intro w hSw; (try dsimp only at hSw); go_simp; (first | done | with_reducible rfl))); (try simp only [Act.put, List.getElem_toArray, List.getElem_cons_succ, List.getElem_cons_zero, List.setIfInBounds_toArray, List.set_cons_zero, List.set_cons_succ]))
    (refine wpAnyH_take (i := 1) (oi := _) (v := ?_) rfl (by kernel_rfl) (by kernel_rfl) (by kernel_rfl) (fun _ _ _ h => h) (Or.inl ⟨by kernel_rfl, ?_⟩) (by assumption) ?_; rotate_left; (focus (intro w hSw; (try dsimp only at hSw); go_simp; (first | done | with_reducible rfl))); (try simp only [Act.put, List.getElem_toArray, List.getElem_cons_succ, List.getElem_cons_zero, List.setIfInBounds_toArray, List.set_cons_zero, List.set_cons_succ]))
    (refine wpAnyH_take (i := 2) (oi := _) (v := ?_) rfl (by kernel_rfl) (by kernel_rfl) (by kernel_rfl) (fun _ _ _ h => h) (Or.inl ⟨by kernel_rfl, ?_⟩) (by assumption) ?_; rotate_left; (focus (intro w hSw; (try dsimp only at hSw); go_simp; (first | done | with_reducible rfl))); (try simp only [Act.put, List.getElem_toArray, List.getElem_cons_succ, List.getElem_cons_zero, List.setIfInBounds_toArray, List.set_cons_zero, List.set_cons_succ]))
    (refine wpAnyH_take (i := 5) (oi := _) (v := ?_) rfl (by kernel_rfl) (by kernel_rfl) (by kernel_rfl) (fun _ _ _ h => h) (Or.inl ⟨by kernel_rfl, ?_⟩) (by assumption) ?_; rotate_left; (focus (intro w hSw; (try dsimp only at hSw); go_simp; (first | done | with_reducible rfl))); (try simp only [Act.put, List.getElem_toArray, List.getElem_cons_succ, List.getElem_cons_zero, List.setIfInBounds_toArray, List.set_cons_zero, List.set_cons_succ]))
    (refine wpAnyH_take (i := 6) (oi := _) (v := ?_) rfl (by kernel_rfl) (by kernel_rfl) (by kernel_rfl) (fun _ _ _ h => h) (Or.inl ⟨by kernel_rfl, ?_⟩) (by assumption) ?_; rotate_left; (focus (intro w hSw; (try dsimp only at hSw); go_simp; (first | done | with_reducible rfl))); (try simp only [Act.put, List.getElem_toArray, List.getElem_cons_succ, List.getElem_cons_zero, List.setIfInBounds_toArray, List.set_cons_zero, List.set_cons_succ]))
    (refine wpAnyH_take (i := 7) (oi := _) (v := ?_) rfl (by kernel_rfl) (by kernel_rfl) (by kernel_rfl) (fun _ _ _ h => h) (Or.inl ⟨by kernel_rfl, ?_⟩) (by assumption) ?_; rotate_left; (focus (intro w hSw; (try dsimp only at hSw); go_simp; (first | done | with_reducible rfl))); (try simp only [Act.put, List.getElem_toArray, List.getElem_cons_succ, List.getElem_cons_zero, List.setIfInBounds_toArray, List.set_cons_zero, List.set_cons_succ]))
    (refine wpAnyH_take (i := 8) (oi := _) (v := ?_) rfl (by kernel_rfl) (by kernel_rfl) (by kernel_rfl) (fun _ _ _ h => h) (Or.inl ⟨by kernel_rfl, ?_⟩) (by assumption) ?_; rotate_left; (focus (intro w hSw; (try dsimp only at hSw); go_simp; (first | done | with_reducible rfl))); (try simp only [Act.put, List.getElem_toArray, List.getElem_cons_succ, List.getElem_cons_zero, List.setIfInBounds_toArray, List.set_cons_zero, List.set_cons_succ]))
    (refine wpAnyH_take (i := 9) (oi := _) (v := ?_) rfl (by kernel_rfl) (by kernel_rfl) (by kernel_rfl) (fun _ _ _ h => h) (Or.inl ⟨by kernel_rfl, ?_⟩) (by assumption) ?_; rotate_left; (focus (intro w hSw; (try dsimp only at hSw); go_simp; (first | done | with_reducible rfl))); (try simp only [Act.put, List.getElem_toArray, List.getElem_cons_succ, List.getElem_cons_zero, List.setIfInBounds_toArray, List.set_cons_zero, List.set_cons_succ]))
    (refine wpAnyH_take (i := 11) (oi := _) (v := ?_) rfl (by kernel_rfl) (by kernel_rfl) (by kernel_rfl) (fun _ _ _ h => h) (Or.inl ⟨by kernel_rfl, ?_⟩) (by assumption) ?_; rotate_left; (focus (intro w hSw; (try dsimp only at hSw); go_simp; (first | done | with_reducible rfl))); (try simp only [Act.put, List.getElem_toArray, List.getElem_cons_succ, List.getElem_cons_zero, List.setIfInBounds_toArray, List.set_cons_zero, List.set_cons_succ]))
    refine wpAnyH_ready (rs := [3, 10]) (by kernel_rfl) (by simp) (AllReadyH.cons (o := _) rfl (fun K hK => ?_) (AllReadyH.cons (o := _) rfl (fun K hK => ?_) AllReadyH.nil))
    · go_simp
      (refine hK.out _ _ (hSe _ (ext_bytes' hxd _ _)) (fun hHeld => ?_); clear hK K)
      (refine wpAnyH_take (i := 4) (oi := _) (v := ?_) rfl (by kernel_rfl) (by kernel_rfl) (by kernel_rfl) (fun _ _ _ h => h) (Or.inl ⟨by kernel_rfl, ?_⟩) (by assumption) ?_; rotate_left; (focus (intro w hSw; (try dsimp only at hSw); go_simp; (first | done | with_reducible rfl))); (try simp only [Act.put, List.getElem_toArray, List.getElem_cons_succ, List.getElem_cons_zero, List.setIfInBounds_toArray, List.set_cons_zero, List.set_cons_succ]))
      refine wpAnyH_ready (rs := [10]) (by kernel_rfl) (by simp) (AllReadyH.cons (o := _) rfl (fun K hK => ?_) AllReadyH.nil)
      go_simp
      go_at_call 33
      refine (hofA _ (hxw1.trans (ext_bytes' hxd _ _))).mono ?_
      rintro e w2 ⟨rfl, hx2⟩
      have hxy : Ext W1 w2 := (ext_bytes' hxd _ _).trans hx2
      have hxx := hxw1.trans hxy
      go_wp2_with (fail)
      (refine hK.out _ _ (hSe _ hxy) (fun hHeld => ?_); clear hK K)
      (refine wpAnyH_take (i := 12) (oi := _) (v := ?_) rfl (by kernel_rfl) (by kernel_rfl) (by kernel_rfl) (fun _ _ _ h => h) (Or.inl ⟨by kernel_rfl, ?_⟩) (by assumption) ?_; rotate_left; (focus (intro w hSw; (try dsimp only at hSw); go_simp; (first | done | with_reducible rfl))); (try simp only [Act.put, List.getElem_toArray, List.getElem_cons_succ, List.getElem_cons_zero, List.setIfInBounds_toArray, List.set_cons_zero, List.set_cons_succ]))
      (refine wpAnyH_take (i := 13) (oi := _) (v := ?_) rfl (by kernel_rfl) (by kernel_rfl) (by kernel_rfl) (fun _ _ _ h => h) (Or.inl ⟨by kernel_rfl, ?_⟩) (by assumption) ?_; rotate_left; (focus (intro w hSw; (try dsimp only at hSw); go_simp; (first | done | with_reducible rfl))); (try simp only [Act.put, List.getElem_toArray, List.getElem_cons_succ, List.getElem_cons_zero, List.setIfInBounds_toArray, List.set_cons_zero, List.set_cons_succ]))
      refine wpAnyH_ready (rs := [14]) (by kernel_rfl) (by simp) (AllReadyH.cons (o := _) rfl (fun K hK => ?_) AllReadyH.nil)
      go_simp
      (refine hK.out _ _ (hSs _ _ hxy) (fun hHeld => ?_); clear hK K)
      (refine wpAnyH_take (i := 15) (oi := _) (v := ?_) rfl (by kernel_rfl) (by kernel_rfl) (by kernel_rfl) (fun _ _ _ h => h) (Or.inl ⟨by kernel_rfl, ?_⟩) (by assumption) ?_; rotate_left; (focus (intro w hSw; (try dsimp only at hSw); go_simp; (first | done | with_reducible rfl))); (try simp only [Act.put, List.getElem_toArray, List.getElem_cons_succ, List.getElem_cons_zero, List.setIfInBounds_toArray, List.set_cons_zero, List.set_cons_succ]))
      refine wpAnyH_done (by kernel_rfl) ?_ _
      go_wp2
      obtain ⟨Wc, av, cv, hxc, hhc, h1, h2, hWc, hcv, hav⟩ : ∃ (Wc : World) (av : Option Addr) (cv : Nat), Ext W0 Wc ∧ Holds kByte (fun k => W0.heap.size ≤ k) Wc av lkb.length lkb ∧ lkb.length ≤ cv ∧ cv ≤ maxLen ∧ w2 = Wc ∧ grownCap W1.drew lkb.length 0 5 = cv ∧ some (Addr.mk W1.heap.size 0 none) = av := ⟨_, _, _, hxx, (((holds_bytes W1.drew 5 lkb hlen).ext hx2).wide (fun k hk => Nat.le_trans hxw1.size hk)), grownCap_ge _ _ _ _, grownCap_le_maxLen _ _ _ _ hlen, rfl, rfl, rfl⟩
      rw [hcv, hav]
      subst hWc
      obtain ⟨r1, r2⟩ := fin w2 av cv hxc hhc h1 h2
      clear fin hcv hav hhc
      have d0 := hc0 _ hxc
      have d1 := hc1 _ hxc
      have d2 := hc2 _ hxc
      have d3 := hc3 _ hxc
      have d4 := hc4 _ hxc
      have d5 := hc5 _ hxc
      have d6 := hc6 _ hxc
      exact bodyPost_ret (v := .tuple #[.agg #[.int .i64 3, .string (mkS s), .slice av lkb.length cv, .int .i64 0, .slice none 0 0, .int .i64 0, .int .u8 0], .bool (true && !(hva && decide (lka = lkb)))]) (by simp [results, Tryd.results34, go_sem, d0, d1, d2, d3, d4, d5, d6]) rfl ⟨[.int .i64 3, .string (mkS s), .slice av lkb.length cv, .int .i64 0, .slice none 0 0, .int .i64 0, .int .u8 0], rfl, r1, r2⟩
    · go_simp
      go_at_call 33
      refine (hofA _ (hxw1.trans hxd)).mono ?_
      rintro e w2 ⟨rfl, hx2⟩
      have hxy : Ext W1 w2 := hxd.trans hx2
      have hxx := hxw1.trans hxy
      go_wp2_with (fail)
      (refine hK.out _ _ (hSe _ hxy) (fun hHeld => ?_); clear hK K)
      (refine wpAnyH_take (i := 12) (oi := _) (v := ?_) rfl (by kernel_rfl) (by kernel_rfl) (by kernel_rfl) (fun _ _ _ h => h) (Or.inl ⟨by kernel_rfl, ?_⟩) (by assumption) ?_; rotate_left; (focus (intro w hSw; (try dsimp only at hSw); go_simp; (first | done | with_reducible rfl))); (try simp only [Act.put, List.getElem_toArray, List.getElem_cons_succ, List.getElem_cons_zero, List.setIfInBounds_toArray, List.set_cons_zero, List.set_cons_succ]))
      (refine wpAnyH_take (i := 13) (oi := _) (v := ?_) rfl (by kernel_rfl) (by kernel_rfl) (by kernel_rfl) (fun _ _ _ h => h) (Or.inl ⟨by kernel_rfl, ?_⟩) (by assumption) ?_; rotate_left; (focus (intro w hSw; (try dsimp only at hSw); go_simp; (first | done | with_reducible rfl))); (try simp only [Act.put, List.getElem_toArray, List.getElem_cons_succ, List.getElem_cons_zero, List.setIfInBounds_toArray, List.set_cons_zero, List.set_cons_succ]))
      refine wpAnyH_ready (rs := [3]) (by kernel_rfl) (by simp) (AllReadyH.cons (o := _) rfl (fun K hK => ?_) AllReadyH.nil)
      go_simp
      (refine hK.out _ _ (hSe _ (ext_bytes' hxy _ _)) (fun hHeld => ?_); clear hK K)
      (refine wpAnyH_take (i := 4) (oi := _) (v := ?_) rfl (by kernel_rfl) (by kernel_rfl) (by kernel_rfl) (fun _ _ _ h => h) (Or.inl ⟨by kernel_rfl, ?_⟩) (by assumption) ?_; rotate_left; (focus (intro w hSw; (try dsimp only at hSw); go_simp; (first | done | with_reducible rfl))); (try simp only [Act.put, List.getElem_toArray, List.getElem_cons_succ, List.getElem_cons_zero, List.setIfInBounds_toArray, List.set_cons_zero, List.set_cons_succ]))
      refine wpAnyH_ready (rs := [14]) (by kernel_rfl) (by simp) (AllReadyH.cons (o := _) rfl (fun K hK => ?_) AllReadyH.nil)
      go_simp
      (refine hK.out _ _ (hSs _ _ (ext_bytes' hxy _ _)) (fun hHeld => ?_); clear hK K)
      (refine wpAnyH_take (i := 15) (oi := _) (v := ?_) rfl (by kernel_rfl) (by kernel_rfl) (by kernel_rfl) (fun _ _ _ h => h) (Or.inl ⟨by kernel_rfl, ?_⟩) (by assumption) ?_; rotate_left; (focus (intro w hSw; (try dsimp only at hSw); go_simp; (first | done | with_reducible rfl))); (try simp only [Act.put, List.getElem_toArray, List.getElem_cons_succ, List.getElem_cons_zero, List.setIfInBounds_toArray, List.set_cons_zero, List.set_cons_succ]))
      refine wpAnyH_done (by kernel_rfl) ?_ _
      go_wp2
      obtain ⟨Wc, av, cv, hxc, hhc, h1, h2, hWc, hcv, hav⟩ : ∃ (Wc : World) (av : Option Addr) (cv : Nat), Ext W0 Wc ∧ Holds kByte (fun k => W0.heap.size ≤ k) Wc av lkb.length lkb ∧ lkb.length ≤ cv ∧ cv ≤ maxLen ∧ Lib.bytesWorld w2 5 (mkS lkb) = Wc ∧ grownCap w2 lkb.length 0 5 = cv ∧ some (Addr.mk w2.heap.size 0 none) = av := ⟨_, _, _, ext_bytes' hxx _ _, ((holds_bytes w2 5 lkb hlen).wide (fun k hk => Nat.le_trans hxx.size hk)), grownCap_ge _ _ _ _, grownCap_le_maxLen _ _ _ _ hlen, rfl, rfl, rfl⟩
      rw [hWc, hcv, hav]
      obtain ⟨r1, r2⟩ := fin Wc av cv hxc hhc h1 h2
      clear fin hWc hcv hav hhc
      have d0 := hc0 _ hxc
      have d1 := hc1 _ hxc
      have d2 := hc2 _ hxc
      have d3 := hc3 _ hxc
      have d4 := hc4 _ hxc
      have d5 := hc5 _ hxc
      have d6 := hc6 _ hxc
      exact bodyPost_ret (v := .tuple #[.agg #[.int .i64 3, .string (mkS s), .slice av lkb.length cv, .int .i64 0, .slice none 0 0, .int .i64 0, .int .u8 0], .bool (true && !(hva && decide (lka = lkb)))]) (by simp [results, Tryd.results34, go_sem, d0, d1, d2, d3, d4, d5, d6]) rfl ⟨[.int .i64 3, .string (mkS s), .slice av lkb.length cv, .int .i64 0, .slice none 0 0, .int .i64 0, .int .u8 0], rfl, r1, r2⟩
end Go.Proofs.YtaenackibigojaaDoor
#print axioms Go.Proofs.YtaenackibigojaaDoor.diff2

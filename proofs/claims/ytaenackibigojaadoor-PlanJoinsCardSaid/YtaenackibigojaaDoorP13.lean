/- Part of the proofs: lit11, delS, putS, holds_none, Ext.set, diff1: each says what its head says. -/
import Derived.Test.YtaenackibigojaaDoorP12
set_option linter.unusedVariables false
set_option linter.unusedSimpArgs false
namespace Go.BK
open Go.RowKit
theorem lit0 : IntKind.min .i64 ≤ (0 : Int) ∧ (0 : Int) ≤ IntKind.max .i64 := by decide
theorem lit3 : IntKind.min .i64 ≤ (3 : Int) ∧ (3 : Int) ≤ IntKind.max .i64 := by decide
theorem lit11 : IntKind.min .i64 ≤ (11 : Int) ∧ (11 : Int) ≤ IntKind.max .i64 := by decide
def delS (s : Str) : Stp := ⟨11, s, [], 0, [], 0, 0⟩
def putS (s : Str) (d : List UInt8) : Stp := ⟨3, s, d, 0, [], 0, 0⟩
theorem holds_none {α : Type} {K : Kd α} {A : Nat → Prop} {w : World} : Holds K A w none 0 [] := Holds.nil _ _ _ _
theorem Ext.set {w W : World} (h : Ext w W) {b o : Nat} (hb : w.heap.size ≤ b) (v : Value) : Ext w (W.setCell ⟨b, o, none⟩ v) := Below.setCell h (p := ⟨b, o, none⟩) hb v
end Go.BK
namespace Go.Proofs.YtaenackibigojaaDoor
open Go.RowKit Go.BK

set_option maxHeartbeats 1000000 in
set_option maxRecDepth 100000 in
theorem diff1 (w : World) (A : Nat → Prop) (a : Option Addr) (n c : Nat) (l : List File) (s : Str) (B : Nat) (hb : B < w.heap.size) (hB : w.cell? ⟨B, 0, none⟩ = some (.slice a n c)) (h : Holds kFile A w a n l) (hm : Mild l) (hs : Srt l) (hsl : s.length ≤ maxLen) :
    Calls Tryd.prog 32 #[.string (mkS s), .pointer (some ⟨B, 0, none⟩)] w fun e w' => ∃ us, e = .returned (.tuple #[.agg us.toArray, .bool (!has l s)]) ∧ Ext w w' ∧ kOp.rep (fun k => w.heap.size ≤ k) w' (delS s) us := by
  have hfield := field_there
  obtain ⟨W0, hW0⟩ : ∃ W, w.alloc (.cells #[.int .i64 0, .string ⟨#[]⟩, .slice none 0 0, .int .i64 0, .slice none 0 0, .int .i64 0, .int .u8 0] 49) = W := ⟨_, rfl⟩
  have hx0 : Ext w W0 := by rw [← hW0]; exact Ext.alloc _ _
  have hn0 : W0.heap[w.heap.size]? = some (.cells #[.int .i64 0, .string ⟨#[]⟩, .slice none 0 0, .int .i64 0, .slice none 0 0, .int .i64 0, .int .u8 0] 49 (0, 0)) := by rw [← hW0]; exact heap_alloc_new w _
  have hsz0 : w.heap.size < W0.heap.size := by rw [← hW0]; simp
  have hcB : W0.cell? ⟨B, 0, none⟩ = some (.slice a n c) := (hx0.cell (p := ⟨B, 0, none⟩) hb).trans hB
  have hof := of_ W0 A a n c l s (h.ext hx0) hm hs
  generalize has l s = hv at *
  generalize (dataOf l s).getD [] = lk at *
  clear h hs hm hB
  go_enter Tryd.func32, Tryd.ntmps32
  go_wp2_with (fail)
  refine hof.mono ?_
  rintro e w1 ⟨rfl, hx1⟩
  have hrow : w1.heap[w.heap.size]? = some (.cells #[.int .i64 0, .string ⟨#[]⟩, .slice none 0 0, .int .i64 0, .slice none 0 0, .int .i64 0, .int .u8 0] 49 (0, 0)) := (hx1.block _ hsz0).trans hn0
  have hc0 : w1.cell? ⟨w.heap.size, 0, none⟩ = some (.int .i64 0) := (cell_of_row _ _ _ _ _ _ hrow).trans rfl
  have hc1 : w1.cell? ⟨w.heap.size, 1, none⟩ = some (.string ⟨#[]⟩) := (cell_of_row _ _ _ _ _ _ hrow).trans rfl
  have hc2 : w1.cell? ⟨w.heap.size, 2, none⟩ = some (.slice none 0 0) := (cell_of_row _ _ _ _ _ _ hrow).trans rfl
  have hc3 : w1.cell? ⟨w.heap.size, 3, none⟩ = some (.int .i64 0) := (cell_of_row _ _ _ _ _ _ hrow).trans rfl
  have hc4 : w1.cell? ⟨w.heap.size, 4, none⟩ = some (.slice none 0 0) := (cell_of_row _ _ _ _ _ _ hrow).trans rfl
  have hc5 : w1.cell? ⟨w.heap.size, 5, none⟩ = some (.int .i64 0) := (cell_of_row _ _ _ _ _ _ hrow).trans rfl
  have hc6 : w1.cell? ⟨w.heap.size, 6, none⟩ = some (.int .u8 0) := (cell_of_row _ _ _ _ _ _ hrow).trans rfl
  have hz0 : w1.frozen? ⟨w.heap.size, 0, none⟩ = false := frozen_of_row _ _ _ _ _ hrow
  have hz1 : w1.frozen? ⟨w.heap.size, 1, none⟩ = false := frozen_of_row _ _ _ _ _ hrow
  have hz2 : w1.frozen? ⟨w.heap.size, 2, none⟩ = false := frozen_of_row _ _ _ _ _ hrow
  have hz3 : w1.frozen? ⟨w.heap.size, 3, none⟩ = false := frozen_of_row _ _ _ _ _ hrow
  have hz4 : w1.frozen? ⟨w.heap.size, 4, none⟩ = false := frozen_of_row _ _ _ _ _ hrow
  have hz5 : w1.frozen? ⟨w.heap.size, 5, none⟩ = false := frozen_of_row _ _ _ _ _ hrow
  have hz6 : w1.frozen? ⟨w.heap.size, 6, none⟩ = false := frozen_of_row _ _ _ _ _ hrow
  have hx2 := hx0.trans hx1
  have hx3 : Ext w (((((((w1.setCell ⟨w.heap.size, 0, none⟩ (.int .i64 11)).setCell ⟨w.heap.size, 1, none⟩ (.string (mkS s))).setCell ⟨w.heap.size, 2, none⟩ (.slice none 0 0)).setCell ⟨w.heap.size, 3, none⟩ (.int .i64 0)).setCell ⟨w.heap.size, 4, none⟩ (.slice none 0 0)).setCell ⟨w.heap.size, 5, none⟩ (.int .i64 0)).setCell ⟨w.heap.size, 6, none⟩ (.int .u8 0)) := (((((((hx2.set (Nat.le_refl _) _).set (Nat.le_refl _) _).set (Nat.le_refl _) _).set (Nat.le_refl _) _).set (Nat.le_refl _) _).set (Nat.le_refl _) _).set (Nat.le_refl _) _)
  clear hof hx1 hn0 hx0 hcB hrow hx2
  go_wp2
  exact bodyPost_ret (v := .tuple #[.agg #[.int .i64 11, .string (mkS s), .slice none 0 0, .int .i64 0, .slice none 0 0, .int .i64 0, .int .u8 0], .bool (!hv)]) (by simp [results, Tryd.results32, go_sem, hc0, hc1, hc2, hc3, hc4, hc5, hc6]) rfl ⟨[.int .i64 11, .string (mkS s), .slice none 0 0, .int .i64 0, .slice none 0 0, .int .i64 0, .int .u8 0], rfl, hx3, kOp_mk (o := delS s) hsl (Nat.le_refl _) (by decide) holds_none (Nat.le_refl _) (by decide) holds_none lit11 lit0 lit0⟩
end Go.Proofs.YtaenackibigojaaDoor

/- Part of the proofs: choose_: what plan.choose answers. -/
import Derived.Test.YtaenackibigojaaDoorP15
import Derived.Test.YtaenackibigojaaDoorQ6
set_option linter.unusedVariables false
set_option linter.unusedSimpArgs false
namespace Go.BK
def eqB (a b : Bool × Str) : Bool := a.1 == b.1 && decide (a.2 = b.2)
def chooseB (x y z : Bool × Str) : (Bool × Str) × Bool := if eqB y z || eqB x z then (y, true) else if eqB x y then (z, true) else (x, false)
def valB (o : Option Str) : Bool × Str := (o.isSome, o.getD [])
theorem eqB_val (a b : Option Str) : eqB (valB a) (valB b) = decide (a = b) := by
  cases a <;> cases b <;> simp [eqB, valB]
  rw [Bool.eq_iff_iff]
  exact decide_eq_true_iff.trans decide_eq_true_iff.symm
theorem chooseB_val (x y z : Option Str) : chooseB (valB x) (valB y) (valB z) = (valB (chooseV x y z).1, (chooseV x y z).2) := by
  unfold chooseB chooseV
  rw [eqB_val, eqB_val, eqB_val]
  by_cases h1 : y = z
  · simp [h1]
  · by_cases h2 : x = z
    · simp [h2]
    · by_cases h3 : x = y
      · simp [h1, h2, h3]
      · simp [h1, h2, h3]
end Go.BK
namespace Go.Proofs.YtaenackibigojaaDoor
open Go.RowKit Go.BK
set_option maxHeartbeats 1000000 in
set_option maxRecDepth 100000 in
theorem choose_ (w : World) (x y z : Bool × Str) :
    Calls Tryd.prog 35 #[.agg #[.bool x.1, .string (mkS x.2)], .agg #[.bool y.1, .string (mkS y.2)], .agg #[.bool z.1, .string (mkS z.2)]] w fun e w' =>
      e = .returned (.tuple #[.agg #[.bool (chooseB x y z).1.1, .string (mkS (chooseB x y z).1.2)], .bool (chooseB x y z).2]) ∧ Ext w w' := by
  obtain ⟨x1, x2⟩ := x
  obtain ⟨y1, y2⟩ := y
  obtain ⟨z1, z2⟩ := z
  have hgd : Tryd.prog.eqGuardType Tryd.prog.depth 61 = false := by kernel_rfl
  have q1 := fun W => equal_value y1 z1 y2 z2 W
  have q2 := fun W => equal_value x1 z1 x2 z2 W
  have q3 := fun W => equal_value x1 y1 x2 y2 W
  have f1 : eqB (y1, y2) (z1, z2) = (y1 == z1 && decide (y2 = z2)) := rfl
  have f2 : eqB (x1, x2) (z1, z2) = (x1 == z1 && decide (x2 = z2)) := rfl
  have f3 : eqB (x1, x2) (y1, y2) = (x1 == y1 && decide (x2 = y2)) := rfl
  rw [← f1] at q1
  rw [← f2] at q2
  rw [← f3] at q3
  clear f1 f2 f3
  unfold chooseB
  generalize eqB (y1, y2) (z1, z2) = b1 at *
  generalize eqB (x1, x2) (z1, z2) = b2 at *
  generalize eqB (x1, x2) (y1, y2) = b3 at *
  obtain ⟨Wa, hWa⟩ : ∃ W, w.alloc (.cells #[.bool x1, .string (mkS x2)] 61) = W := ⟨_, rfl⟩
  have xWa : Ext w Wa := by rw [← hWa]; exact Ext.alloc _ _
  have sWa : Wa.heap.size = w.heap.size + 1 := by rw [← hWa]; simp
  have rWa : Wa.heap[w.heap.size]? = some (.cells #[.bool x1, .string (mkS x2)] 61 (0, 0)) := by rw [← hWa]; exact heap_alloc_new w _
  obtain ⟨Wb, hWb⟩ : ∃ W, Wa.alloc (.cells #[.bool y1, .string (mkS y2)] 61) = W := ⟨_, rfl⟩
  have xWb : Ext Wa Wb := by rw [← hWb]; exact Ext.alloc _ _
  have sWb : Wb.heap.size = w.heap.size + 2 := by rw [← hWb]; simp [sWa]
  have rWb : Wb.heap[Wa.heap.size]? = some (.cells #[.bool y1, .string (mkS y2)] 61 (0, 0)) := by rw [← hWb]; exact heap_alloc_new Wa _
  rw [sWa] at rWb
  obtain ⟨Wc, hWc⟩ : ∃ W, Wb.alloc (.cells #[.bool z1, .string (mkS z2)] 61) = W := ⟨_, rfl⟩
  have xWc : Ext Wb Wc := by rw [← hWc]; exact Ext.alloc _ _
  have sWc : Wc.heap.size = w.heap.size + 3 := by rw [← hWc]; simp [sWb]
  have rWc : Wc.heap[Wb.heap.size]? = some (.cells #[.bool z1, .string (mkS z2)] 61 (0, 0)) := by rw [← hWc]; exact heap_alloc_new Wb _
  rw [sWb] at rWc
  obtain ⟨W0, hW0⟩ : ∃ W, Wc.alloc (.cells #[.bool false, .string ⟨#[]⟩] 61) = W := ⟨_, rfl⟩
  have xW0 : Ext Wc W0 := by rw [← hW0]; exact Ext.alloc _ _
  have sW0 : W0.heap.size = w.heap.size + 4 := by rw [← hW0]; simp [sWc]
  have rW0 : W0.heap[Wc.heap.size]? = some (.cells #[.bool false, .string ⟨#[]⟩] 61 (0, 0)) := by rw [← hW0]; exact heap_alloc_new Wc _
  rw [sWc] at rW0
  have hx0 : Ext w W0 := xWa.trans (xWb.trans (xWc.trans xW0))
  have c00 : W0.cell? ⟨w.heap.size, 0, none⟩ = some (.bool x1) := (cell_of_row _ _ _ _ _ _ (((xWb.trans (xWc.trans xW0)).block _ (by omega)).trans rWa)).trans rfl
  have c01 : W0.cell? ⟨w.heap.size, 1, none⟩ = some (.string (mkS x2)) := (cell_of_row _ _ _ _ _ _ (((xWb.trans (xWc.trans xW0)).block _ (by omega)).trans rWa)).trans rfl
  have c10 : W0.cell? ⟨w.heap.size + 1, 0, none⟩ = some (.bool y1) := (cell_of_row _ _ _ _ _ _ (((xWc.trans xW0).block _ (by omega)).trans rWb)).trans rfl
  have c11 : W0.cell? ⟨w.heap.size + 1, 1, none⟩ = some (.string (mkS y2)) := (cell_of_row _ _ _ _ _ _ (((xWc.trans xW0).block _ (by omega)).trans rWb)).trans rfl
  have c20 : W0.cell? ⟨w.heap.size + 2, 0, none⟩ = some (.bool z1) := (cell_of_row _ _ _ _ _ _ (((xW0).block _ (by omega)).trans rWc)).trans rfl
  have c21 : W0.cell? ⟨w.heap.size + 2, 1, none⟩ = some (.string (mkS z2)) := (cell_of_row _ _ _ _ _ _ (((xW0).block _ (by omega)).trans rWc)).trans rfl
  have c30 : W0.cell? ⟨w.heap.size + 3, 0, none⟩ = some (.bool false) := (cell_of_row _ _ _ _ _ _ rW0).trans rfl
  have c31 : W0.cell? ⟨w.heap.size + 3, 1, none⟩ = some (.string ⟨#[]⟩) := (cell_of_row _ _ _ _ _ _ rW0).trans rfl
  have z30 : W0.frozen? ⟨w.heap.size + 3, 0, none⟩ = false := frozen_of_row _ _ _ _ _ rW0
  have z31 : W0.frozen? ⟨w.heap.size + 3, 1, none⟩ = false := frozen_of_row _ _ _ _ _ rW0
  clear rWa rWb rWc rW0 xWa xWb xWc xW0
  have fin : ∀ (u : Bool) (t : Str), Ext w ((W0.setCell ⟨w.heap.size + 3, 0, none⟩ (.bool u)).setCell ⟨w.heap.size + 3, 1, none⟩ (.string (mkS t))) := fun u t => (hx0.set (by omega) _).set (by omega) _
  cases b1 with
  | true =>
    go_enter Tryd.func35, Tryd.ntmps35
    go_wp2
    refine bodyPost_ret (v := .tuple #[.agg #[.bool y1, .string (mkS y2)], .bool true]) ?_ rfl ?_
    · simp [results, Tryd.results35, go_sem, c30, c31]
    · exact ⟨rfl, fin _ _⟩
  | false =>
    cases b2 with
    | true =>
      go_enter Tryd.func35, Tryd.ntmps35
      go_wp2
      refine bodyPost_ret (v := .tuple #[.agg #[.bool y1, .string (mkS y2)], .bool true]) ?_ rfl ?_
      · simp [results, Tryd.results35, go_sem, c30, c31]
      · exact ⟨rfl, fin _ _⟩
    | false =>
      cases b3 with
      | true =>
        go_enter Tryd.func35, Tryd.ntmps35
        go_wp2
        refine bodyPost_ret (v := .tuple #[.agg #[.bool z1, .string (mkS z2)], .bool true]) ?_ rfl ?_
        · simp [results, Tryd.results35, go_sem, c30, c31]
        · exact ⟨rfl, fin _ _⟩
      | false =>
        go_enter Tryd.func35, Tryd.ntmps35
        go_wp2
        refine bodyPost_ret (v := .tuple #[.agg #[.bool x1, .string (mkS x2)], .bool false]) ?_ rfl ?_
        · simp [results, Tryd.results35, go_sem, c30, c31]
        · exact ⟨rfl, fin _ _⟩
end Go.Proofs.YtaenackibigojaaDoor

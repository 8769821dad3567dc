/- Part of the proofs: find_, of_: each says what its head says. -/
import Derived.Test.YtaenackibigojaaDoorP6
import Derived.Test.YtaenackibigojaaDoorP4
set_option linter.unusedVariables false
set_option linter.unusedSimpArgs false
namespace Go.Proofs.YtaenackibigojaaDoor
open Go.RowKit Go.BK

set_option maxHeartbeats 800000 in
set_option maxRecDepth 100000 in
theorem find_ (w : World) (A : Nat → Prop) (a : Option Addr) (n c : Nat) (l : List File) (s : Str) (h : Holds kFile A w a n l) (hm : Mild l) (hs : Srt l) :
    Calls Tryd.prog 46 #[.slice a n c, .string (mkS s)] w fun e w' =>
      ∃ v, e = .returned (.tuple #[v, .bool (has l s)]) ∧ Owns kByte 5 w.heap.size (fun _ => False) w' v ((dataOf l s).getD []) ∧ Ext w w' := by
  have hfn : Fits n := by have := hm.len; rwa [h.1] at this
  have hnn : n ≤ 1099511627776 := hfn.out
  have hl := Lib.hid h.1
  have hs' := Lib.hid hs
  clear hs
  cases hhas : has l s with
  | true =>
    obtain ⟨f, hf, hfn2, hlk⟩ := dataOf_at hs'.out hhas
    have hlk' := Lib.hid hlk
    have hpl := has_pos_lt hhas
    rw [hl.out] at hpl
    obtain ⟨b, o, ad, m, cc, rfl, hA, hb, hc0, hc1, hns, hmc, hcm, hd⟩ := files_at h (pos l s) f hf
    have hfd : Fits m := by have := hm.data f (List.mem_of_getElem? hf); rwa [(hd w (Ext.refl w)).1] at this
    have hpl' := place w A (some ⟨b, o, none⟩) n c l s h hfn hs'.out
    rw [hhas] at hpl'
    clear hhas hlk hf hfn2
    generalize pos l s = p at *
    go_enter Tryd.func46, Tryd.ntmps46
    go_wp2_with (fail)
    refine hpl'.mono ?_
    rintro e w1 ⟨rfl, hx1⟩
    clear hpl'
    go_wp2_with (go_at_call 38; refine (cloneBytes _ A _ _ _ f.data (hd _ hx1) hfd).mono ?_; rintro e w2 ⟨v, rfl, hov, hx2⟩)
    go_ret2
    refine ⟨v, rfl, ?_, hx1.trans hx2⟩
    rw [hlk'.out]
    exact hov.lower hx1.size
  | false =>
    have hlk := Lib.hid (dataOf_none hhas)
    have hpl' := place w A a n c l s h hfn hs'.out
    rw [hhas] at hpl'
    clear hhas
    go_enter Tryd.func46, Tryd.ntmps46
    go_wp2_with (fail)
    refine hpl'.mono ?_
    rintro e w1 ⟨rfl, hx1⟩
    clear hpl'
    go_wp2
    go_ret2
    refine ⟨.slice none 0 0, rfl, ?_, hx1⟩
    rw [hlk.out]
    exact ⟨_, fun k h => h, OwnsF.nil _ _ _ _⟩

set_option maxHeartbeats 800000 in
set_option maxRecDepth 100000 in
theorem of_ (w : World) (A : Nat → Prop) (a : Option Addr) (n c : Nat) (l : List File) (s : Str) (h : Holds kFile A w a n l) (hm : Mild l) (hs : Srt l) :
    Calls Tryd.prog 33 #[.slice a n c, .string (mkS s)] w fun e w' => e = .returned (.agg #[.bool (has l s), .string (mkS ((dataOf l s).getD []))]) ∧ Ext w w' := by
  have hf1 := fun w (h : Holds kFile A w a n l) => find_ w A a n c l s h hm hs
  have hx0 : Ext w (w.alloc (.cells #[.bool false, .string .empty] 61)) := Ext.alloc _ _
  have hz := h.ext hx0
  have hf2 := hf1 _ hz
  have hn0 : (w.alloc (.cells #[.bool false, .string .empty] 61)).heap[w.heap.size]? = some (.cells #[.bool false, .string .empty] 61 (0, 0)) := heap_alloc_new w _
  have hs0 : (w.alloc (.cells #[.bool false, .string .empty] 61)).heap.size = w.heap.size + 1 := by simp
  generalize has l s = hb at *
  generalize (dataOf l s).getD [] = lk at *
  clear hf1 hs
  go_enter Tryd.func33, Tryd.ntmps33
  go_wp2_with (fail)
  refine hf2.mono ?_
  rintro e w1 ⟨v, rfl, hov, hx1⟩
  obtain ⟨av, cv, rfl, hcv, hcv2, hh⟩ := hov.holds
  have hcv := run_convert_holds (P := Tryd.prog) (src := 27) (dst := 9) (c := cv) Tryd.underlying27 Tryd.underlying5 Tryd.underlying9 hh
  have hrow : w1.heap[w.heap.size]? = some (.cells #[.bool false, .string .empty] 61 (0, 0)) := (hx1.block _ (by omega)).trans hn0
  have hc0 : w1.cell? ⟨w.heap.size, 0, none⟩ = some (.bool false) := (cell_of_row _ _ _ _ _ _ hrow).trans rfl
  have hc1 : w1.cell? ⟨w.heap.size, 1, none⟩ = some (.string .empty) := (cell_of_row _ _ _ _ _ _ hrow).trans rfl
  have hz0 : w1.frozen? ⟨w.heap.size, 0, none⟩ = false := frozen_of_row _ _ _ _ _ hrow
  have hz1 : w1.frozen? ⟨w.heap.size, 1, none⟩ = false := frozen_of_row _ _ _ _ _ hrow
  have hx2 := hx0.trans hx1
  clear hov hh hx1 hn0 hs0 hf2 hx0 hz h
  go_wp2
  have hx3 : Ext w ((w1.setCell ⟨w.heap.size, 0, none⟩ (.bool hb)).setCell ⟨w.heap.size, 1, none⟩ (.string (mkS lk))) := (Below.setCell (Below.setCell hx2 (p := ⟨w.heap.size, 0, none⟩) (Nat.le_refl _) _) (p := ⟨w.heap.size, 1, none⟩) (Nat.le_refl _) _)
  exact bodyPost_ret (v := .agg #[.bool hb, .string (mkS lk)]) (by simp [results, Tryd.results33, go_sem, hc0, hc1]) rfl ⟨rfl, hx3⟩
end Go.Proofs.YtaenackibigojaaDoor

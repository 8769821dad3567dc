/- Part of the proofs: field_there, refused: each says what its head says. -/
import Derived.Test.YtaenackibigojaaDoorP8
set_option linter.unusedVariables false
set_option linter.unusedSimpArgs false
namespace Go.Proofs.YtaenackibigojaaDoor
open Go.RowKit Go.BK


theorem field_there (b : Bool) (s : ByteArray) (w : World) : (Instr.field 61 (.agg #[.bool b, .string s]) 0).run Tryd.prog w = .ok (.bool b) w := by kernel_rfl

set_option maxHeartbeats 1000000 in
set_option maxRecDepth 100000 in
theorem refused (w : World) (A : Nat → Prop) (a : Option Addr) (n c : Nat) (l : List File) (o : Stp) (ad : Option Addr) (m cc : Nat) (ad' : Option Addr) (m' cc' : Nat) (h : Holds kFile A w a n l) (hm : Mild l) (hs : Srt l) (henv : Env w) (hnm : Fits o.name.length) (hdm : o.data.length = m) (hfd : Fits m) :
    Calls Tryd.prog 21 #[.slice a n c, .agg #[.int .i64 o.kind, .string (mkS o.name), .slice ad m cc, .int .i64 o.n, .slice ad' m' cc', .int .i64 o.names, .int .u8 o.fill.toNat]] w fun e w' =>
      e = .returned (.int .i64 (refusedE l o)) ∧ Ext w w' := by
  have hfield := field_there
  have hl := Lib.hid h.1
  have hfm := Lib.hid hfd.out
  have hr := Lib.hid (show refusedE l o = _ from rfl)
  obtain ⟨W0, hW0⟩ : ∃ W, w.alloc (.cells #[.int .i64 o.kind, .string (mkS o.name), .slice ad m cc, .int .i64 o.n, .slice ad' m' cc', .int .i64 o.names, .int .u8 o.fill.toNat] 49) = W := ⟨_, rfl⟩
  have hx0 : Ext w W0 := by rw [← hW0]; exact Ext.alloc _ _
  have hn0 : W0.heap[w.heap.size]? = some (.cells #[.int .i64 o.kind, .string (mkS o.name), .slice ad m cc, .int .i64 o.n, .slice ad' m' cc', .int .i64 o.names, .int .u8 o.fill.toNat] 49 (0, 0)) := by rw [← hW0]; exact heap_alloc_new w _
  have hsz0 : w.heap.size < W0.heap.size := by rw [← hW0]; simp
  have hbox : ∀ W, Ext W0 W → W.heap[w.heap.size]? = some (.cells #[.int .i64 o.kind, .string (mkS o.name), .slice ad m cc, .int .i64 o.n, .slice ad' m' cc', .int .i64 o.names, .int .u8 o.fill.toNat] 49 (0, 0)) := fun W hW => (hW.block _ hsz0).trans hn0
  have hb0 : ∀ W, Ext W0 W → W.cell? ⟨w.heap.size, 0, none⟩ = some (.int .i64 o.kind) := fun W hW => (cell_of_row _ _ _ _ _ _ (hbox W hW)).trans rfl
  have hb1 : ∀ W, Ext W0 W → W.cell? ⟨w.heap.size, 1, none⟩ = some (.string (mkS o.name)) := fun W hW => (cell_of_row _ _ _ _ _ _ (hbox W hW)).trans rfl
  have hb2 : ∀ W, Ext W0 W → W.cell? ⟨w.heap.size, 2, none⟩ = some (.slice ad m cc) := fun W hW => (cell_of_row _ _ _ _ _ _ (hbox W hW)).trans rfl
  have hof := of_ W0 A a n c l o.name (h.ext hx0) hm hs
  have hrt := fun W (hW : Ext w W) => right_ W o.name hnm (henv.ext hW)
  clear hn0 hbox h hs henv
  generalize hhv : has l o.name = hv at *
  generalize (dataOf l o.name).getD [] = lk at *
  have hhv' := Lib.hid hhv
  clear hhv
  by_cases k11 : o.kind = 11
  · have k1 : (o.kind == 11) = true := by simp [k11]
    have k11' := Lib.hid k11
    clear k11
    cases hv with
    | true =>
      have hfin : Hid (refusedE l o = 0) := Lib.hid (by simp [refusedE, k11'.out, hhv'.out])
      go_enter Tryd.func21, Tryd.ntmps21
      go_wp2_with (fail)
      refine hof.mono ?_
      rintro e w1 ⟨rfl, hx1⟩
      have hx01 := hx0.trans hx1
      clear hof
      go_wp2
      go_ret
      exact ⟨ret_i hfin.out.symm, hx01⟩
    | false =>
      have hfin : Hid (refusedE l o = 7) := Lib.hid (by simp [refusedE, k11'.out, hhv'.out])
      go_enter Tryd.func21, Tryd.ntmps21
      go_wp2_with (fail)
      refine hof.mono ?_
      rintro e w1 ⟨rfl, hx1⟩
      have hx01 := hx0.trans hx1
      clear hof
      go_wp2
      go_ret
      exact ⟨ret_i hfin.out.symm, hx01⟩
  · have k1 : (o.kind == 11) = false := by simp [k11]
    by_cases k3 : o.kind = 3
    · have k2 : (o.kind != 3) = false := by simp [k3]
      have k11' := Lib.hid k11
      have k3' := Lib.hid k3
      clear k11 k3
      cases hrn : right o.name with
      | false =>
        have hfin : Hid (refusedE l o = 6) := Lib.hid (by simp [refusedE, k11'.out, k3'.out, hrn])
        go_enter Tryd.func21, Tryd.ntmps21
        go_wp2_with (fail)
        refine hof.mono ?_
        rintro e w1 ⟨rfl, hx1⟩
        have hx01 := hx0.trans hx1
        clear hof
        go_wp2_with (go_at_call 36; refine (hrt _ hx01).mono ?_; rintro e w2 ⟨rfl, hx2⟩)
        go_ret
        exact ⟨ret_i hfin.out.symm, hx01.trans hx2⟩
      | true =>
        by_cases hlen : 65536 < o.data.length
        · have hfin : Hid (refusedE l o = 5) := Lib.hid (by simp [refusedE, k11'.out, k3'.out, hrn, hlen])
          rw [hdm] at hlen
          have hlen2 : (65536 : Int) < (m : Int) := by omega
          have hlen' := Lib.hid hlen
          clear hlen
          go_enter Tryd.func21, Tryd.ntmps21
          go_wp2_with (fail)
          refine hof.mono ?_
          rintro e w1 ⟨rfl, hx1⟩
          have hx01 := hx0.trans hx1
          clear hof
          go_wp2_with (go_at_call 36; refine (hrt _ hx01).mono ?_; rintro e w2 ⟨rfl, hx2⟩; have hx12 := hx1.trans hx2)
          go_ret
          exact ⟨ret_i hfin.out.symm, hx01.trans hx2⟩
        · have hlen' := Lib.hid hlen
          rw [hdm] at hlen
          have hlen2 : ¬ (65536 : Int) < (m : Int) := by omega
          clear hlen
          cases hv with
          | true =>
            have hfin : Hid (refusedE l o = 0) := Lib.hid (by simp [refusedE, k11'.out, k3'.out, hrn, hlen'.out, hhv'.out])
            go_enter Tryd.func21, Tryd.ntmps21
            go_wp2_with (fail)
            refine hof.mono ?_
            rintro e w1 ⟨rfl, hx1⟩
            have hx01 := hx0.trans hx1
            clear hof
            go_wp2_with (go_at_call 36; refine (hrt _ hx01).mono ?_; rintro e w2 ⟨rfl, hx2⟩; have hx12 := hx1.trans hx2)
            go_ret
            exact ⟨ret_i hfin.out.symm, hx01.trans hx2⟩
          | false =>
            by_cases h200 : 200 ≤ n
            · have hfin : Hid (refusedE l o = 14) := Lib.hid (by simp [refusedE, k11'.out, k3'.out, hrn, hlen'.out, hhv'.out, hl.out, h200])
              have h2 : (200 : Int) ≤ (n : Int) := by omega
              go_enter Tryd.func21, Tryd.ntmps21
              go_wp2_with (fail)
              refine hof.mono ?_
              rintro e w1 ⟨rfl, hx1⟩
              have hx01 := hx0.trans hx1
              clear hof
              go_wp2_with (go_at_call 36; refine (hrt _ hx01).mono ?_; rintro e w2 ⟨rfl, hx2⟩; have hx12 := hx1.trans hx2)
              go_ret
              exact ⟨ret_i hfin.out.symm, hx01.trans hx2⟩
            · have hfin : Hid (refusedE l o = 0) := Lib.hid (by simp [refusedE, k11'.out, k3'.out, hrn, hlen'.out, hhv'.out, hl.out, h200])
              have h2 : ¬ (200 : Int) ≤ (n : Int) := by omega
              go_enter Tryd.func21, Tryd.ntmps21
              go_wp2_with (fail)
              refine hof.mono ?_
              rintro e w1 ⟨rfl, hx1⟩
              have hx01 := hx0.trans hx1
              clear hof
              go_wp2_with (go_at_call 36; refine (hrt _ hx01).mono ?_; rintro e w2 ⟨rfl, hx2⟩; have hx12 := hx1.trans hx2)
              go_ret
              exact ⟨ret_i hfin.out.symm, hx01.trans hx2⟩
    · have k2 : (o.kind != 3) = true := by simp [k3]
      have hfin : Hid (refusedE l o = 1) := Lib.hid (by simp [refusedE, k11, k3])
      clear k11 k3
      go_enter Tryd.func21, Tryd.ntmps21
      go_wp2_with (fail)
      refine hof.mono ?_
      rintro e w1 ⟨rfl, hx1⟩
      have hx01 := hx0.trans hx1
      clear hof
      go_wp2
      go_ret
      exact ⟨ret_i hfin.out.symm, hx01⟩
end Go.Proofs.YtaenackibigojaaDoor

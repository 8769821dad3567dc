/- Part of the proofs: stepE_of_err, stepE_of_ok, RefApplyPost, ref_apply: each says what its head says. -/
import Derived.Test.YtaenackibigojaaDoorR10
set_option linter.unusedVariables false
set_option linter.unusedSimpArgs false
namespace Go.BK
theorem stepE_of_err {L : List File} {o : Stp} {x : Int} (h : refusedE L o = x) (hx : x ≠ 0) : stepE L o = .error x := by unfold stepE; rw [h, if_neg hx]
theorem stepE_of_ok {L : List File} {o : Stp} (h : refusedE L o = 0) : stepE L o = .ok (if o.kind = 3 then withP L o.name o.data else withoutP L o.name) := by unfold stepE; rw [h, if_pos rfl]
end Go.BK
namespace Go.Proofs.YtaenackibigojaaDoor
open Go.RowKit Go.BK

def RefApplyPost (r : Except Int (List File)) (w' : World) (e : Ending) : Prop :=
  (∃ a c L A', r = .ok L ∧ e = .returned (.tuple #[.slice a L.length c, .int .i64 0]) ∧ Holds kFile A' w' a L.length L) ∨ (∃ x, r = .error x ∧ e = .returned (.tuple #[.slice none 0 0, .int .i64 x]))

set_option maxHeartbeats 2000000 in
set_option maxRecDepth 100000 in
theorem ref_apply (w : World) (A B : Nat → Prop) (a a2 : Option Addr) (n c n2 c2 : Nat) (l : List File) (os : List Stp) (h : Holds kFile A w a n l) (h2 : Holds kOp B w a2 n2 os) (hlen : l.length + os.length ≤ 1073741824) (hs : Srt l) (hon : ∀ o ∈ os, Fits o.name.length) :
    Calls Tryd.prog 11 #[.slice a n c, .slice a2 n2 c2] w fun e w' => RefApplyPost (applyE l os) w' e ∧ Ext w w' := by
  have hl := Lib.hid h.1
  have hl2 := Lib.hid h2.1
  have hnn : n2 ≤ 9223372036854775807 := h2.le
  have hlen' := Lib.hid hlen
  have hon' := Lib.hid hon
  have hst : Hid (∃ A', Holds kFile A' w a n l) := Lib.hid ⟨_, h⟩
  have hs' := Lib.hid hs
  clear hlen hon h hs
  go_enter Tryd.func11, Tryd.ntmps11
  go_wp2
  go_loopw [0, 6] (fun s0 i wr => ∃ (k : Nat) (L : List File) (a' : Option Addr) (n' c' : Nat), i = .int .i64 k ∧ k ≤ n2 ∧ s0 = .slice a' n' c' ∧ Hid (∃ A', Holds kFile A' wr a' n' L) ∧ Hid (applyE l (os.take k) = .ok L ∧ Srt L ∧ L.length ≤ l.length + k) ∧ Ext w wr) (fun _ i _ => n2 - (intOf i).toNat)
  case atStart => exact ⟨0, l, a, n, c, rfl, Nat.zero_le _, rfl, hst, Lib.hid ⟨rfl, hs'.out, by omega⟩, Ext.refl _⟩
  case round =>
    obtain ⟨k, L, a', n', c', rfl, hkn, rfl, hst', hL, hx⟩ := hrel
    clear hst
    obtain ⟨A', hh'⟩ := hst'.out
    have hn' : n' ≤ 1073741824 := by have h1 := hL.out.2.2; have h2 := hh'.1; have h3 := hlen'.out; have h4 := hl2.out; omega
    have hLn := Lib.hid hh'.1
    by_cases hlt : k < n2
    · obtain ⟨o, ho⟩ : ∃ f, os[k]? = some f := ⟨_, List.getElem?_eq_getElem (by rw [hl2.out]; omega)⟩
      obtain ⟨b, of', ad, m, cc, ad', m', cc', rfl, hB, hb, hc0, hc1, hc2, hc3, hc4, hc5, hc6, hns, hmc, hcm, hd, _, _, hd', _⟩ := ops_at h2 k o ho
      have hfnm := hon'.out o (List.mem_of_getElem? ho)
      have hdl := Lib.hid (hd w (Ext.refl w)).1
      have hdm : m ≤ maxLen := (hd w (Ext.refl w)).2.1
      have ho' := Lib.hid ho
      have d0 := hc0 _ hx
      have d1 := hc1 _ hx
      have d2 := hc2 _ hx
      have d3 := hc3 _ hx
      have d4 := hc4 _ hx
      have d5 := hc5 _ hx
      have d6 := hc6 _ hx
      clear ho hd' hc0 hc1 hc2 hc3 hc4 hc5 hc6
      obtain ⟨W0, hW0⟩ : ∃ W, wr.alloc (.cells #[.int .i64 o.kind, .string (mkS o.name), .slice ad m cc, .int .i64 o.n, .slice ad' m' cc', .int .i64 o.names, .int .u8 o.fill.toNat] 49) = W := ⟨_, rfl⟩
      have hx0 : Ext wr W0 := by rw [← hW0]; exact Ext.alloc _ _
      have hn0 : W0.heap[wr.heap.size]? = some (.cells #[.int .i64 o.kind, .string (mkS o.name), .slice ad m cc, .int .i64 o.n, .slice ad' m' cc', .int .i64 o.names, .int .u8 o.fill.toNat] 49 (0, 0)) := by rw [← hW0]; exact heap_alloc_new wr _
      have hsz0 : wr.heap.size < W0.heap.size := by rw [← hW0]; simp
      have hbox : ∀ W, Ext W0 W → W.heap[wr.heap.size]? = some (.cells #[.int .i64 o.kind, .string (mkS o.name), .slice ad m cc, .int .i64 o.n, .slice ad' m' cc', .int .i64 o.names, .int .u8 o.fill.toNat] 49 (0, 0)) := fun W hW => (hW.block _ hsz0).trans hn0
      have hb0 : ∀ W, Ext W0 W → W.cell? ⟨wr.heap.size, 0, none⟩ = some (.int .i64 o.kind) := fun W hW => (cell_of_row _ _ _ _ _ _ (hbox W hW)).trans rfl
      have hb1 : ∀ W, Ext W0 W → W.cell? ⟨wr.heap.size, 1, none⟩ = some (.string (mkS o.name)) := fun W hW => (cell_of_row _ _ _ _ _ _ (hbox W hW)).trans rfl
      have hb2 : ∀ W, Ext W0 W → W.cell? ⟨wr.heap.size, 2, none⟩ = some (.slice ad m cc) := fun W hW => (cell_of_row _ _ _ _ _ _ (hbox W hW)).trans rfl
      have hb3 : ∀ W, Ext W0 W → W.cell? ⟨wr.heap.size, 3, none⟩ = some (.int .i64 o.n) := fun W hW => (cell_of_row _ _ _ _ _ _ (hbox W hW)).trans rfl
      have hb4 : ∀ W, Ext W0 W → W.cell? ⟨wr.heap.size, 4, none⟩ = some (.slice ad' m' cc') := fun W hW => (cell_of_row _ _ _ _ _ _ (hbox W hW)).trans rfl
      have hb5 : ∀ W, Ext W0 W → W.cell? ⟨wr.heap.size, 5, none⟩ = some (.int .i64 o.names) := fun W hW => (cell_of_row _ _ _ _ _ _ (hbox W hW)).trans rfl
      have hb6 : ∀ W, Ext W0 W → W.cell? ⟨wr.heap.size, 6, none⟩ = some (.int .u8 o.fill.toNat) := fun W hW => (cell_of_row _ _ _ _ _ _ (hbox W hW)).trans rfl
      have hxw0 := hx.trans hx0
      have hfd := ref_find W0 A' a' n' c' L o.name (hh'.ext hx0)
      have hcv := fun (W : World) (hW : Ext w W) => run_convert_holds (P := Tryd.prog) (src := 27) (dst := 9) (c := cc) Tryd.underlying27 Tryd.underlying5 Tryd.underlying9 (hd W hW)
      clear hbox hn0 hsz0
      have hfc : ∃ fi : Int, findI L o.name = fi ∧ (has L o.name = true ↔ 0 ≤ fi) := by
        rcases findI_cases L o.name with ⟨q1, q2⟩ | ⟨i, f2, q1, q2, q3⟩
        · exact ⟨-1, q1, by rw [has_dataOf, q2]; simp⟩
        · exact ⟨i, q1, by rw [has_dataOf, q3]; simp⟩
      obtain ⟨fi, hfi, hhas⟩ := hfc
      rw [hfi] at hfd
      clear hfi
      cases hv : has L o.name with
      | true =>
        have hf0 : (0 : Int) ≤ fi := hhas.1 hv
        have hf1 : ¬ fi < (0 : Int) := by omega
        have hfb : decide ((0 : Int) ≤ fi) = true := by simp [hf0]
        clear hhas
        by_cases k11 : o.kind = 11
        · have t11 : (o.kind == 11) = true := by simp [k11]
          have hse := Lib.hid (stepE_of_ok (L := L) (o := o) (by simp [refusedE, k11, hv]))
          have k11' := Lib.hid k11
          clear k11 hv
          go_wp2_with (go_at_call 25; refine hfd.mono ?_; rintro e w1 ⟨rfl, rfl⟩)
          refine (ref_without w1 A' a' n' c' L o.name (hh'.ext hx0) (Fits.of _ (Nat.le_refl _) (by omega))).mono ?_
          rintro e w4 ⟨v4, rfl, hov4, hx4⟩
          obtain ⟨av4, cv4, rfl, hcv4, hcv42, hh4⟩ := hov4.holds
          have hst4 : Hid (∃ A', Holds kFile A' w4 av4 (withoutP L o.name).length (withoutP L o.name)) := Lib.hid ⟨_, hh4⟩
          have hxw4 := hxw0.trans hx4
          have hok4 : Hid (applyE l (os.take (k + 1)) = .ok (withoutP L o.name)) := Lib.hid (by
            rw [List.take_add_one, ho'.out]
            refine (applyE_snoc _ _ _).trans ?_
            rw [hL.out.1]
            show stepE L o = _
            rw [hse.out, if_neg (by rw [k11'.out]; decide)])
          have hs4 : Hid (Srt (withoutP L o.name)) := Lib.hid (srt_withoutP hL.out.2.1 _)
          have hl4 : Hid ((withoutP L o.name).length ≤ l.length + (k + 1)) := Lib.hid (by have h1 := len_withoutP L o.name; have h2 := hL.out.2.2; omega)
          clear hov4 hh4 hb0 hb1 hb2 hb3 hb4 hb5 hb6 d0 d1 d2 d3 d4 d5 d6 hd hx4 hx0 hW0 hxw0 hcv hse 
          generalize withoutP L o.name = L4 at *
          go_wp2
          go_roundw
          case rel => exact ⟨k + 1, L4, av4, _, cv4, by go_num, by omega, rfl, hst4, Lib.hid ⟨hok4.out, hs4.out, hl4.out⟩, hxw4⟩
          case measure => simp [intOf]; omega
        · have t11 : (o.kind == 11) = false := by simp [k11]
          by_cases k3 : o.kind = 3
          · have t3 : (o.kind != 3) = false := by simp [k3]
            have hrr := fun W => ref_right W o.name hfnm
            cases hr : right o.name with
            | false =>
              rw [hr] at hrr
              have hfin := Lib.hid (applyE_stop ho'.out hL.out.1 (stepE_of_err (L := L) (o := o) (x := 6) (by simp [refusedE, k3, hr]) (by decide)))
              clear k3 k11 hv hr
              go_wp2_with (go_at_call 25; refine hfd.mono ?_; rintro e w1 ⟨rfl, rfl⟩)
              refine (hrr _).mono ?_
              rintro e w2 ⟨rfl, hx2⟩
              clear hrr
              go_wp2
              go_ret2
              exact ⟨.inr ⟨6, hfin.out, rfl⟩, hxw0.trans hx2⟩
            | true =>
              rw [hr] at hrr
              by_cases hbig : 65536 < m
              · have hfin := Lib.hid (applyE_stop ho'.out hL.out.1 (stepE_of_err (L := L) (o := o) (x := 5) (by simp [refusedE, k3, hr, hdl.out, hbig]) (by decide)))
                have t5 : (65536 : Int) < (m : Int) := by omega
                clear k3 k11 hv hr
                go_wp2_with (go_at_call 25; refine hfd.mono ?_; rintro e w1 ⟨rfl, rfl⟩)
                refine (hrr _).mono ?_
                rintro e w2 ⟨rfl, hx2⟩
                clear hrr
                go_wp2
                go_ret2
                exact ⟨.inr ⟨5, hfin.out, rfl⟩, hxw0.trans hx2⟩
              · have t5 : ¬ (65536 : Int) < (m : Int) := by omega
                have hse := Lib.hid (stepE_of_ok (L := L) (o := o) (by simp [refusedE, k3, hr, hdl.out, hbig, hv]))
                have k3' := Lib.hid k3
                clear k3 k11 hv hr
                go_wp2_with (go_at_call 25; refine hfd.mono ?_; rintro e w1 ⟨rfl, rfl⟩)
                refine (hrr _).mono ?_
                rintro e w2 ⟨rfl, hx2⟩
                clear hrr hfd
                have hxw2 := hxw0.trans hx2
                have hwr := ref_with w2 A' a' n' c' L o.name o.data (hh'.ext (hx0.trans hx2)) (Fits.of _ (Nat.le_refl _) (by omega)) hns (by rw [hdl.out]; exact hdm)
                rw [withR_srt hL.out.2.1] at hwr
                go_wp2_with (go_at_call 28; refine hwr.mono ?_; rintro e w4 ⟨v4, rfl, hov4, hx4⟩)
                clear hwr hxw2
                obtain ⟨av4, cv4, rfl, hcv4, hcv42, hh4⟩ := hov4.holds
                have hst4 : Hid (∃ A', Holds kFile A' w4 av4 (withP L o.name o.data).length (withP L o.name o.data)) := Lib.hid ⟨_, hh4⟩
                have hxw4 := hxw0.trans (hx2.trans hx4)
                have hok4 : Hid (applyE l (os.take (k + 1)) = .ok (withP L o.name o.data)) := Lib.hid (by
                  rw [List.take_add_one, ho'.out]
                  refine (applyE_snoc _ _ _).trans ?_
                  rw [hL.out.1]
                  show stepE L o = _
                  rw [hse.out, if_pos k3'.out])
                have hs4 : Hid (Srt (withP L o.name o.data)) := Lib.hid (srt_withP hL.out.2.1 _ _)
                have hl4 : Hid ((withP L o.name o.data).length ≤ l.length + (k + 1)) := Lib.hid (by have h1 := len_withP L o.name o.data; have h2 := hL.out.2.2; omega)
                clear hov4 hh4 hb0 hb1 hb2 hb3 hb4 hb5 hb6 d0 d1 d2 d3 d4 d5 d6 hd hx4 hx0 hW0 hxw0 hcv hse hx2
                generalize withP L o.name o.data = L4 at *
                go_wp2
                go_roundw
                case rel => exact ⟨k + 1, L4, av4, _, cv4, by go_num, by omega, rfl, hst4, Lib.hid ⟨hok4.out, hs4.out, hl4.out⟩, hxw4⟩
                case measure => simp [intOf]; omega
          · have t3 : (o.kind != 3) = true := by simp [k3]
            have hfin := Lib.hid (applyE_stop ho'.out hL.out.1 (stepE_of_err (L := L) (o := o) (x := 1) (by simp [refusedE, k3, k11]) (by decide)))
            clear k3 k11 hv
            go_wp2_with (go_at_call 25; refine hfd.mono ?_; rintro e w1 ⟨rfl, rfl⟩)
            go_ret2
            exact ⟨.inr ⟨1, hfin.out, rfl⟩, hxw0⟩
      | false =>
        have hf0 : ¬ (0 : Int) ≤ fi := fun h0 => by rw [hhas.2 h0] at hv; cases hv
        have hf1 : fi < (0 : Int) := by omega
        have hfb : decide ((0 : Int) ≤ fi) = false := by simp [hf0]
        clear hhas
        by_cases k11 : o.kind = 11
        · have t11 : (o.kind == 11) = true := by simp [k11]
          have hfin := Lib.hid (applyE_stop ho'.out hL.out.1 (stepE_of_err (L := L) (o := o) (x := 7) (by simp [refusedE, k11, hv]) (by decide)))
          clear k11 hv
          go_wp2_with (go_at_call 25; refine hfd.mono ?_; rintro e w1 ⟨rfl, rfl⟩)
          go_ret2
          exact ⟨.inr ⟨7, hfin.out, rfl⟩, hxw0⟩
        · have t11 : (o.kind == 11) = false := by simp [k11]
          by_cases k3 : o.kind = 3
          · have t3 : (o.kind != 3) = false := by simp [k3]
            have hrr := fun W => ref_right W o.name hfnm
            cases hr : right o.name with
            | false =>
              rw [hr] at hrr
              have hfin := Lib.hid (applyE_stop ho'.out hL.out.1 (stepE_of_err (L := L) (o := o) (x := 6) (by simp [refusedE, k3, hr]) (by decide)))
              clear k3 k11 hv hr
              go_wp2_with (go_at_call 25; refine hfd.mono ?_; rintro e w1 ⟨rfl, rfl⟩)
              refine (hrr _).mono ?_
              rintro e w2 ⟨rfl, hx2⟩
              clear hrr
              go_wp2
              go_ret2
              exact ⟨.inr ⟨6, hfin.out, rfl⟩, hxw0.trans hx2⟩
            | true =>
              rw [hr] at hrr
              by_cases hbig : 65536 < m
              · have hfin := Lib.hid (applyE_stop ho'.out hL.out.1 (stepE_of_err (L := L) (o := o) (x := 5) (by simp [refusedE, k3, hr, hdl.out, hbig]) (by decide)))
                have t5 : (65536 : Int) < (m : Int) := by omega
                clear k3 k11 hv hr
                go_wp2_with (go_at_call 25; refine hfd.mono ?_; rintro e w1 ⟨rfl, rfl⟩)
                refine (hrr _).mono ?_
                rintro e w2 ⟨rfl, hx2⟩
                clear hrr
                go_wp2
                go_ret2
                exact ⟨.inr ⟨5, hfin.out, rfl⟩, hxw0.trans hx2⟩
              · have t5 : ¬ (65536 : Int) < (m : Int) := by omega
                by_cases hfull : 199 < n'
                · have hfin := Lib.hid (applyE_stop ho'.out hL.out.1 (stepE_of_err (L := L) (o := o) (x := 14) (by simp [refusedE, k3, hr, hdl.out, hbig, hv, hLn.out]; omega) (by decide)))
                  have t6 : (199 : Int) < (n' : Int) := by omega
                  clear k3 k11 hv hr
                  go_wp2_with (go_at_call 25; refine hfd.mono ?_; rintro e w1 ⟨rfl, rfl⟩)
                  refine (hrr _).mono ?_
                  rintro e w2 ⟨rfl, hx2⟩
                  clear hrr
                  go_wp2
                  go_ret2
                  exact ⟨.inr ⟨14, hfin.out, rfl⟩, hxw0.trans hx2⟩
                · have t6 : ¬ (199 : Int) < (n' : Int) := by omega
                  have hse := Lib.hid (stepE_of_ok (L := L) (o := o) (by simp [refusedE, k3, hr, hdl.out, hbig, hv, hLn.out]; omega))
                  have k3' := Lib.hid k3
                  clear k3 k11 hv hr
                  go_wp2_with (go_at_call 25; refine hfd.mono ?_; rintro e w1 ⟨rfl, rfl⟩)
                  refine (hrr _).mono ?_
                  rintro e w2 ⟨rfl, hx2⟩
                  clear hrr hfd
                  have hxw2 := hxw0.trans hx2
                  have hwr := ref_with w2 A' a' n' c' L o.name o.data (hh'.ext (hx0.trans hx2)) (Fits.of _ (Nat.le_refl _) (by omega)) hns (by rw [hdl.out]; exact hdm)
                  rw [withR_srt hL.out.2.1] at hwr
                  go_wp2_with (go_at_call 28; refine hwr.mono ?_; rintro e w4 ⟨v4, rfl, hov4, hx4⟩)
                  clear hwr hxw2
                  obtain ⟨av4, cv4, rfl, hcv4, hcv42, hh4⟩ := hov4.holds
                  have hst4 : Hid (∃ A', Holds kFile A' w4 av4 (withP L o.name o.data).length (withP L o.name o.data)) := Lib.hid ⟨_, hh4⟩
                  have hxw4 := hxw0.trans (hx2.trans hx4)
                  have hok4 : Hid (applyE l (os.take (k + 1)) = .ok (withP L o.name o.data)) := Lib.hid (by
                    rw [List.take_add_one, ho'.out]
                    refine (applyE_snoc _ _ _).trans ?_
                    rw [hL.out.1]
                    show stepE L o = _
                    rw [hse.out, if_pos k3'.out])
                  have hs4 : Hid (Srt (withP L o.name o.data)) := Lib.hid (srt_withP hL.out.2.1 _ _)
                  have hl4 : Hid ((withP L o.name o.data).length ≤ l.length + (k + 1)) := Lib.hid (by have h1 := len_withP L o.name o.data; have h2 := hL.out.2.2; omega)
                  clear hov4 hh4 hb0 hb1 hb2 hb3 hb4 hb5 hb6 d0 d1 d2 d3 d4 d5 d6 hd hx4 hx0 hW0 hxw0 hcv hse hx2
                  generalize withP L o.name o.data = L4 at *
                  go_wp2
                  go_roundw
                  case rel => exact ⟨k + 1, L4, av4, _, cv4, by go_num, by omega, rfl, hst4, Lib.hid ⟨hok4.out, hs4.out, hl4.out⟩, hxw4⟩
                  case measure => simp [intOf]; omega
          · have t3 : (o.kind != 3) = true := by simp [k3]
            have hfin := Lib.hid (applyE_stop ho'.out hL.out.1 (stepE_of_err (L := L) (o := o) (x := 1) (by simp [refusedE, k3, k11]) (by decide)))
            clear k3 k11 hv
            go_wp2_with (go_at_call 25; refine hfd.mono ?_; rintro e w1 ⟨rfl, rfl⟩)
            go_ret2
            exact ⟨.inr ⟨1, hfin.out, rfl⟩, hxw0⟩
    · obtain rfl : k = n2 := by omega
      have hfin : Hid (applyE l os = .ok L) := Lib.hid (by have := hL.out.1; rwa [List.take_of_length_le (Nat.le_of_eq hl2.out)] at this)
      have hLn' := hLn.out
      subst hLn'
      go_wp2
      go_ret2
      exact ⟨.inl ⟨a', c', L, A', hfin.out, rfl, hh'⟩, hx⟩
end Go.Proofs.YtaenackibigojaaDoor

/- Part of the proofs: ApplyPost, mild_with, mild_without, apply_: each says what its head says. -/
import Derived.Test.YtaenackibigojaaDoorP9
set_option linter.unusedVariables false
set_option linter.unusedSimpArgs false
namespace Go.Proofs.YtaenackibigojaaDoor
open Go.RowKit Go.BK

/-- Steps of sizes far from the machine's limits. -/
structure MildS (l : List Stp) : Prop where
  len : Fits (l.length + 1099511627)
  name : ∀ o ∈ l, Fits o.name.length
  data : ∀ o ∈ l, Fits o.data.length

def ApplyPost (r : Except Int (List File)) (w w' : World) (e : Ending) : Prop :=
  (∃ v L, r = .ok L ∧ e = .returned (.tuple #[v, .int .i64 0]) ∧ Owns kFile 29 w.heap.size (fun k => w.heap.size ≤ k) w' v L) ∨ (∃ x, r = .error x ∧ e = .returned (.tuple #[.slice none 0 0, .int .i64 x]))

theorem mild_with {l : List File} {s : Str} {d : List UInt8} (hm : ∀ f ∈ l, Fits f.data.length) (hd : Fits d.length) : ∀ f ∈ withP l s d, Fits f.data.length := fun f hf => by
  rcases mem_withP hf with h | rfl
  · exact hm f h
  · exact hd
theorem mild_without {l : List File} {s : Str} (hm : ∀ f ∈ l, Fits f.data.length) : ∀ f ∈ withoutP l s, Fits f.data.length := fun f hf => hm f (mem_withoutP hf)

set_option maxHeartbeats 1000000 in
set_option maxRecDepth 100000 in
theorem apply_ (w : World) (A B : Nat → Prop) (a a2 : Option Addr) (n c n2 c2 : Nat) (l : List File) (os : List Stp) (h : Holds kFile A w a n l) (h2 : Holds kOp B w a2 n2 os) (hm : Mild l) (hlen : l.length ≤ 1099511627) (hs : Srt l) (hms : MildS os) (henv : Env w) :
    Calls Tryd.prog 10 #[.slice a n c, .slice a2 n2 c2] w fun e w' => ApplyPost (applyE l os) w w' e ∧ Ext w w' := by
  have hfn : Fits n := by have := hm.len; rwa [h.1] at this
  have hl := Lib.hid h.1
  have hl2 := Lib.hid h2.1
  have hnn : n2 ≤ 9223372036854775807 := h2.le
  have hs' := Lib.hid hs
  have hlen' := Lib.hid hlen
  have hmd := Lib.hid hm.data
  have hms1 := Lib.hid hms.len.out
  have hms2 := Lib.hid hms.name
  have hms3 := Lib.hid hms.data
  clear hs hlen hms
  go_enter Tryd.func10, Tryd.ntmps10
  go_wp2_with (go_at_call 20; refine (cloneFiles _ A _ _ _ l h hfn).mono ?_; rintro e w1 ⟨v, rfl, hov, hx1⟩)
  obtain ⟨av, cv, rfl, hcv, hcv2, hh⟩ := hov.holds
  have hst : Hid (∃ A', Holds kFile A' w1 av l.length l) := Lib.hid ⟨_, hh⟩
  clear hov hh
  go_loopw [0, 13] (fun s0 i wr => ∃ (k : Nat) (L : List File) (a' : Option Addr) (n' c' : Nat), i = .int .i64 k ∧ k ≤ n2 ∧ s0 = .slice a' n' c' ∧ Hid (∃ A', Holds kFile A' wr a' n' L) ∧ Hid (applyE l (os.take k) = .ok L ∧ Srt L ∧ L.length ≤ 1099511627 + k ∧ ∀ f ∈ L, Fits f.data.length) ∧ Ext w wr) (fun _ i _ => n2 - (intOf i).toNat)
  case atStart => exact ⟨0, l, av, _, cv, rfl, Nat.zero_le _, rfl, hst, Lib.hid ⟨rfl, hs'.out, hlen'.out, hmd.out⟩, hx1⟩
  case round =>
    obtain ⟨k, L, a', n', c', rfl, hkn, rfl, hst', hL, hx⟩ := hrel
    obtain ⟨A', hh'⟩ := hst'.out
    have hLm : Mild L := ⟨Fits.of _ hL.out.2.2.1 (by have := hms1.out; have := hl2.out; omega), hL.out.2.2.2⟩
    by_cases hlt : k < n2
    · obtain ⟨o, ho⟩ : ∃ f, os[k]? = some f := ⟨_, List.getElem?_eq_getElem (by rw [hl2.out]; omega)⟩
      obtain ⟨b, of', ad, m, cc, ad', m', cc', rfl, hB, hb, hc0, hc1, hc2, hc3, hc4, hc5, hc6, hns, hmc, hcm, hd, _, _, hd', _⟩ := ops_at h2 k o ho
      have hfd := hms3.out o (List.mem_of_getElem? ho)
      have hfnm := hms2.out o (List.mem_of_getElem? ho)
      have hdl := Lib.hid (hd w (Ext.refl w)).1
      have ho' := Lib.hid ho
      clear ho hd'
      rw [hdl.out] at hfd
      obtain ⟨W0, hW0⟩ : ∃ W, wr.alloc (.cells #[.int .i64 o.kind, .string (mkS o.name), .slice ad m cc, .int .i64 o.n, .slice ad' m' cc', .int .i64 o.names, .int .u8 o.fill.toNat] 49) = W := ⟨_, rfl⟩
      have hx0 : Ext wr W0 := by rw [← hW0]; exact Ext.alloc _ _
      have hn0 : W0.heap[wr.heap.size]? = some (.cells #[.int .i64 o.kind, .string (mkS o.name), .slice ad m cc, .int .i64 o.n, .slice ad' m' cc', .int .i64 o.names, .int .u8 o.fill.toNat] 49 (0, 0)) := by rw [← hW0]; exact heap_alloc_new wr _
      have hsz0 : wr.heap.size < W0.heap.size := by rw [← hW0]; simp
      have hbox : ∀ W, Ext W0 W → W.heap[wr.heap.size]? = some (.cells #[.int .i64 o.kind, .string (mkS o.name), .slice ad m cc, .int .i64 o.n, .slice ad' m' cc', .int .i64 o.names, .int .u8 o.fill.toNat] 49 (0, 0)) := fun W hW => (hW.block _ hsz0).trans hn0
      have hb0 : ∀ W, Ext W0 W → W.cell? ⟨wr.heap.size, 0, none⟩ = some (.int .i64 o.kind) := fun W hW => (cell_of_row _ _ _ _ _ _ (hbox W hW)).trans rfl
      have hb1 : ∀ W, Ext W0 W → W.cell? ⟨wr.heap.size, 1, none⟩ = some (.string (mkS o.name)) := fun W hW => (cell_of_row _ _ _ _ _ _ (hbox W hW)).trans rfl
      have hb2 : ∀ W, Ext W0 W → W.cell? ⟨wr.heap.size, 2, none⟩ = some (.slice ad m cc) := fun W hW => (cell_of_row _ _ _ _ _ _ (hbox W hW)).trans rfl
      have hb3 : ∀ W, Ext W0 W → W.cell? ⟨wr.heap.size, 3, none⟩ = some (.int .i64 o.n) := fun W hW => (cell_of_row _ _ _ _ _ _ (hbox W hW)).trans rfl
      have hb4 : ∀ W, Ext W0 W → W.cell? ⟨wr.heap.size, 4, none⟩ = some (.slice ad' m' cc') := fun W hW => (cell_of_row _ _ _ _ _ _ (hbox W hW)).trans rfl
      have hb5 : ∀ W, Ext W0 W → W.cell? ⟨wr.heap.size, 5, none⟩ = some (.int .i64 o.names) := fun W hW => (cell_of_row _ _ _ _ _ _ (hbox W hW)).trans rfl
      have hb6 : ∀ W, Ext W0 W → W.cell? ⟨wr.heap.size, 6, none⟩ = some (.int .u8 o.fill.toNat) := fun W hW => (cell_of_row _ _ _ _ _ _ (hbox W hW)).trans rfl
      have hrf := refused W0 A' a' n' c' L o ad m cc ad' m' cc' (hh'.ext hx0) hLm hL.out.2.1 (henv.ext (hx.trans hx0)) hfnm hdl.out hfd
      have hxw0 := hx.trans hx0
      generalize hre : refusedE L o = re at *
      have hre' := Lib.hid hre
      clear hre hbox hn0 hsz0
      by_cases hz : re = 0
      · have z1 : (re != 0) = false := by simp [hz]
        have hse : Hid (stepE L o = .ok (if o.kind = 3 then withP L o.name o.data else withoutP L o.name)) := Lib.hid (by unfold stepE; rw [hre'.out, if_pos hz])
        clear hz
        by_cases k3 : o.kind = 3
        · have z2 : (o.kind == 3) = true := by simp [k3]
          have k3' := Lib.hid k3
          clear k3
          go_wp2_with (go_at_call 21; refine hrf.mono ?_; rintro e w3 ⟨rfl, hx3⟩)
          have hx03 := hxw0.trans hx3
          refine (with_ w3 A' B a' ad n' c' m cc L o.name o.data (hh'.ext (hx0.trans hx3)) hLm hL.out.2.1 (hd _ hx03) hfd hns).mono ?_
          rintro e w4 ⟨v4, rfl, hov4, hx4⟩
          obtain ⟨av4, cv4, rfl, hcv4, hcv42, hh4⟩ := hov4.holds
          have hst4 : Hid (∃ A', Holds kFile A' w4 av4 (withP L o.name o.data).length (withP L o.name o.data)) := Lib.hid ⟨_, hh4⟩
          have hxw4 := hx03.trans hx4
          clear hov4 hh4 hb0 hb1 hb2 hb3 hb4 hb5 hb6 hc0 hc1 hc2 hc3 hc4 hc5 hc6 hd hx4 hx3 hx0 hW0 hx03 hxw0
          have hbyte : Hid (Fits o.data.length) := Lib.hid (by rw [hdl.out]; exact hfd)
          generalize hW : withP L o.name o.data = L4 at *
          have hW' := Lib.hid hW
          clear hW
          go_wp2
          go_roundw
          case rel =>
            refine ⟨k + 1, L4, av4, _, cv4, by go_num, by omega, rfl, hst4, Lib.hid ⟨?_, ?_, ?_, ?_⟩, hxw4⟩
            · rw [List.take_add_one, ho'.out]
              refine (applyE_snoc _ _ _).trans ?_
              rw [hL.out.1]
              show stepE L o = _
              rw [hse.out, if_pos k3'.out]
            · rw [← hW'.out]; exact srt_withP hL.out.2.1 _ _
            · have := len_withP L o.name o.data; rw [hW'.out] at this; have := hL.out.2.2.1; omega
            · rw [← hW'.out]; exact mild_with hL.out.2.2.2 hbyte.out
          case measure => simp [intOf]; omega
        · have z2 : (o.kind == 3) = false := by simp [k3]
          have k3' := Lib.hid k3
          clear k3
          go_wp2_with (go_at_call 21; refine hrf.mono ?_; rintro e w3 ⟨rfl, hx3⟩)
          have hx03 := hxw0.trans hx3
          refine (without w3 A' a' n' c' L o.name (hh'.ext (hx0.trans hx3)) hLm hL.out.2.1).mono ?_
          rintro e w4 ⟨v4, rfl, hov4, hx4⟩
          obtain ⟨av4, cv4, rfl, hcv4, hcv42, hh4⟩ := hov4.holds
          have hst4 : Hid (∃ A', Holds kFile A' w4 av4 (withoutP L o.name).length (withoutP L o.name)) := Lib.hid ⟨_, hh4⟩
          have hxw4 := hx03.trans hx4
          clear hov4 hh4 hb0 hb1 hb2 hb3 hb4 hb5 hb6 hc0 hc1 hc2 hc3 hc4 hc5 hc6 hd hx4 hx3 hx0 hW0 hx03 hxw0
          generalize hW : withoutP L o.name = L4 at *
          have hW' := Lib.hid hW
          clear hW
          go_wp2
          go_roundw
          case rel =>
            refine ⟨k + 1, L4, av4, _, cv4, by go_num, by omega, rfl, hst4, Lib.hid ⟨?_, ?_, ?_, ?_⟩, hxw4⟩
            · rw [List.take_add_one, ho'.out]
              refine (applyE_snoc _ _ _).trans ?_
              rw [hL.out.1]
              show stepE L o = _
              rw [hse.out, if_neg k3'.out]
            · rw [← hW'.out]; exact srt_withoutP hL.out.2.1 _
            · have := len_withoutP L o.name; rw [hW'.out] at this; have := hL.out.2.2.1; omega
            · rw [← hW'.out]; exact mild_without hL.out.2.2.2
          case measure => simp [intOf]; omega
      · have z1 : (re != 0) = true := by simp [hz]
        have hse : Hid (stepE L o = .error re) := Lib.hid (by unfold stepE; rw [hre'.out, if_neg hz])
        clear hz
        go_wp2_with (go_at_call 21; refine hrf.mono ?_; rintro e w3 ⟨rfl, hx3⟩)
        go_ret2
        exact ⟨.inr ⟨re, applyE_stop ho'.out hL.out.1 hse.out, rfl⟩, hxw0.trans hx3⟩
    · obtain rfl : k = n2 := by omega
      go_wp2_with (go_at_call 24; refine (own_ wr A' a' n' c' L hh' hLm).mono ?_; rintro e w4 ⟨v4, rfl, hov4, hx4⟩)
      go_ret2
      refine ⟨.inl ⟨v4, L, ?_, rfl, (hov4.wide (fun k hk => Nat.le_trans hx.size hk)).lower hx.size⟩, hx.trans hx4⟩
      have := hL.out.1
      rwa [List.take_of_length_le (Nat.le_of_eq hl2.out)] at this
end Go.Proofs.YtaenackibigojaaDoor

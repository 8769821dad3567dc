/- The walk of PlanJoins: it ends true for all maps; what was there is as it was. -/
import Derived.Test.YtaenackibigojaaDoorL2
import Derived.Test.YtaenackibigojaaDoorP18
set_option linter.unusedVariables false
set_option linter.unusedSimpArgs false
namespace Go.Proofs.YtaenackibigojaaDoor
open Go.RowKit Go.BK
set_option maxHeartbeats 4000000 in
set_option maxRecDepth 100000 in
theorem law_joins (w : World) (A : Nat → Prop) (a0 a1 a2 : Option Addr) (n0 c0 n1 c1 n2 c2 : Nat) (l0 l1 l2 : List File) (h0 : Holds kFile A w a0 n0 l0) (k0 : n0 ≤ c0) (j0 : c0 ≤ maxLen) (h1 : Holds kFile A w a1 n1 l1) (k1 : n1 ≤ c1) (j1 : c1 ≤ maxLen)
    (h2 : Holds kFile A w a2 n2 l2) (k2 : n2 ≤ c2) (j2 : c2 ≤ maxLen) (henv : Env w) :
    Calls Tryd.prog 5 #[.slice a0 n0 c0, .slice a1 n1 c1, .slice a2 n2 c2] w fun e w' => e = .returned (.bool true) ∧ Ext w w' := by
  have hl0 := Lib.hid h0.1
  have hl1 := Lib.hid h1.1
  have hl2 := Lib.hid h2.1
  have hwd0 := wide_ w A a0 n0 c0 l0 h0
  have hwd1 := wide_ w A a1 n1 c1 l1 h1
  have hwd2 := wide_ w A a2 n2 c2 l2 h2
  have hp0 := fun W (hW : Ext w W) => ref_map W A a0 n0 c0 l0 (h0.ext hW)
  have hp1 := fun W (hW : Ext w W) => ref_map W A a1 n1 c1 l1 (h1.ext hW)
  have hp2 := fun W (hW : Ext w W) => ref_map W A a2 n2 c2 l2 (h2.ext hW)
  have hlv := lives_
  go_enter Tryd.func5, Tryd.ntmps5
  go_wp2_with (fail)
  refine hwd0.mono ?_
  rintro e w1 ⟨⟨b0, rfl, hb0⟩, rfl⟩
  clear hwd0
  cases b0 with
  | true =>
    go_wp2_with (go_at_call 9; refine (hlv _).mono ?_; rintro e w2 ⟨rfl, hx2⟩)
    go_ret
    exact ⟨rfl, hx2⟩
  | false =>
  obtain ⟨g0, f0⟩ := hb0 rfl
  have f0' := Lib.hid f0
  clear hb0 f0
  go_wp2_with (fail)
  refine hwd1.mono ?_
  rintro e w1 ⟨⟨b0, rfl, hb0⟩, rfl⟩
  clear hwd1
  cases b0 with
  | true =>
    go_wp2_with (go_at_call 9; refine (hlv _).mono ?_; rintro e w2 ⟨rfl, hx2⟩)
    go_ret
    exact ⟨rfl, hx2⟩
  | false =>
  obtain ⟨g1, f1⟩ := hb0 rfl
  have f1' := Lib.hid f1
  clear hb0 f1
  go_wp2_with (fail)
  refine hwd2.mono ?_
  rintro e w1 ⟨⟨b0, rfl, hb0⟩, rfl⟩
  clear hwd2
  cases b0 with
  | true =>
    go_wp2_with (go_at_call 9; refine (hlv _).mono ?_; rintro e w2 ⟨rfl, hx2⟩)
    go_ret
    exact ⟨rfl, hx2⟩
  | false =>
  obtain ⟨g2, f2⟩ := hb0 rfl
  have f2' := Lib.hid f2
  clear hb0 f2
  go_wp2_with (fail)
  refine (hp0 _ (Ext.refl _)).mono ?_
  rintro e w2 ⟨rfl, hx2⟩
  clear hp0
  cases hs0 : sortedB l0 with
  | false =>
    go_wp2_with (go_at_call 9; refine (hlv _).mono ?_; rintro e w3 ⟨rfl, hx3⟩)
    go_ret
    exact ⟨rfl, hx2.trans hx3⟩
  | true =>
  have s0 := srt_of_sortedB hs0
  have s0' := Lib.hid s0
  clear hs0 s0
  have hp1' := hp1 _ hx2
  go_wp2_with (fail)
  refine hp1'.mono ?_
  rintro e w3 ⟨rfl, hx3⟩
  clear hp1 hp1'
  cases hs0 : sortedB l1 with
  | false =>
    go_wp2_with (go_at_call 9; refine (hlv _).mono ?_; rintro e w4 ⟨rfl, hx4⟩)
    go_ret
    exact ⟨rfl, hx2.trans (hx3.trans hx4)⟩
  | true =>
  have s1 := srt_of_sortedB hs0
  have s1' := Lib.hid s1
  clear hs0 s1
  have hp2' := hp2 _ (hx2.trans hx3)
  go_wp2_with (fail)
  refine hp2'.mono ?_
  rintro e w4 ⟨rfl, hx4⟩
  clear hp2 hp2'
  cases hs0 : sortedB l2 with
  | false =>
    go_wp2_with (go_at_call 9; refine (hlv _).mono ?_; rintro e w5 ⟨rfl, hx5⟩)
    go_ret
    exact ⟨rfl, hx2.trans (hx3.trans (hx4.trans hx5))⟩
  | true =>
  have s2 := srt_of_sortedB hs0
  have s2' := Lib.hid s2
  clear hs0 s2
  have hx14 := hx2.trans (hx3.trans hx4)
  clear hx2 hx3 hx4
  have m0 : Mild l0 := ⟨Fits.of 250 (by rw [hl0.out]; exact g0) (by decide), fun f hf => Fits.of 70000 (f0'.out f hf).2 (by decide)⟩
  have m1 : Mild l1 := ⟨Fits.of 250 (by rw [hl1.out]; exact g1) (by decide), fun f hf => Fits.of 70000 (f1'.out f hf).2 (by decide)⟩
  have m2 : Mild l2 := ⟨Fits.of 250 (by rw [hl2.out]; exact g2) (by decide), fun f hf => Fits.of 70000 (f2'.out f hf).2 (by decide)⟩
  have q0 : l0.length ≤ 250 := by rw [hl0.out]; exact g0
  have q1 : l1.length ≤ 250 := by rw [hl1.out]; exact g1
  have q2 : l2.length ≤ 250 := by rw [hl2.out]; exact g2
  have q0' := Lib.hid q0
  have q1' := Lib.hid q1
  have q2' := Lib.hid q2
  have e1 := fun W (hW : Ext w1 W) => merge_ W A a0 a1 a2 n0 c0 n1 c1 n2 c2 l0 l1 l2 (h0.ext hW) m0 s0'.out k0 j0 (h1.ext hW) m1 s1'.out k1 j1 (h2.ext hW) m2 s2'.out k2 j2 (by omega)
  have e2 := fun W (hW : Ext w1 W) => by
    have := merge_ W A a0 a2 a1 n0 c0 n2 c2 n1 c1 l0 l2 l1 (h0.ext hW) m0 s0'.out k0 j0 (h2.ext hW) m2 s2'.out k2 j2 (h1.ext hW) m1 s1'.out k1 j1 (by omega)
    rw [← (merge_swap l0 l1 l2).1, ← (merge_swap l0 l1 l2).2] at this
    exact this
  have e3 := fun W (hW : Ext w1 W) => by
    have := merge_ W A a0 a1 a0 n0 c0 n1 c1 n0 c0 l0 l1 l0 (h0.ext hW) m0 s0'.out k0 j0 (h1.ext hW) m1 s1'.out k1 j1 (h0.ext hW) m0 s0'.out k0 j0 (by omega)
    rw [(merge_base s1'.out).1, (merge_base s1'.out).2] at this
    exact this
  have e4 := fun W (hW : Ext w1 W) => by
    have := merge_ W A a0 a1 a1 n0 c0 n1 c1 n1 c1 l0 l1 l1 (h0.ext hW) m0 s0'.out k0 j0 (h1.ext hW) m1 s1'.out k1 j1 (h1.ext hW) m1 s1'.out k1 j1 (by omega)
    rw [(merge_same s1'.out).1, (merge_same s1'.out).2] at this
    exact this
  have e5 := fun W (hW : Ext w1 W) => by
    have := diff_ W A a0 n0 c0 l0 a1 n1 c1 l1 (h0.ext hW) m0 s0'.out k0 j0 (h1.ext hW) m1 s1'.out k1 j1 (by omega) (by omega)
    rw [diffS_eq s0'.out s1'.out] at this
    exact this
  have hD2 := Lib.hid (mildS_diff (fun f hf => (f0'.out f hf).1) (fun f hf => (f1'.out f hf).1) (fun f hf => (f1'.out f hf).2) (show l0.length ≤ 1000 by omega) (show l1.length ≤ 1000 by omega))
  have hap := fun W B (aD : Option Addr) (cD : Nat) (hW : Ext w1 W) (hh : Holds kOp B W aD (diffR l0 l1).length (diffR l0 l1)) => apply_ W A B a2 aD n2 c2 _ cD l2 (diffR l0 l1) (h2.ext hW) hh m2 (by omega) s2'.out hD2.out.1 (henv.ext hW)
  have hfin := Lib.hid (fun z (hC : mergeC l0 l1 l2 (namesS [l0, l1, l2]) = []) (hz : applyE l2 (diffR l0 l1) = .ok z) => merge_applied s0'.out s1'.out s2'.out hC hz)
  have herr := Lib.hid (fun x (hx : applyE l2 (diffR l0 l1) = .error x) => applyE_err hx)
  clear s0' s1' s2' m0 m1 m2 q0 q1 q2 f0' f1' f2' hD2
  generalize applyE l2 (diffR l0 l1) = r at *
  generalize diffR l0 l1 = D at *
  generalize mergeL l0 l1 l2 (namesS [l0, l1, l2]) = L at *
  generalize mergeC l0 l1 l2 (namesS [l0, l1, l2]) = C at *
  have e1' := e1 _ hx14
  clear e1
  go_wp2_with (fail)
  refine e1'.mono ?_
  rintro e w5 ⟨v5, u5, rfl, hv5, hu5, hx5⟩
  clear e1'
  have hx15 := hx14.trans hx5
  have e2' := e2 _ hx15
  clear e2 hx5 hx14
  obtain ⟨a5, c5, rfl, hc5, hcm5, hh5⟩ := hv5.holds
  obtain ⟨b5, d5, rfl, hd5, hdm5, hg5⟩ := hu5.holds
  clear hv5 hu5
  go_wp2_with (fail)
  refine e2'.mono ?_
  rintro e w6 ⟨v6, u6, rfl, hv6, hu6, hx6⟩
  clear e2'
  have hx16 := hx15.trans hx6
  have e3' := e3 _ hx16
  clear e3
  obtain ⟨a6, c6, rfl, hc6, hcm6, hh6⟩ := hv6.holds
  obtain ⟨b6, d6, rfl, hd6, hdm6, hg6⟩ := hu6.holds
  clear hv6 hu6
  go_wp2_with (fail)
  refine e3'.mono ?_
  rintro e w7 ⟨v7, u7, rfl, hv7, hu7, hx7⟩
  clear e3'
  have hx17 := hx16.trans hx7
  have e4' := e4 _ hx17
  clear e4
  obtain ⟨a7, c7, rfl, hc7, hcm7, hh7⟩ := hv7.holds
  obtain ⟨b7, d7, rfl, hd7, hdm7, hg7⟩ := hu7.holds
  clear hv7 hu7
  go_wp2_with (fail)
  refine e4'.mono ?_
  rintro e w8 ⟨v8, u8, rfl, hv8, hu8, hx8⟩
  clear e4'
  have hx18 := hx17.trans hx8
  obtain ⟨a8, c8, rfl, hc8, hcm8, hh8⟩ := hv8.holds
  obtain ⟨b8, d8, rfl, hd8, hdm8, hg8⟩ := hu8.holds
  clear hv8 hu8
  have hx58 := hx6.trans (hx7.trans hx8)
  have eL : decide (L = L) = true := by simp
  have el1 : decide (l1 = l1) = true := by simp
  have p1 := ref_same w8 _ _ a5 a6 L.length c5 L.length c6 L L (hh5.ext hx58) (hh6.ext (hx7.trans hx8))
  have p2 := fun W (hW : Ext w8 W) => ref_sameS W _ _ b5 b6 C.length d5 C.length d6 C (hg5.ext (hx58.trans hW)) (hg6.ext ((hx7.trans hx8).trans hW))
  have p3 := fun W (hW : Ext w8 W) => ref_same W _ _ a7 a1 l1.length c7 n1 c1 l1 l1 (hh7.ext (hx8.trans hW)) (h1.ext (hx18.trans hW))
  have p4 := fun W (hW : Ext w8 W) => ref_same W _ _ a8 a1 l1.length c8 n1 c1 l1 l1 (hh8.ext hW) (h1.ext (hx18.trans hW))
  have p5 := fun W A' aw (cw : Nat) (hW : Ext w8 W) (hh : Holds kFile A' W aw L.length L) => ref_same W _ _ aw a5 L.length cw L.length c5 L L hh (hh5.ext (hx58.trans hW))
  rw [eL] at p1 p5
  rw [el1] at p3 p4
  clear eL el1 hh5 hh6 hh7 hh8 hg5 hg6 hg7 hg8 hx58 hx6 hx7 hx8 hx15 hx16 hx17 hc6 hcm6 hd6 hdm6 hc7 hcm7 hd7 hdm7 hc8 hcm8 hd8 hdm8
  go_wp2_with (fail)
  refine p1.mono ?_
  rintro e w9 ⟨rfl, hx9⟩
  have p2' := p2 _ hx9
  clear p1 p2
  go_wp2_with (fail)
  refine p2'.mono ?_
  rintro e w10 ⟨rfl, hx10⟩
  have hx810 := hx9.trans hx10
  have p3' := p3 _ hx810
  clear p2' p3 hx9 hx10
  go_wp2_with (fail)
  refine p3'.mono ?_
  rintro e w11 ⟨rfl, hx11⟩
  have hx811 := hx810.trans hx11
  have p4' := p4 _ hx811
  clear p3' p4 hx810 hx11
  go_wp2_with (fail)
  refine p4'.mono ?_
  rintro e w12 ⟨rfl, hx12⟩
  have hx812 := hx811.trans hx12
  have hx112 := hx18.trans hx812
  have e5' := e5 _ hx112
  clear p4' e5 hx811 hx12
  cases C with
  | cons s C =>
    go_wp2_with (go_at_call 9; refine (hlv _).mono ?_; rintro e w13 ⟨rfl, hx13⟩)
    go_ret
    exact ⟨rfl, hx112.trans hx13⟩
  | nil =>
    go_wp2_with (fail)
    refine e5'.mono ?_
    rintro e w13 ⟨v13, rfl, hv13, hx13⟩
    obtain ⟨a13, c13, rfl, hc13, hcm13, hh13⟩ := hv13.holds
    clear e5' hv13
    have hx113 := hx112.trans hx13
    have hap' := hap _ _ _ c13 hx113 hh13
    clear hap hh13
    go_wp2_with (fail)
    refine hap'.mono ?_
    rintro e w14 ⟨hp14, hx14⟩
    clear hap'
    have hx114 := hx113.trans hx14
    rcases hp14 with ⟨v14, z, rfl, rfl, hv14⟩ | ⟨x, rfl, rfl⟩
    · obtain rfl : z = L := hfin.out z (by first | trivial | rfl) rfl
      obtain ⟨a14, c14, rfl, hc14, hcm14, hh14⟩ := hv14.holds
      have p5' := p5 _ _ _ c14 (hx812.trans (hx13.trans hx14)) hh14
      clear hfin herr p5 hv14 hh14
      go_wp2_with (fail)
      refine p5'.mono ?_
      rintro e w15 ⟨rfl, hx15⟩
      clear p5'
      go_wp2_with (go_at_call 9; refine (hlv _).mono ?_; rintro e w16 ⟨rfl, hx16⟩)
      go_ret
      exact ⟨rfl, hx114.trans (hx15.trans hx16)⟩
    · have hz : (x != 0) = true := by simpa using herr.out x rfl
      clear hfin herr
      go_wp2_with (go_at_call 9; refine (hlv _).mono ?_; rintro e w16 ⟨rfl, hx16⟩)
      go_ret
      exact ⟨rfl, hx114.trans hx16⟩
end Go.Proofs.YtaenackibigojaaDoor
#print axioms Go.Proofs.YtaenackibigojaaDoor.law_joins

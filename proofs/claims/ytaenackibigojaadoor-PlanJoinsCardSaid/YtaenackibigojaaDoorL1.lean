/- Part of the proofs: srt_of_sortedB, law_applies: each says what its head says. -/
import Derived.Test.YtaenackibigojaaDoorQ4
set_option linter.unusedVariables false
set_option linter.unusedSimpArgs false
namespace Go.Proofs.YtaenackibigojaaDoor
open Go.RowKit Go.BK
theorem srt_of_sortedB {l : List File} (h : sortedB l = true) : Srt l := by
  have h1 := (sortedB_iff l).1 h
  refine List.pairwise_iff_getElem.2 ?_
  have key : ∀ (d i : Nat) (x y : File), l[i]? = some x → l[i + d + 1]? = some y → x.name < y.name := by
    intro d
    induction d with
    | zero => exact fun i x y hx hy => ltS_iff.1 (h1 i x y hx hy)
    | succ d ih =>
      intro i x y hx hy
      have hlt := (List.getElem?_eq_some_iff.1 hy).1
      obtain ⟨z, hz⟩ : ∃ z, l[i + d + 1]? = some z := ⟨_, List.getElem?_eq_getElem (by omega)⟩
      exact str_lt_trans (ih i x z hx hz) (ltS_iff.1 (h1 (i + d + 1) z y hz (by rw [show i + d + 1 + 1 = i + (d + 1) + 1 by omega]; exact hy)))
  intro i j hi hj hij
  obtain ⟨d, rfl⟩ : ∃ d, j = i + d + 1 := ⟨j - i - 1, by omega⟩
  exact key d i _ _ (List.getElem?_eq_getElem hi) (List.getElem?_eq_getElem hj)

set_option maxHeartbeats 4000000 in
set_option maxRecDepth 100000 in
theorem law_applies (w : World) (A B : Nat → Prop) (a a2 : Option Addr) (n c n2 c2 : Nat) (l : List File) (os : List Stp) (h : Holds kFile A w a n l) (hnc : n ≤ c) (hcm : c ≤ maxLen) (h2 : Holds kOp B w a2 n2 os) (henv : Env w) :
    Calls Tryd.prog 3 #[.slice a n c, .slice a2 n2 c2] w fun e w' => e = .returned (.bool true) ∧ Ext w w' := by
  have hl := Lib.hid h.1
  have hl2 := Lib.hid h2.1
  have hnn := h.le
  have hwd := wide_ w A a n c l h
  have hgr := great_ w B a2 n2 c2 os h2
  have hmp := fun W (hW : Ext w W) => ref_map W A a n c l (h.ext hW)
  have hlv := lives_
  go_enter Tryd.func3, Tryd.ntmps3
  go_wp2_with (fail)
  refine hwd.mono ?_
  rintro e w1 ⟨⟨b1, rfl, hb1⟩, rfl⟩
  clear hwd
  cases b1 with
  | true =>
    go_wp2_with (go_at_call 9; refine (hlv _).mono ?_; rintro e w2 ⟨rfl, hx2⟩)
    go_ret
    exact ⟨rfl, hx2⟩
  | false =>
    obtain ⟨hn250, hf250⟩ := hb1 rfl
    have hf250' := Lib.hid hf250
    clear hf250 hb1
    go_wp2_with (fail)
    refine hgr.mono ?_
    rintro e w2 ⟨⟨b2, rfl, hb2⟩, rfl⟩
    clear hgr
    cases b2 with
    | true =>
      go_wp2_with (go_at_call 9; refine (hlv _).mono ?_; rintro e w2 ⟨rfl, hx2⟩)
      go_ret
      exact ⟨rfl, hx2⟩
    | false =>
      obtain ⟨hn2, hf2⟩ := hb2 rfl
      have hf2' := Lib.hid hf2
      clear hf2 hb2
      cases hsb : sortedB l with
      | false =>
        rw [hsb] at hmp
        go_wp2_with (first | (go_at_call 8; refine (hmp _ (Ext.refl _)).mono ?_; rintro e w3 ⟨rfl, hx3⟩) | (go_at_call 9; refine (hlv _).mono ?_; rintro e w4 ⟨rfl, hx4⟩))
        go_ret
        exact ⟨rfl, hx3.trans hx4⟩
      | true =>
        rw [hsb] at hmp
        have hsrt : Hid (Srt l) := Lib.hid (srt_of_sortedB hsb)
        clear hsb
        go_wp2_with (go_at_call 8; refine (hmp _ (Ext.refl _)).mono ?_; rintro e w3 ⟨rfl, hx3⟩)
        clear hmp
        have kc := fun (W : World) (d : Str) => Lib.run_convert_string_bytes (P := Tryd.prog) W 9 27 5 (mkS d) Tryd.underlying9 Tryd.underlying27 Tryd.underlying5
        go_loopw [5, 6] (fun out i wr => ∃ k F, k ≤ n ∧ i = .int .i64 (k : Nat) ∧ OwnsF kFile 29 w2.heap.size F wr out (l.take k) ∧ (∀ k, F k → w2.heap.size ≤ k) ∧ Ext w2 wr)
          (fun _ i _ => n - (intOf i).toNat)
        case atStart => exact ⟨0, _, Nat.zero_le _, rfl, OwnsF.nil _ _ _ _, fun _ h => h.elim, hx3⟩
        case round =>
          clear hx3
          obtain ⟨k, F, hk, rfl, hown, hF, hx⟩ := hrel
          have hsx := hx.size
          by_cases hlt : k < n
          · obtain ⟨f, hfk⟩ : ∃ f, l[k]? = some f := ⟨_, List.getElem?_eq_getElem (by rw [hl.out]; exact hlt)⟩
            obtain ⟨b, o, ad, m, cc, rfl, hA, hb, hc0, hc1, hns, hmc, hcm1, hd⟩ := files_at h k f hfk
            have hf7 := hf250'.out f (List.mem_of_getElem? hfk)
            have hcv := fun (W : World) (hW : Ext w2 W) => run_convert_holds (P := Tryd.prog) (src := 27) (dst := 9) (c := cc) Tryd.underlying27 Tryd.underlying5 Tryd.underlying9 (hd W hW)
            have i0 : (0 : Int) ≤ (k : Int) := by omega
            have i1 : (k : Int) < (n : Int) := by omega
            have hfk' := Lib.hid hfk
            clear hfk
            have hd1 : f.data.length ≤ maxLen := by simp [maxLen]; omega
            have hxd : Ext w2 wr.drew := hx.trans (Ext.drew _)
            have hxb : Ext w2 (Lib.bytesWorld wr.drew 5 (mkS f.data)) := ext_bytes' hxd _ _
            have hxa : Ext w2 ((Lib.bytesWorld wr.drew 5 (mkS f.data)).alloc (.cells #[.string (mkS f.name), .slice (some ⟨wr.heap.size, 0, none⟩) f.data.length (grownCap wr.drew f.data.length 0 5)] 29)) := hxb.trans (Ext.alloc _ _)
            have hxwr : Ext wr ((Lib.bytesWorld wr.drew 5 (mkS f.data)).alloc (.cells #[.string (mkS f.name), .slice (some ⟨wr.heap.size, 0, none⟩) f.data.length (grownCap wr.drew f.data.length 0 5)] 29)) := (ext_bytes' (Ext.drew _) _ _).trans (Ext.alloc _ _)
            have hbs : (Lib.bytesWorld wr.drew 5 (mkS f.data)).heap.size = wr.heap.size + 1 := Lib.bytesWorld_size _ _ _
            have hrep : kFile.rep (fun k => wr.heap.size ≤ k ∧ k < wr.heap.size + 1) (Lib.bytesWorld wr.drew 5 (mkS f.data)) f [.string (mkS f.name), .slice (some ⟨wr.heap.size, 0, none⟩) f.data.length (grownCap wr.drew f.data.length 0 5)] := by
              have h1 := kFile.real (kFile_mk (f := f) hns (grownCap_ge wr.drew _ 0 5) (grownCap_le_maxLen wr.drew _ 0 5 hd1) (holds_bytes wr.drew 5 f.data hd1))
              rw [hbs] at h1
              exact h1
            have s0 := hc0 _ hxd
            have s1 := hc1 _ hxd
            have t0 := hc0 _ hxb
            have t1 := hc1 _ hxb
            have v0 := hc0 _ hxa
            have v1 := hc1 _ hxa
            go_wp2_with (fail)
            have hne : some b ≠ u5.ownBlock := fun he => by have := (hown.block b he.symm).1; omega
            have hxs := hxa.size
            have hbl := hbs
            refine wp_region_held_drew (S := (fun w' => w'.cell? ⟨b, o + k * 2, none⟩ = some (.string (mkS f.name)) ∧ w'.cell? ⟨b, o + k * 2 + 1, none⟩ = some (.slice ad m cc))) (by kernel_rfl) ⟨s0, s1⟩ (fun hHeld => ?_)
            (refine wpAnyH_take (i := 0) (oi := _) (v := ?_) rfl (by kernel_rfl) (by kernel_rfl) (by kernel_rfl) (fun _ _ _ h => h) (Or.inl ⟨by kernel_rfl, ?_⟩) (by assumption) ?_; rotate_left; (focus (intro w hSw; (try dsimp only at hSw); go_simp; (first | done | with_reducible rfl))); (try simp only [Act.put, List.getElem_toArray, List.getElem_cons_succ, List.getElem_cons_zero, List.setIfInBounds_toArray, List.set_cons_zero, List.set_cons_succ]))
            (refine wpAnyH_take (i := 1) (oi := _) (v := ?_) rfl (by kernel_rfl) (by kernel_rfl) (by kernel_rfl) (fun _ _ _ h => h) (Or.inl ⟨by kernel_rfl, ?_⟩) (by assumption) ?_; rotate_left; (focus (intro w hSw; (try dsimp only at hSw); go_simp; (first | done | with_reducible rfl))); (try simp only [Act.put, List.getElem_toArray, List.getElem_cons_succ, List.getElem_cons_zero, List.setIfInBounds_toArray, List.set_cons_zero, List.set_cons_succ]))
            (refine wpAnyH_take (i := 2) (oi := _) (v := ?_) rfl (by kernel_rfl) (by kernel_rfl) (by kernel_rfl) (fun _ _ _ h => h) (Or.inl ⟨by kernel_rfl, ?_⟩) (by assumption) ?_; rotate_left; (focus (intro w hSw; (try dsimp only at hSw); go_simp; (first | done | with_reducible rfl))); (try simp only [Act.put, List.getElem_toArray, List.getElem_cons_succ, List.getElem_cons_zero, List.setIfInBounds_toArray, List.set_cons_zero, List.set_cons_succ]))
            (refine wpAnyH_take (i := 3) (oi := _) (v := ?_) rfl (by kernel_rfl) (by kernel_rfl) (by kernel_rfl) (fun _ _ _ h => h) (Or.inl ⟨by kernel_rfl, ?_⟩) (by assumption) ?_; rotate_left; (focus (intro w hSw; (try dsimp only at hSw); go_simp; (first | done | with_reducible rfl))); (try simp only [Act.put, List.getElem_toArray, List.getElem_cons_succ, List.getElem_cons_zero, List.setIfInBounds_toArray, List.set_cons_zero, List.set_cons_succ]))
            (refine wpAnyH_take (i := 4) (oi := _) (v := ?_) rfl (by kernel_rfl) (by kernel_rfl) (by kernel_rfl) (fun _ _ _ h => h) (Or.inl ⟨by kernel_rfl, ?_⟩) (by assumption) ?_; rotate_left; (focus (intro w hSw; (try dsimp only at hSw); go_simp; (first | done | with_reducible rfl))); (try simp only [Act.put, List.getElem_toArray, List.getElem_cons_succ, List.getElem_cons_zero, List.setIfInBounds_toArray, List.set_cons_zero, List.set_cons_succ]))
            (refine wpAnyH_take (i := 5) (oi := _) (v := ?_) rfl (by kernel_rfl) (by kernel_rfl) (by kernel_rfl) (fun _ _ _ h => h) (Or.inl ⟨by kernel_rfl, ?_⟩) (by assumption) ?_; rotate_left; (focus (intro w hSw; (try dsimp only at hSw); go_simp; (first | done | with_reducible rfl))); (try simp only [Act.put, List.getElem_toArray, List.getElem_cons_succ, List.getElem_cons_zero, List.setIfInBounds_toArray, List.set_cons_zero, List.set_cons_succ]))
            (refine wpAnyH_take (i := 6) (oi := _) (v := ?_) rfl (by kernel_rfl) (by kernel_rfl) (by kernel_rfl) (fun _ _ _ h => h) (Or.inl ⟨by kernel_rfl, ?_⟩) (by assumption) ?_; rotate_left; (focus (intro w hSw; (try dsimp only at hSw); go_simp; (first | done | with_reducible rfl))); (try simp only [Act.put, List.getElem_toArray, List.getElem_cons_succ, List.getElem_cons_zero, List.setIfInBounds_toArray, List.set_cons_zero, List.set_cons_succ]))
            (refine wpAnyH_take (i := 7) (oi := _) (v := ?_) rfl (by kernel_rfl) (by kernel_rfl) (by kernel_rfl) (fun _ _ _ h => h) (Or.inl ⟨by kernel_rfl, ?_⟩) (by assumption) ?_; rotate_left; (focus (intro w hSw; (try dsimp only at hSw); go_simp; (first | done | with_reducible rfl))); (try simp only [Act.put, List.getElem_toArray, List.getElem_cons_succ, List.getElem_cons_zero, List.setIfInBounds_toArray, List.set_cons_zero, List.set_cons_succ]))
            (refine wpAnyH_take (i := 8) (oi := _) (v := ?_) rfl (by kernel_rfl) (by kernel_rfl) (by kernel_rfl) (fun _ _ _ h => h) (Or.inl ⟨by kernel_rfl, ?_⟩) (by assumption) ?_; rotate_left; (focus (intro w hSw; (try dsimp only at hSw); go_simp; (first | done | with_reducible rfl))); (try simp only [Act.put, List.getElem_toArray, List.getElem_cons_succ, List.getElem_cons_zero, List.setIfInBounds_toArray, List.set_cons_zero, List.set_cons_succ]))
            (refine wpAnyH_take (i := 9) (oi := _) (v := ?_) rfl (by kernel_rfl) (by kernel_rfl) (by kernel_rfl) (fun _ _ _ h => h) (Or.inl ⟨by kernel_rfl, ?_⟩) (by assumption) ?_; rotate_left; (focus (intro w hSw; (try dsimp only at hSw); go_simp; (first | done | with_reducible rfl))); (try simp only [Act.put, List.getElem_toArray, List.getElem_cons_succ, List.getElem_cons_zero, List.setIfInBounds_toArray, List.set_cons_zero, List.set_cons_succ]))
            (refine wpAnyH_take (i := 10) (oi := _) (v := ?_) rfl (by kernel_rfl) (by kernel_rfl) (by kernel_rfl) (fun _ _ _ h => h) (Or.inl ⟨by kernel_rfl, ?_⟩) (by assumption) ?_; rotate_left; (focus (intro w hSw; (try dsimp only at hSw); go_simp; (first | done | with_reducible rfl))); (try simp only [Act.put, List.getElem_toArray, List.getElem_cons_succ, List.getElem_cons_zero, List.setIfInBounds_toArray, List.set_cons_zero, List.set_cons_succ]))
            refine wpAnyH_ready (rs := [11]) (by kernel_rfl) (by simp) (AllReadyH.cons (o := _) rfl (fun K hK => ?_) AllReadyH.nil)
            go_simp
            (refine hK.out _ _ (⟨s0, s1⟩) (fun hHeld => ?_); clear hK K)
            refine wpAnyH_ready (rs := [12]) (by kernel_rfl) (by simp) (AllReadyH.cons (o := _) rfl (fun K hK => ?_) AllReadyH.nil)
            go_simp
            (refine hK.out _ _ (⟨t0, t1⟩) (fun hHeld => ?_); clear hK K)
            (refine wpAnyH_take (i := 13) (oi := _) (v := ?_) rfl (by kernel_rfl) (by kernel_rfl) (by kernel_rfl) (fun _ _ _ h => h) (Or.inl ⟨by kernel_rfl, ?_⟩) (by assumption) ?_; rotate_left; (focus (intro w hSw; (try dsimp only at hSw); go_simp; (first | done | with_reducible rfl))); (try simp only [Act.put, List.getElem_toArray, List.getElem_cons_succ, List.getElem_cons_zero, List.setIfInBounds_toArray, List.set_cons_zero, List.set_cons_succ]))
            refine wpAnyH_ready (rs := [14]) (by kernel_rfl) (by simp) (AllReadyH.cons (o := _) rfl (fun K hK => ?_) AllReadyH.nil)
            go_simp
            (refine hK.out _ _ (⟨v0, v1⟩) (fun hHeld => ?_); clear hK K)
            refine wpAnyH_ready (rs := [15]) (by kernel_rfl) (by simp) (AllReadyH.cons (o := _) rfl (fun K hK => ?_) AllReadyH.nil)
            refine step_append_reps (K := kFile) rfl _ _ _ rfl el_files (by decide) rfl k (List.length_take_of_le (by rw [hl.out]; exact hk)) (hown.ext hxwr) _ _ _ _ rfl [f] rfl (by omega) _ (Kd.reps_single (kFile.keep hrep (Nat.le_of_lt (by simp)) (fun j _ hj => (Ext.alloc _ _).block j hj))) (rangeAt_new' _ [.string (mkS f.name), .slice (some ⟨wr.heap.size, 0, none⟩) f.data.length (grownCap wr.drew f.data.length 0 5)] _ (by simpa using hbs)) ?_ ?_ ?_ ?_ ?_
            · intro k' hk'
              have h1 := hk'.1
              have h2 := hk'.2
              refine ⟨by simp [hbs]; omega, fun he => ?_⟩
              have h3 := (hown.block k' he).2
              omega
            · simp [maxLen]; omega
            · omega
            · exact hxs
            intro g5 cap5 w5 hown5 hg5 hat5 hbase5 hlt5
            have hb0 := (hg5.cell_far ⟨b, o + k * 2, none⟩ (Nat.lt_of_lt_of_le hb hxs) hne).trans v0
            have hb1 := (hg5.cell_far ⟨b, o + k * 2 + 1, none⟩ (Nat.lt_of_lt_of_le hb hxs) hne).trans v1
            (refine hK.out _ _ (⟨hb0, hb1⟩) (fun hHeld => ?_); clear hK K)
            (refine wpAnyH_take (i := 16) (oi := _) (v := ?_) rfl (by kernel_rfl) (by kernel_rfl) (by kernel_rfl) (fun _ _ _ h => h) (Or.inl ⟨by kernel_rfl, ?_⟩) (by assumption) ?_; rotate_left; (focus (intro w hSw; (try dsimp only at hSw); go_simp; (first | done | with_reducible rfl))); (try simp only [Act.put, List.getElem_toArray, List.getElem_cons_succ, List.getElem_cons_zero, List.setIfInBounds_toArray, List.set_cons_zero, List.set_cons_succ]))
            refine wpAnyH_done (by kernel_rfl) ?_ _
            have hx5 : Ext w2 w5 := Below.grown hxa hg5 hxs (fun k' hk' => (hown.block k' hk').1)
            clear hown hg5 hat5 hxd hxb hxa hxwr hrep s0 s1 t0 t1 v0 v1 hb0 hb1 hd hc0 hc1 hcv
            have e1 : l.take k ++ [f] = l.take (k + 1) := by rw [List.take_add_one, hfk'.out]; rfl
            rw [e1] at hown5
            go_wp2
            go_roundw
            case rel =>
              refine ⟨k + 1, _, by omega, by go_num, hown5, ?_, hx5⟩
              rintro k' (hk' | hk')
              · exact hF k' hk'
              · have h1 := hk'.1; omega
            case measure => simp [intOf]; omega
          · obtain rfl : k = n := by omega
            have e1 : l.take k = l := List.take_of_length_le (by rw [hl.out]; exact Nat.le_refl _)
            rw [e1] at hown
            clear e1 kc hlt
            obtain ⟨av, cv, rfl, hcv, hcv2, hh⟩ := hown.holds
            rw [hl.out] at hh hcv
            rw [hl.out]
            have hmild : Mild l := ⟨Fits.of 250 (by rw [hl.out]; exact hn250) (by decide), fun f hf => Fits.of 70000 (hf250'.out f hf).2 (by decide)⟩
            have hmildS : MildS os := ⟨Fits.of (250 + 1099511627) (by rw [hl2.out]; omega) (by decide), fun f hf => Fits.of 300 (hf2'.out f hf).1 (by decide), fun f hf => Fits.of 70000 (hf2'.out f hf).2 (by decide)⟩
            have hap := apply_ _ _ B av a2 k cv n2 c2 l os hh (h2.ext hx) hmild (by rw [hl.out]; omega) hsrt.out hmildS (henv.ext hx)
            have hrp := fun W (hW : Ext w2 W) => ref_apply W A B a a2 k c n2 c2 l os (h.ext hW) (h2.ext hW) (by rw [hl.out, hl2.out]; omega) hsrt.out hmildS.name
            have hbk := fun W (hW : Ext wr W) => back_ W _ B av a2 k cv n2 c2 l os (hh.ext hW) hcv hcv2 (h2.ext (hx.trans hW)) hmild (by rw [hl.out]; omega) (by rw [hl2.out]; omega) hsrt.out hmildS (henv.ext (hx.trans hW))
            have hgood := fun L (hL : applyE l os = .ok L) => applyE_good hL hsrt.out hmild.data hmildS.data
            have herr := fun x (hx : applyE l os = .error x) => applyE_err hx
            have hgood' := Lib.hid hgood
            have herr' := Lib.hid herr
            have hsame := fun W (hW : Ext wr W) => ref_same W _ _ av a k cv k c l l (hh.ext hW) (h.ext (hx.trans hW))
            have hll : decide (l = l) = true := by simp
            rw [hll] at hsame
            clear hgood herr hown hF hmild hmildS henv hll
            generalize applyE l os = r at *
            go_wp2_with (fail)
            refine hap.mono ?_
            rintro e w4 ⟨hp4, hx4⟩
            clear hap
            rcases hp4 with ⟨v4, L, rfl, rfl, hov4⟩ | ⟨x, rfl, rfl⟩
            · obtain ⟨g1, g2, g3⟩ := hgood'.out L rfl
              obtain ⟨a4, c4, rfl, hc4, hc42, hh4⟩ := hov4.holds
              have hdq := Lib.hid (diffS_eq g1 hsrt.out)
              have hg2 := Lib.hid g2
              have hrp4 := hrp _ (hx.trans hx4)
              clear hov4 hgood' herr' g1 g2 g3 hrp
              go_wp2_with (fail)
              refine hrp4.mono ?_
              rintro e w5 ⟨hp5, hx5⟩
              clear hrp4
              rcases hp5 with ⟨a5, c5, L5, A5, hL5, rfl, hh5⟩ | ⟨x5, hx5', _⟩
              · injection hL5 with hL5
                subst hL5
                have hbk5 := hbk _ (hx4.trans hx5)
                clear hbk
                go_wp2_with (fail)
                refine hbk5.mono ?_
                rintro e w6 ⟨hp6, hx6⟩
                clear hbk5
                rcases hp6 with ⟨v6, L6, hL6, rfl, hov6⟩ | ⟨x6, hx6', _⟩
                · injection hL6 with hL6
                  subst hL6
                  obtain ⟨a6, c6, rfl, hc6, hc62, hh6⟩ := hov6.holds
                  have hLL : decide (L = L) = true := by simp
                  have hs1 := fun W (hW : Ext w6 W) => ref_same W _ _ a4 a5 L.length c4 L.length c5 L L ((hh4.ext (hx5.trans hx6)).ext hW) ((hh5.ext hx6).ext hW)
                  rw [hLL] at hs1
                  have hxw6 : Ext wr w6 := hx4.trans (hx5.trans hx6)
                  have hs2 := fun W (hW : Ext w6 W) => hsame W (hxw6.trans hW)
                  have hdf := fun W (hW : Ext w6 W) => ref_diff W (fun k => A5 k ∨ A k) a5 L.length c5 L a k c l (((hh5.ext hx6).ext hW).wide (fun _ h => .inl h)) ((h.ext (hx.trans (hxw6.trans hW))).wide (fun _ h => .inr h)) (Fits.of 500 (by have := hg2.out; rw [hl.out, hl2.out] at this; omega) (by decide)) (Fits.of 250 (by omega) (by decide)) (by have := hg2.out; rw [hl.out, hl2.out] at this; omega)
                  have hpl := Lib.hid (plain_diffR L l)
                  rw [hdq.out] at hh6 hc6
                  rw [hdq.out]
                  have hxx := hx.trans hxw6
                  clear hsame hh4 hh5 hov6 hh hc4 hc42 hc62 hLL hx4 hx5 hx6 hxw6
                  go_wp2_with (fail)
                  refine (hs1 _ (Ext.refl _)).mono ?_
                  rintro e w7 ⟨rfl, hx7⟩
                  clear hs1
                  go_wp2_with (fail)
                  refine (hs2 _ hx7).mono ?_
                  rintro e w8 ⟨rfl, hx8⟩
                  clear hs2
                  have hx68 := hx7.trans hx8
                  go_wp2_with (fail)
                  refine (hdf _ hx68).mono ?_
                  rintro e w9 ⟨v9, rfl, hown9, hx9⟩
                  obtain ⟨a9, c9, rfl, hc9, hc92, hh9⟩ := hown9.holds
                  have hso := ref_sameO w9 _ _ a6 a9 _ c6 _ c9 (diffR L l) ((hh6.ext hx68).ext hx9) hh9 hpl.out
                  clear hdf hown9 hh9
                  go_wp2_with (fail)
                  refine hso.mono ?_
                  rintro e w10 ⟨rfl, hx10⟩
                  clear hso
                  go_wp2_with (go_at_call 9; refine (hlv _).mono ?_; rintro e w11 ⟨rfl, hx11⟩)
                  go_ret
                  exact ⟨rfl, hxx.trans (hx68.trans (hx9.trans (hx10.trans hx11)))⟩
                · cases hx6'
              · cases hx5'
            · have hx0 := herr'.out x rfl
              have hz : (x != 0) = true := by simpa using hx0
              have hzz : (x != x) = false := by simp
              have hrp4 := hrp _ (hx.trans hx4)
              clear hgood' herr' hrp
              go_wp2_with (fail)
              refine hrp4.mono ?_
              rintro e w5 ⟨hp5, hx5⟩
              clear hrp4
              rcases hp5 with ⟨a5, c5, L5, A5, hL5, _, _⟩ | ⟨x5, hx5', rfl⟩
              · cases hL5
              · injection hx5' with hx5'
                subst hx5'
                have hbk5 := hbk _ (hx4.trans hx5)
                clear hbk
                go_wp2_with (fail)
                refine hbk5.mono ?_
                rintro e w6 ⟨hp6, hx6⟩
                clear hbk5
                rcases hp6 with ⟨v6, L6, hL6, _, _⟩ | ⟨x6, hx6', rfl⟩
                · cases hL6
                · injection hx6' with hx6'
                  subst hx6'
                  have hLL : decide (([] : List File) = []) = true := by simp
                  have hs1 := fun W => ref_same W (fun _ => True) (fun _ => True) none none 0 0 0 0 [] [] holds_none holds_none
                  rw [hLL] at hs1
                  have hxw6 : Ext wr w6 := hx4.trans (hx5.trans hx6)
                  have hs2 := fun W (hW : Ext w6 W) => hsame W (hxw6.trans hW)
                  have hxx := hx.trans hxw6
                  clear hsame hh hLL hx4 hx5 hx6 hxw6 hx0
                  go_wp2_with (fail)
                  refine (hs1 _).mono ?_
                  rintro e w7 ⟨rfl, hx7⟩
                  clear hs1
                  go_wp2_with (fail)
                  refine (hs2 _ hx7).mono ?_
                  rintro e w8 ⟨rfl, hx8⟩
                  clear hs2
                  have hx68 := hx7.trans hx8
                  go_wp2_with (go_at_call 9; refine (hlv _).mono ?_; rintro e w11 ⟨rfl, hx11⟩)
                  go_ret
                  exact ⟨rfl, hxx.trans (hx68.trans hx11)⟩
end Go.Proofs.YtaenackibigojaaDoor
#print axioms Go.Proofs.YtaenackibigojaaDoor.law_applies

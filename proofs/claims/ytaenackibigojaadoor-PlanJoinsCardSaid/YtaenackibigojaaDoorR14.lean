/- Part of the proofs: lives_names, lives_diff, lives_: each says what its head says. -/
import Derived.Test.YtaenackibigojaaDoorR13
set_option linter.unusedVariables false
set_option linter.unusedSimpArgs false
namespace Go.BK
theorem lives_names : namesS [[⟨[97], []⟩], [⟨[98], []⟩]] = [[97], [98]] := by
  have h : ([[97], [98]] : List Str).mergeSort (fun x y => !ltS y x) = [[97], [98]] := by
    apply List.mergeSort_of_pairwise
    simp [ltS]
    decide
  have h2 : allN [[⟨[97], []⟩], [⟨[98], []⟩]] = [[97], [98]] := rfl
  unfold namesS
  rw [h2, h]
  rfl
theorem lives_diff : diffS [⟨[97], []⟩] [⟨[98], []⟩] = [delS [97], putS [98] []] := by
  unfold diffS goneS putsS
  rw [lives_names]
  rfl
end Go.BK
namespace Go.Proofs.YtaenackibigojaaDoor
open Go.RowKit Go.BK

set_option maxHeartbeats 2000000 in
set_option maxRecDepth 100000 in
theorem lives_ (w : World) : Calls Tryd.prog 9 #[] w fun e w' => e = .returned (.bool true) ∧ Ext w w' := by
  obtain ⟨W0, hW0⟩ : ∃ W, (w.alloc (.cells #[.string ⟨#[97]⟩, .slice none 0 0] 29)).alloc (.cells #[.string ⟨#[98]⟩, .slice none 0 0] 29) = W := ⟨_, rfl⟩
  have hx0 : Ext w W0 := by rw [← hW0]; exact (Ext.alloc _ _).trans (Ext.alloc _ _)
  have hsz0 : W0.heap.size = w.heap.size + 2 := by rw [← hW0]; simp
  have ha : Holds kFile (fun _ => True) W0 (some ⟨w.heap.size, 0, none⟩) 1 [⟨[97], []⟩] := by
    refine ⟨rfl, by decide, [.string (mkS [97]), .slice none 0 0], Kd.reps_single (kFile_mk (by decide) (Nat.le_refl _) (by decide) holds_none), fun _ => ⟨_, _, rfl, trivial, by rw [hsz0]; omega, ?_⟩⟩
    have h1 := rangeAt_new w [.string (mkS [97]), .slice none 0 0] 29
    intro j v hv
    have h2 := h1 j v hv
    rw [← hW0]
    exact (World.cell?_alloc_past _ _ _ (by simp)).trans h2
  have hb : Holds kFile (fun _ => True) W0 (some ⟨w.heap.size + 1, 0, none⟩) 1 [⟨[98], []⟩] := by
    refine ⟨rfl, by decide, [.string (mkS [98]), .slice none 0 0], Kd.reps_single (kFile_mk (by decide) (Nat.le_refl _) (by decide) holds_none), fun _ => ⟨_, _, rfl, trivial, by rw [hsz0]; omega, ?_⟩⟩
    rw [← hW0]
    exact rangeAt_new' _ [.string (mkS [98]), .slice none 0 0] 29 (by simp)
  have hd := diff_ W0 (fun _ => True) (some ⟨w.heap.size, 0, none⟩) 1 1 [⟨[97], []⟩] (some ⟨w.heap.size + 1, 0, none⟩) 1 1 [⟨[98], []⟩] ha ⟨Fits.of 1 (Nat.le_refl _) (by decide), fun f hf => by simp at hf; subst hf; exact Fits.of 0 (Nat.le_refl _) (by decide)⟩ (List.pairwise_singleton ..) (Nat.le_refl _) (by decide)
    hb ⟨Fits.of 1 (Nat.le_refl _) (by decide), fun f hf => by simp at hf; subst hf; exact Fits.of 0 (Nat.le_refl _) (by decide)⟩ (List.pairwise_singleton ..) (Nat.le_refl _) (by decide) (by decide) (by decide)
  rw [lives_diff] at hd
  clear ha hb
  have e1 : (ByteArray.mk #[97]).toList = [97] := mkS_toList [97]
  have e2 : (ByteArray.mk #[98]).toList = [98] := mkS_toList [98]
  go_enter Tryd.func9, Tryd.ntmps9
  go_wp2_with (fail)
  refine hd.mono ?_
  rintro e w1 ⟨v, rfl, hov, hx1⟩
  clear hd
  obtain ⟨a, c, rfl, hc, hcm, hh⟩ := hov.holds
  obtain ⟨b, o, ad, m2, cc, ad', m', cc', hab, hA, hb, hc0, hc1, hc2, hc3, hc4, hc5, hc6, _⟩ := ops_at hh 0 (delS [97]) rfl
  obtain ⟨b', o', ad1, m3, cc3, ad4, m4, cc4, hab', hA', hb', hd0, hd1, hd2, hd3, hd4, hd5, hd6, _⟩ := ops_at hh 1 (putS [98] []) rfl
  subst hab
  obtain ⟨rfl, rfl⟩ : b = b' ∧ o = o' := by cases hab'; exact ⟨rfl, rfl⟩
  have f0 := hc0 _ (Ext.refl _)
  have f1 := hc1 _ (Ext.refl _)
  have g0 := hd0 _ (Ext.refl _)
  have g1 := hd1 _ (Ext.refl _)
  clear hc0 hc1 hc2 hc3 hc4 hc5 hc6 hd0 hd1 hd2 hd3 hd4 hd5 hd6 hh hov hc hcm
  simp only [delS, putS, List.length_cons, List.length_nil, Nat.zero_mul, Nat.one_mul, Nat.add_zero, Nat.zero_add] at f0 f1 g0 g1 ⊢
  go_wp2
  go_ret
  exact ⟨rfl, hx0.trans hx1⟩
end Go.Proofs.YtaenackibigojaaDoor

/- Part of the proofs: el_files, copied: each says what its head says. -/
import Derived.Test.YtaenackibigojaaDoorK2
import Derived.Test.YtaenackibigojaaDoorA1
import Derived.Deep.RegionHeld3
set_option linter.unusedVariables false
set_option linter.unusedSimpArgs false
namespace Go.Proofs.YtaenackibigojaaDoor
open Go.RowKit Go.BK

theorem el_files : ElemOf Tryd.prog 22 29 2 40 := ElemOf.mk' (z := .agg #[.string .empty, .slice none 0 0]) Tryd.underlying22 (by kernel_rfl) rfl

set_option maxHeartbeats 800000 in
set_option maxRecDepth 100000 in
theorem copied (w : World) (A : Nat → Prop) (a : Option Addr) (n c : Nat) (l : List File) (h : Holds kFile A w a n l) (hm : Mild l) :
    Calls Tryd.prog 37 #[.slice a n c] w fun e w' => ∃ F, e = .returned (.slice (some ⟨w.heap.size, 0, none⟩) n n) ∧ OwnsF kFile 29 w.heap.size F w' (.slice (some ⟨w.heap.size, 0, none⟩) n n) l ∧ (∀ k, F k → w.heap.size ≤ k) ∧ Ext w w' := by
  have hl := Lib.hid h.1
  have hfit := hm.len
  rw [hl.out] at hfit
  have hnn : n ≤ 9223372036854775807 := h.le
  obtain ⟨i0, hi, hz0, hz1, hz2⟩ := info_parts (show (Tryd.prog.info? 29).map (fun i => (i.zero, i.size, i.bytes)) = some (some (.agg #[.string .empty, .slice none 0 0]), 2, 40) by kernel_rfl)
  obtain ⟨w1, hmk, hown0, hg0⟩ := run_make_own (P := Tryd.prog) w w.heap.size 22 29 i0 _ 2 Tryd.underlying22 hi hz0 hz1 .i64 .i64 n (by rw [hz2]; have := hfit.out; omega) h.2.1 (Nat.le_refl _)
  go_enter Tryd.func37, Tryd.ntmps37
  go_wp2
  have hx0 : Ext w w1 := (Ext.refl w).grown hg0 (Nat.le_refl _) (fun k hk => by cases hk)
  have hf0 : OwnsF kFile 29 w.heap.size (fun _ => False) w1 (.slice (some ⟨w.heap.size, 0, none⟩) 0 n) [] := ⟨fun _ h => h.elim, fun _ _ h => h, [], hown0, rfl⟩
  clear hmk hown0 hg0 hi hz0 hz1 hz2
  go_loopw [3, 11] (fun out i wr => ∃ k F, k ≤ n ∧ i = .int .i64 (k : Nat) ∧ out = .slice (some ⟨w.heap.size, 0, none⟩) k n ∧ OwnsF kFile 29 w.heap.size F wr (.slice (some ⟨w.heap.size, 0, none⟩) k n) (l.take k) ∧ (∀ k, F k → w.heap.size ≤ k) ∧ Ext w wr ∧ w.heap.size < wr.heap.size)
    (fun _ i _ => n - (intOf i).toNat)
  case atStart => exact ⟨0, _, Nat.zero_le _, rfl, rfl, hf0, fun _ h => h.elim, hx0, (hf0.block _ rfl).2⟩
  case round =>
    obtain ⟨k, F, hk, rfl, rfl, hown, hF, hx, hsz⟩ := hrel
    by_cases hlt : k < n
    · obtain ⟨f, hf⟩ : ∃ f, l[k]? = some f := ⟨_, List.getElem?_eq_getElem (by rw [hl.out]; exact hlt)⟩
      obtain ⟨b, o, ad, m, cc, rfl, hA, hb, hc0, hc1, hns, hmc, hcm, hd⟩ := files_at h k f hf
      have hfd : Fits m := by have := hm.data f (List.mem_of_getElem? hf); rwa [(hd w (Ext.refl w)).1] at this
      have hf' := Lib.hid hf
      clear hf
      go_wp2
      have hxa : Ext wr (wr.alloc (.cells #[.string (mkS f.name), .slice ad m cc] 29)).drew := (Ext.alloc _ _).trans (Ext.drew _)
      have hda := hd _ (hx.trans hxa)
      go_region_held3 (fun w' => w'.cell? ⟨wr.heap.size, 0, none⟩ = some (.string (mkS f.name)) ∧ w'.cell? ⟨wr.heap.size, 1, none⟩ = some (.slice ad m cc))
        (first | go_keep | (exact ⟨hb0, hb1⟩))
        (first
          | (go_simp; go_at_call 38; refine (cloneBytes _ A _ _ _ f.data hda hfd).mono ?_; rintro e w2 ⟨v, rfl, hov, hx2⟩; obtain ⟨av, cv, rfl, hcv, hcv2, hh2⟩ := (Owns.holds hov)
             have hb0 := (hx2.cell (p := ⟨wr.heap.size, 0, none⟩) (by simp)).trans (by simp : _ = some (Value.string (mkS f.name)))
             have hb1 := (hx2.cell (p := ⟨wr.heap.size, 1, none⟩) (by simp)).trans (by simp : _ = some (Value.slice ad m cc))
             have hx3 := hxa.trans hx2
             have hown2 := hown.ext hx3
             have hh3 := hh2.real)
          | (refine step_append_room_reps rfl _ _ _ rfl el_files _ _ _ rfl (List.length_take_of_le (by rw [hl.out]; exact hk)) (hown2.ext (Ext.alloc _ _)) _ _ _ _ rfl [f] rfl _
              (Kd.reps_single (kFile_mk hns hcv hcv2 (hh3.ext (Ext.alloc _ _)))) (rangeAt_new _ [Value.string (mkS f.name), Value.slice av f.data.length cv] _) ?_ (by omega) ?_
             · intro k' hk'; have h1 := hk'.1; have h2 := hk'.2; simp at h1 h2 ⊢; omega
             intro w3 hown3 hg3
             have hb0 : w3.cell? ⟨wr.heap.size, 0, none⟩ = some (Value.string (mkS f.name)) := (hg3.cell_far _ (by have := hx2.size; simp at this ⊢; omega) (by simp; omega)).trans ((World.cell?_alloc_past _ _ _ (by have := hx2.size; simp at this ⊢; omega)).trans hb0)
             have hb1 : w3.cell? ⟨wr.heap.size, 1, none⟩ = some (Value.slice ad m cc) := (hg3.cell_far _ (by have := hx2.size; simp at this ⊢; omega) (by simp; omega)).trans ((World.cell?_alloc_past _ _ _ (by have := hx2.size; simp at this ⊢; omega)).trans hb1)))
      have hx4 : Ext w w3 := (hx.trans (hx3.trans (Ext.alloc _ _))).grown hg3 (by have := hx.size; have := hx3.size; simp; omega) (fun k' hk' => by have := Option.some.inj hk'; omega)
      have hsz3 : w.heap.size < w3.heap.size := by have := hx3.size; have := hg3.size; simp at this; omega
      clear hx0 hf0 hh3 hh2 hown2 hown hg3 hx3 hx2 hov hda hxa hd hc0 hc1
      go_wp2
      go_roundw
      case rel =>
        have e1 : l.take k ++ [f] = l.take (k + 1) := by rw [List.take_add_one, hf'.out]; rfl
        rw [e1] at hown3
        refine ⟨k + 1, _, by omega, by go_num, rfl, hown3, ?_, hx4, hsz3⟩
        rintro k' (hk' | hk')
        · exact hF k' hk'
        · have h1 := hk'.1; simp at h1; omega
      case measure => simp [intOf]; omega
    · have hkn : k = n := by omega
      subst hkn
      clear hx0 hf0
      go_wp2
      go_ret
      exact ⟨F, rfl, by rw [List.take_of_length_le (by rw [hl.out]; exact Nat.le_refl _)] at hown; exact hown, hF, hx⟩
end Go.Proofs.YtaenackibigojaaDoor

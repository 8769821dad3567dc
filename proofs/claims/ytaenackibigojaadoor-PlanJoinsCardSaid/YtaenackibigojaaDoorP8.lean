/- Part of the proofs: ownBlock_lt, cloneFiles, own_: each says what its head says. -/
import Derived.Test.YtaenackibigojaaDoorP7
set_option linter.unusedVariables false
set_option linter.unusedSimpArgs false
namespace Go.Proofs.YtaenackibigojaaDoor
open Go.RowKit Go.BK

theorem ownBlock_lt {α : Type} {K : Kd α} {e : TypeId} {base : Nat} {F : Nat → Prop} {w : World} {v : Value} {xs : List α} (h : OwnsF K e base F w v xs) {B : Nat} (hB : w.heap.size ≤ B) : some B ≠ v.ownBlock := fun he => by
  have := (h.block B he.symm).2; omega

set_option maxHeartbeats 400000 in
set_option maxRecDepth 100000 in
theorem cloneFiles (w : World) (A : Nat → Prop) (a : Option Addr) (n c : Nat) (xs : List File) (h : Holds kFile A w a n xs) (hn : Fits n) :
    Calls Tryd.prog 20 #[.slice a n c] w fun e w' => ∃ v, e = .returned v ∧ Owns kFile 29 w.heap.size A w' v xs ∧ Ext w w' := by
  have heq := fun w => Lib.run_eql_slice_nil (P := Tryd.prog) w 22 29 a n c 0 0 Tryd.underlying22
  cases a with
  | none =>
    go_enter Tryd.func20, Tryd.ntmps20
    go_wp2
    go_ret
    have hn0 : n = 0 := by
      obtain ⟨_, _, vs, _, h2⟩ := h
      rcases Nat.eq_zero_or_pos n with h0 | h0
      · exact h0
      · obtain ⟨b, o, hh, _⟩ := h2 h0; cases hh
    subst hn0
    obtain rfl := List.eq_nil_of_length_eq_zero h.1
    exact ⟨.slice none 0 0, rfl, ⟨_, fun k h => h.elim, OwnsF.nil _ _ _ _⟩, Ext.refl _⟩
  | some ad =>
    have h0 : OwnsF kFile 29 w.heap.size (fun _ => False) (w.alloc (.cells #[] 29)) (.slice (some ⟨w.heap.size, 0, none⟩) 0 0) [] :=
      OwnsF.lit (xs := []) (vs := []) w kFile 29 w.heap.size (fun _ => False) rfl (fun _ h => h.elim) (Nat.le_refl _) (Nat.zero_le _)
    have hh := h.real.ext (Ext.alloc w (.cells #[] 29))
    have hx : Ext w (w.alloc (.cells #[] 29)) := Ext.alloc w _
    have hn2 := Lib.hid hn.out
    have hl := Lib.hid h.1
    clear h
    go_enter Tryd.func20, Tryd.ntmps20
    go_wp2_with (at_builtin; refine wpList_append_holds rfl _ _ _ rfl el_files (by decide) rfl h0 _ _ _ rfl hh ?_ ?_ ?_ ?_ ?_)
    · intro k hk _ he; have : w.heap.size = k := Option.some.inj he
      have := hk.2; omega
    · have := hn2.out; simp [maxLen]; omega
    · have := hn2.out; simp; omega
    · simp
    · intro v' w' hown hg hwhere
      go_wp2
      go_ret
      refine ⟨v', rfl, ⟨_, ?_, hown⟩, (hx.trans (Ext.refl _)).grown hg (by simp) (fun k hk => ?_)⟩
      · intro k hk
        first
          | exact hk.1.1
          | exact (hk.resolve_left id).1.1
      · have : w.heap.size = k := Option.some.inj hk
        omega

set_option maxHeartbeats 800000 in
set_option maxRecDepth 100000 in
theorem own_ (w : World) (A : Nat → Prop) (a : Option Addr) (n c : Nat) (l : List File) (h : Holds kFile A w a n l) (hm : Mild l) :
    Calls Tryd.prog 24 #[.slice a n c] w fun e w' => ∃ v, e = .returned v ∧ Owns kFile 29 w.heap.size (fun k => w.heap.size ≤ k) w' v l ∧ Ext w w' := by
  have hl := Lib.hid h.1
  have hfit := hm.len
  rw [hl.out] at hfit
  have hfn := Lib.hid hfit.out
  have hnn : n ≤ 9223372036854775807 := h.le
  go_enter Tryd.func24, Tryd.ntmps24
  go_wp2
  go_loopw [3, 8] (fun out i wr => ∃ k F, k ≤ n ∧ i = .int .i64 (k : Nat) ∧ OwnsF kFile 29 w.heap.size F wr out (l.take k) ∧ (∀ k, F k → w.heap.size ≤ k) ∧ Ext w wr)
    (fun _ i _ => n - (intOf i).toNat)
  case atStart => exact ⟨0, _, Nat.zero_le _, rfl, OwnsF.nil _ _ _ _, fun _ h => h.elim, Ext.refl _⟩
  case round =>
    obtain ⟨k, F, hk, rfl, hown, hF, hx⟩ := hrel
    by_cases hlt : k < n
    · obtain ⟨f, hf⟩ : ∃ f, l[k]? = some f := ⟨_, List.getElem?_eq_getElem (by rw [hl.out]; exact hlt)⟩
      obtain ⟨b, o, ad, m, cc, rfl, hA, hb, hc0, hc1, hns, hmc, hcm, hd⟩ := files_at h k f hf
      have hfd : Fits m := by have := hm.data f (List.mem_of_getElem? hf); rwa [(hd w (Ext.refl w)).1] at this
      have hf' := Lib.hid hf
      clear hf
      go_wp2
      have hxa : Ext wr (wr.alloc (.cells #[.string (mkS f.name), .slice ad m cc] 29)).drew := (Ext.alloc _ _).trans (Ext.drew _)
      have hda := hd _ (hx.trans hxa)
      go_region_held3 (fun w' => w'.cell? ⟨wr.heap.size, 0, none⟩ = some (.string (mkS f.name)) ∧ w'.cell? ⟨wr.heap.size, 1, none⟩ = some (.slice ad m cc))
        (first | go_keep | (exact ⟨hb0, hb1⟩))
        (first
          | (go_simp; go_at_call 38; refine (cloneBytes _ A _ _ _ f.data hda hfd).mono ?_; rintro e w2 ⟨v, rfl, hov, hx2⟩; obtain ⟨av, cv, rfl, hcv, hcv2, hh2⟩ := (Owns.holds hov)
             have hb0 := (hx2.cell (p := ⟨wr.heap.size, 0, none⟩) (by simp)).trans (by simp : _ = some (Value.string (mkS f.name)))
             have hb1 := (hx2.cell (p := ⟨wr.heap.size, 1, none⟩) (by simp)).trans (by simp : _ = some (Value.slice ad m cc))
             have hx3 := hxa.trans hx2
             have hown2 := hown.ext hx3
             have hh3 := hh2.real
             have hne := fun (B : Nat) (hB : wr.heap.size ≤ B) => ownBlock_lt hown hB)
          | (refine step_append_reps rfl _ _ _ rfl el_files (by decide) rfl k (List.length_take_of_le (by rw [hl.out]; exact hk)) (hown2.ext (Ext.alloc _ _)) _ _ _ _ rfl [f] rfl (by omega) _
              (Kd.reps_single (kFile_mk hns hcv hcv2 (hh3.ext (Ext.alloc _ _)))) (rangeAt_new _ [Value.string (mkS f.name), Value.slice av f.data.length cv] _) ?_ ?_ ?_ ?_ ?_
             · intro k' hk'; have h1 := hk'.1; have h2 := hk'.2; simp at h1 h2 ⊢; exact ⟨by omega, fun he => hne k' (by omega) he.symm⟩
             · have := hfn.out; simp [maxLen]; omega
             · have := hfn.out; simp; omega
             · have := hx.size; have := hx3.size; simp; omega
             intro g3 cap3 w3 hown3 hg3 hat3 hbase3 hlt3
             have hb0 : w3.cell? ⟨wr.heap.size, 0, none⟩ = some (Value.string (mkS f.name)) := (hg3.cell_far _ (by have := hx2.size; simp at this ⊢; omega) (hne _ (Nat.le_refl _))).trans ((World.cell?_alloc_past _ _ _ (by have := hx2.size; simp at this ⊢; omega)).trans hb0)
             have hb1 : w3.cell? ⟨wr.heap.size, 1, none⟩ = some (Value.slice ad m cc) := (hg3.cell_far _ (by have := hx2.size; simp at this ⊢; omega) (hne _ (Nat.le_refl _))).trans ((World.cell?_alloc_past _ _ _ (by have := hx2.size; simp at this ⊢; omega)).trans hb1)))
      have hx4 : Ext w w3 := (hx.trans (hx3.trans (Ext.alloc _ _))).grown hg3 (by have := hx.size; have := hx3.size; simp; omega) (fun k' hk' => (hown.block k' hk').1)
      clear hh3 hh2 hown2 hown hg3 hx3 hx2 hov hda hxa hd hc0 hc1 hne
      go_wp2
      go_roundw
      case rel =>
        have e1 : l.take k ++ [f] = l.take (k + 1) := by rw [List.take_add_one, hf'.out]; rfl
        rw [e1] at hown3
        refine ⟨k + 1, _, by omega, by go_num, hown3, ?_, hx4⟩
        rintro k' (hk' | hk')
        · exact hF k' hk'
        · have h1 := hk'.1; simp at h1; have := hx.size; omega
      case measure => simp [intOf]; omega
    · have hkn : k = n := by omega
      subst hkn
      go_wp2
      go_ret
      exact ⟨_, rfl, ⟨F, hF, by rw [List.take_of_length_le (by rw [hl.out]; exact Nat.le_refl _)] at hown; exact hown⟩, hx⟩
end Go.Proofs.YtaenackibigojaaDoor

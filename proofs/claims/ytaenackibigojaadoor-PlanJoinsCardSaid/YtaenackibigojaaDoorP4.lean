/- Part of the proofs: delete1, without: each says what its head says. -/
import Derived.Test.YtaenackibigojaaDoorP3
set_option linter.unusedVariables false
set_option linter.unusedSimpArgs false
namespace Go.Proofs.YtaenackibigojaaDoor
open Go.RowKit Go.BK

set_option maxHeartbeats 1000000 in
set_option maxRecDepth 100000 in
/-- slices.Delete of one file, in a row of the call's own. -/
theorem delete1 (w : World) (base : Nat) (F : Nat → Prop) (g n i : Nat) (l : List File) (h : OwnsF kFile 29 base F w (.slice (some ⟨g, 0, none⟩) n n) l) (hl : l.length = n) (hm : Fits n) (hi : i < n) :
    Calls Tryd.prog 41 #[.slice (some ⟨g, 0, none⟩) n n, .int .i64 i, .int .i64 ((i : Int) + 1)] w fun e w' =>
      e = .returned (.slice (some ⟨g, 0, none⟩) (n - 1) n) ∧ OwnsF kFile 29 base F w' (.slice (some ⟨g, 0, none⟩) (n - 1) n) (l.eraseIdx i) ∧ w.grownBy w' (some g) := by
  have hnn : n ≤ 1099511627776 := hm.out
  have hl' := Lib.hid hl
  have hd : OwnsF kFile 29 base F w.drew (.slice (some ⟨g, 0, none⟩) n n) l := h.ext (Ext.drew w)
  have hpre := hd.front hl i (by omega)
  obtain ⟨vs, hrow, hreps⟩ := hd.row
  have hvl : vs.length = n * 2 := by rw [Kd.reps_len hreps, hl]; rfl
  have hsrc : w.drew.rangeAt g ((i + 1) * 2) (vs.drop ((i + 1) * 2)) := fun j u hu => by
    have := hrow.cells (g := g) rfl ((i + 1) * 2 + j) u (by rw [List.getElem?_drop] at hu; exact hu)
    rwa [Addr.add_mid, Nat.zero_add] at this
  have hrest := Kd.reps_drop (i + 1) hreps
  rw [show kFile.sz = 2 from rfl] at hrest
  obtain ⟨oo, hoo, hsrc2⟩ : ∃ oo, (if n = i + 1 then (0 : Nat) else (i + 1) * 2) = oo ∧ w.drew.rangeAt g oo (vs.drop ((i + 1) * 2)) := by
    by_cases hc : n = i + 1
    · refine ⟨0, by rw [if_pos hc], fun j u hu => ?_⟩
      rw [List.drop_eq_nil_of_le (by omega)] at hu
      simp at hu
    · exact ⟨_, by rw [if_neg hc], hsrc⟩
  obtain ⟨W2, hrun, hown2, hg2⟩ := run_append_room_reps (P := Tryd.prog) (ty := 22) el_files g n (xs := l.take i) (F := F) (by rw [show (l.take i).length = i by simp; omega]; exact hpre) g oo (n - (i + 1)) (n - (i + 1)) (ys := l.drop (i + 1)) (by simp; omega) _ hrest hsrc2
    (fun k hk => ⟨hd.lt k hk, fun e => hd.apart k (by rw [e]; rfl) hk⟩) (by simp; omega)
  rw [show (l.take i).length = i by simp; omega] at hrun
  have hel : l.take i ++ l.drop (i + 1) = l.eraseIdx i := (List.eraseIdx_eq_take_drop_succ l i).symm
  rw [hel] at hown2 hrun
  rw [show (l.eraseIdx i).length = n - 1 by rw [List.length_eraseIdx, if_pos (by omega), hl]] at hown2 hrun
  have hown3 := hown2.iff (F' := F) (fun k => by simp)
  have hlen3 : (l.eraseIdx i).length = n - 1 := by rw [List.length_eraseIdx, if_pos (by omega), hl]
  obtain ⟨hown4, hth⟩ := hown3.beyond hlen3 (n - 1) (Nat.le_refl _) [.string .empty, .slice none 0 0] (by simp [show kFile.sz = 2 from rfl]; omega)
  have hclr := run_clear_k (P := Tryd.prog) W2 22 29 0 (.agg #[.string .empty, .slice none 0 0]) Tryd.underlying22 (fun w => by kernel_rfl) g ((n - 1) * 2) 1 1 (by omega) [.string .empty, .slice none 0 0] (by kernel_rfl) (by simp [Value.oneCell']) hth
  have hfin := Lib.hid hown4
  have hgr : Hid (w.grownBy (W2.setCells g ((n - 1) * 2) [.string .empty, .slice none 0 0]) (some g)) := Lib.hid (World.grownBy.trans (show w.grownBy w.drew (some g) from ⟨rfl, rfl, rfl, Nat.le_refl _, fun _ _ _ => rfl⟩) (World.grownBy.trans hg2 (grown_setCells _ _ _ _)))
  have d1 : ((i : Int) == (i : Int) + 1) = false := by simp; omega
  have d2 : (i : Int) + 1 ≤ (n : Int) := by omega
  have d3 : ((i : Int) + 1).toNat = i + 1 := by omega
  have d4 : (0 : Int) ≤ (i : Int) + 1 := by omega
  have d5 : (i : Int) ≤ (i : Int) + 1 := by omega
  have d6 : (0 : Int) ≤ (i : Int) := by omega
  have d7 : (i : Int) ≤ (n : Int) := by omega
  have d8 : n - (n - 1) = 1 := by omega
  have hadd : (if n = i + 1 then some (⟨g, 0, none⟩ : Addr) else some ⟨g, (i + 1) * 2, none⟩) = some ⟨g, oo, none⟩ := by rw [← hoo]; split <;> rfl
  clear h hd hpre hrow hoo hreps hsrc hrest hsrc2 hown2 hown3 hown4 hth hg2 hl hel hlen3 hvl
  go_enter Tryd.func41, Tryd.ntmps41
  go_wp2
  go_still_tail 6, (by kernel_rfl)
  change wpList _ _ _ _ _ w.drew
  go_wp2_with (at_builtin; refine Lib.wpList_append_run _ rfl _ _ _ _ rfl _ _ rfl rfl _ W2 hrun ?_)
  go_ret
  exact ⟨rfl, hfin.out, hgr.out⟩

set_option maxHeartbeats 1000000 in
set_option maxRecDepth 100000 in
theorem without (w : World) (A : Nat → Prop) (a : Option Addr) (n c : Nat) (l : List File) (s : Str) (h : Holds kFile A w a n l) (hm : Mild l) (hs : Srt l) :
    Calls Tryd.prog 23 #[.slice a n c, .string (mkS s)] w fun e w' =>
      ∃ v, e = .returned v ∧ Owns kFile 29 w.heap.size (fun k => w.heap.size ≤ k) w' v (withoutP l s) ∧ Ext w w' := by
  have hfn : Fits n := by have := hm.len; rwa [h.1] at this
  have hl := Lib.hid h.1
  have hs' := Lib.hid hs
  clear hs
  go_enter Tryd.func23, Tryd.ntmps23
  go_wp2_with (go_at_call 37; refine (copied _ A _ _ _ l h hm).mono ?_; rintro e w1 ⟨F, rfl, hown, hF, hx1⟩)
  have hho := hown.holds'.1
  refine (place w1 _ _ _ _ l s hho hfn hs'.out).mono ?_
  rintro e w4 ⟨rfl, hx4⟩
  have hown4 := hown.ext hx4
  have hx04 := hx1.trans hx4
  have hps := Lib.hid (fun hh : has l s = true => has_pos_lt hh)
  have hwt := Lib.hid (fun hh : has l s = true => without_at hs'.out hh)
  have hwf := Lib.hid (fun hh : has l s = false => without_none hh)
  clear hho hown hx4 hx1
  have hpp : ∃ p, pos l s = p := ⟨_, rfl⟩
  obtain ⟨p, hp⟩ := hpp
  have hp' := Lib.hid hp
  rw [hp]
  clear hp
  cases hhas : has l s with
  | true =>
    have hp1 : p < n := by have := hps.out hhas; have := hl.out; have := hp'.out; omega
    have hnn : n ≤ 1099511627776 := hfn.out
    go_wp2_with (go_at_call 41; refine (delete1 _ _ _ _ n p l hown4 hl.out hfn hp1).mono ?_; rintro e w7 ⟨rfl, hown7, hg7⟩)
    go_ret
    refine ⟨.slice (some ⟨w.heap.size, 0, none⟩) (n - 1) n, rfl, ⟨F, hF, by unfold withoutP; rw [hwt.out hhas, hp'.out]; exact hown7⟩, hx04.grown hg7 hx04.size (fun k hk => Nat.le_of_eq (Option.some.inj hk))⟩
  | false =>
    go_wp2
    go_ret
    exact ⟨.slice (some ⟨w.heap.size, 0, none⟩) n n, rfl, ⟨F, hF, by unfold withoutP; rw [hwf.out hhas]; exact hown4⟩, hx04⟩
end Go.Proofs.YtaenackibigojaaDoor

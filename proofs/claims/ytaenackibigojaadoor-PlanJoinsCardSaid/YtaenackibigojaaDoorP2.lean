/- Part of the proofs: info_file, size_file, insert_end, firstCells_of, insert_mid, insert1: each says what its head says. -/
import Derived.Test.YtaenackibigojaaDoorK3
import Derived.Test.YtaenackibigojaaDoorP1
import Derived.Test.YtaenackibigojaaDoorA2
import Derived.StillTailTactics
set_option linter.unusedVariables false
set_option linter.unusedSimpArgs false
namespace Go.Proofs.YtaenackibigojaaDoor
open Go.RowKit Go.BK

theorem info_file : (Tryd.prog.info? 29).map (fun i => (i.zero, i.size, i.bytes)) = some (some (.agg #[.string .empty, .slice none 0 0]), 2, 40) := by kernel_rfl
theorem size_file : (Tryd.prog.info? 29).map (·.size) = some 2 := by kernel_rfl

set_option maxHeartbeats 1000000 in
set_option maxRecDepth 100000 in
/-- slices.Insert of one file at the slice's end, no room being left. -/
theorem insert_end (w : World) (A B : Nat → Prop) (a : Option Addr) (n : Nat) (l : List File) (h : Holds kFile A w a n l) (hm : Fits n) (bv : Nat) (f : File) (hv : Holds kFile B w (some ⟨bv, 0, none⟩) 1 [f]) :
    Calls Tryd.prog 40 #[.slice a n n, .int .i64 n, .slice (some ⟨bv, 0, none⟩) 1 1] w fun e w' =>
      ∃ v, e = .returned v ∧ Owns kFile 29 w.heap.size (fun k => A k ∨ B k) w' v (l ++ [f]) ∧ Ext w w' := by
  have hnn : n ≤ 1099511627776 := hm.out
  obtain ⟨i0, hi, hz0, hz1, hz2⟩ := info_parts info_file
  have hl := Lib.hid h.1
  obtain ⟨v', w', hrun, hown, hg⟩ : ∃ v' w', (Builtin.append_ #[22, 22] 22 #[.slice a n n, .slice (some ⟨bv, 0, none⟩) 1 1]).run Tryd.prog w = .ok v' w' ∧
      Owns kFile 29 w.heap.size (fun k => A k ∨ B k) w' v' (l ++ [f]) ∧ w.grownBy w' none := by
    obtain ⟨_, _, fv, hfr, hfat⟩ := hv.real
    obtain ⟨bv', ov', he, hBv, hlt, hfat⟩ := hfat (by omega)
    cases he
    obtain ⟨_, _, vs, hr, hat⟩ := h.real
    have hle : ∀ j u, vs[j]? = some u → ∀ ad, a = some ad → w.cell? (ad.add j) = some u := by
      rintro j u hu ad rfl
      have hj := (List.getElem?_eq_some_iff.1 hu).1
      rw [Kd.reps_len hr, hl.out, show kFile.sz = 2 from rfl] at hj
      obtain ⟨b, o, he, _, _, hra⟩ := hat (by omega)
      cases he
      rw [Addr.add_mid]
      exact hra j u hu
    have fin : ∀ v' w', w'.ownsRow w.heap.size 29 2 v' (n + 1) (vs ++ fv) → w.grownBy w' none → Owns kFile 29 w.heap.size (fun k => A k ∨ B k) w' v' (l ++ [f]) := by
      intro v' w' hrow hg
      refine ⟨fun k => (A k ∧ k < w.heap.size) ∨ (B k ∧ k < w.heap.size), fun k hk => hk.imp And.left And.left, ?_, ?_, vs ++ fv, by rw [List.length_append, hl.out]; exact hrow, ?_⟩
      · rintro k (hk | hk) <;> exact Nat.lt_of_lt_of_le hk.2 hg.size
      · intro k hk hF
        have := (hrow.lt k hk).1
        rcases hF with hF | hF <;> have := hF.2 <;> omega
      · exact Kd.reps_append (Kd.reps_wide (fun k hk => .inl hk) (Kd.reps_keep hg.size (fun k _ hk => hg.block k hk (by simp)) hr))
          (Kd.reps_wide (fun k hk => .inr hk) (Kd.reps_keep hg.size (fun k _ hk => hg.block k hk (by simp)) hfr))
    cases a with
    | none =>
      have h0 : n = 0 := by
        rcases Nat.eq_zero_or_pos n with h0 | h0
        · exact h0
        · obtain ⟨b, o, hh, _⟩ := hat h0; cases hh
      subst h0
      obtain rfl := List.eq_nil_of_length_eq_zero hl.out
      have hvs : vs = [] := hr
      subst hvs
      obtain ⟨v', w', hrun, hrow, hg, _⟩ := run_append_own_at (P := Tryd.prog) w w.heap.size 22 22 29 i0 _ 2 40 Tryd.underlying22 hi hz0 hz1 hz2 rfl (by decide) (.slice none 0 0) 0 [] (World.ownsRow_nil _ _ _ _)
        ⟨bv, 0, none⟩ 1 1 fv (by rw [Kd.reps_len hfr]; rfl) (fun j u hu => by rw [Addr.add_mid]; exact hfat j u hu) (Kd.reps_one hfr) (by simp [maxLen]) (by omega) (Nat.le_refl _)
      exact ⟨v', w', hrun, fin v' w' hrow hg, hg⟩
    | some ad =>
      obtain ⟨v', w', hrun, hrow, hg⟩ := run_append_arg_grows (P := Tryd.prog) w 22 22 29 i0 _ 2 40 Tryd.underlying22 hi hz0 hz1 hz2 rfl (by decide) ad n n vs (by rw [Kd.reps_len hr, hl.out]; rfl)
        (fun j u hu => hle j u hu ad rfl) ⟨bv, 0, none⟩ 1 1 fv (by rw [Kd.reps_len hfr]; rfl) (fun j u hu => by rw [Addr.add_mid]; exact hfat j u hu) (by omega) (by simp [maxLen]; omega) (by omega)
      exact ⟨v', w', hrun, fin v' w' hrow hg, hg⟩
  have hx : Ext w w' := (Ext.refl w).grown hg (Nat.le_refl _) (fun k hk => by cases hk)
  have hown' := Lib.hid hown
  clear hown h hv hi hz0 hz1 hz2
  have ee : ((n : Int) == (n : Int)) = true := by simp
  go_enter Tryd.func40, Tryd.ntmps40
  go_wp2_with (at_builtin; refine Lib.wpList_append_run _ rfl _ _ _ _ rfl _ _ rfl rfl v' w' hrun ?_)
  go_ret
  exact ⟨_, rfl, hown'.out, hx⟩

theorem firstCells_of {P : Program} {w : World} {ad : Addr} {n c sz : Nat} {vs : List Value} (hl : vs.length = n * sz) (h : ∀ j u, vs[j]? = some u → w.cell? (ad.add j) = some u) :
    (Builtin.firstCells sz n (.slice (some ad) n c)).run P w = .ok vs.toArray w := by
  have := run_loadCells_list (P := P) w ad vs h
  rw [hl] at this
  simpa [Builtin.firstCells] using this

set_option maxHeartbeats 1000000 in
set_option maxRecDepth 100000 in
/-- slices.Insert of one file in the slice's midst, no room being left. -/
theorem insert_mid (w : World) (A B : Nat → Prop) (a : Option Addr) (n i : Nat) (l : List File) (h : Holds kFile A w a n l) (hm : Fits n) (hin : i < n) (bv : Nat) (f : File) (hv : Holds kFile B w (some ⟨bv, 0, none⟩) 1 [f]) :
    Calls Tryd.prog 40 #[.slice a n n, .int .i64 i, .slice (some ⟨bv, 0, none⟩) 1 1] w fun e w' =>
      ∃ v, e = .returned v ∧ Owns kFile 29 w.heap.size (fun k => A k ∨ B k) w' v (l.take i ++ f :: l.drop i) ∧ Ext w w' := by
  have hnn : n ≤ 1099511627776 := hm.out
  obtain ⟨i0, hi, hz0, hz1, hz2⟩ := info_parts info_file
  have hl := Lib.hid h.1
  obtain ⟨_, _, fv, hfr, hfat⟩ := hv.real
  obtain ⟨bv', ov', he, hBv, hblt, hfat⟩ := hfat (by omega)
  cases he
  obtain ⟨_, _, vs, hr, hat⟩ := h.real
  obtain ⟨b, o, rfl, hA, hlt, hra⟩ := hat (by omega)
  have hvl : vs.length = n * 2 := by rw [Kd.reps_len hr, hl.out]; rfl
  have hfl : fv.length = 2 := by rw [Kd.reps_len hfr]; rfl
  have hcap := grownCap_ge w (n + 1) n 29
  have hcm := grownCap_le_maxLen w (n + 1) n 29 (by simp [maxLen]; omega)
  obtain ⟨cap, hcape⟩ : ∃ cap, grownCap w (n + 1) n 29 = cap := ⟨_, rfl⟩
  rw [hcape] at hcap hcm
  have hrun := Lib.run_append_grow_zeros (P := Tryd.prog) w 22 3 22 29 i0 _ .i64 .i64 Tryd.underlying22 Tryd.underlying3 hi hz0 (some ⟨b, o, none⟩) i n (vs.take (i * 2))
    (by rw [hz1]; exact firstCells_of (ad := ⟨b, o, none⟩) (by simp; omega) (fun j u hu => by rw [Addr.add_mid]; refine hra j u ?_; rw [List.getElem?_take] at hu; split at hu; exact hu; cases hu))
    (n + 1 - i) (by omega) (by rw [hz1]; omega) (by omega) (by omega) (by rw [hz2]; omega) (by rw [hz2]; exact growslice_fits (by omega) (by omega))
  rw [show i + (n + 1 - i) = n + 1 by omega, hcape] at hrun
  obtain ⟨g, hgw⟩ : ∃ g, w.heap.size = g := ⟨_, rfl⟩
  obtain ⟨W1, cur, hrun, hcur, hx1, hhead, hclen⟩ : ∃ (W1 : World) (cur : List Value), (Builtin.append_ #[22, 3] 22 #[.slice (some ⟨b, o, none⟩) i n, .int .i64 ((n + 1 - i : Nat) : Int)]).run Tryd.prog w = .ok (.slice (some ⟨g, 0, none⟩) (n + 1) cap) W1 ∧
      W1.heap[g]? = some (.cells cur.toArray 29 (0, 0)) ∧ Ext w W1 ∧ cur.take (i * 2) = vs.take (i * 2) ∧ cur.length = cap * 2 := by
    refine ⟨_, vs.take (i * 2) ++ (Builtin.zeroCells (Value.agg #[.string .empty, .slice none 0 0]).cells (n + 1 - i) ++ Builtin.zeroCells (Value.agg #[.string .empty, .slice none 0 0]).cells (cap - (n + 1))).toList, by rw [hrun, hgw], ?_, (Ext.drew w).trans (Ext.alloc _ _), ?_, ?_⟩
    · rw [← hgw]
      refine (heap_alloc_new w.drew _).trans ?_
      congr 2
      simp
    · rw [List.take_append, List.take_take]
      have : (vs.take (i * 2)).length = i * 2 := by simp; omega
      rw [this]; simp
    · simp [size_zeroCells, Value.cells]; omega
  have hg1 : g < W1.heap.size := (Array.getElem?_eq_some_iff.1 hcur).1
  -- the first copy: the new file's cells
  obtain ⟨W2, hcp1, hcur2, hg2⟩ : ∃ W2, (Builtin.copy_ #[22, 22] 3 #[.slice (some ⟨g, i * 2, none⟩) (n + 1 - i) (cap - i), .slice (some ⟨bv, 0, none⟩) 1 1]).run Tryd.prog W1 = .ok (goInt 1) W2 ∧
      W2.heap[g]? = some (.cells (splice cur (i * 2) fv).toArray 29 (0, 0)) ∧ W1.grownBy W2 (some g) := by
    have hr2 := run_copy_k (P := Tryd.prog) W1 22 22 3 29 2 g (i * 2) (n + 1 - i) (cap - i) ⟨bv, 0, none⟩ 1 1 fv Tryd.underlying22 size_file
      (by rw [hfl, show Nat.min 1 (n + 1 - i) = 1 from Nat.min_eq_left (by omega)]) (fun j u hu => by rw [Addr.add_mid, hx1.cell (p := ⟨bv, 0 + j, none⟩) hblt]; exact hfat j u hu)
      (fun j hj => by rw [cell_of_row _ _ _ _ _ _ hcur]; simp; omega) (fun j hj => frozen_of_row _ _ _ _ _ hcur) (Kd.reps_one hfr)
    rw [show Nat.min 1 (n + 1 - i) = 1 from Nat.min_eq_left (by omega)] at hr2
    exact ⟨_, hr2, heap_setCells_same g fv _ W1 cur _ _ hcur (by omega), ⟨os_setCells _ _ _ _, tape_setCells _ _ _ _, output_setCells _ _ _ _, Nat.le_of_eq (size_setCells _ _ _ _).symm, fun k _ hk => heap_setCells_other g fv _ W1 k (fun e => hk (by rw [e]))⟩⟩
  have hx2 : Ext w W2 := hx1.grown hg2 hx1.size (fun k hk => by have := Option.some.inj hk; omega)
  have hl2 : (splice cur (i * 2) fv).length = cap * 2 := by rw [length_splice _ _ _ (by omega)]; exact hclen
  -- the second one: what stood behind
  have hx2d : Ext w W2.drew := ext_drew hx2
  obtain ⟨W3, hcp2, hcur3, hg3⟩ : ∃ W3, (Builtin.copy_ #[22, 22] 3 #[.slice (some ⟨g, (i + 1) * 2, none⟩) (n - i) (cap - (i + 1)), .slice (some ⟨b, o + i * 2, none⟩) (n - i) (n - i)]).run Tryd.prog W2.drew = .ok (goInt ((n - i : Nat) : Int)) W3 ∧
      W3.heap[g]? = some (.cells (splice (splice cur (i * 2) fv) ((i + 1) * 2) (vs.drop (i * 2))).toArray 29 (0, 0)) ∧ W2.drew.grownBy W3 (some g) := by
    have hr3 := run_copy_k (P := Tryd.prog) W2.drew 22 22 3 29 2 g ((i + 1) * 2) (n - i) (cap - (i + 1)) ⟨b, o + i * 2, none⟩ (n - i) (n - i) (vs.drop (i * 2)) Tryd.underlying22 size_file
      (by rw [show (n - i).min (n - i) = n - i from Nat.min_self _]; simp; omega) (fun j u hu => by
        rw [Addr.add_mid, hx2d.cell (p := ⟨b, o + i * 2 + j, none⟩) hlt, Nat.add_assoc]
        exact hra (i * 2 + j) u (by rw [List.getElem?_drop] at hu; exact hu))
      (fun j hj => by simp at hj; rw [cell_of_row W2.drew _ _ _ _ _ hcur2]; simp; omega) (fun j hj => frozen_of_row W2.drew _ _ _ _ hcur2) (fun u hu => Kd.reps_one hr u (List.mem_of_mem_drop hu))
    rw [show (n - i).min (n - i) = n - i from Nat.min_self _] at hr3
    exact ⟨_, hr3, heap_setCells_same g _ _ W2.drew _ _ _ hcur2 (by simp; omega), ⟨os_setCells _ _ _ _, tape_setCells _ _ _ _, output_setCells _ _ _ _, Nat.le_of_eq (size_setCells _ _ _ _).symm, fun k _ hk => heap_setCells_other g _ _ W2.drew k (fun e => hk (by rw [e]))⟩⟩
  have hx3 : Ext w W3 := hx2d.grown hg3 hx2.size (fun k hk => by have := Option.some.inj hk; omega)
  have hfin : Hid (Owns kFile 29 w.heap.size (fun k => A k ∨ B k) W3 (.slice (some ⟨g, 0, none⟩) (n + 1) cap) (l.take i ++ f :: l.drop i)) := by
    have hll : (l.take i ++ f :: l.drop i).length = n + 1 := by simp; have := hl.out; omega
    refine Lib.hid ⟨fun k => (A k ∧ k < w.heap.size) ∨ (B k ∧ k < w.heap.size), fun k hk => hk.imp And.left And.left, ?_, ?_, vs.take (i * 2) ++ (fv ++ vs.drop (i * 2)), ⟨?_, .inr ⟨g, cap, _, by rw [hll], by omega, hcur3, by rw [hll]; exact hcap, hcm, ?_, ?_⟩⟩, ?_⟩
    · rintro k (hk | hk) <;> exact Nat.lt_of_lt_of_le hk.2 hx3.size
    · intro k hk hF
      have hkg : g = k := Option.some.inj hk
      rcases hF with hF | hF <;> have := hF.2 <;> omega
    · rw [hll]; simp [hfl, show kFile.sz = 2 from rfl]; omega
    · simp [length_splice _ _ _ (show (i + 1) * 2 + (vs.drop (i * 2)).length ≤ (splice cur (i * 2) fv).length by simp; omega), show kFile.sz = 2 from rfl, hl2]
    · rw [hll, show kFile.sz = 2 from rfl]
      have ht : (cur.take (i * 2)).length = i * 2 := by simp; omega
      have h1 : (splice cur (i * 2) fv).take ((i + 1) * 2) = vs.take (i * 2) ++ fv := by
        unfold splice
        rw [← hhead, ← List.append_assoc, List.take_append, List.take_of_length_le (by simp; omega), show (i + 1) * 2 - (cur.take (i * 2) ++ fv).length = 0 by simp; omega]
        simp
      have h2 : splice (splice cur (i * 2) fv) ((i + 1) * 2) (vs.drop (i * 2)) = (vs.take (i * 2) ++ fv) ++ (vs.drop (i * 2) ++ (splice cur (i * 2) fv).drop ((i + 1) * 2 + (vs.drop (i * 2)).length)) := by
        rw [show splice (splice cur (i * 2) fv) ((i + 1) * 2) (vs.drop (i * 2)) = (splice cur (i * 2) fv).take ((i + 1) * 2) ++ (vs.drop (i * 2) ++ (splice cur (i * 2) fv).drop ((i + 1) * 2 + (vs.drop (i * 2)).length)) from rfl, h1]
      simp only
      rw [h2, ← List.append_assoc (vs.take (i * 2) ++ fv), List.take_append, List.take_of_length_le (by simp; omega)]
      rw [show (n + 1) * 2 - (vs.take (i * 2) ++ fv ++ vs.drop (i * 2)).length = 0 by simp; omega]
      simp
    · refine Kd.reps_append (Kd.reps_wide (fun k hk => .inl hk) (Kd.reps_keep hx3.size (fun k _ hk => hx3.block k hk) (Kd.reps_take i hr))) ?_
      have := Kd.reps_append (Kd.reps_wide (A' := fun k => (A k ∧ k < w.heap.size) ∨ (B k ∧ k < w.heap.size)) (fun k hk => .inr hk) hfr) (Kd.reps_wide (fun k hk => .inl hk) (Kd.reps_drop i hr))
      exact Kd.reps_keep hx3.size (fun k _ hk => hx3.block k hk) this
  have d1 : ((i : Int) == (n : Int)) = false := by simp; omega
  have d2 : (n : Int) < (n : Int) + 1 := by omega
  have d3 : (n : Int) + 1 - (i : Int) = ((n + 1 - i : Nat) : Int) := by omega
  have d4 : i + 1 ≤ cap := by omega
  have d5 : ¬ cap = i := by omega
  have d6 : ¬ cap = i + 1 := by omega
  have d7 : ¬ n = i := by omega
  have d8 : i ≤ n := by omega
  have e1 : IntKind.i64.wrap ((i : Int) + 1) = (i : Int) + 1 := IntWalk.i64_in _ (by omega)
  have e2 : ((i : Int) + 1).toNat = i + 1 := by omega
  have e3 : (0 : Int) ≤ (i : Int) + 1 := by omega
  have e4 : (i : Int) + 1 ≤ (n : Int) + 1 := by omega
  have e5 : n + 1 - (i + 1) = n - i := by omega
  have e6 : (0 : Int) ≤ (i : Int) := by omega
  have e7 : (i : Int) ≤ (n : Int) := by omega
  clear hcur hcur2 hcur3 hhead hclen hl2 hi hz0 hz1 hz2 h hv hr hat hra hfr hfat hg2 hg3 hx1 hx2
  go_enter Tryd.func40, Tryd.ntmps40
  go_wp2_with (at_builtin; refine Lib.wpList_append_run _ rfl _ _ _ _ rfl _ _ rfl rfl _ W1 hrun ?_)
  go_still_tail 8, (by kernel_rfl)
  change wpList _ _ _ _ _ W2.drew
  go_wp2
  go_ret
  exact ⟨_, rfl, hfin.out, hx3⟩

/-- slices.Insert of one file, no room being left. -/
theorem insert1 (w : World) (A B : Nat → Prop) (a : Option Addr) (n i : Nat) (l : List File) (h : Holds kFile A w a n l) (hm : Fits n) (hin : i ≤ n) (bv : Nat) (f : File) (hv : Holds kFile B w (some ⟨bv, 0, none⟩) 1 [f]) :
    Calls Tryd.prog 40 #[.slice a n n, .int .i64 i, .slice (some ⟨bv, 0, none⟩) 1 1] w fun e w' =>
      ∃ v, e = .returned v ∧ Owns kFile 29 w.heap.size (fun k => A k ∨ B k) w' v (l.take i ++ f :: l.drop i) ∧ Ext w w' := by
  rcases Nat.lt_or_ge i n with hlt | hge
  · exact insert_mid w A B a n i l h hm hlt bv f hv
  · obtain rfl : i = n := by omega
    have := insert_end w A B a i l h hm bv f hv
    rwa [List.take_of_length_le (Nat.le_of_eq h.1), List.drop_eq_nil_of_le (Nat.le_of_eq h.1)]
end Go.Proofs.YtaenackibigojaaDoor

/- The walk of PlanLeads: it ends true for all maps and numbers; what was there is as it was. -/
import Derived.Test.YtaenackibigojaaDoorL1
import Derived.Test.YtaenackibigojaaDoorQ5
set_option linter.unusedVariables false
set_option linter.unusedSimpArgs false
namespace Go.Proofs.YtaenackibigojaaDoor
open Go.RowKit Go.BK
theorem rightM_parts {l : List File} (h : rightM l = true) : Srt l ∧ l.length ≤ 200 ∧ ∀ f ∈ l, right f.name = true ∧ f.data.length ≤ 65536 := by
  unfold rightM fineF at h
  simp only [Bool.and_eq_true, List.all_eq_true, decide_eq_true_eq] at h
  exact ⟨srt_of_sortedB h.2, by omega, h.1.1⟩
theorem mildS_diff {a b : List File} (ha : ∀ f ∈ a, f.name.length ≤ 300) (hb : ∀ f ∈ b, f.name.length ≤ 300) (hd : ∀ f ∈ b, f.data.length ≤ 70000) (hla : a.length ≤ 1000) (hlb : b.length ≤ 1000) :
    MildS (diffR a b) ∧ (diffR a b).length ≤ 2000 := by
  have hlen : (diffR a b).length ≤ 2000 := by
    unfold diffR goneR putsR
    have h1 := List.length_filter_le (fun f => (dataOf b f.name).isNone) a
    have h2 := List.length_filter_le (fun f => !(dataOf a f.name == dataOf b f.name)) b
    simp only [List.length_append, List.length_map]
    omega
  have key : ∀ o ∈ diffR a b, o.name.length ≤ 300 ∧ o.data.length ≤ 70000 := by
    intro o ho
    unfold diffR goneR putsR at ho
    rcases List.mem_append.1 ho with h | h
    · obtain ⟨f, hf, rfl⟩ := List.mem_map.1 h
      exact ⟨ha f (List.mem_filter.1 hf).1, by simp [delS]⟩
    · obtain ⟨f, hf, rfl⟩ := List.mem_map.1 h
      exact ⟨hb f (List.mem_filter.1 hf).1, hd f (List.mem_filter.1 hf).1⟩
  exact ⟨⟨Fits.of (2000 + 1099511627) (by omega) (by decide), fun o ho => Fits.of 300 (key o ho).1 (by decide), fun o ho => Fits.of 70000 (key o ho).2 (by decide)⟩, hlen⟩
theorem mildS_sub {l l' : List Stp} (h : MildS l) (hl : l'.length ≤ l.length) (hm : ∀ o ∈ l', o ∈ l) : MildS l' :=
  ⟨h.len.le (by omega), fun o ho => h.name o (hm o ho), fun o ho => h.data o (hm o ho)⟩
theorem Holds.of_take {α : Type} {K : Kd α} {A : Nat → Prop} {w : World} {a : Option Addr} {n : Nat} {xs : List α} (h : Holds K A w a n xs) (k : Nat) (hk : k ≤ n) : Holds K A w a k (xs.take k) := by
  obtain ⟨h1, h2, vs, h3, h4⟩ := h
  refine ⟨by simp; omega, by omega, vs.take (k * K.sz), Kd.reps_take k h3, fun hp => ?_⟩
  obtain ⟨b, o, ha, hA, hlt, hr⟩ := h4 (by omega)
  refine ⟨b, o, ha, hA, hlt, fun j v hv => hr j v ?_⟩
  rw [List.getElem?_take] at hv
  split at hv
  · exact hv
  · cases hv
/-- 'append(v, s...)', s any slice that is read, in a region that draws its order. -/
theorem step_append_holds {α : Type} {P : Program} {K : Kd α} {e : TypeId} {base : Nat} {F F2 : Nat → Prop} {w : World} {v : Value} {xs ys : List α} {ops : Array Oper} {o : Oper} {a : Act} {K' : Act → World → Prop} {Q : Exit → Act → World → Prop} {E : Prop} (hgd : o.guard = none) (s x : Operand) (t : TypeId)
    (ho : o.op = .call { callee := .builtin .append, args := #[s, x], argTypes := #[t, t] }) {bytes : Nat} (he : ElemOf P t e K.sz bytes) (hsz : 0 < K.sz) (hs : a.eval s = v) (hown : OwnsF K e base F w v xs)
    (ad : Option Addr) (m c : Nat) (hx : a.eval x = .slice ad m c) (hh : Holds K F2 w ad m ys) (hF2 : ∀ k, F2 k → k < w.heap.size → v.ownBlock ≠ some k)
    (h63 : xs.length + m ≤ maxLen) (hbytes : (xs.length + m) * bytes ≤ 140737488355328) (hbase : base ≤ w.heap.size)
    (h : ∀ v' w', OwnsF K e base (fun k => F k ∨ (F2 k ∧ k < w.heap.size)) w' v' (xs ++ ys) → w.grownBy w' v.ownBlock → (v'.ownBlock = v.ownBlock ∨ v'.ownBlock = some w.heap.size) →
      K' (a.put o.dst v') w') : if Region.wanted o (yielded ops a.tmps) = true then Oper.wp P o a w K' Q else E := by
  have hw : Region.wanted o (yielded ops a.tmps) = true := by simp [Region.wanted, hgd]
  rw [if_pos hw]
  obtain ⟨v', w', hrun, h2, h3, h4⟩ := run_append_holds (P := P) (ty := o.type) he hsz hown ad m c hh hF2 h63 hbytes hbase
  unfold Oper.wp execOp
  simp only [ho, resolve, invoke, builtin, Sem.run_bind, Sem.run_pure, Result.andThen_ok, List.map_toArray, List.map_cons, List.map_nil, hs, hx, hrun]
  exact h v' w' h2 h3 h4
theorem Holds.sliced {α : Type} {K : Kd α} {A : Nat → Prop} {w : World} {a : Option Addr} {n c : Nat} {xs : List α} (h : Holds K A w a n xs) (hnc : n ≤ c) (l k s : Nat) (hs : s = K.sz) (hl : l ≤ k) (hk : k ≤ n) :
    Holds K A w (if c = l then a else a.map (·.add (l * s))) (k - l) ((xs.take k).drop l) := by
  subst hs
  obtain ⟨h1, h2, vs, h3, h4⟩ := h
  refine ⟨by simp; omega, by omega, (vs.take (k * K.sz)).drop (l * K.sz), Kd.reps_drop l (Kd.reps_take k h3), fun hp => ?_⟩
  obtain ⟨b, o, ha, hA, hlt, hr⟩ := h4 (by omega)
  subst ha
  refine ⟨b, o + l * K.sz, by rw [if_neg (by omega)]; simp [Addr.add_mid], hA, hlt, fun j v hv => ?_⟩
  rw [List.getElem?_drop, List.getElem?_take] at hv
  split at hv
  · have := hr _ v hv
    rwa [← Nat.add_assoc] at this
  · cases hv
set_option maxHeartbeats 4000000 in
set_option maxRecDepth 100000 in
theorem law_leads (w : World) (A B : Nat → Prop) (a a2 : Option Addr) (n c n2 c2 : Nat) (z : Int) (la lb : List File) (h : Holds kFile A w a n la) (hnc : n ≤ c) (hcm : c ≤ maxLen) (h2 : Holds kFile B w a2 n2 lb) (hnc2 : n2 ≤ c2) (hcm2 : c2 ≤ maxLen)
    (hz1 : -9223372036854775808 ≤ z) (hz2 : z ≤ 9223372036854775807) (henv : Env w) :
    Calls Tryd.prog 4 #[.slice a n c, .slice a2 n2 c2, .int .i64 z] w fun e w' => e = .returned (.bool true) ∧ Ext w w' := by
  have hl := Lib.hid h.1
  have hl2 := Lib.hid h2.1
  have hwd := wide_ w A a n c la h
  have hwd2 := wide_ w B a2 n2 c2 lb h2
  have hlv := lives_
  go_enter Tryd.func4, Tryd.ntmps4
  go_wp2_with (fail)
  refine hwd.mono ?_
  rintro e w1 ⟨⟨b1, rfl, hb1⟩, rfl⟩
  clear hwd
  cases b1 with
  | true =>
    go_wp2_with (go_at_call 9; refine (hlv _).mono ?_; rintro e w2 ⟨rfl, hx2⟩)
    go_ret
    exact ⟨rfl, hx2⟩
  | false =>
    obtain ⟨hn250, hf250⟩ := hb1 rfl
    have hf250' := Lib.hid hf250
    clear hf250 hb1
    go_wp2_with (fail)
    refine hwd2.mono ?_
    rintro e w1 ⟨⟨b2, rfl, hb2⟩, rfl⟩
    clear hwd2
    cases b2 with
    | true =>
      go_wp2_with (go_at_call 9; refine (hlv _).mono ?_; rintro e w2 ⟨rfl, hx2⟩)
      go_ret
      exact ⟨rfl, hx2⟩
    | false =>
      obtain ⟨hn2, hf2⟩ := hb2 rfl
      have hf2' := Lib.hid hf2
      clear hf2 hb2
      have hr1 := ref_rightM w1 A a n c la h (fun f hf => Fits.of 300 (hf250'.out f hf).1 (by decide)) (fun f hf => Fits.of 70000 (hf250'.out f hf).2 (by decide))
      have hr2 := fun W (hW : Ext w1 W) => ref_rightM W B a2 n2 c2 lb (h2.ext hW) (fun f hf => Fits.of 300 (hf2'.out f hf).1 (by decide)) (fun f hf => Fits.of 70000 (hf2'.out f hf).2 (by decide))
      cases hra : rightM la with
      | false =>
        rw [hra] at hr1
        go_wp2_with (first | (go_at_call 16; refine hr1.mono ?_; rintro e w3 ⟨rfl, hx3⟩) | (go_at_call 9; refine (hlv _).mono ?_; rintro e w4 ⟨rfl, hx4⟩))
        go_ret
        exact ⟨rfl, hx3.trans hx4⟩
      | true =>
        rw [hra] at hr1
        obtain ⟨hsA, hlenA, hfA⟩ := rightM_parts hra
        have hsA' := Lib.hid hsA
        have hfA' := Lib.hid hfA
        clear hra hsA hfA
        cases hrb : rightM lb with
        | false =>
          rw [hrb] at hr2
          go_wp2_with (fail)
          refine hr1.mono ?_
          rintro e w3 ⟨rfl, hx3⟩
          go_wp2_with (fail)
          refine (hr2 _ hx3).mono ?_
          rintro e w4 ⟨rfl, hx4⟩
          go_wp2_with (go_at_call 9; refine (hlv _).mono ?_; rintro e w5 ⟨rfl, hx5⟩)
          go_ret
          exact ⟨rfl, hx3.trans (hx4.trans hx5)⟩
        | true =>
          rw [hrb] at hr2
          obtain ⟨hsB, hlenB, hfB⟩ := rightM_parts hrb
          have hmA : Mild la := ⟨Fits.of 250 (by rw [hl.out]; exact hn250) (by decide), fun f hf => Fits.of 70000 (hf250'.out f hf).2 (by decide)⟩
          have hmB : Mild lb := ⟨Fits.of 250 (by rw [hl2.out]; exact hn2) (by decide), fun f hf => Fits.of 70000 (hf2'.out f hf).2 (by decide)⟩
          have hsB' := Lib.hid hsB
          have hdf := fun W (hW : Ext w1 W) => by
            have := diff_ W (fun k => A k ∨ B k) a n c la a2 n2 c2 lb ((h.ext hW).wide (fun _ h => .inl h)) hmA hsA'.out hnc hcm ((h2.ext hW).wide (fun _ h => .inr h)) hmB hsB'.out hnc2 hcm2 (by omega) (by omega)
            rw [diffS_eq hsA'.out hsB'.out] at this
            exact this
          have hdaa := fun W (hW : Ext w1 W) => by
            have := diff_ W A a n c la a n c la (h.ext hW) hmA hsA'.out hnc hcm (h.ext hW) hmA hsA'.out hnc hcm (by omega) (by omega)
            rw [diffS_eq hsA'.out hsA'.out, diffR_self hsA'.out] at this
            exact this
          have hba : diffS lb la = diffR lb la := diffS_eq hsB'.out hsA'.out
          have hD1 := Lib.hid (apply_diffR hsA'.out hsB'.out hlenB hfB)
          have hE1 := Lib.hid (apply_diffR hsB'.out hsA'.out hlenA hfA'.out)
          have hD2 := Lib.hid (mildS_diff (fun f hf => (hf250'.out f hf).1) (fun f hf => (hf2'.out f hf).1) (fun f hf => (hf2'.out f hf).2) (show la.length ≤ 1000 by omega) (show lb.length ≤ 1000 by omega))
          have hE2 := Lib.hid (mildS_diff (fun f hf => (hf2'.out f hf).1) (fun f hf => (hf250'.out f hf).1) (fun f hf => (hf250'.out f hf).2) (show lb.length ≤ 1000 by omega) (show la.length ≤ 1000 by omega))
          have hfew := Lib.hid (fun (k : Nat) (hk : k < (diffR la lb).length) (z : List File) (hz : applyE la ((diffR la lb).take k ++ (diffR la lb).drop (k + 1)) = .ok z) => apply_few hsA'.out hsB'.out hk hz)
          have hba' := Lib.hid hba
          clear hba hsB hfB hrb
          generalize diffR la lb = D at *
          generalize diffR lb la = E at *
          go_wp2_with (fail)
          refine hr1.mono ?_
          rintro e w3 ⟨rfl, hx3⟩
          clear hr1
          go_wp2_with (fail)
          refine (hr2 _ hx3).mono ?_
          rintro e w4 ⟨rfl, hx4⟩
          clear hr2
          have hx14 := hx3.trans hx4
          go_wp2_with (fail)
          refine (hdf _ hx14).mono ?_
          rintro e w5 ⟨v5, rfl, hov5, hx5⟩
          clear hdf
          obtain ⟨a5, c5, rfl, hc5, hcm5, hh5⟩ := hov5.holds
          have hx15 := hx14.trans hx5
          clear hx3 hx4 hx5 hx14 hov5
          have hap := fun W (hW : Ext w5 W) => by
            have := apply_ W A _ a a5 n c D.length c5 la D (h.ext (hx15.trans hW)) (hh5.ext hW) hmA (by omega) hsA'.out hD2.out.1 (henv.ext (hx15.trans hW))
            rw [hD1.out] at this
            exact this
          have hbk := fun W (hW : Ext w5 W) => by
            have := back_ W A _ a a5 n c D.length c5 la D (h.ext (hx15.trans hW)) hnc hcm (hh5.ext hW) hmA (by omega) (by have := hD2.out.2; omega) hsA'.out hD2.out.1 (henv.ext (hx15.trans hW))
            rw [hD1.out] at this
            exact this
          go_wp2_with (fail)
          refine (hap _ (Ext.refl _)).mono ?_
          rintro e w6 ⟨hp6, hx6⟩
          clear hap
          rcases hp6 with ⟨v6, L6, hL6, rfl, hov6⟩ | ⟨x6, hx6', _⟩
          · injection hL6 with hL6
            subst hL6
            obtain ⟨a6, c6, rfl, hc6, hcm6, hh6⟩ := hov6.holds
            clear hov6
            go_wp2_with (fail)
            refine (hbk _ hx6).mono ?_
            rintro e w7 ⟨hp7, hx7⟩
            clear hbk
            rcases hp7 with ⟨v7, L7, hL7, rfl, hov7⟩ | ⟨x7, hx7', _⟩
            · injection hL7 with hL7
              subst hL7
              obtain ⟨a7, c7, rfl, hc7, hcm7, hh7⟩ := hov7.holds
              rw [hba'.out] at hh7 hc7
              rw [hba'.out]
              clear hov7
              have hx57 := hx6.trans hx7
              have hap2 := by
                have := apply_ w7 B _ a2 a7 n2 c2 E.length c7 lb E (h2.ext (hx15.trans hx57)) hh7 hmB (by omega) hsB'.out hE2.out.1 (henv.ext (hx15.trans hx57))
                rw [hE1.out] at this
                exact this
              go_wp2_with (fail)
              refine hap2.mono ?_
              rintro e w8 ⟨hp8, hx8⟩
              clear hap2
              rcases hp8 with ⟨v8, L8, hL8, rfl, hov8⟩ | ⟨x8, hx8', _⟩
              · injection hL8 with hL8
                subst hL8
                obtain ⟨a8, c8, rfl, hc8, hcm8, hh8⟩ := hov8.holds
                clear hov8
                have hx58 := hx57.trans hx8
                have hx18 := hx15.trans hx58
                have hs1 := ref_same w8 _ _ a6 a2 lb.length c6 n2 c2 lb lb (hh6.ext (hx7.trans hx8)) (h2.ext hx18)
                have hs2 := fun W (hW : Ext w8 W) => ref_same W _ _ a8 a la.length c8 n c la la (hh8.ext hW) (h.ext (hx18.trans hW))
                have e1 : decide (lb = lb) = true := by simp
                have e2 : decide (la = la) = true := by simp
                rw [e1] at hs1
                rw [e2] at hs2
                clear e1 e2
                go_wp2_with (fail)
                refine hs1.mono ?_
                rintro e w9 ⟨rfl, hx9⟩
                clear hs1
                go_wp2_with (fail)
                refine (hs2 _ hx9).mono ?_
                rintro e w10 ⟨rfl, hx10⟩
                clear hs2
                have hx810 := hx9.trans hx10
                go_wp2_with (fail)
                refine (hdaa _ (hx18.trans hx810)).mono ?_
                rintro e w11 ⟨v11, rfl, hov11, hx11⟩
                clear hdaa
                obtain ⟨a11, c11, rfl, _⟩ := hov11.form
                have hx811 := hx810.trans hx11
                clear hov11 hx9 hx10 hx11 hx810 hh6 hh7 hh8 hc6 hc7 hc8 hcm6 hcm7 hcm8
                have hx111 := hx18.trans hx811
                have hx511 := hx58.trans hx811
                by_cases hin : 0 ≤ z ∧ z < (D.length : Int)
                · obtain ⟨k, rfl⟩ : ∃ k : Nat, z = k := ⟨z.toNat, by omega⟩
                  have hk : k < D.length := by omega
                  have ik : (0 : Int) ≤ (k : Int) := by omega
                  have ik1 : (k : Int) ≤ (c5 : Int) := by omega
                  have ik2 : (0 : Int) ≤ (k : Int) + 1 := by omega
                  have ik3 : (k : Int) + 1 ≤ (D.length : Int) := by omega
                  have hDl := hD2.out.2
                  have iw : IntKind.i64.wrap ((k : Int) + 1) = (k : Int) + 1 := IntWalk.i64_in _ (by omega)
                  go_wp2_with (fail)
                  refine wp_region_held_drew (S := fun _ => True) (by kernel_rfl) trivial (fun hHeld => ?_)
                  (refine wpAnyH_take (i := 1) (oi := _) (v := ?_) rfl (by kernel_rfl) (by kernel_rfl) (by kernel_rfl) (fun _ _ _ h => h) (Or.inl ⟨by kernel_rfl, ?_⟩) (by assumption) ?_; rotate_left; (focus (intro w hSw; (try dsimp only at hSw); go_simp; (first | done | with_reducible rfl))); (try simp only [Act.put, List.getElem_toArray, List.getElem_cons_succ, List.getElem_cons_zero, List.setIfInBounds_toArray, List.set_cons_zero, List.set_cons_succ]))
                  (refine wpAnyH_take (i := 2) (oi := _) (v := ?_) rfl (by kernel_rfl) (by kernel_rfl) (by kernel_rfl) (fun _ _ _ h => h) (Or.inl ⟨by kernel_rfl, ?_⟩) (by assumption) ?_; rotate_left; (focus (intro w hSw; (try dsimp only at hSw); go_simp; (first | done | with_reducible rfl))); (try simp only [Act.put, List.getElem_toArray, List.getElem_cons_succ, List.getElem_cons_zero, List.setIfInBounds_toArray, List.set_cons_zero, List.set_cons_succ]))
                  (refine wpAnyH_take (i := 3) (oi := _) (v := ?_) rfl (by kernel_rfl) (by kernel_rfl) (by kernel_rfl) (fun _ _ _ h => h) (Or.inl ⟨by kernel_rfl, ?_⟩) (by assumption) ?_; rotate_left; (focus (intro w hSw; (try dsimp only at hSw); go_simp; (first | done | with_reducible rfl))); (try simp only [Act.put, List.getElem_toArray, List.getElem_cons_succ, List.getElem_cons_zero, List.setIfInBounds_toArray, List.set_cons_zero, List.set_cons_succ]))
                  (refine wpAnyH_take (i := 5) (oi := _) (v := ?_) rfl (by kernel_rfl) (by kernel_rfl) (by kernel_rfl) (fun _ _ _ h => h) (Or.inl ⟨by kernel_rfl, ?_⟩) (by assumption) ?_; rotate_left; (focus (intro w hSw; (try dsimp only at hSw); go_simp; (first | done | with_reducible rfl))); (try simp only [Act.put, List.getElem_toArray, List.getElem_cons_succ, List.getElem_cons_zero, List.setIfInBounds_toArray, List.set_cons_zero, List.set_cons_succ]))
                  (refine wpAnyH_take (i := 6) (oi := _) (v := ?_) rfl (by kernel_rfl) (by kernel_rfl) (by kernel_rfl) (fun _ _ _ h => h) (Or.inl ⟨by kernel_rfl, ?_⟩) (by assumption) ?_; rotate_left; (focus (intro w hSw; (try dsimp only at hSw); go_simp; (first | done | with_reducible rfl))); (try simp only [Act.put, List.getElem_toArray, List.getElem_cons_succ, List.getElem_cons_zero, List.setIfInBounds_toArray, List.set_cons_zero, List.set_cons_succ]))
                  (refine wpAnyH_take (i := 7) (oi := _) (v := ?_) rfl (by kernel_rfl) (by kernel_rfl) (by kernel_rfl) (fun _ _ _ h => h) (Or.inl ⟨by kernel_rfl, ?_⟩) (by assumption) ?_; rotate_left; (focus (intro w hSw; (try dsimp only at hSw); go_simp; (first | done | with_reducible rfl))); (try simp only [Act.put, List.getElem_toArray, List.getElem_cons_succ, List.getElem_cons_zero, List.setIfInBounds_toArray, List.set_cons_zero, List.set_cons_succ]))
                  (refine wpAnyH_take (i := 8) (oi := _) (v := ?_) rfl (by kernel_rfl) (by kernel_rfl) (by kernel_rfl) (fun _ _ _ h => h) (Or.inl ⟨by kernel_rfl, ?_⟩) (by assumption) ?_; rotate_left; (focus (intro w hSw; (try dsimp only at hSw); go_simp; (first | done | with_reducible rfl))); (try simp only [Act.put, List.getElem_toArray, List.getElem_cons_succ, List.getElem_cons_zero, List.setIfInBounds_toArray, List.set_cons_zero, List.set_cons_succ]))
                  refine wpAnyH_ready (rs := [0]) (by kernel_rfl) (by simp) (AllReadyH.cons (o := _) rfl (fun K hK => ?_) AllReadyH.nil)
                  go_simp
                  (refine hK.out _ _ (trivial) (fun hHeld => ?_); clear hK K)
                  clear ik ik1 ik2 ik3 iw
                  have hxz := hx511.size
                  have hx12 : Ext w11 ((w11.alloc (.cells #[] 49)).drew) := Below.drew (Ext.alloc _ _)
                  have hxz12 := hx12.size
                  have hown0 : OwnsF kOp 49 w11.heap.size (fun _ => False) ((w11.alloc (.cells #[] 49)).drew) (.slice (some ⟨w11.heap.size, 0, none⟩) 0 0) [] :=
                    (OwnsF.lit (xs := []) (vs := []) w11 kOp _ _ _ rfl (fun _ h => h.elim) (Nat.le_refl _) (by decide)).ext (Ext.drew _)
                  have hh5r := hh5.real
                  have hh12 := Holds.of_take (hh5r.ext (hx511.trans hx12)) k (by omega)
                  have hh13 := fun W (hW : Ext w5 W) => Holds.sliced (hh5r.ext hW) hc5 (k + 1) D.length 7 rfl (by omega) (Nat.le_refl _)
                  refine wpAnyH_ready (rs := [4]) (by kernel_rfl) (by simp) (AllReadyH.cons (o := _) rfl (fun K hK => ?_) AllReadyH.nil)
                  refine step_append_holds (v := .slice (some ⟨w11.heap.size, 0, none⟩) 0 0) rfl _ _ _ rfl el_ops (by decide) rfl hown0 _ _ _ rfl hh12 ?_ ?_ ?_ ?_ ?_
                  · intro j hj _ he
                    have h1 := hj.2
                    have h2 : w11.heap.size = j := Option.some.inj he
                    omega
                  · simp [maxLen]; omega
                  · simp; omega
                  · exact hxz12
                  intro v13 w13 hown13 hgr13 hat13
                  have hx13 : Ext w11 w13 := Below.grown hx12 hgr13 hxz12 (fun j hj => by
                    have h2 : w11.heap.size = j := Option.some.inj hj
                    omega)
                  have hb13 : ∀ j, v13.ownBlock = some j → w11.heap.size ≤ j := fun j hj => (hown13.block j hj).1
                  (refine hK.out _ _ (trivial) (fun hHeld => ?_); clear hK K)
                  refine wpAnyH_ready (rs := [9]) (by kernel_rfl) (by simp) (AllReadyH.cons (o := _) rfl (fun K hK => ?_) AllReadyH.nil)
                  refine step_append_holds (v := v13) rfl _ _ _ rfl el_ops (by decide) rfl hown13 _ _ _ rfl (hh13 w13 (hx511.trans hx13)) ?_ ?_ ?_ ?_ ?_
                  · intro j hj _ he
                    have h1 := hj.2
                    have h2 := hb13 j he
                    omega
                  · simp [maxLen]; omega
                  · simp; omega
                  · exact hx13.size
                  intro v14 w14 hown14 hgr14 hat14
                  have hx14 : Ext w11 w14 := Below.grown hx13 hgr14 hx13.size hb13
                  (refine hK.out _ _ (trivial) (fun hHeld => ?_); clear hK K)
                  (refine wpAnyH_take (i := 10) (oi := _) (v := ?_) rfl (by kernel_rfl) (by kernel_rfl) (by kernel_rfl) (fun _ _ _ h => h) (Or.inl ⟨by kernel_rfl, ?_⟩) (by assumption) ?_; rotate_left; (focus (intro w hSw; (try dsimp only at hSw); go_simp; (first | done | with_reducible rfl))); (try simp only [Act.put, List.getElem_toArray, List.getElem_cons_succ, List.getElem_cons_zero, List.setIfInBounds_toArray, List.set_cons_zero, List.set_cons_succ]))
                  refine wpAnyH_done (by kernel_rfl) ?_ _
                  generalize (if c5 = k + 1 then a5 else Option.map (fun x => x.add ((k + 1) * 7)) a5) = aq at *
                  clear hown0 hown13 hgr13 hgr14 hat13 hat14 hb13 hh12 hh13 hh5r hh5 hx13 hx12 hxz12
                  rw [List.nil_append, List.take_of_length_le (Nat.le_refl _)] at hown14
                  obtain ⟨a14, c14, rfl, hc14, hcm14, hh14⟩ := hown14.holds
                  have hx114 := hx111.trans hx14
                  have hlf : (D.take k ++ D.drop (k + 1)).length ≤ D.length := by simp; omega
                  have hap := apply_ w14 A _ a a14 n c _ c14 la _ (h.ext hx114) hh14 hmA (by omega) hsA'.out (mildS_sub hD2.out.1 hlf (fun o ho => by
                    rcases List.mem_append.1 ho with ho | ho
                    · exact List.mem_of_mem_take ho
                    · exact List.mem_of_mem_drop ho)) (henv.ext hx114)
                  have hfe := Lib.hid (hfew.out k hk)
                  have hee := Lib.hid (fun x (hx : applyE la (D.take k ++ D.drop (k + 1)) = .error x) => applyE_err hx)
                  clear hown14 hh14 hlf hfew hD1 hD2 hE1 hE2
                  generalize applyE la (D.take k ++ D.drop (k + 1)) = r at *
                  generalize (D.take k ++ D.drop (k + 1)).length = len at *
                  go_wp2_with (fail)
                  refine hap.mono ?_
                  rintro e w15 ⟨hp15, hx15'⟩
                  clear hap
                  have hx115 := hx114.trans hx15'
                  rcases hp15 with ⟨v15, L, rfl, rfl, hov15⟩ | ⟨x, rfl, rfl⟩
                  · obtain ⟨a15, c15, rfl, hc15, hcm15, hh15⟩ := hov15.holds
                    have hs := ref_same w15 _ _ a15 a2 L.length c15 n2 c2 L lb hh15 (h2.ext hx115)
                    have hd : decide (L = lb) = false := by simpa using hfe.out L rfl
                    rw [hd] at hs
                    clear hd hfe hee hov15 hh15
                    go_wp2_with (fail)
                    refine hs.mono ?_
                    rintro e w16 ⟨rfl, hx16⟩
                    clear hs
                    go_wp2_with (go_at_call 9; refine (hlv _).mono ?_; rintro e w12 ⟨rfl, hx12⟩)
                    go_ret
                    exact ⟨rfl, hx115.trans (hx16.trans hx12)⟩
                  · have hz : (x != 0) = true := by simpa using hee.out x rfl
                    clear hee hfe
                    go_wp2_with (go_at_call 9; refine (hlv _).mono ?_; rintro e w12 ⟨rfl, hx12⟩)
                    go_ret
                    exact ⟨rfl, hx115.trans hx12⟩
                · have hout : z < 0 ∨ (D.length : Int) ≤ z := by omega
                  clear hin
                  rcases hout with hout | hout
                  all_goals
                    go_wp2_with (go_at_call 9; refine (hlv _).mono ?_; rintro e w12 ⟨rfl, hx12⟩)
                    go_ret
                    exact ⟨rfl, hx111.trans hx12⟩
              · cases hx8'
            · cases hx7'
          · cases hx6'
end Go.Proofs.YtaenackibigojaaDoor

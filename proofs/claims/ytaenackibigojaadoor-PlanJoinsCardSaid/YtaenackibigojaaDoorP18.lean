/- Part of the proofs: merge_: what plan.Merge puts together, and what clashes. -/
import Derived.Test.YtaenackibigojaaDoorP17
set_option linter.unusedVariables false
set_option linter.unusedSimpArgs false
namespace Go.BK
open Go.RowKit
theorem mergeL_len (a b c : List File) : ∀ ns : List Str, (mergeL a b c ns).length ≤ ns.length
  | [] => Nat.le_refl _
  | n :: ns => by
    have ih := mergeL_len a b c ns
    show (fileOf n (chosen a b c n).1 ++ mergeL a b c ns).length ≤ _
    rw [List.length_append, List.length_cons]
    have : (fileOf n (chosen a b c n).1).length ≤ 1 := by cases (chosen a b c n).1 <;> simp [fileOf]
    omega
theorem mergeC_len (a b c : List File) (ns : List Str) : (mergeC a b c ns).length ≤ ns.length := List.length_filter_le _ _
theorem mergeL_snoc (a b c : List File) (ns : List Str) (k : Nat) (s : Str) (h : ns[k]? = some s) : mergeL a b c (ns.take (k + 1)) = mergeL a b c (ns.take k) ++ fileOf s (chosen a b c s).1 := by
  unfold mergeL
  rw [List.take_add_one, h, List.flatMap_append]
  simp
theorem mergeC_snoc (a b c : List File) (ns : List Str) (k : Nat) (s : Str) (h : ns[k]? = some s) : mergeC a b c (ns.take (k + 1)) = mergeC a b c (ns.take k) ++ (if (chosen a b c s).2 then [] else [s]) := by
  unfold mergeC
  rw [List.take_add_one, h, List.filter_append]
  cases hq : (chosen a b c s).2 <;> simp [hq]
theorem dataOf_le {l : List File} (hm : Mild l) (s : Str) : ((dataOf l s).getD []).length ≤ 1099511627776 := by
  cases hd : dataOf l s with
  | none => simp
  | some d =>
    obtain ⟨f, hf, rfl⟩ : ∃ f, f ∈ l ∧ f.data = d := by
      unfold dataOf at hd
      obtain ⟨f, hf, hfd⟩ := Option.map_eq_some_iff.1 hd
      exact ⟨f, List.mem_of_find?_eq_some hf, hfd⟩
    exact (hm.data f hf).out
theorem chosen_mem {a b c : List File} {s : Str} {d : List UInt8} (h : (chosen a b c s).1 = some d) : dataOf a s = some d ∨ dataOf b s = some d ∨ dataOf c s = some d := by
  unfold chosen chooseV at h
  split at h
  · exact .inr (.inl h)
  · split at h
    · exact .inr (.inr h)
    · exact .inl h
theorem chosen_le {a b c : List File} (ha : Mild a) (hb : Mild b) (hc : Mild c) {s : Str} {d : List UInt8} (h : (chosen a b c s).1 = some d) : d.length ≤ 1099511627776 := by
  rcases chosen_mem h with h | h | h
  · have := dataOf_le ha s; rw [h] at this; exact this
  · have := dataOf_le hb s; rw [h] at this; exact this
  · have := dataOf_le hc s; rw [h] at this; exact this
end Go.BK
namespace Go.Proofs.YtaenackibigojaaDoor
open Go.RowKit Go.BK
set_option maxHeartbeats 4000000 in
set_option maxRecDepth 100000 in
theorem merge_ (w : World) (A : Nat → Prop) (a1 a2 a3 : Option Addr) (n1 c1 n2 c2 n3 c3 : Nat) (l1 l2 l3 : List File)
    (h1 : Holds kFile A w a1 n1 l1) (m1 : Mild l1) (s1 : Srt l1) (k1 : n1 ≤ c1) (j1 : c1 ≤ maxLen) (h2 : Holds kFile A w a2 n2 l2) (m2 : Mild l2) (s2 : Srt l2) (k2 : n2 ≤ c2) (j2 : c2 ≤ maxLen)
    (h3 : Holds kFile A w a3 n3 l3) (m3 : Mild l3) (s3 : Srt l3) (k3 : n3 ≤ c3) (j3 : c3 ≤ maxLen) (hlen : l1.length + l2.length + l3.length ≤ 1073741824) :
    Calls Tryd.prog 18 #[.slice a1 n1 c1, .slice a2 n2 c2, .slice a3 n3 c3] w fun e w' => ∃ v u, e = .returned (.tuple #[v, u]) ∧ Owns kFile 29 w.heap.size (fun k => w.heap.size ≤ k) w' v (mergeL l1 l2 l3 (namesS [l1, l2, l3])) ∧
      Owns kStr 9 w.heap.size (fun k => w.heap.size ≤ k) w' u (mergeC l1 l2 l3 (namesS [l1, l2, l3])) ∧ Ext w w' := by
  have hal : (allN [l1, l2, l3]).length = l1.length + (l2.length + l3.length) := by simp [allN]
  have hnl := namesS_len [l1, l2, l3]
  rw [hal] at hnl
  have hnm := fun (W : World) (A' : Nat → Prop) (a : Option Addr) (h : Holds (kSlice kFile) A' W a 3 [l1, l2, l3]) => names_ W A' a 3 3 [l1, l2, l3] h (Fits.of _ (Nat.le_refl _) (by rw [hal]; omega))
  have hmm : (namesS [l1, l2, l3]).length ≤ 1073741824 := by omega
  clear hal hnl
  generalize namesS [l1, l2, l3] = ns at *
  go_enter Tryd.func18, Tryd.ntmps18
  go_wp2_with (fail)
  have hx01 : Ext w (w.alloc (.cells #[.slice a1 n1 c1, .slice a2 n2 c2, .slice a3 n3 c3] 22)) := Ext.alloc _ _
  have hmaps : Holds (kSlice kFile) (fun k => A k ∨ w.heap.size ≤ k) (w.alloc (.cells #[.slice a1 n1 c1, .slice a2 n2 c2, .slice a3 n3 c3] 22)) (some ⟨w.heap.size, 0, none⟩) 3 [l1, l2, l3] := by
    refine ⟨rfl, by decide, [.slice a1 n1 c1, .slice a2 n2 c2, .slice a3 n3 c3], ⟨[.slice a1 n1 c1], [.slice a2 n2 c2, .slice a3 n3 c3], rfl, ⟨a1, n1, c1, rfl, k1, j1, (h1.ext hx01).wide (fun _ h => .inl h)⟩, [.slice a2 n2 c2], [.slice a3 n3 c3], rfl, ⟨a2, n2, c2, rfl, k2, j2, (h2.ext hx01).wide (fun _ h => .inl h)⟩,
      [.slice a3 n3 c3], [], rfl, ⟨a3, n3, c3, rfl, k3, j3, (h3.ext hx01).wide (fun _ h => .inl h)⟩, rfl⟩, fun _ => ⟨_, _, rfl, .inr (by omega), by simp, ?_⟩⟩
    exact rangeAt_new' w [.slice a1 n1 c1, .slice a2 n2 c2, .slice a3 n3 c3] _ rfl
  refine (hnm _ _ _ hmaps).mono ?_
  rintro e w1 ⟨v1, rfl, hov1, hx1⟩
  clear hnm
  have hx1' : Ext w w1 := hx01.trans hx1
  obtain ⟨aN, cN, rfl, hcN, hcmN, hhN⟩ := hov1.holds
  clear hov1 hmaps
  obtain ⟨m, hm⟩ : ∃ m, m = ns.length := ⟨_, rfl⟩
  rw [← hm] at hhN hmm
  have hm' := Lib.hid hm
  rw [← hm]
  clear hm
  have hof1 : ∀ W s, Ext w1 W → Calls Tryd.prog 33 #[.slice a1 n1 c1, .string (mkS s)] W fun e w' => e = .returned (.agg #[.bool (valB (dataOf l1 s)).1, .string (mkS (valB (dataOf l1 s)).2)]) ∧ Ext W w' := fun W s hW => by
    have := of_ W A a1 n1 c1 l1 s (h1.ext (hx1'.trans hW)) m1 s1
    rw [has_dataOf] at this
    exact this
  have hof2 : ∀ W s, Ext w1 W → Calls Tryd.prog 33 #[.slice a2 n2 c2, .string (mkS s)] W fun e w' => e = .returned (.agg #[.bool (valB (dataOf l2 s)).1, .string (mkS (valB (dataOf l2 s)).2)]) ∧ Ext W w' := fun W s hW => by
    have := of_ W A a2 n2 c2 l2 s (h2.ext (hx1'.trans hW)) m2 s2
    rw [has_dataOf] at this
    exact this
  have hof3 : ∀ W s, Ext w1 W → Calls Tryd.prog 33 #[.slice a3 n3 c3, .string (mkS s)] W fun e w' => e = .returned (.agg #[.bool (valB (dataOf l3 s)).1, .string (mkS (valB (dataOf l3 s)).2)]) ∧ Ext W w' := fun W s hW => by
    have := of_ W A a3 n3 c3 l3 s (h3.ext (hx1'.trans hW)) m3 s3
    rw [has_dataOf] at this
    exact this
  have hch : ∀ W s, Calls Tryd.prog 35 #[.agg #[.bool (valB (dataOf l1 s)).1, .string (mkS (valB (dataOf l1 s)).2)], .agg #[.bool (valB (dataOf l2 s)).1, .string (mkS (valB (dataOf l2 s)).2)], .agg #[.bool (valB (dataOf l3 s)).1, .string (mkS (valB (dataOf l3 s)).2)]] W fun e w' =>
      e = .returned (.tuple #[.agg #[.bool (chosen l1 l2 l3 s).1.isSome, .string (mkS ((chosen l1 l2 l3 s).1.getD []))], .bool (chosen l1 l2 l3 s).2]) ∧ Ext W w' := fun W s => by
    have := choose_ W (valB (dataOf l1 s)) (valB (dataOf l2 s)) (valB (dataOf l3 s))
    rw [chooseB_val] at this
    exact this
  have hofa := Lib.hid hof1
  have hofb := Lib.hid hof2
  have hofc := Lib.hid hof3
  have hch' := Lib.hid hch
  have hle := Lib.hid (fun s d (h : (chosen l1 l2 l3 s).1 = some d) => chosen_le m1 m2 m3 h)
  have hll := Lib.hid (mergeL_len l1 l2 l3)
  have hcl := Lib.hid (mergeC_len l1 l2 l3)
  have kc := fun (W : World) (d : Str) => Lib.run_convert_string_bytes (P := Tryd.prog) W 9 27 5 (mkS d) Tryd.underlying9 Tryd.underlying27 Tryd.underlying5
  clear hof1 hof2 hof3 hch h1 h2 h3 m1 m2 m3 s1 s2 s3 hlen hx01 hx1
  go_wp2
  go_loopw [6, 7, 18] (fun out cl i wr => ∃ k F, k ≤ m ∧ i = .int .i64 (k : Nat) ∧ OwnsF kFile 29 w1.heap.size F wr out (mergeL l1 l2 l3 (ns.take k)) ∧ (∀ j, F j → w1.heap.size ≤ j) ∧ OwnsF kStr 9 w1.heap.size (fun _ => False) wr cl (mergeC l1 l2 l3 (ns.take k)) ∧
      Hid (∀ j, cl.ownBlock = some j → out.ownBlock ≠ some j ∧ ¬ F j) ∧ Ext w1 wr) (fun _ _ i _ => m - (intOf i).toNat)
  case atStart => exact ⟨0, _, Nat.zero_le _, rfl, OwnsF.nil _ _ _ _, fun _ h => h.elim, OwnsF.nil _ _ _ _, Lib.hid (fun j hj => by cases hj), Ext.refl _⟩
  case round =>
    obtain ⟨k, F, hk, rfl, hown, hF, hcw, hdis, hx⟩ := hrel
    by_cases hlt : k < m
    · obtain ⟨s, hsk⟩ : ∃ s, ns[k]? = some s := ⟨_, List.getElem?_eq_getElem (by rw [← hm'.out]; exact hlt)⟩
      obtain ⟨b, o, rfl, _, hb, hcs, hsl⟩ := strs_at hhN k s hsk
      have e0 := hcs _ hx
      have hq1 := Lib.hid (mergeL_snoc l1 l2 l3 ns k s hsk)
      have hq2 := Lib.hid (mergeC_snoc l1 l2 l3 ns k s hsk)
      have ho1 := hofa.out _ s hx
      clear hcs hsk
      go_wp2_with (fail)
      refine ho1.mono ?_
      rintro e w2 ⟨rfl, hx2⟩
      have ho2 := hofb.out _ s (hx.trans hx2)
      go_wp2_with (fail)
      refine ho2.mono ?_
      rintro e w3 ⟨rfl, hx3⟩
      have ho3 := hofc.out _ s (hx.trans (hx2.trans hx3))
      go_wp2_with (fail)
      refine ho3.mono ?_
      rintro e w4 ⟨rfl, hx4⟩
      have ho4 := hch'.out w4 s
      have hlv := hle.out s
      have hlv' := Lib.hid hlv
      clear hlv ho1 ho2 ho3
      generalize chosen l1 l2 l3 s = r at *
      obtain ⟨v, ok⟩ := r
      go_wp2_with (fail)
      refine ho4.mono ?_
      rintro e w5 ⟨rfl, hx5⟩
      have hxr5 := hx2.trans (hx3.trans (hx4.trans hx5))
      have hx15 := hx.trans hxr5
      have hown5 := hown.ext hxr5
      have hcw5 := hcw.ext hxr5
      have hlt6 : ∀ j, u6.ownBlock = some j → j < w5.heap.size := fun j hj => (hown5.block j hj).2
      have hlt7 : ∀ j, u7.ownBlock = some j → j < w5.heap.size := fun j hj => (hcw5.block j hj).2
      obtain ⟨W6, hW6⟩ : ∃ W, w5.alloc (.cells #[.bool v.isSome, .string (mkS (v.getD []))] 61) = W := ⟨_, rfl⟩
      have hx6 : Ext w5 W6 := by rw [← hW6]; exact Ext.alloc _ _
      have r6 : W6.heap[w5.heap.size]? = some (.cells #[.bool v.isSome, .string (mkS (v.getD []))] 61 (0, 0)) := by rw [← hW6]; exact heap_alloc_new w5 _
      have hs6 : w5.heap.size < W6.heap.size := by rw [← hW6]; simp
      have b0 : W6.cell? ⟨w5.heap.size, 0, none⟩ = some (.bool v.isSome) := (cell_of_row _ _ _ _ _ _ r6).trans rfl
      have b1 : W6.cell? ⟨w5.heap.size, 1, none⟩ = some (.string (mkS (v.getD []))) := (cell_of_row _ _ _ _ _ _ r6).trans rfl
      have hx16 := hx15.trans hx6
      have hs1 := hx15.size
      have hown6 := hown5.ext hx6
      have hcw6 := hcw5.ext hx6
      have hL := Lib.hid (show (mergeL l1 l2 l3 (ns.take k)).length ≤ k from Nat.le_trans (hll.out _) (by simp; omega))
      have hC := Lib.hid (show (mergeC l1 l2 l3 (ns.take k)).length ≤ k from Nat.le_trans (hcl.out _) (by simp; omega))
      clear ho4 hown hcw hx2 hx3 hx4 hx5 hxr5 hx e0 hown5 hcw5 r6 hx15
      cases ok with
      | true =>
        have hq3 : mergeC l1 l2 l3 (ns.take (k + 1)) = mergeC l1 l2 l3 (ns.take k) := by rw [hq2.out]; simp
        rw [← hq3] at hcw6
        clear hq2 hq3 hlt7 hC hcl
        cases v with
        | none =>
          simp only [Option.isSome_none, Option.getD_none] at hW6 b0 b1
          have hq4 : mergeL l1 l2 l3 (ns.take (k + 1)) = mergeL l1 l2 l3 (ns.take k) := by rw [hq1.out]; simp [fileOf]
          rw [← hq4] at hown6
          clear hq1 hq4
          go_wp2
          go_roundw
          case rel => exact ⟨k + 1, F, by omega, by go_num, hown6, hF, hcw6, hdis, hx16⟩
          case measure => simp [intOf]; omega
        | some d =>
          simp only [Option.isSome_some, Option.getD_some] at hW6 b0 b1
          have hdl := hlv'.out d rfl
          have hdm : d.length ≤ maxLen := by simp [maxLen]; omega
          have hxb : Ext W6 (Lib.bytesWorld W6 5 (mkS d)) := ext_bytes' (Ext.refl _) _ _
          have hbs : (Lib.bytesWorld W6 5 (mkS d)).heap.size = W6.heap.size + 1 := Lib.bytesWorld_size _ _ _
          have hxa : Ext W6 ((Lib.bytesWorld W6 5 (mkS d)).alloc (.cells #[.string (mkS s), .slice (some ⟨W6.heap.size, 0, none⟩) d.length (grownCap W6 d.length 0 5)] 29)) := hxb.trans (Ext.alloc _ _)
          have hrep : kFile.rep (fun k => W6.heap.size ≤ k ∧ k < W6.heap.size + 1) (Lib.bytesWorld W6 5 (mkS d)) ⟨s, d⟩ [.string (mkS s), .slice (some ⟨W6.heap.size, 0, none⟩) d.length (grownCap W6 d.length 0 5)] := by
            have h1 := kFile.real (kFile_mk (f := ⟨s, d⟩) hsl (grownCap_ge W6 _ 0 5) (grownCap_le_maxLen W6 _ 0 5 hdm) (holds_bytes W6 5 d hdm))
            rw [hbs] at h1
            exact h1
          have hbO := hown6.block
          have hbC := hcw6.block
          go_wp2_with (at_builtin; refine stop_here ?_)
          refine ⟨?_, trivial⟩
          refine wpList_append_reps (K := kFile) (v := u6) rfl _ _ _ rfl el_files (by decide) rfl _ rfl (hown6.ext hxa) _ _ _ _ rfl [⟨s, d⟩] rfl (by omega) _ (Kd.reps_single (kFile.keep hrep (Nat.le_of_lt (by simp)) (fun j _ hj => (Ext.alloc _ _).block j hj))) (rangeAt_new' _ [.string (mkS s), .slice (some ⟨W6.heap.size, 0, none⟩) d.length (grownCap W6 d.length 0 5)] _ (by simpa using hbs)) ?_ ?_ ?_ ?_ ?_
          · intro k' hk'
            have h1 := hk'.1
            have h2 := hk'.2
            refine ⟨by simp [hbs]; omega, fun he => ?_⟩
            have h3 := (hbO k' he).2
            omega
          · have := hL.out; simp [maxLen]; omega
          · have := hL.out; omega
          · exact Nat.le_trans hx16.size hxa.size
          intro g9 cap9 w9 hown9 hg9 hat9 hbase9 hlt9
          have hcw9 := (hcw6.ext hxa).keep (Keep.of_grown hg9) (fun _ h => h.elim) (fun j hj hS => (hdis.out j hj).1 hS.symm)
          have hxw9 : Ext w1 w9 := Below.grown (hx16.trans hxa) hg9 (hx16.trans hxa).size (fun j hj => (hbO j hj).1)
          have hsz9 := hxa.size
          have hdis9 : Hid (∀ j, u7.ownBlock = some j → (Value.slice (some ⟨g9, 0, none⟩) ((mergeL l1 l2 l3 (ns.take k)).length + 1) cap9).ownBlock ≠ some j ∧ ¬ (F j ∨ (W6.heap.size ≤ j ∧ j < W6.heap.size + 1))) := Lib.hid (fun j hj => by
            have h1 := (hbC j hj).2
            have h2 := hdis.out j hj
            refine ⟨fun he => ?_, ?_⟩
            · have he' : g9 = j := Option.some.inj he
              rcases hat9 with h3 | h3
              · exact h2.1 (h3.trans (by rw [he']))
              · omega
            · rintro (h3 | h3)
              · exact h2.2 h3
              · omega)
          have hF9 : ∀ j, (F j ∨ (W6.heap.size ≤ j ∧ j < W6.heap.size + 1)) → w1.heap.size ≤ j := fun j hj => by
            have := hx16.size
            rcases hj with hj | hj
            · exact hF j hj
            · omega
          have hq4 : mergeL l1 l2 l3 (ns.take k) ++ [⟨s, d⟩] = mergeL l1 l2 l3 (ns.take (k + 1)) := by rw [hq1.out]; simp [fileOf]
          rw [hq4] at hown9
          clear hq1 hq4 hown6 hcw6 hg9 hat9 hrep hxa hxb hbO hbC hdis
          go_wp2
          go_roundw
          case rel => exact ⟨k + 1, _, by omega, by go_num, hown9, hF9, hcw9, hdis9, hxw9⟩
          case measure => simp [intOf]; omega
      | false =>
        have hq3 : mergeC l1 l2 l3 (ns.take k) ++ [s] = mergeC l1 l2 l3 (ns.take (k + 1)) := by rw [hq2.out]; simp
        have hbO := hown6.block
        have hbC := hcw6.block
        go_wp2_with (at_builtin; refine stop_here ?_)
        refine ⟨?_, trivial⟩
        have hxs : Ext W6 (W6.alloc (.cells #[.string (mkS s)] 9)) := Ext.alloc _ _
        refine wpList_append_reps (K := kStr) (v := u7) rfl _ _ _ rfl el_strs (by decide) rfl _ rfl (hcw6.ext hxs) _ _ _ _ rfl [s] rfl (by omega) _ (Kd.reps_single (A := fun _ => False) (show kStr.rep _ _ s [.string (mkS s)] from ⟨rfl, hsl⟩)) (rangeAt_new' _ [Value.string (mkS s)] _ rfl) ?_ ?_ ?_ ?_ ?_
        · intro k hk; exact hk.elim
        · have := hC.out; simp [maxLen]; omega
        · have := hC.out; omega
        · have := hx16.size; simp; omega
        intro g7 cap7 w7 hcw7 hg7 hat7 hbase7 hlt8
        have hcw7 := hcw7.flat flat_str
        rw [hq3] at hcw7
        have hown7 := (hown6.ext hxs).keep (Keep.of_grown hg7) (fun j hF hS => (hdis.out j hS.symm).2 hF) (fun j hj hS => (hdis.out j hS.symm).1 hj)
        have hx17 : Ext w1 w7 := Below.grown (hx16.trans hxs) hg7 (hx16.trans hxs).size (fun j hj => (hbC j hj).1)
        have hdis7 : Hid (∀ j, (Value.slice (some ⟨g7, 0, none⟩) ((mergeC l1 l2 l3 (ns.take k)).length + 1) cap7).ownBlock = some j → u6.ownBlock ≠ some j ∧ ¬ F j) := Lib.hid (fun j hj => by
          have he : g7 = j := Option.some.inj hj
          subst he
          rcases hat7 with h3 | h3
          · exact hdis.out g7 h3
          · refine ⟨fun h4 => ?_, fun h4 => ?_⟩
            · have := (hbO g7 h4).2
              have h5 := hxs.size
              omega
            · have := hown6.lt g7 h4
              have h5 := hxs.size
              omega)
        have c0 : w7.cell? ⟨w5.heap.size, 0, none⟩ = some (.bool v.isSome) := (hg7.cell_far ⟨w5.heap.size, 0, none⟩ (Nat.lt_of_lt_of_le hs6 hxs.size) (fun he => absurd (hlt7 _ he.symm) (Nat.lt_irrefl _))).trans ((hxs.cell (p := ⟨w5.heap.size, 0, none⟩) hs6).trans b0)
        have c1 : w7.cell? ⟨w5.heap.size, 1, none⟩ = some (.string (mkS (v.getD []))) := (hg7.cell_far ⟨w5.heap.size, 1, none⟩ (Nat.lt_of_lt_of_le hs6 hxs.size) (fun he => absurd (hlt7 _ he.symm) (Nat.lt_irrefl _))).trans ((hxs.cell (p := ⟨w5.heap.size, 1, none⟩) hs6).trans b1)
        clear hq2 hq3 hown6 hcw6 hdis hg7 hat7 hxs hbO hbC hlt6 hlt7 hC hcl hx16 b0 b1 hW6
        cases v with
        | none =>
          simp only [Option.isSome_none, Option.getD_none] at c0 c1
          have hq4 : mergeL l1 l2 l3 (ns.take (k + 1)) = mergeL l1 l2 l3 (ns.take k) := by rw [hq1.out]; simp [fileOf]
          rw [← hq4] at hown7
          clear hq1 hq4
          go_wp2
          go_roundw
          case rel => exact ⟨k + 1, F, by omega, by go_num, hown7, hF, hcw7, hdis7, hx17⟩
          case measure => simp [intOf]; omega
        | some d =>
          simp only [Option.isSome_some, Option.getD_some] at c0 c1
          have hdl := hlv'.out d rfl
          have hdm : d.length ≤ maxLen := by simp [maxLen]; omega
          have hxb : Ext w7 (Lib.bytesWorld w7 5 (mkS d)) := ext_bytes' (Ext.refl _) _ _
          have hbs : (Lib.bytesWorld w7 5 (mkS d)).heap.size = w7.heap.size + 1 := Lib.bytesWorld_size _ _ _
          have hxa : Ext w7 ((Lib.bytesWorld w7 5 (mkS d)).alloc (.cells #[.string (mkS s), .slice (some ⟨w7.heap.size, 0, none⟩) d.length (grownCap w7 d.length 0 5)] 29)) := hxb.trans (Ext.alloc _ _)
          have hrep : kFile.rep (fun k => w7.heap.size ≤ k ∧ k < w7.heap.size + 1) (Lib.bytesWorld w7 5 (mkS d)) ⟨s, d⟩ [.string (mkS s), .slice (some ⟨w7.heap.size, 0, none⟩) d.length (grownCap w7 d.length 0 5)] := by
            have h1 := kFile.real (kFile_mk (f := ⟨s, d⟩) hsl (grownCap_ge w7 _ 0 5) (grownCap_le_maxLen w7 _ 0 5 hdm) (holds_bytes w7 5 d hdm))
            rw [hbs] at h1
            exact h1
          have hbO := hown7.block
          have hbC := hcw7.block
          go_wp2_with (at_builtin; refine stop_here ?_)
          refine ⟨?_, trivial⟩
          refine wpList_append_reps (K := kFile) (v := u6) rfl _ _ _ rfl el_files (by decide) rfl _ rfl (hown7.ext hxa) _ _ _ _ rfl [⟨s, d⟩] rfl (by omega) _ (Kd.reps_single (kFile.keep hrep (Nat.le_of_lt (by simp)) (fun j _ hj => (Ext.alloc _ _).block j hj))) (rangeAt_new' _ [.string (mkS s), .slice (some ⟨w7.heap.size, 0, none⟩) d.length (grownCap w7 d.length 0 5)] _ (by simpa using hbs)) ?_ ?_ ?_ ?_ ?_
          · intro k' hk'
            have h1 := hk'.1
            have h2 := hk'.2
            refine ⟨by simp [hbs]; omega, fun he => ?_⟩
            have h3 := (hbO k' he).2
            omega
          · have := hL.out; simp [maxLen]; omega
          · have := hL.out; omega
          · exact Nat.le_trans hx17.size hxa.size
          intro g9 cap9 w9 hown9 hg9 hat9 hbase9 hlt9
          have hcw9 := (hcw7.ext hxa).keep (Keep.of_grown hg9) (fun _ h => h.elim) (fun j hj hS => (hdis7.out j hj).1 hS.symm)
          have hxw9 : Ext w1 w9 := Below.grown (hx17.trans hxa) hg9 (hx17.trans hxa).size (fun j hj => (hbO j hj).1)
          have hsz9 := hxa.size
          have hdis9 : Hid (∀ j, (Value.slice (some ⟨g7, 0, none⟩) ((mergeC l1 l2 l3 (ns.take k)).length + 1) cap7).ownBlock = some j → (Value.slice (some ⟨g9, 0, none⟩) ((mergeL l1 l2 l3 (ns.take k)).length + 1) cap9).ownBlock ≠ some j ∧ ¬ (F j ∨ (w7.heap.size ≤ j ∧ j < w7.heap.size + 1))) := Lib.hid (fun j hj => by
            have h1 := (hbC j hj).2
            have h2 := hdis7.out j hj
            refine ⟨fun he => ?_, ?_⟩
            · have he' : g9 = j := Option.some.inj he
              rcases hat9 with h3 | h3
              · exact h2.1 (h3.trans (by rw [he']))
              · omega
            · rintro (h3 | h3)
              · exact h2.2 h3
              · omega)
          have hF9 : ∀ j, (F j ∨ (w7.heap.size ≤ j ∧ j < w7.heap.size + 1)) → w1.heap.size ≤ j := fun j hj => by
            have := hx17.size
            rcases hj with hj | hj
            · exact hF j hj
            · omega
          have hq4 : mergeL l1 l2 l3 (ns.take k) ++ [⟨s, d⟩] = mergeL l1 l2 l3 (ns.take (k + 1)) := by rw [hq1.out]; simp [fileOf]
          rw [hq4] at hown9
          clear hq1 hq4 hown7 hcw7 hg9 hat9 hrep hxa hxb hbO hbC hdis7
          go_wp2
          go_roundw
          case rel => exact ⟨k + 1, _, by omega, by go_num, hown9, hF9, hcw9, hdis9, hxw9⟩
          case measure => simp [intOf]; omega
    · obtain rfl : k = m := by omega
      have e1 : ns.take k = ns := List.take_of_length_le (by rw [← hm'.out]; exact Nat.le_refl _)
      rw [e1] at hown hcw
      have hs1 := hx1'.size
      go_wp2
      go_ret2
      exact ⟨u6, u7, rfl, ⟨F, fun j hj => by have := hF j hj; omega, hown.lower hs1⟩, ⟨fun _ => False, fun _ h => h.elim, hcw.lower hs1⟩, hx1'.trans hx⟩
end Go.Proofs.YtaenackibigojaaDoor

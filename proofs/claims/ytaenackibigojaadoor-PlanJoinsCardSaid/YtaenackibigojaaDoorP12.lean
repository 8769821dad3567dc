/- Part of the proofs: el_ops, pick_: each says what its head says. -/
import Derived.Test.YtaenackibigojaaDoorP11
import Derived.WalkMore
set_option linter.unusedVariables false
set_option linter.unusedSimpArgs false
namespace Go.Proofs.YtaenackibigojaaDoor
open Go.RowKit Go.BK
theorem el_ops : ElemOf Tryd.prog 23 49 7 96 := ElemOf.mk' (z := .agg #[.int .i64 0, .string .empty, .slice none 0 0, .int .i64 0, .slice none 0 0, .int .i64 0, .int .u8 0]) Tryd.underlying23 (by kernel_rfl) rfl

set_option maxHeartbeats 1000000 in
set_option maxRecDepth 100000 in
theorem pick_ (w : World) (A : Nat → Prop) (a : Option Addr) (n c : Nat) (l : List Str) (g : Nat) (cb : Array Value) (T : Str → Bool) (G : Str → Stp) (h : Holds kStr A w a n l) (hf : Fits n) (hen : ∀ args w, (callFunc g args).run Tryd.prog w = .ok (.enter g args) w)
    (hstep : ∀ W s, Ext w W → s ∈ l → Calls Tryd.prog g (#[.string (mkS s)] ++ cb) W fun e W' => ∃ us, e = .returned (.tuple #[.agg us.toArray, .bool (T s)]) ∧ Ext W W' ∧ kOp.rep (fun k => W.heap.size ≤ k) W' (G s) us) :
    Calls Tryd.prog 31 #[.slice a n c, .func (.func g) #[] cb] w fun e w' => ∃ v, e = .returned v ∧ Owns kOp 49 w.heap.size (fun k => w.heap.size ≤ k) w' v ((l.filter T).map G) ∧ Ext w w' := by
  have hl := Lib.hid h.1
  have hnn : n ≤ 9223372036854775807 := h.le
  have hfn := Lib.hid hf.out
  go_enter Tryd.func31, Tryd.ntmps31
  go_wp2
  go_step3
  go_wp2
  go_step3
  go_wp2
  go_loopw [5, 12] (fun out i wr => ∃ k F m, k ≤ n ∧ m ≤ k ∧ i = .int .i64 (k : Nat) ∧ OwnsF kOp 49 w.heap.size F wr out (((l.take k).filter T).map G) ∧ (∀ k, F k → w.heap.size ≤ k) ∧ Ext w wr ∧ ((l.take k).filter T).length = m)
    (fun _ i _ => n - (intOf i).toNat)
  case atStart => exact ⟨0, _, 0, Nat.zero_le _, Nat.le_refl _, rfl, OwnsF.nil _ _ _ _, fun _ h => h.elim, Ext.refl _, rfl⟩
  case round =>
    obtain ⟨k, F, m, hk, hmk, rfl, hown, hF, hx, hm⟩ := hrel
    by_cases hlt : k < n
    · obtain ⟨s, hs⟩ : ∃ f, l[k]? = some f := ⟨_, List.getElem?_eq_getElem (by rw [hl.out]; exact hlt)⟩
      obtain ⟨b, o, rfl, hA, hb, hc, hns⟩ := strs_at h k s hs
      have hc0 := hc _ hx
      have hst := hstep _ s hx (List.mem_of_getElem? hs)
      have e1 : l.take (k + 1) = l.take k ++ [s] := by rw [List.take_add_one, hs]; rfl
      have e1' := Lib.hid e1
      have hm' := Lib.hid hm
      clear hs hc e1 hm
      cases hT : T s with
      | false =>
        rw [hT] at hst
        have hT' := Lib.hid hT
        clear hT
        go_wp2_with (fail)
        refine hst.mono ?_
        rintro e w2 ⟨us, rfl, hx2, hr2⟩
        clear hst
        obtain ⟨a1, n1, c1, a2, n2, c2, rfl, k1, k2, k3, k4, k5, k6, k7, k8, k9, k10⟩ := kOp_open hr2
        go_wp2
        go_roundw
        case rel =>
          refine ⟨k + 1, F, m, by omega, by omega, by go_num, ?_, hF, (hx.trans hx2).trans (Ext.alloc _ _), ?_⟩
          · rw [e1'.out, List.filter_append]; simp [hT'.out]; exact (hown.ext hx2).ext (Ext.alloc _ _)
          · rw [e1'.out, List.filter_append]; simp [hT'.out]; exact hm'.out
        case measure => simp [intOf]; omega
      | true =>
        rw [hT] at hst
        have hT' := Lib.hid hT
        clear hT
        go_wp2_with (fail)
        refine hst.mono ?_
        rintro e w2 ⟨us, rfl, hx2, hr2⟩
        clear hst hc0
        obtain ⟨a1, n1, c1, a2, n2, c2, rfl, k1, k2, k3, k4, k5, k6, k7, k8, k9, k10⟩ := kOp_open hr2
        go_wp2_with (at_builtin; refine stop_here ?_)
        refine ⟨?_, trivial⟩
        have hx3 : Ext w2 ((w2.alloc (.cells #[.int .i64 (G s).kind, .string (mkS (G s).name), .slice a1 n1 c1, .int .i64 (G s).n, .slice a2 n2 c2, .int .i64 (G s).names, .int .u8 (G s).fill.toNat] 49)).alloc (.cells #[.int .i64 (G s).kind, .string (mkS (G s).name), .slice a1 n1 c1, .int .i64 (G s).n, .slice a2 n2 c2, .int .i64 (G s).names, .int .u8 (G s).fill.toNat] 49)) := (Ext.alloc _ _).trans (Ext.alloc _ _)
        refine wpList_append_reps (K := kOp) rfl _ _ _ rfl el_ops (by decide) rfl m (by rw [List.length_map, hm'.out]) (hown.ext (hx2.trans hx3)) _ _ _ _ rfl [G s] rfl (by omega) _ (Kd.reps_single (kOp.keep (kOp.real hr2) hx3.size (fun k _ hk => hx3.block k hk))) (rangeAt_new' _ [.int .i64 (G s).kind, .string (mkS (G s).name), .slice a1 n1 c1, .int .i64 (G s).n, .slice a2 n2 c2, .int .i64 (G s).names, .int .u8 (G s).fill.toNat] _ (by simp)) ?_ ?_ ?_ ?_ ?_
        · intro k' hk'
          have h1 := hk'.1; have h2 := hk'.2; simp at h1 h2 ⊢
          exact ⟨by omega, fun he => ownBlock_lt hown h1 he.symm⟩
        · have := hfn.out; simp [maxLen]; omega
        · have := hfn.out; simp; omega
        · have := hx.size; have := hx2.size; simp; omega
        intro g3 cap3 w3 hown3 hg3 hat3 hbase3 hlt3
        have hx4 : Ext w w3 := (hx.trans (hx2.trans hx3)).grown hg3 (by have := hx.size; have := hx2.size; simp; omega) (fun k' hk' => (hown.block k' hk').1)
        have hxs := hx.size
        clear hr2 hown hg3 hx3 hx2 hx hstep
        go_wp2
        go_roundw
        case rel =>
          have e2 : ((l.take k).filter T).map G ++ [G s] = ((l.take (k + 1)).filter T).map G := by
            rw [e1'.out, List.filter_append]; simp only [List.map_append, List.filter_cons, hT'.out, if_true, List.filter_nil, List.map_cons, List.map_nil]
          rw [e2] at hown3
          refine ⟨k + 1, _, m + 1, by omega, by omega, by go_num, hown3, ?_, hx4, ?_⟩
          · rintro k' (hk' | hk')
            · exact hF k' hk'
            · have h1 := hk'.1; omega
          · rw [e1'.out, List.filter_append, List.length_append, hm'.out]; simp [hT'.out]
        case measure => simp [intOf]; omega
    · obtain rfl : k = n := by omega
      have e1 : (((l.take k).filter T).map G) = (l.filter T).map G := by rw [List.take_of_length_le (by rw [hl.out]; exact Nat.le_refl _)]
      rw [e1] at hown
      go_wp2
      try rw [Exit.noGoto_ret]
      go_ret
      exact ⟨_, rfl, ⟨F, hF, hown⟩, hx⟩
end Go.Proofs.YtaenackibigojaaDoor

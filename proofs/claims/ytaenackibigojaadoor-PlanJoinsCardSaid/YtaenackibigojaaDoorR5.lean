/- Part of the proofs: leq_str, ref_with: each says what its head says. -/
import Derived.Test.YtaenackibigojaaDoorR4
set_option linter.unusedVariables false
set_option linter.unusedSimpArgs false
namespace Go.Proofs.YtaenackibigojaaDoor
open Go.RowKit Go.BK
theorem leq_str (t : TypeId) (a b : Str) (w : World) : (binOp .leq t (.string (mkS a)) (.string (mkS b))).run Tryd.prog w = .ok (.bool (!ltS b a)) w := by
  simp [binOp, Op.stringOp, mkS_toList, bytesLess_ltS]
  rcases str_lt_tri a b with h | h | h
  · simp [ltS_iff.2 h, ltS_false.2 (fun h' => str_lt_irrefl a (str_lt_trans h h'))]
  · subst h; simp [ltS_false.2 (str_lt_irrefl a)]
  · have hne : a ≠ b := by
      rintro rfl
      exact str_lt_irrefl _ h
    simp [ltS_iff.2 h, ltS_false.2 (fun h' => str_lt_irrefl a (str_lt_trans h' h)), hne]

set_option maxHeartbeats 2000000 in
set_option maxRecDepth 100000 in
theorem ref_with (w : World) (A : Nat → Prop) (a : Option Addr) (n c : Nat) (l : List File) (s : Str) (d : List UInt8) (h : Holds kFile A w a n l) (hf : Fits n) (hsl : s.length ≤ maxLen) (hdl : d.length ≤ maxLen) :
    Calls Tryd.prog 28 #[.slice a n c, .string (mkS s), .string (mkS d)] w fun e w' => ∃ v, e = .returned v ∧ OwnsF kFile 29 w.heap.size (fun k => (A k ∧ k < w.heap.size) ∨ k = w.heap.size) w' v (withR l s d) ∧ Ext w w' := by
  have hl := Lib.hid h.1
  have hnn : n ≤ 1099511627776 := hf.out
  have kc := Lib.run_convert_string_bytes (P := Tryd.prog) w 9 27 5 (mkS d) Tryd.underlying9 Tryd.underlying27 Tryd.underlying5
  have kc2 : (mkS d).size = d.length := mkS_size d
  rw [kc2] at kc
  obtain ⟨cv, hcv⟩ : ∃ cv, grownCap w d.length 0 5 = cv := ⟨_, rfl⟩
  have hcv1 : d.length ≤ cv := by rw [← hcv]; exact grownCap_ge _ _ _ _
  have hcv2 : cv ≤ maxLen := by rw [← hcv]; exact grownCap_le_maxLen _ _ _ _ hdl
  obtain ⟨W1, hW1⟩ : ∃ W, Lib.bytesWorld w 5 (mkS d) = W := ⟨_, rfl⟩
  have hx1 : Ext w W1 := by rw [← hW1]; exact ext_bytes _ _ _
  have hsz1 : W1.heap.size = w.heap.size + 1 := by rw [← hW1]; exact Lib.bytesWorld_size _ _ _
  have hhd : Holds kByte (fun k => k = w.heap.size) W1 (some ⟨w.heap.size, 0, none⟩) d.length d := by
    rw [← hW1]
    have := (holds_bytes w 5 d hdl).real
    refine this.wide (fun k hk => ?_)
    have h1 := hk.1; have h2 := hk.2
    rw [Lib.bytesWorld_size] at h2
    omega
  rw [hcv, hW1] at kc
  have hrepf : kFile.rep (fun k => k = w.heap.size) W1 ⟨s, d⟩ [.string (mkS s), .slice (some ⟨w.heap.size, 0, none⟩) d.length cv] := kFile_mk hsl hcv1 hcv2 hhd
  obtain ⟨W2, hW2⟩ : ∃ W, W1.alloc (.cells #[.string (mkS s), .slice (some ⟨w.heap.size, 0, none⟩) d.length cv] 29) = W := ⟨_, rfl⟩
  have hx12 : Ext W1 W2 := by rw [← hW2]; exact Ext.alloc _ _
  have hx2 : Ext w W2 := hx1.trans hx12
  have hsz2 : W2.heap.size = w.heap.size + 2 := by rw [← hW2]; simp [hsz1]
  have hb0 : ∀ W, Ext W2 W → W.cell? ⟨w.heap.size + 1, 0, none⟩ = some (.string (mkS s)) := fun W hW => by
    refine (hW.cell (p := ⟨w.heap.size + 1, 0, none⟩) (by rw [hsz2]; simp)).trans ?_
    rw [← hW2, ← hsz1]; simp
  have hb1 : ∀ W, Ext W2 W → W.cell? ⟨w.heap.size + 1, 1, none⟩ = some (.slice (some ⟨w.heap.size, 0, none⟩) d.length cv) := fun W hW => by
    refine (hW.cell (p := ⟨w.heap.size + 1, 1, none⟩) (by rw [hsz2]; simp)).trans ?_
    rw [← hW2, ← hsz1]; simp
  have hrep2 := Lib.hid hrepf
  clear hhd hcv kc2 hW1 hrepf
  go_enter Tryd.func28, Tryd.ntmps28
  go_wp2
  go_loopw [7, 9, 10] (fun out u9 i wr => ∃ k p L m, k ≤ n ∧ m ≤ 2 * k ∧ u9 = .bool p ∧ i = .int .i64 (k : Nat) ∧ walkR (l.take k) s d = (p, L) ∧ OwnsF kFile 29 (w.heap.size + 2) (fun k => (A k ∧ k < w.heap.size) ∨ k = w.heap.size) wr out L ∧ Ext W2 wr ∧ L.length = m)
    (fun _ _ i _ => n - (intOf i).toNat)
  case atStart => exact ⟨0, false, [], 0, Nat.zero_le _, Nat.le_refl _, rfl, rfl, rfl, ⟨fun k hk => by rcases hk with hk | hk <;> omega, fun k h => by simp [Value.ownBlock] at h, [], World.ownsRow_nil _ _ _ _, rfl⟩, Ext.refl _, rfl⟩
  case round =>
    obtain ⟨k, p, L, m, hk, hmk, rfl, rfl, hwk, hown, hx, hm⟩ := hrel
    have hm' := Lib.hid hm
    have hwk' := Lib.hid hwk
    have hsx := hx.size
    clear hm hwk
    have b0 := hb0 _ hx
    have b1 := hb1 _ hx
    by_cases hlt : k < n
    · obtain ⟨g, hfk⟩ : ∃ f, l[k]? = some f := ⟨_, List.getElem?_eq_getElem (by rw [hl.out]; exact hlt)⟩
      obtain ⟨b, o, ad, m2, cc, rfl, hA, hb, hc0, hc1, hrep, hd⟩ := kFile_at h k g hfk
      have e2 : l.take (k + 1) = l.take k ++ [g] := by rw [List.take_add_one, hfk]; rfl
      have e2' := Lib.hid e2
      have hc0' := fun W (hW : Ext W2 W) => hc0 W (hx2.trans hW)
      have hc1' := fun W (hW : Ext W2 W) => hc1 W (hx2.trans hW)
      have e0 := hc0' _ hx
      have e1 := hc1' _ hx
      have hltk := hlt
      clear hfk hc0 hc1 e2 hd hlt
      cases p with
      | true =>
        cases hs : g.name == s with
        | true =>
          have hlt : True := trivial
          have hn : (g.name != s) = false := by simp [bne, hs]
          have hst : Hid (walkR (l.take (k + 1)) s d = (true, L)) := Lib.hid (by rw [e2'.out, walkR_snoc, hwk'.out]; simp [stepR, hlt, hn])
          have hownZ := Lib.hid hown
          have hxZ := hx
          clear hown
          go_wp2
          go_roundw
          case rel => exact ⟨k + 1, true, L, m, by omega, by omega, rfl, by go_num, hst.out, hownZ.out, hxZ, hm'.out⟩
          case measure => simp [intOf]; omega
        | false =>
          have hlt : True := trivial
          have hn : (g.name != s) = true := by simp [bne, hs]
          have hst : Hid (walkR (l.take (k + 1)) s d = (true, (L ++ [g]))) := Lib.hid (by rw [e2'.out, walkR_snoc, hwk'.out]; simp [stepR, hlt, hn])
          go_wp2_with (at_builtin; refine stop_here ?_)
          refine ⟨?_, trivial⟩
          have hxa5 := Ext.alloc wr (.cells #[.string (mkS g.name), .slice ad m2 cc] 29)
          have hsa5 := (hx.trans hxa5).size
          refine wpList_append_reps (K := kFile) rfl _ _ _ rfl el_files (by decide) rfl m hm'.out (hown.ext hxa5) _ _ _ _ rfl [g] rfl (by omega) _ (Kd.reps_single (kFile.keep hrep ((hx2.trans hx).trans hxa5).size (fun k _ hk => ((hx2.trans hx).trans hxa5).block k hk))) (rangeAt_new' _ [.string (mkS g.name), .slice ad m2 cc] _ (by simp)) ?_ ?_ ?_ ?_ ?_
          · intro k' hk'
            refine ⟨by have h2 := hk'.2; omega, fun he => ?_⟩
            have h1 := (hown.block k' he).1
            have h2 := hk'.2
            omega
          · simp [maxLen]; omega
          · omega
          · omega
          intro g5 cap5 w5 hown5 hg5 hat5 hbase5 hlt5
          have hx5 : Ext W2 w5 := Below.grown (hx.trans hxa5) hg5 hsa5 (fun k' hk' => by
            have h1 := (hown.block k' hk').1
            omega)
          have hown5' := hown5.iff (F' := (fun k => (A k ∧ k < w.heap.size) ∨ k = w.heap.size)) (fun k => ⟨fun h => h.elim id .inl, .inl⟩)
          clear hown5 hg5 hat5 hxa5
          have hownZ := Lib.hid hown5'
          have hxZ := hx5
          clear hown
          clear hown5'
          go_wp2
          go_roundw
          case rel => exact ⟨k + 1, true, (L ++ [g]), (m + 1), by omega, by omega, rfl, by go_num, hst.out, hownZ.out, hxZ, (by rw [List.length_append, hm'.out]; rfl)⟩
          case measure => simp [intOf]; omega
      | false =>
        cases hlt : ltS g.name s with
        | true =>
          have hs : (g.name == s) = false := by
            rw [beq_eq_false_iff_ne]
            rintro rfl
            exact str_lt_irrefl _ (ltS_iff.1 hlt)
          have hq1 : ltS s g.name = false := ltS_false.2 (fun h => str_lt_irrefl s (str_lt_trans h (ltS_iff.1 hlt)))
          have hq2 : (s == g.name) = false := by
            rw [beq_eq_false_iff_ne] at hs ⊢
            exact fun e => hs e.symm
          have hn : (g.name != s) = true := by simp [bne, hs]
          have hst : Hid (walkR (l.take (k + 1)) s d = (false, (L ++ [g]))) := Lib.hid (by rw [e2'.out, walkR_snoc, hwk'.out]; simp [stepR, hlt, hn])
          go_wp2_with (at_builtin; refine stop_here ?_)
          refine ⟨?_, trivial⟩
          have hxa5 := Ext.alloc wr (.cells #[.string (mkS g.name), .slice ad m2 cc] 29)
          have hsa5 := (hx.trans hxa5).size
          refine wpList_append_reps (K := kFile) rfl _ _ _ rfl el_files (by decide) rfl m hm'.out (hown.ext hxa5) _ _ _ _ rfl [g] rfl (by omega) _ (Kd.reps_single (kFile.keep hrep ((hx2.trans hx).trans hxa5).size (fun k _ hk => ((hx2.trans hx).trans hxa5).block k hk))) (rangeAt_new' _ [.string (mkS g.name), .slice ad m2 cc] _ (by simp)) ?_ ?_ ?_ ?_ ?_
          · intro k' hk'
            refine ⟨by have h2 := hk'.2; omega, fun he => ?_⟩
            have h1 := (hown.block k' he).1
            have h2 := hk'.2
            omega
          · simp [maxLen]; omega
          · omega
          · omega
          intro g5 cap5 w5 hown5 hg5 hat5 hbase5 hlt5
          have hx5 : Ext W2 w5 := Below.grown (hx.trans hxa5) hg5 hsa5 (fun k' hk' => by
            have h1 := (hown.block k' hk').1
            omega)
          have hown5' := hown5.iff (F' := (fun k => (A k ∧ k < w.heap.size) ∨ k = w.heap.size)) (fun k => ⟨fun h => h.elim id .inl, .inl⟩)
          clear hown5 hg5 hat5 hxa5
          have hownZ := Lib.hid hown5'
          have hxZ := hx5
          clear hown
          clear hown5'
          go_wp2
          go_roundw
          case rel => exact ⟨k + 1, false, (L ++ [g]), (m + 1), by omega, by omega, rfl, by go_num, hst.out, hownZ.out, hxZ, (by rw [List.length_append, hm'.out]; rfl)⟩
          case measure => simp [intOf]; omega
        | false =>
          cases hs : g.name == s with
          | true =>
            have hq2 : (s == g.name) = true := by
              rw [beq_iff_eq] at hs ⊢
              exact hs.symm
            have hn : (g.name != s) = false := by simp [bne, hs]
            have hst : Hid (walkR (l.take (k + 1)) s d = (true, (L ++ [⟨s, d⟩]))) := Lib.hid (by rw [e2'.out, walkR_snoc, hwk'.out]; simp [stepR, hlt, hn])
            go_wp2_with (at_builtin; refine stop_here ?_)
            refine ⟨?_, trivial⟩
            have hxa5 := Ext.alloc wr (.cells #[.string (mkS s), .slice (some ⟨w.heap.size, 0, none⟩) d.length cv] 29)
            have hsa5 := (hx.trans hxa5).size
            refine wpList_append_reps (K := kFile) rfl _ _ _ rfl el_files (by decide) rfl m hm'.out (hown.ext hxa5) _ _ _ _ rfl [⟨s, d⟩] rfl (by omega) _ (Kd.reps_single (kFile.keep hrep2.out ((hx12.trans hx).trans hxa5).size (fun k _ hk => ((hx12.trans hx).trans hxa5).block k hk))) (rangeAt_new' _ [.string (mkS s), .slice (some ⟨w.heap.size, 0, none⟩) d.length cv] _ (by simp)) ?_ ?_ ?_ ?_ ?_
            · intro k' hk'
              refine ⟨by have h2 : k' = w.heap.size := hk'; omega, fun he => ?_⟩
              have h1 := (hown.block k' he).1
              have h2 : k' = w.heap.size := hk'
              omega
            · simp [maxLen]; omega
            · omega
            · omega
            intro g5 cap5 w5 hown5 hg5 hat5 hbase5 hlt5
            have hx5 : Ext W2 w5 := Below.grown (hx.trans hxa5) hg5 hsa5 (fun k' hk' => by
              have h1 := (hown.block k' hk').1
              omega)
            have hown5' := hown5.iff (F' := (fun k => (A k ∧ k < w.heap.size) ∨ k = w.heap.size)) (fun k => ⟨fun h => h.elim id .inr, .inl⟩)
            clear hown5 hg5 hat5 hxa5
            have hownZ := Lib.hid hown5'
            have hxZ := hx5
            clear hown
            clear hown5'
            go_wp2
            go_roundw
            case rel => exact ⟨k + 1, true, (L ++ [⟨s, d⟩]), (m + 1), by omega, by omega, rfl, by go_num, hst.out, hownZ.out, hxZ, (by rw [List.length_append, hm'.out]; rfl)⟩
            case measure => simp [intOf]; omega
          | false =>
            have hq1 : ltS s g.name = true := by
              rw [beq_eq_false_iff_ne] at hs
              rcases str_le_of_not_lt (ltS_false.1 hlt) with h | h
              · exact ltS_iff.2 h
              · exact absurd h hs
            have hn : (g.name != s) = true := by simp [bne, hs]
            have hst : Hid (walkR (l.take (k + 1)) s d = (true, (L ++ [⟨s, d⟩] ++ [g]))) := Lib.hid (by rw [e2'.out, walkR_snoc, hwk'.out]; simp [stepR, hlt, hn])
            go_wp2_with (at_builtin; refine stop_here ?_)
            refine ⟨?_, trivial⟩
            have hxa5 := Ext.alloc wr (.cells #[.string (mkS s), .slice (some ⟨w.heap.size, 0, none⟩) d.length cv] 29)
            have hsa5 := (hx.trans hxa5).size
            refine wpList_append_reps (K := kFile) rfl _ _ _ rfl el_files (by decide) rfl m hm'.out (hown.ext hxa5) _ _ _ _ rfl [⟨s, d⟩] rfl (by omega) _ (Kd.reps_single (kFile.keep hrep2.out ((hx12.trans hx).trans hxa5).size (fun k _ hk => ((hx12.trans hx).trans hxa5).block k hk))) (rangeAt_new' _ [.string (mkS s), .slice (some ⟨w.heap.size, 0, none⟩) d.length cv] _ (by simp)) ?_ ?_ ?_ ?_ ?_
            · intro k' hk'
              refine ⟨by have h2 : k' = w.heap.size := hk'; omega, fun he => ?_⟩
              have h1 := (hown.block k' he).1
              have h2 : k' = w.heap.size := hk'
              omega
            · simp [maxLen]; omega
            · omega
            · omega
            intro g5 cap5 w5 hown5 hg5 hat5 hbase5 hlt5
            have hx5 : Ext W2 w5 := Below.grown (hx.trans hxa5) hg5 hsa5 (fun k' hk' => by
              have h1 := (hown.block k' hk').1
              omega)
            have hown5' := hown5.iff (F' := (fun k => (A k ∧ k < w.heap.size) ∨ k = w.heap.size)) (fun k => ⟨fun h => h.elim id .inr, .inl⟩)
            clear hown5 hg5 hat5 hxa5
            go_wp2_with (at_builtin; refine stop_here ?_)
            refine ⟨?_, trivial⟩
            have hxa6 := Ext.alloc w5 (.cells #[.string (mkS g.name), .slice ad m2 cc] 29)
            have hsa6 := (hx5.trans hxa6).size
            refine wpList_append_reps (K := kFile) rfl _ _ _ rfl el_files (by decide) rfl (m + 1) (by rw [List.length_append, hm'.out]; rfl) (hown5'.ext hxa6) _ _ _ _ rfl [g] rfl (by omega) _ (Kd.reps_single (kFile.keep hrep ((hx2.trans hx5).trans hxa6).size (fun k _ hk => ((hx2.trans hx5).trans hxa6).block k hk))) (rangeAt_new' _ [.string (mkS g.name), .slice ad m2 cc] _ (by simp)) ?_ ?_ ?_ ?_ ?_
            · intro k' hk'
              refine ⟨by have h2 := hk'.2; omega, fun he => ?_⟩
              have h1 := (hown5'.block k' he).1
              have h2 := hk'.2
              omega
            · simp [maxLen]; omega
            · omega
            · omega
            intro g6 cap6 w6 hown6 hg6 hat6 hbase6 hlt6
            have hx6 : Ext W2 w6 := Below.grown (hx5.trans hxa6) hg6 hsa6 (fun k' hk' => by
              have h1 := (hown5'.block k' hk').1
              omega)
            have hown6' := hown6.iff (F' := (fun k => (A k ∧ k < w.heap.size) ∨ k = w.heap.size)) (fun k => ⟨fun h => h.elim id .inl, .inl⟩)
            clear hown6 hg6 hat6 hxa6
            have hownZ := Lib.hid hown6'
            have hxZ := hx6
            clear hown
            clear hown5'
            clear hown6'
            go_wp2
            go_roundw
            case rel => exact ⟨k + 1, true, (L ++ [⟨s, d⟩] ++ [g]), (m + 1 + 1), by omega, by omega, rfl, by go_num, hst.out, hownZ.out, hxZ, (by rw [List.length_append, List.length_append, hm'.out]; rfl)⟩
            case measure => simp [intOf]; omega
    · obtain rfl : k = n := by omega
      have e1 : l.take k = l := List.take_of_length_le (by rw [hl.out]; exact Nat.le_refl _)
      rw [e1] at hwk'
      cases p with
      | true =>
        have hw : Hid (withR l s d = L) := Lib.hid (by unfold withR; rw [hwk'.out]; rfl)
        go_wp2
        go_ret
        exact ⟨_, rfl, by rw [hw.out]; exact hown.lower (by omega), hx2.trans hx⟩
      | false =>
        have hw : Hid (withR l s d = L ++ [⟨s, d⟩]) := Lib.hid (by unfold withR; rw [hwk'.out]; rfl)
        go_wp2_with (at_builtin; refine stop_here ?_)
        refine ⟨?_, trivial⟩
        have hxa5 := Ext.alloc wr (.cells #[.string (mkS s), .slice (some ⟨w.heap.size, 0, none⟩) d.length cv] 29)
        have hsa5 := (hx.trans hxa5).size
        refine wpList_append_reps (K := kFile) rfl _ _ _ rfl el_files (by decide) rfl m hm'.out (hown.ext hxa5) _ _ _ _ rfl [⟨s, d⟩] rfl (by omega) _ (Kd.reps_single (kFile.keep hrep2.out ((hx12.trans hx).trans hxa5).size (fun k _ hk => ((hx12.trans hx).trans hxa5).block k hk))) (rangeAt_new' _ [.string (mkS s), .slice (some ⟨w.heap.size, 0, none⟩) d.length cv] _ (by simp)) ?_ ?_ ?_ ?_ ?_
        · intro k' hk'
          refine ⟨by have h2 : k' = w.heap.size := hk'; omega, fun he => ?_⟩
          have h1 := (hown.block k' he).1
          have h2 : k' = w.heap.size := hk'
          omega
        · simp [maxLen]; omega
        · omega
        · omega
        intro g5 cap5 w5 hown5 hg5 hat5 hbase5 hlt5
        have hx5 : Ext W2 w5 := Below.grown (hx.trans hxa5) hg5 hsa5 (fun k' hk' => by
          have h1 := (hown.block k' hk').1
          omega)
        have hown5' := hown5.iff (F' := (fun k => (A k ∧ k < w.heap.size) ∨ k = w.heap.size)) (fun k => ⟨fun h => h.elim id .inr, .inl⟩)
        clear hown5 hg5 hat5 hxa5
        go_wp2
        go_ret
        exact ⟨_, rfl, by rw [hw.out]; exact hown5'.lower (by omega), hx2.trans hx5⟩
end Go.Proofs.YtaenackibigojaaDoor

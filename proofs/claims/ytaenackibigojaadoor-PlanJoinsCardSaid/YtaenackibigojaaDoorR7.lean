/- Part of the proofs: goneR, putsR, diffR, ref_diff: each says what its head says. -/
import Derived.Test.YtaenackibigojaaDoorR6
set_option linter.unusedVariables false
set_option linter.unusedSimpArgs false
namespace Go.BK
def goneR (a b : List File) : List Stp := (a.filter fun f => (dataOf b f.name).isNone).map fun f => delS f.name
def putsR (a b : List File) : List Stp := (b.filter fun f => !(dataOf a f.name == dataOf b f.name)).map fun f => putS f.name f.data
def diffR (a b : List File) : List Stp := goneR a b ++ putsR a b
end Go.BK
namespace Go.Proofs.YtaenackibigojaaDoor
open Go.RowKit Go.BK

set_option maxHeartbeats 2000000 in
set_option maxRecDepth 100000 in
theorem ref_diff (w : World) (A : Nat → Prop) (a : Option Addr) (n c : Nat) (l : List File) (a' : Option Addr) (n' c' : Nat) (l' : List File) (h : Holds kFile A w a n l) (h' : Holds kFile A w a' n' l') (hf : Fits n) (hf' : Fits n') (hnn2 : n + n' ≤ 1099511627776) :
    Calls Tryd.prog 15 #[.slice a n c, .slice a' n' c'] w fun e w' => ∃ v, e = .returned v ∧ OwnsF kOp 49 w.heap.size (fun k => A k ∧ k < w.heap.size) w' v (diffR l l') ∧ Ext w w' := by
  have hl := Lib.hid h.1
  have hl' := Lib.hid h'.1
  have hnn := hf.out
  have hnn' := hf'.out
  go_enter Tryd.func15, Tryd.ntmps15
  go_wp2
  go_loopw [5, 6] (fun out i wr => ∃ k m, k ≤ n ∧ m ≤ k ∧ i = .int .i64 (k : Nat) ∧ OwnsF kOp 49 w.heap.size (fun k => A k ∧ k < w.heap.size) wr out (((l.take k).filter fun f => (dataOf l' f.name).isNone).map fun f => delS f.name) ∧ Ext w wr ∧ (((l.take k).filter fun f => (dataOf l' f.name).isNone).map fun f => delS f.name).length = m)
    (fun _ i _ => n - (intOf i).toNat)
  case atStart => exact ⟨0, 0, Nat.zero_le _, Nat.le_refl _, rfl, ⟨fun _ h => h.2, fun k h => by simp [Value.ownBlock] at h, [], World.ownsRow_nil _ _ _ _, rfl⟩, Ext.refl _, rfl⟩
  case round =>
    obtain ⟨k, m, hk, hmk, rfl, hown, hx, hm⟩ := hrel
    have hsx := hx.size
    by_cases hlt : k < n
    · obtain ⟨f, hfk⟩ : ∃ f, l[k]? = some f := ⟨_, List.getElem?_eq_getElem (by rw [hl.out]; exact hlt)⟩
      obtain ⟨b, o, ad, m2, cc, rfl, hA, hb, hc0, hc1, hns, hmc, hcm, hd⟩ := files_at h k f hfk
      have e0 := hc0 _ hx
      have e2 : l.take (k + 1) = l.take k ++ [f] := by rw [List.take_add_one, hfk]; rfl
      have e2' := Lib.hid e2
      have hm' := Lib.hid hm
      have hrep : kOp.rep (fun k => A k ∧ k < w.heap.size) w (delS f.name) [.int .i64 11, .string (mkS f.name), .slice none 0 0, .int .i64 0, .slice none 0 0, .int .i64 0, .int .u8 0] := kOp.real (kOp_mk (o := delS f.name) hns (Nat.le_refl _) (by decide) holds_none (Nat.le_refl _) (by decide) holds_none lit11 lit0 lit0)
      have hfd := ref_find _ A a' n' c' l' f.name (h'.ext hx)
      clear hfk hc0 hc1 e2 hm hd
      rcases findI_cases l' f.name with ⟨q1, q2⟩ | ⟨i, f2, q1, q2, q3⟩
      · rw [q1] at hfd
        have e3 : ((l.take (k + 1)).filter (fun f => (dataOf l' f.name).isNone)).map (fun f => delS f.name) = (((l.take k).filter fun f => (dataOf l' f.name).isNone).map fun f => delS f.name) ++ [delS f.name] := by rw [e2'.out, List.filter_append]; simp [q2]
        have e3' := Lib.hid e3
        clear e3 q1 q2
        go_wp2_with (fail)
        refine hfd.mono ?_
        rintro e w1 ⟨rfl, rfl⟩
        clear hfd
        go_wp2_with (at_builtin; refine stop_here ?_)
        refine ⟨?_, trivial⟩
        have hxa := Ext.alloc w1 (.cells #[.int .i64 11, .string (mkS f.name), .slice none 0 0, .int .i64 0, .slice none 0 0, .int .i64 0, .int .u8 0] 49)
        have hsa := (hx.trans hxa).size
        refine wpList_append_reps (K := kOp) rfl _ _ _ rfl el_ops (by decide) rfl m hm'.out (hown.ext hxa) _ _ _ _ rfl [delS f.name] rfl (by omega) _ (Kd.reps_single (kOp.keep hrep (hx.trans hxa).size (fun k _ hk => (hx.trans hxa).block k hk))) (rangeAt_new' _ [.int .i64 11, .string (mkS f.name), .slice none 0 0, .int .i64 0, .slice none 0 0, .int .i64 0, .int .u8 0] _ (by simp)) ?_ ?_ ?_ ?_ ?_
        · intro k' hk'
          have h2 := hk'.2
          refine ⟨by omega, fun he => ?_⟩
          have h1 := (hown.block k' he).1
          omega
        · simp [maxLen]; omega
        · omega
        · omega
        intro g5 cap5 w5 hown5 hg5 hat5 hbase5 hlt5
        have hx5 : Ext w w5 := Below.grown (hx.trans hxa) hg5 hsa (fun k' hk' => (hown.block k' hk').1)
        have hown5' := hown5.iff (F' := (fun k => A k ∧ k < w.heap.size)) (fun k => or_self_iff)
        have hown6 := Lib.hid hown5'
        clear hown hown5 hown5' hg5 hat5 hxa
        rw [← e3'.out] at hown6
        go_wp2
        go_roundw
        case rel => exact ⟨k + 1, m + 1, by omega, by omega, by go_num, hown6.out, hx5, by rw [e3'.out, List.length_append, hm'.out]; rfl⟩
        case measure => simp [intOf]; omega
      · rw [q1] at hfd
        have e3 : ((l.take (k + 1)).filter (fun f => (dataOf l' f.name).isNone)).map (fun f => delS f.name) = (((l.take k).filter fun f => (dataOf l' f.name).isNone).map fun f => delS f.name) := by rw [e2'.out, List.filter_append]; simp [q3]
        rw [← e3] at hown
        have e3' := Lib.hid e3
        have hown6 := Lib.hid hown
        have j0 : ¬ ((i : Int) < 0) := by omega
        clear e3 q1 q2 q3 hown
        go_wp2_with (fail)
        refine hfd.mono ?_
        rintro e w1 ⟨rfl, rfl⟩
        clear hfd
        go_wp2
        go_roundw
        case rel => exact ⟨k + 1, m, by omega, by omega, by go_num, hown6.out, hx, by rw [e3'.out]; exact hm'.out⟩
        case measure => simp [intOf]; omega
    · obtain rfl : k = n := by omega
      have e1 : ((l.take k).filter (fun f => (dataOf l' f.name).isNone)).map (fun f => delS f.name) = goneR l l' := by rw [List.take_of_length_le (by rw [hl.out]; exact Nat.le_refl _)]; rfl
      rw [e1] at hown hm
      have hm1 := Lib.hid hm
      clear e1 hm
      go_wp2
      go_loopw [5, 7] (fun out i wr => ∃ j m, j ≤ n' ∧ m ≤ k + j ∧ i = .int .i64 (j : Nat) ∧ OwnsF kOp 49 w.heap.size (fun k => A k ∧ k < w.heap.size) wr out (goneR l l' ++ ((l'.take j).filter fun f => !(dataOf l f.name == dataOf l' f.name)).map fun f => putS f.name f.data) ∧ Ext w wr ∧ (goneR l l' ++ ((l'.take j).filter fun f => !(dataOf l f.name == dataOf l' f.name)).map fun f => putS f.name f.data).length = m)
        (fun _ i _ => n' - (intOf i).toNat)
      case atStart => exact ⟨0, m, Nat.zero_le _, by omega, rfl, by simpa using hown, hx, by simpa using hm1.out⟩
      case round =>
        clear hown hx hsx hm1 hmk
        obtain ⟨j, m, hj, hmj, rfl, hown, hx, hm⟩ := hrel
        have hsx := hx.size
        by_cases hlt : j < n'
        · obtain ⟨f, hfk⟩ : ∃ f, l'[j]? = some f := ⟨_, List.getElem?_eq_getElem (by rw [hl'.out]; exact hlt)⟩
          obtain ⟨b, o, ad, m2, cc, rfl, hA, hb, hc0, hc1, hns, hmc, hcm, hd⟩ := files_at h' j f hfk
          have e2 : l'.take (j + 1) = l'.take j ++ [f] := by rw [List.take_add_one, hfk]; rfl
          have e2' := Lib.hid e2
          have hm' := Lib.hid hm
          have hrep : kOp.rep (fun k => A k ∧ k < w.heap.size) w (putS f.name f.data) [.int .i64 3, .string (mkS f.name), .slice ad m2 cc, .int .i64 0, .slice none 0 0, .int .i64 0, .int .u8 0] := kOp.real (kOp_mk (o := putS f.name f.data) hns hmc hcm (hd w (Ext.refl _)) (Nat.le_refl _) (by decide) holds_none lit3 lit0 lit0)
          have hlk := ref_like _ A a k c l _ n' c' l' f.name (h.ext hx) (h'.ext hx)
          have i0 : (0 : Int) ≤ (j : Int) := by omega
          have i1 : (j : Int) < (n' : Int) := by omega
          have e0 := hc0 _ hx
          clear hfk e2 hm hd
          cases q : dataOf l f.name == dataOf l' f.name with
          | true =>
            rw [q] at hlk
            have e3 : ((l'.take (j + 1)).filter fun f => !(dataOf l f.name == dataOf l' f.name)).map (fun f => putS f.name f.data) = (((l'.take j).filter fun f => !(dataOf l f.name == dataOf l' f.name)).map fun f => putS f.name f.data) := by rw [e2'.out, List.filter_append]; simp [q]
            rw [← e3] at hown
            have e3' := Lib.hid e3
            have hm2 := Lib.hid (show (goneR l l' ++ ((l'.take (j + 1)).filter fun f => !(dataOf l f.name == dataOf l' f.name)).map (fun f => putS f.name f.data)).length = m by rw [e3]; exact hm'.out)
            clear e3 q
            go_wp2_with (fail)
            refine hlk.mono ?_
            rintro e w1 ⟨rfl, hx1⟩
            clear hlk
            have hown6 := Lib.hid (hown.ext hx1)
            have hx6 := hx.trans hx1
            clear hown hc0 hc1 e0
            go_wp2
            go_roundw
            case rel => exact ⟨j + 1, m, by omega, by omega, by go_num, hown6.out, hx6, hm2.out⟩
            case measure => simp [intOf]; omega
          | false =>
            rw [q] at hlk
            have e3 : (goneR l l' ++ ((l'.take (j + 1)).filter fun f => !(dataOf l f.name == dataOf l' f.name)).map (fun f => putS f.name f.data)) = (goneR l l' ++ ((l'.take j).filter fun f => !(dataOf l f.name == dataOf l' f.name)).map fun f => putS f.name f.data) ++ [putS f.name f.data] := by rw [e2'.out, List.filter_append, List.map_append, List.append_assoc]; simp [q]
            have e3' := Lib.hid e3
            clear e3 q
            go_wp2_with (fail)
            refine hlk.mono ?_
            rintro e w1 ⟨rfl, hx1⟩
            clear hlk e0
            have hxd : Ext w w1.drew := (hx.trans hx1).trans (Ext.drew _)
            have hownd := hown.ext (hx1.trans (Ext.drew _))
            have d0 := hc0 _ (hx.trans hx1)
            have d1 := hc1 _ (hx.trans hx1)
            clear hown
            have hxa := Ext.alloc w1.drew (.cells #[.int .i64 3, .string (mkS f.name), .slice ad m2 cc, .int .i64 0, .slice none 0 0, .int .i64 0, .int .u8 0] 49)
            have hsa := (hxd.trans hxa).size
            have hne : some b ≠ u5.ownBlock := fun he => by have := (hownd.block b he.symm).1; omega
            have dd0 := hc0 _ (hxd.trans hxa)
            have dd1 := hc1 _ (hxd.trans hxa)
            have hcc0 := hc0 _ hxd
            have hcc1 := hc1 _ hxd
            go_wp2
            go_region_held3 (fun w' => w'.cell? ⟨b, o + j * 2, none⟩ = some (.string (mkS f.name)) ∧ w'.cell? ⟨b, o + j * 2 + 1, none⟩ = some (.slice ad m2 cc))
              (first | (exact ⟨hcc0, hcc1⟩) | (exact ⟨dd0, dd1⟩) | (exact ⟨hb0, hb1⟩))
              (first
                | (refine step_append_reps (K := kOp) rfl _ _ _ rfl el_ops (by decide) rfl m hm'.out (hownd.ext hxa) _ _ _ _ rfl [putS f.name f.data] rfl (by omega) _ (Kd.reps_single (kOp.keep hrep (hxd.trans hxa).size (fun k _ hk => (hxd.trans hxa).block k hk))) (rangeAt_new' _ [.int .i64 3, .string (mkS f.name), .slice ad m2 cc, .int .i64 0, .slice none 0 0, .int .i64 0, .int .u8 0] _ (by simp)) ?_ ?_ ?_ ?_ ?_
                   · intro k' hk'
                     have h2 := hk'.2
                     refine ⟨Nat.lt_of_lt_of_le h2 hsa, fun he => ?_⟩
                     have h1 := (hownd.block k' he).1
                     omega
                   · simp [maxLen]; omega
                   · omega
                   · exact hsa
                   intro g5 cap5 w5 hown5 hg5 hat5 hbase5 hlt5
                   have hb0 := (hg5.cell_far ⟨b, o + j * 2, none⟩ (Nat.lt_of_lt_of_le hb hsa) hne).trans dd0
                   have hb1 := (hg5.cell_far ⟨b, o + j * 2 + 1, none⟩ (Nat.lt_of_lt_of_le hb hsa) hne).trans dd1))
            have hx5 : Ext w w5 := Below.grown (hxd.trans hxa) hg5 hsa (fun k' hk' => (hownd.block k' hk').1)
            have hown5' := hown5.iff (F' := (fun k => A k ∧ k < w.heap.size)) (fun k => or_self_iff)
            have hown6 := Lib.hid hown5'
            clear hownd hown5 hown5' hg5 hat5 hxa dd0 dd1 hcc0 hcc1
            rw [← e3'.out] at hown6
            clear hc0 hc1 d0 d1
            go_wp2
            go_roundw
            case rel => exact ⟨j + 1, m + 1, by omega, by omega, by go_num, hown6.out, hx5, by rw [e3'.out, List.length_append, hm'.out]; rfl⟩
            case measure => simp [intOf]; omega
        · obtain rfl : j = n' := by omega
          have e1 : ((l'.take j).filter fun f => !(dataOf l f.name == dataOf l' f.name)).map (fun f => putS f.name f.data) = putsR l l' := by rw [List.take_of_length_le (l := l') (by rw [hl'.out]; exact Nat.le_refl _)]; rfl
          rw [e1] at hown
          go_wp2
          go_ret
          exact ⟨_, rfl, hown, hx⟩
end Go.Proofs.YtaenackibigojaaDoor

/- Part of the proofs: goneS, putsS, diffS, namesS_len, holds_len, diff_: each says what its head says. -/
import Derived.Test.YtaenackibigojaaDoorP14
set_option linter.unusedVariables false
set_option linter.unusedSimpArgs false
namespace Go.BK
def goneS (a b : List File) : List Stp := ((namesS [a, b]).filter fun s => !has b s).map delS
def putsS (a b : List File) : List Stp := ((namesS [a, b]).filter fun s => has b s && !(dataOf a s == dataOf b s)).map fun s => putS s ((dataOf b s).getD [])
def diffS (a b : List File) : List Stp := goneS a b ++ putsS a b
theorem namesS_len (ls : List (List File)) : (namesS ls).length ≤ (allN ls).length := by
  unfold namesS
  refine Nat.le_trans (Lib.compact_length_le _) ?_
  rw [List.length_mergeSort]; exact Nat.le_refl _
theorem holds_len {A : Nat → Prop} {w : World} {a : Option Addr} {n : Nat} {l : List Str} (h : Holds kStr A w a n l) (s : Str) (hs : s ∈ l) : s.length ≤ maxLen := by
  obtain ⟨i, hi⟩ := List.mem_iff_getElem?.1 hs
  obtain ⟨b, o, _, _, _, _, hl⟩ := strs_at h i s hi
  exact hl
end Go.BK
namespace Go.Proofs.YtaenackibigojaaDoor
open Go.RowKit Go.BK

set_option maxHeartbeats 1000000 in
set_option maxRecDepth 100000 in
theorem diff_ (w : World) (A : Nat → Prop) (aa : Option Addr) (na ca : Nat) (la : List File) (ab : Option Addr) (nb cb : Nat) (lb : List File)
    (hA : Holds kFile A w aa na la) (hmA : Mild la) (hsA : Srt la) (hca : na ≤ ca) (hca2 : ca ≤ maxLen) (hB : Holds kFile A w ab nb lb) (hmB : Mild lb) (hsB : Srt lb) (hcb : nb ≤ cb) (hcb2 : cb ≤ maxLen) (hlA : la.length ≤ 1073741824) (hlB : lb.length ≤ 1073741824) :
    Calls Tryd.prog 17 #[.slice aa na ca, .slice ab nb cb] w fun e w' => ∃ v, e = .returned v ∧ Owns kOp 49 w.heap.size (fun k => w.heap.size ≤ k) w' v (diffS la lb) ∧ Ext w w' := by
  obtain ⟨W0, hW0⟩ : ∃ W, (w.alloc (.cells #[.slice aa na ca] 22)).alloc (.cells #[.slice ab nb cb] 22) = W := ⟨_, rfl⟩
  have hx0 : Ext w W0 := by rw [← hW0]; exact (Ext.alloc _ _).trans (Ext.alloc _ _)
  have hsz0 : W0.heap.size = w.heap.size + 2 := by rw [← hW0]; simp
  have hcA : ∀ W, Ext W0 W → W.cell? ⟨w.heap.size, 0, none⟩ = some (.slice aa na ca) := fun W hW => by
    refine (hW.cell (p := ⟨w.heap.size, 0, none⟩) (by rw [hsz0]; simp)).trans ?_
    rw [← hW0]; simp
  have hcB : ∀ W, Ext W0 W → W.cell? ⟨w.heap.size + 1, 0, none⟩ = some (.slice ab nb cb) := fun W hW => by
    refine (hW.cell (p := ⟨w.heap.size + 1, 0, none⟩) (by rw [hsz0]; simp)).trans ?_
    rw [← hW0]; simp
  go_enter Tryd.func17, Tryd.ntmps17
  go_wp2_with (fail)
  have hx01 : Ext W0 (W0.alloc (.cells #[.slice aa na ca, .slice ab nb cb] 22)) := Ext.alloc _ _
  have hmaps : Holds (kSlice kFile) (fun k => A k ∨ w.heap.size ≤ k) (W0.alloc (.cells #[.slice aa na ca, .slice ab nb cb] 22)) (some ⟨w.heap.size + 2, 0, none⟩) 2 [la, lb] := by
    refine ⟨rfl, by decide, [.slice aa na ca, .slice ab nb cb], ⟨[.slice aa na ca], [.slice ab nb cb], rfl, ⟨aa, na, ca, rfl, hca, hca2, (hA.ext (hx0.trans hx01)).wide (fun _ h => .inl h)⟩, [.slice ab nb cb], [], rfl, ⟨ab, nb, cb, rfl, hcb, hcb2, (hB.ext (hx0.trans hx01)).wide (fun _ h => .inl h)⟩, rfl⟩, fun _ => ⟨_, _, rfl, .inr (by omega), by simp [hsz0], ?_⟩⟩
    exact rangeAt_new' W0 [.slice aa na ca, .slice ab nb cb] _ hsz0
  have hal : (allN [la, lb]).length = la.length + lb.length := by simp [allN]
  have hnl := namesS_len [la, lb]
  rw [hal] at hnl
  refine (names_ _ _ _ 2 2 [la, lb] hmaps (Fits.of _ (Nat.le_refl _) (by rw [hal]; omega))).mono ?_
  rintro e w1 ⟨v1, rfl, hov1, hx1⟩
  have hx1' : Ext W0 w1 := hx01.trans hx1
  obtain ⟨a1, c1, rfl, hc1, hcm1, hh1⟩ := hov1.holds
  clear hov1 hmaps
  have hfn : Fits (namesS [la, lb]).length := Fits.of _ hnl (by omega)
  have hen1 : ∀ args w, (callFunc 32 args).run Tryd.prog w = .ok (.enter 32 args) w := enters_of Tryd.func32 (by kernel_rfl) rfl
  have hen2 : ∀ args w, (callFunc 34 args).run Tryd.prog w = .ok (.enter 34 args) w := enters_of Tryd.func34 (by kernel_rfl) rfl
  have hp1 := pick_ w1 _ a1 _ c1 _ 32 #[.pointer (some ⟨w.heap.size + 1, 0, none⟩)] (fun s => !has lb s) delS hh1 hfn hen1 (fun W s hW hs =>
    diff1 W A ab nb cb lb s (w.heap.size + 1) (by have := (hx1'.trans hW).size; omega) (hcB _ (hx1'.trans hW)) (hB.ext (hx0.trans (hx1'.trans hW))) hmB hsB (holds_len hh1 s hs))
  have hp2 := fun w2 (hx2 : Ext w1 w2) => pick_ w2 _ a1 _ c1 _ 34 #[.pointer (some ⟨w.heap.size + 1, 0, none⟩), .pointer (some ⟨w.heap.size, 0, none⟩)] (fun s => has lb s && !(dataOf la s == dataOf lb s)) (fun s => putS s ((dataOf lb s).getD [])) (hh1.ext hx2) hfn hen2 (fun W s hW hs =>
    diff2 W A aa na ca la ab nb cb lb s w.heap.size (w.heap.size + 1) (by have := (hx1'.trans (hx2.trans hW)).size; omega) (hcA _ (hx1'.trans (hx2.trans hW))) (by have := (hx1'.trans (hx2.trans hW)).size; omega) (hcB _ (hx1'.trans (hx2.trans hW)))
      (hA.ext (hx0.trans (hx1'.trans (hx2.trans hW)))) hmA hsA (hB.ext (hx0.trans (hx1'.trans (hx2.trans hW)))) hmB hsB (holds_len hh1 s hs))
  have hg : Hid (goneS la lb = ((namesS [la, lb]).filter fun s => !has lb s).map delS) := Lib.hid rfl
  have hu : Hid (putsS la lb = ((namesS [la, lb]).filter fun s => has lb s && !(dataOf la s == dataOf lb s)).map fun s => putS s ((dataOf lb s).getD [])) := Lib.hid rfl
  have hgl : Hid ((goneS la lb).length ≤ 2147483648) := Lib.hid (by rw [hg.out, List.length_map]; exact Nat.le_trans (List.length_filter_le _ _) (by omega))
  have hul : Hid ((putsS la lb).length ≤ 2147483648) := Lib.hid (by rw [hu.out, List.length_map]; exact Nat.le_trans (List.length_filter_le _ _) (by omega))
  clear hcA hcB hA hB hmA hmB hsA hsB hen1 hen2 hh1 hfn hnl hal
  rw [← hg.out] at hp1
  rw [← hu.out] at hp2
  go_wp2_with (fail)
  refine hp1.mono ?_
  rintro e w2 ⟨v2, rfl, hov2, hx2⟩
  clear hp1
  have hp2' := hp2 w2 hx2
  go_wp2_with (fail)
  refine hp2'.mono ?_
  rintro e w3 ⟨v3, rfl, hov3, hx3⟩
  clear hp2 hp2'
  obtain ⟨a3, c3, rfl, hc3, hcm3, hh3⟩ := hov3.holds
  obtain ⟨F2, hF2, hown2⟩ := hov2
  have hb2 := hown2.block
  have hxw3 : Ext w w3 := hx0.trans (hx1'.trans (hx2.trans hx3))
  have hxs := (hx0.trans hx1').size
  have hxs2 := hx2.size
  have hh3' := hh3.real
  clear hc3 hcm3 hov3 hh3 hc1 hcm1
  go_wp2_with (at_builtin; refine stop_here ?_)
  refine ⟨?_, trivial⟩
  refine wpList_append_holds rfl _ _ _ rfl el_ops (by decide) rfl (hown2.ext hx3) _ _ _ rfl hh3' ?_ ?_ ?_ ?_ ?_
  · intro k hk _ he
    have h1 := (hb2 k he).2
    have h2 := hk.1
    omega
  · have := hgl.out; have := hul.out; simp [maxLen]; omega
  · have := hgl.out; have := hul.out; simp; omega
  · have := hx3.size; omega
  · intro v' w' hown hgr hwhere
    go_wp2
    go_ret
    refine ⟨v', rfl, ⟨_, ?_, OwnsF.lower hown hxs⟩, hxw3.grown hgr hxw3.size ?_⟩
    · rintro k (hk | hk)
      · have := hF2 k hk; omega
      · have := hk.1.1; omega
    · intro k hk
      have := (hb2 k hk).1; omega
end Go.Proofs.YtaenackibigojaaDoor

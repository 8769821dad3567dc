/- Part of the proofs: kFile_at, ref_without: each says what its head says. -/
import Derived.Test.YtaenackibigojaaDoorP16
import Derived.Test.YtaenackibigojaaDoorR2
set_option linter.unusedVariables false
set_option linter.unusedSimpArgs false
namespace Go.BK
theorem kFile_at {A : Nat → Prop} {w : World} {a : Option Addr} {n : Nat} {l : List File} (h : Holds kFile A w a n l) (i : Nat) (f : File) (hf : l[i]? = some f) :
    ∃ b o ad m c, a = some ⟨b, o, none⟩ ∧ A b ∧ b < w.heap.size ∧ (∀ W, Ext w W → W.cell? ⟨b, o + i * 2, none⟩ = some (.string (mkS f.name))) ∧ (∀ W, Ext w W → W.cell? ⟨b, o + i * 2 + 1, none⟩ = some (.slice ad m c)) ∧
      kFile.rep (fun k => A k ∧ k < w.heap.size) w f [.string (mkS f.name), .slice ad m c] ∧ (∀ W, Ext w W → Holds kByte A W ad m f.data) := by
  obtain ⟨b, o, ad, m, c, ha, hA, hb, h0, h1, h2, h3, h4, h5⟩ := files_at h i f hf
  exact ⟨b, o, ad, m, c, ha, hA, hb, h0, h1, kFile.real (kFile_mk h2 h3 h4 (h5 w (Ext.refl w))), h5⟩
end Go.BK
namespace Go.Proofs.YtaenackibigojaaDoor
open Go.RowKit Go.BK

set_option maxHeartbeats 1000000 in
set_option maxRecDepth 100000 in
theorem ref_without (w : World) (A : Nat → Prop) (a : Option Addr) (n c : Nat) (l : List File) (s : Str) (h : Holds kFile A w a n l) (hf : Fits n) :
    Calls Tryd.prog 26 #[.slice a n c, .string (mkS s)] w fun e w' => ∃ v, e = .returned v ∧ OwnsF kFile 29 w.heap.size (fun k => A k ∧ k < w.heap.size) w' v (withoutP l s) ∧ Ext w w' := by
  have hl := Lib.hid h.1
  have hnn : n ≤ 1099511627776 := hf.out
  go_enter Tryd.func26, Tryd.ntmps26
  go_wp2
  go_loopw [5, 6] (fun out i wr => ∃ k m, k ≤ n ∧ m ≤ k ∧ i = .int .i64 (k : Nat) ∧ OwnsF kFile 29 w.heap.size (fun k => A k ∧ k < w.heap.size) wr out ((l.take k).filter fun f => f.name != s) ∧ Ext w wr ∧ ((l.take k).filter fun f => f.name != s).length = m)
    (fun _ i _ => n - (intOf i).toNat)
  case atStart => exact ⟨0, 0, Nat.zero_le _, Nat.le_refl _, rfl, ⟨fun _ h => h.2, fun k h => by simp [Value.ownBlock] at h, [], World.ownsRow_nil _ _ _ _, rfl⟩, Ext.refl _, rfl⟩
  case round =>
    obtain ⟨k, m, hk, hmk, rfl, hown, hx, hm⟩ := hrel
    by_cases hlt : k < n
    · obtain ⟨f, hfk⟩ : ∃ f, l[k]? = some f := ⟨_, List.getElem?_eq_getElem (by rw [hl.out]; exact hlt)⟩
      obtain ⟨b, o, ad, m2, cc, rfl, hA, hb, hc0, hc1, hrep, hd⟩ := kFile_at h k f hfk
      have e0 := hc0 _ hx
      have e1 := hc1 _ hx
      have e2 : l.take (k + 1) = l.take k ++ [f] := by rw [List.take_add_one, hfk]; rfl
      have e2' := Lib.hid e2
      have hm' := Lib.hid hm
      clear hfk hc0 hc1 e2 hm hd
      cases hs : f.name == s with
      | true =>
        have hn : (f.name != s) = false := by simp [bne, hs]
        have e3 : (l.take (k + 1)).filter (fun f => f.name != s) = (l.take k).filter fun f => f.name != s := by rw [e2'.out, List.filter_append]; simp [hn]
        rw [← e3] at hown
        have e3' := Lib.hid e3
        have hown' := Lib.hid hown
        clear hown e3
        go_wp2
        go_roundw
        case rel => exact ⟨k + 1, m, by omega, by omega, by go_num, hown'.out, hx, by rw [e3'.out]; exact hm'.out⟩
        case measure => simp [intOf]; omega
      | false =>
        have hn : (f.name != s) = true := by simp [bne, hs]
        have e3 : (l.take (k + 1)).filter (fun f => f.name != s) = ((l.take k).filter fun f => f.name != s) ++ [f] := by rw [e2'.out, List.filter_append]; simp [hn]
        have e3' := Lib.hid e3
        clear e3
        go_wp2_with (at_builtin; refine stop_here ?_)
        refine ⟨?_, trivial⟩
        have hxa := Ext.alloc wr (.cells #[.string (mkS f.name), .slice ad m2 cc] 29)
        refine wpList_append_reps (K := kFile) rfl _ _ _ rfl el_files (by decide) rfl m hm'.out (hown.ext hxa) _ _ _ _ rfl [f] rfl (by omega) _ (Kd.reps_single (kFile.keep hrep (hx.trans hxa).size (fun k _ hk => (hx.trans hxa).block k hk))) (rangeAt_new' _ [.string (mkS f.name), .slice ad m2 cc] _ (by simp)) ?_ ?_ ?_ ?_ ?_
        · intro k' hk'
          refine ⟨Nat.lt_of_lt_of_le hk'.2 (hx.trans hxa).size, fun he => ?_⟩
          have h1 := (hown.block k' he).1
          have h2 := hk'.2
          omega
        · simp [maxLen]; omega
        · omega
        · exact (hx.trans hxa).size
        intro g3 cap3 w3 hown3 hg3 hat3 hbase3 hlt3
        have hx4 : Ext w w3 := (hx.trans hxa).grown hg3 (hx.trans hxa).size (fun k' hk' => (hown.block k' hk').1)
        rw [← e3'.out] at hown3
        have hown4 := Lib.hid (hown3.iff (F' := fun k => A k ∧ k < w.heap.size) (fun k => or_self_iff))
        clear hown hown3 hg3 hxa hx
        go_wp2
        go_roundw
        case rel => exact ⟨k + 1, m + 1, by omega, by omega, by go_num, hown4.out, hx4, by rw [e3'.out, List.length_append, hm'.out]; rfl⟩
        case measure => simp [intOf]; omega
    · obtain rfl : k = n := by omega
      have e1 : (l.take k).filter (fun f => f.name != s) = withoutP l s := by rw [List.take_of_length_le (by rw [hl.out]; exact Nat.le_refl _)]; rfl
      rw [e1] at hown
      go_wp2
      go_ret
      exact ⟨_, rfl, hown, hx⟩
end Go.Proofs.YtaenackibigojaaDoor

/- Part of the proofs: with_: each says what its head says. -/
import Derived.Test.YtaenackibigojaaDoorP2
import Derived.Test.YtaenackibigojaaDoorQ2
set_option linter.unusedVariables false
set_option linter.unusedSimpArgs false
namespace Go.Proofs.YtaenackibigojaaDoor
open Go.RowKit Go.BK

set_option maxHeartbeats 1000000 in
set_option maxRecDepth 100000 in
theorem with_ (w : World) (A B : Nat → Prop) (a ad : Option Addr) (n c m cc : Nat) (l : List File) (s : Str) (d : List UInt8) (h : Holds kFile A w a n l) (hm : Mild l) (hs : Srt l) (hd : Holds kByte B w ad m d) (hdm : Fits m) (hsl : s.length ≤ maxLen) :
    Calls Tryd.prog 22 #[.slice a n c, .string (mkS s), .slice ad m cc] w fun e w' =>
      ∃ v, e = .returned v ∧ Owns kFile 29 w.heap.size (fun k => w.heap.size ≤ k) w' v (withP l s d) ∧ Ext w w' := by
  have hfn : Fits n := by have := hm.len; rwa [h.1] at this
  have hl := Lib.hid h.1
  have hs' := Lib.hid hs
  clear hs
  go_enter Tryd.func22, Tryd.ntmps22
  go_wp2_with (go_at_call 37; refine (copied _ A _ _ _ l h hm).mono ?_; rintro e w1 ⟨F, rfl, hown, hF, hx1⟩)
  go_wp2_with (go_at_call 38; refine (cloneBytes _ B _ _ _ d (hd.ext hx1) hdm).mono ?_; rintro e w2 ⟨v, rfl, hov, hx2⟩; obtain ⟨av, cv, rfl, hcv, hcv2, hh2⟩ := hov.holds)
  obtain ⟨W8, hW8⟩ : ∃ W, w2.alloc (.cells #[.string (mkS s), .slice av d.length cv] 29) = W := ⟨_, rfl⟩
  have hx8 : Ext w2 W8 := by rw [← hW8]; exact Ext.alloc _ _
  have hsz8 : W8.heap.size = w2.heap.size + 1 := by rw [← hW8]; simp
  have hw12 := hx1.size
  have hw22 := hx2.size
  have hn8 : W8.heap[w2.heap.size]? = some (.cells #[.string (mkS s), .slice av d.length cv] 29 (0, 0)) := by rw [← hW8]; exact heap_alloc_new w2 _
  have hown8 := (hown.ext hx2).ext hx8
  have hold8 := hown8.holds'
  have hho := hold8.1
  have hgw := (hown.block _ rfl).2
  go_wp2_with (fail)
  refine (place W8 _ _ _ _ l s hho hfn hs'.out).mono ?_
  rintro e w4 ⟨rfl, hx4⟩
  have hbox : ∀ W, Ext w4 W → W.cell? ⟨w2.heap.size, 0, none⟩ = some (.string (mkS s)) ∧ W.cell? ⟨w2.heap.size, 1, none⟩ = some (.slice av d.length cv) := fun W hW => by
    have hq := (Ext.trans hx4 hW).block w2.heap.size (by omega)
    rw [hn8] at hq
    exact ⟨(cell_of_row _ _ _ _ _ _ hq).trans rfl, (cell_of_row _ _ _ _ _ _ hq).trans rfl⟩
  have hbox0 := fun W hW => (hbox W hW).1
  have hbox1 := fun W hW => (hbox W hW).2
  have hx04 : Ext w w4 := ((hx1.trans hx2).trans hx8).trans hx4
  have hown4 := hown8.ext hx4
  have hrep : kFile.rep (fun k => w1.heap.size ≤ k ∧ k < w4.heap.size) w4 ⟨s, d⟩ [.string (mkS s), .slice av d.length cv] :=
    kFile_mk hsl hcv hcv2 (((hh2.ext (hx8.trans hx4)).real).wide (fun k hk => ⟨by have := hk.1; simpa using this, hk.2⟩))
  have hpl := pos_le l s
  rw [hl.out] at hpl
  have hwo := Lib.hid (show withP l s d = if has l s then l.set (pos l s) ⟨s, d⟩ else l.take (pos l s) ++ ⟨s, d⟩ :: l.drop (pos l s) from rfl)
  have hps := Lib.hid (fun hh : has l s = true => has_pos_lt hh)
  clear hbox hW8 hn8 hown8 hold8 hho hown hh2 hov hx8 hx2
  generalize pos l s = p at *
  cases hhas : has l s with
  | true =>
    have hp1 : p < n := by have := hps.out hhas; have := hl.out; omega
    clear hps
    obtain ⟨hst, hthere⟩ := OwnsF.store hown4 hl.out p hp1 ⟨s, d⟩ _ hrep (fun k hk => ⟨hk.2, by have := hk.1; omega⟩)
    rw [show kFile.sz = 2 from rfl] at hst hthere
    obtain ⟨u0, hu0⟩ := Option.isSome_iff_exists.1 (hthere 0 (by simp)).1
    obtain ⟨u1, hu1⟩ := Option.isSome_iff_exists.1 (hthere 1 (by simp)).1
    have hf0 := (hthere 0 (by simp)).2
    have hf1 := (hthere 1 (by simp)).2
    simp only [Nat.add_zero] at hu0 hf0
    have hx5 : Ext w (w4.setCells w.heap.size (p * 2) [.string (mkS s), .slice av d.length cv]) := hx04.grown (grown_setCells _ _ _ _) hx04.size (fun k hk => Nat.le_of_eq (Option.some.inj hk))
    have hfin : Hid (Owns kFile 29 w.heap.size (fun k => w.heap.size ≤ k) (w4.setCells w.heap.size (p * 2) [.string (mkS s), .slice av d.length cv]) (.slice (some ⟨w.heap.size, 0, none⟩) n n) (withP l s d)) :=
      Lib.hid ⟨fun k => F k ∨ (w1.heap.size ≤ k ∧ k < w4.heap.size), fun k hk => by
        rcases hk with hk | hk
        · exact hF k hk
        · have := hk.1; omega, by rw [hwo.out, hhas, if_pos rfl]; exact hst⟩
    have hx5' := Lib.hid hx5
    clear hx5 hst hthere hrep hown4
    go_wp2
    go_ret
    exact ⟨.slice (some ⟨w.heap.size, 0, none⟩) n n, rfl, hfin.out, hx5'.out⟩
  | false =>
    have hbx : Holds kFile (fun k => w1.heap.size ≤ k) w4 (some ⟨w4.heap.size, 0, none⟩) 0 [] := Holds.nil _ _ _ _
    have hnb := OwnsF.lit (xs := [(⟨s, d⟩ : File)]) (vs := [.string (mkS s), .slice av d.length cv]) w4 kFile 29 w4.heap.size (fun k => w1.heap.size ≤ k ∧ k < w4.heap.size) (Kd.reps_single hrep) (fun k hk => hk.2) (Nat.le_refl _) (by simp [maxLen])
    have hn1 := (OwnsF.holds' hnb).1
    have hoh := ((hown4.ext (Ext.alloc w4 (.cells #[.string (mkS s), .slice av d.length cv] 29))).holds').1
    have hx6 : Ext w (w4.alloc (.cells #[.string (mkS s), .slice av d.length cv] 29)) := hx04.trans (Ext.alloc _ _)
    go_wp2_with (go_at_call 40; refine (insert1 _ _ _ _ n p l hoh hfn hpl w4.heap.size ⟨s, d⟩ hn1).mono ?_; rintro e w7 ⟨v, rfl, hres, hx7⟩)
    go_ret
    refine ⟨v, rfl, ?_, hx6.trans hx7⟩
    rw [hwo.out, hhas, if_neg (by simp)]
    refine (hres.wide (A' := fun k => w.heap.size ≤ k) ?_).lower ?_
    · intro k hk
      rcases hk with hk | hk
      · rcases hk with hk | hk
        · exact hF k hk
        · exact Nat.le_of_eq (Option.some.inj hk)
      · rcases hk with hk | hk
        · have := hk.1; omega
        · have : w4.heap.size = k := Option.some.inj hk
          have := hx04.size; omega
    · have := hx04.size; simp; omega
end Go.Proofs.YtaenackibigojaaDoor

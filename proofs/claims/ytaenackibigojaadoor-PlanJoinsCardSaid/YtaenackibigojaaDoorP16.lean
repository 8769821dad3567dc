/- Part of the proofs: stepE_ok, stepE_err, applyE_err, applyE_good, BackPost, back_: each says what its head says. -/
import Derived.Test.YtaenackibigojaaDoorP15
set_option linter.unusedVariables false
set_option linter.unusedSimpArgs false
namespace Go.BK
theorem stepE_ok {l L : List File} {o : Stp} (h : stepE l o = .ok L) : refusedE l o = 0 ∧ L = if o.kind = 3 then withP l o.name o.data else withoutP l o.name := by
  unfold stepE at h
  split at h
  · next h0 => exact ⟨h0, by injection h with h; exact h.symm⟩
  · cases h
theorem stepE_err {l : List File} {o : Stp} {x : Int} (h : stepE l o = .error x) : x ≠ 0 := by
  unfold stepE at h
  split at h
  · cases h
  · next h0 => injection h with h; rw [← h]; exact h0
theorem applyE_err : ∀ {os : List Stp} {l : List File} {x : Int}, applyE l os = .error x → x ≠ 0
  | [], l, x, h => by cases h
  | o :: os, l, x, h => by
    rw [applyE_cons] at h
    cases hs : stepE l o with
    | ok l' => rw [hs] at h; exact applyE_err (os := os) h
    | error y => rw [hs] at h; injection h with h; subst h; exact stepE_err hs
theorem applyE_good : ∀ {os : List Stp} {l L : List File}, applyE l os = .ok L → Srt l → (∀ f ∈ l, Fits f.data.length) → (∀ o ∈ os, Fits o.data.length) → Srt L ∧ L.length ≤ l.length + os.length ∧ ∀ f ∈ L, Fits f.data.length
  | [], l, L, h, hs, hd, ho => by
    injection h with h; subst h; exact ⟨hs, by simp, hd⟩
  | o :: os, l, L, h, hs, hd, ho => by
    rw [applyE_cons] at h
    cases hst : stepE l o with
    | error y => rw [hst] at h; cases h
    | ok l' =>
      rw [hst] at h
      obtain ⟨h0, rfl⟩ := stepE_ok hst
      have ho1 : Fits o.data.length := ho o (List.mem_cons_self ..)
      have ho2 : ∀ o ∈ os, Fits o.data.length := fun o' h' => ho o' (List.mem_cons_of_mem _ h')
      by_cases hk : o.kind = 3
      · rw [if_pos hk] at h
        have hl := len_withP l o.name o.data
        obtain ⟨r1, r2, r3⟩ := applyE_good (os := os) h (srt_withP hs _ _) (fun f hf => by
          rcases mem_withP hf with h | rfl
          · exact hd f h
          · exact ho1) ho2
        exact ⟨r1, by rw [List.length_cons]; omega, r3⟩
      · rw [if_neg hk] at h
        have hl := len_withoutP l o.name
        obtain ⟨r1, r2, r3⟩ := applyE_good (os := os) h (srt_withoutP hs _) (fun f hf => hd f (mem_withoutP hf)) ho2
        exact ⟨r1, by rw [List.length_cons]; omega, r3⟩
end Go.BK
namespace Go.Proofs.YtaenackibigojaaDoor
open Go.RowKit Go.BK

def BackPost (l : List File) (r : Except Int (List File)) (w w' : World) (e : Ending) : Prop :=
  (∃ v L, r = .ok L ∧ e = .returned (.tuple #[v, .int .i64 0]) ∧ Owns kOp 49 w.heap.size (fun k => w.heap.size ≤ k) w' v (diffS L l)) ∨ (∃ x, r = .error x ∧ e = .returned (.tuple #[.slice none 0 0, .int .i64 x]))

set_option maxHeartbeats 1000000 in
set_option maxRecDepth 100000 in
theorem back_ (w : World) (A B : Nat → Prop) (a a2 : Option Addr) (n c n2 c2 : Nat) (l : List File) (os : List Stp) (h : Holds kFile A w a n l) (hnc : n ≤ c) (hcm : c ≤ maxLen) (h2 : Holds kOp B w a2 n2 os) (hm : Mild l) (hlen : l.length ≤ 1000000) (hlen2 : os.length ≤ 1000000) (hs : Srt l) (hms : MildS os) (henv : Env w) :
    Calls Tryd.prog 12 #[.slice a n c, .slice a2 n2 c2] w fun e w' => BackPost l (applyE l os) w w' e ∧ Ext w w' := by
  have hap := apply_ w A B a a2 n c n2 c2 l os h h2 hm (by omega) hs hms henv
  have hgood := fun L (hL : applyE l os = .ok L) => applyE_good hL hs hm.data hms.data
  have herr := fun x (hx : applyE l os = .error x) => applyE_err hx
  have hgd := Lib.hid hgood
  have hrr := Lib.hid herr
  have hll := Lib.hid hlen
  have hll2 := Lib.hid hlen2
  have hs' := Lib.hid hs
  clear hgood herr hlen hlen2 hs
  generalize hap1 : applyE l os = r at *
  clear hap1
  go_enter Tryd.func12, Tryd.ntmps12
  go_wp2_with (fail)
  refine hap.mono ?_
  rintro e w1 ⟨hp, hx1⟩
  clear hap
  rcases hp with ⟨v, L, rfl, rfl, hov⟩ | ⟨x, rfl, rfl⟩
  · obtain ⟨r1, r2, r3⟩ := hgd.out L rfl
    obtain ⟨av, cv, rfl, hcv, hcv2, hh⟩ := hov.holds
    have hd := diff_ w1 (fun k => A k ∨ w.heap.size ≤ k) av _ cv L a n c l (hh.wide (fun k hk => .inr (by omega))) ⟨Fits.of _ r2 (by have := hll.out; have := hll2.out; omega), r3⟩ r1 hcv hcv2 ((h.ext hx1).wide (fun k hk => .inl hk)) hm hs'.out hnc hcm (by have := hll.out; have := hll2.out; omega) (by have := hll.out; omega)
    clear hh hov h hm hcv hcv2 r1 r2 r3 hgd
    go_wp2_with (fail)
    refine hd.mono ?_
    rintro e w2 ⟨v2, rfl, hov2, hx2⟩
    clear hd
    go_wp2
    go_ret2
    exact ⟨.inl ⟨v2, L, rfl, rfl, (hov2.wide (fun k hk => Nat.le_trans hx1.size hk)).lower hx1.size⟩, hx1.trans hx2⟩
  · have hz : (x != 0) = true := by simpa using hrr.out x rfl
    go_wp2
    go_ret2
    exact ⟨.inr ⟨x, rfl, rfl⟩, hx1⟩
end Go.Proofs.YtaenackibigojaaDoor

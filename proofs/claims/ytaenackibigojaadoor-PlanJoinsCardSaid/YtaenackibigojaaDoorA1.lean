/- Part of the proofs: el_bytes, cloneBytes: each says what its head says. -/
import Derived.Test.YtaenackibigojaaDoorK1
import Derived.Test.YtaenackibigojaaDoorProg
set_option linter.unusedVariables false
set_option linter.unusedSimpArgs false
namespace Go.Proofs.YtaenackibigojaaDoor
open Go.RowKit Go.BK

theorem el_bytes : ElemOf Tryd.prog 27 5 1 1 := ElemOf.mk' (z := .int .u8 0) Tryd.underlying27 (by kernel_rfl) rfl

set_option maxHeartbeats 400000 in
set_option maxRecDepth 100000 in
theorem cloneBytes (w : World) (A : Nat → Prop) (a : Option Addr) (n c : Nat) (xs : List UInt8) (h : Holds kByte A w a n xs) (hn : Fits n) :
    Calls Tryd.prog 38 #[.slice a n c] w fun e w' => ∃ v, e = .returned v ∧ Owns kByte 5 w.heap.size (fun _ => False) w' v xs ∧ Ext w w' := by
  have heq := fun w => Lib.run_eql_slice_nil (P := Tryd.prog) w 27 5 a n c 0 0 Tryd.underlying27
  cases a with
  | none =>
    go_enter Tryd.func38, Tryd.ntmps38
    go_wp2
    go_ret
    have hn0 : n = 0 := by
      obtain ⟨_, _, vs, _, h2⟩ := h
      rcases Nat.eq_zero_or_pos n with h0 | h0
      · exact h0
      · obtain ⟨b, o, hh, _⟩ := h2 h0; cases hh
    subst hn0
    obtain rfl := List.eq_nil_of_length_eq_zero h.1
    exact ⟨_, rfl, ⟨_, fun k h => h, OwnsF.nil _ _ _ _⟩, Ext.refl _⟩
  | some ad =>
    have h0 : OwnsF kByte 5 w.heap.size (fun _ => False) (w.alloc (.cells #[] 5)) (.slice (some ⟨w.heap.size, 0, none⟩) 0 0) [] :=
      OwnsF.lit (xs := []) (vs := []) w kByte 5 w.heap.size (fun _ => False) rfl (fun _ h => h.elim) (Nat.le_refl _) (Nat.zero_le _)
    have hh := h.real.ext (Ext.alloc w (.cells #[] 5))
    have hx : Ext w (w.alloc (.cells #[] 5)) := Ext.alloc w _
    have hn2 := Lib.hid hn.out
    have hl := Lib.hid h.1
    clear h
    go_enter Tryd.func38, Tryd.ntmps38
    go_wp2_with (at_builtin; refine wpList_append_holds rfl _ _ _ rfl el_bytes (by decide) rfl h0 _ _ _ rfl hh ?_ ?_ ?_ ?_ ?_)
    · intro k hk _ he; have : w.heap.size = k := Option.some.inj he
      have := hk.2; omega
    · have := hn2.out; simp [maxLen]; omega
    · have := hn2.out; simp; omega
    · simp
    · intro v' w' hown hg hwhere
      have hown2 := hown.flat flat_byte
      clear hown
      go_wp2
      go_ret
      refine ⟨_, rfl, ⟨_, fun k h => h, hown2⟩, (hx.trans (Ext.refl _)).grown hg (by simp) (fun k hk => ?_)⟩
      have : w.heap.size = k := Option.some.inj hk
      omega
end Go.Proofs.YtaenackibigojaaDoor

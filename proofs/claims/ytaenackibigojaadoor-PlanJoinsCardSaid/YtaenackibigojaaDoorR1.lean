/- Part of the proofs: findI_hit, findI_miss, ref_find, sortedB, sortedB_iff, ref_map: each says what its head says. -/
import Derived.Test.YtaenackibigojaaDoorK2
import Derived.Test.YtaenackibigojaaDoorProg
import Derived.Deep.QuietTactic
import Derived.BigQuiet
set_option linter.unusedVariables false
set_option linter.unusedSimpArgs false
namespace Go.Proofs.YtaenackibigojaaDoor
open Go.RowKit Go.BK


def findI (l : List File) (s : Str) : Int := match l.findIdx? (fun f => f.name == s) with | some i => (i : Int) | none => -1
theorem findI_hit {l : List File} {s : Str} {k : Nat} {f : File} (hf : l[k]? = some f) (hs : (f.name == s) = true) (hno : ∀ j f, j < k → l[j]? = some f → (f.name == s) = false) : findI l s = k := by
  have : l.findIdx? (fun f => f.name == s) = some k := by
    rw [List.findIdx?_eq_some_iff_getElem]
    obtain ⟨hk, rfl⟩ := List.getElem?_eq_some_iff.1 hf
    exact ⟨hk, hs, fun j hj => by rw [hno j _ hj (List.getElem?_eq_getElem (Nat.lt_trans hj hk))]; simp⟩
  simp [findI, this]
theorem findI_miss {l : List File} {s : Str} (hno : ∀ j f, j < l.length → l[j]? = some f → (f.name == s) = false) : findI l s = -1 := by
  have : l.findIdx? (fun f => f.name == s) = none := by
    rw [List.findIdx?_eq_none_iff]
    intro x hx
    obtain ⟨j, hj, rfl⟩ := List.mem_iff_getElem.1 hx
    exact hno j _ hj (List.getElem?_eq_getElem hj)
  simp [findI, this]

set_option maxHeartbeats 800000 in
set_option maxRecDepth 100000 in
theorem ref_find (w : World) (A : Nat → Prop) (a : Option Addr) (n c : Nat) (l : List File) (s : Str) (h : Holds kFile A w a n l) :
    Calls Tryd.prog 25 #[.slice a n c, .string (mkS s)] w fun e w' => e = .returned (.int .i64 (findI l s)) ∧ w' = w := by
  have hl := Lib.hid h.1
  have hnn : n ≤ 9223372036854775807 := h.le
  go_enter Tryd.func25, Tryd.ntmps25
  go_wp2
  go_loop [5] (fun i => ∃ k : Nat, k ≤ n ∧ i = .int .i64 k ∧ ∀ j f, j < k → l[j]? = some f → (f.name == s) = false) (fun i => n - (intOf i).toNat)
  case atStart => exact ⟨0, Nat.zero_le _, rfl, fun j f hj => absurd hj (by omega)⟩
  case round =>
    obtain ⟨k, hk, rfl, hno⟩ := hrel
    have hno' := Lib.hid hno
    clear hno
    by_cases hlt : k < n
    · obtain ⟨f, hf⟩ : ∃ f, l[k]? = some f := ⟨_, List.getElem?_eq_getElem (by rw [hl.out]; exact hlt)⟩
      obtain ⟨b, o, ad, m, cc, rfl, hA, hb, hc0, hc1, hns, hmc, hcm, hd⟩ := files_at h k f hf
      have hf' := Lib.hid hf
      clear hf
      cases hs : f.name == s with
      | true =>
        go_wp2
        go_ret
        exact ⟨ret_i (findI_hit hf'.out hs hno'.out).symm, rfl⟩
      | false =>
        go_wp2
        go_round
        case rel =>
          refine ⟨k + 1, by omega, by go_num, fun j g hj hg => ?_⟩
          by_cases hjk : j < k
          · exact hno'.out j g hjk hg
          · obtain rfl : j = k := by omega
            rw [hf'.out] at hg
            cases hg
            exact hs
        case measure => simp [intOf]; omega
    · go_wp2
      go_ret
      exact ⟨ret_i (findI_miss (fun j f hj => hno'.out j f (by have := hl.out; omega))).symm, rfl⟩

def sortedB (l : List File) : Bool := (List.range (l.length - 1)).all fun i => match l[i]?, l[i + 1]? with | some x, some y => ltS x.name y.name | _, _ => true
theorem sortedB_iff (l : List File) : sortedB l = true ↔ ∀ (i : Nat) (x y : File), l[i]? = some x → l[i + 1]? = some y → ltS x.name y.name = true := by
  unfold sortedB
  rw [List.all_eq_true]
  constructor
  · intro h i x y hx hy
    have hlt := (List.getElem?_eq_some_iff.1 hy).1
    have := h i (List.mem_range.2 (by omega))
    simpa [hx, hy] using this
  · intro h i hi
    have := List.mem_range.1 hi
    rw [List.getElem?_eq_getElem (show i < l.length by omega), List.getElem?_eq_getElem (show i + 1 < l.length by omega)]
    exact h i _ _ (List.getElem?_eq_getElem (by omega)) (List.getElem?_eq_getElem (by omega))

set_option maxHeartbeats 800000 in
set_option maxRecDepth 100000 in
theorem ref_map (w : World) (A : Nat → Prop) (a : Option Addr) (n c : Nat) (l : List File) (h : Holds kFile A w a n l) :
    Calls Tryd.prog 8 #[.slice a n c] w fun e w' => e = .returned (.bool (sortedB l)) ∧ Ext w w' := by
  have hl := Lib.hid h.1
  have hnn : n ≤ 9223372036854775807 := h.le
  go_enter Tryd.func8, Tryd.ntmps8
  go_wp2
  go_loopw [3] (fun i wr => ∃ k : Nat, i = .int .i64 (k + 1) ∧ k ≤ n ∧ (∀ (j : Nat) (x y : File), j < k → l[j]? = some x → l[j + 1]? = some y → ltS x.name y.name = true) ∧ Ext w wr) (fun i _ => n + 1 - (intOf i).toNat)
  case atStart => exact ⟨0, rfl, Nat.zero_le _, fun j f _ hj => absurd hj (by omega), Ext.refl _⟩
  case round =>
    obtain ⟨k, rfl, hkn, hno, hx⟩ := hrel
    have hno' := Lib.hid hno
    clear hno
    by_cases hlt : k + 1 < n
    · obtain ⟨x, hx1⟩ : ∃ f, l[k]? = some f := ⟨_, List.getElem?_eq_getElem (by rw [hl.out]; omega)⟩
      obtain ⟨y, hy1⟩ : ∃ f, l[k + 1]? = some f := ⟨_, List.getElem?_eq_getElem (by rw [hl.out]; exact hlt)⟩
      obtain ⟨b, o, ad, m, cc, rfl, hA, hb, hc0, hc1, hns, hmc, hcm, hd⟩ := files_at h k x hx1
      obtain ⟨b', o', ad', m', cc', he, hA', hb', hc0', hc1', hns', hmc', hcm', hd'⟩ := files_at h (k + 1) y hy1
      obtain ⟨rfl, rfl⟩ : b = b' ∧ o = o' := by cases he; exact ⟨rfl, rfl⟩
      have hx' := Lib.hid hx1
      have hy' := Lib.hid hy1
      clear hx1 hy1 he
      have hw1 : IntKind.i64.wrap (k : Int) = k := IntWalk.i64_in _ (by omega)
      have i0 : (0 : Int) ≤ (k : Int) := by omega
      have i1 : (k : Int) < (n : Int) := by omega
      have i2 : (0 : Int) ≤ (k : Int) + 1 := by omega
      have i3 : (k : Int) + 1 < (n : Int) := by omega
      have i4 : ((k : Int) + 1).toNat = k + 1 := by omega
      cases hs : ltS x.name y.name with
      | true =>
        go_wp2
        (refine wp_region_ext (by kernel_rfl) (by kernel_rfl) ?_; (repeat (go_big_quiet_step (fail))); refine wpQuiet_nil ?_; rintro _ ⟨⟨wq, hxq⟩, rfl⟩; try dsimp only)
        go_wp2
        go_roundw
        case rel =>
          refine ⟨k + 1, by go_num, by omega, fun j p q hj hp hq => ?_, hx.trans hxq⟩
          by_cases hjk : j < k
          · exact hno'.out j p q hjk hp hq
          · obtain rfl : j = k := by omega
            rw [hx'.out] at hp
            rw [hy'.out] at hq
            cases hp; cases hq
            exact hs
        case measure => simp [intOf]; omega
      | false =>
        go_wp2
        (refine wp_region_ext (by kernel_rfl) (by kernel_rfl) ?_; (repeat (go_big_quiet_step (fail))); refine wpQuiet_nil ?_; rintro _ ⟨⟨wq, hxq⟩, rfl⟩; try dsimp only)
        go_wp2
        go_ret
        refine ⟨ret_b ?_, hx.trans hxq⟩
        cases hb : sortedB l with
        | false => rfl
        | true =>
          have := (sortedB_iff l).1 hb k x y hx'.out hy'.out
          rw [hs] at this; cases this
    · go_wp2
      go_ret
      refine ⟨ret_b ?_, hx⟩
      rw [eq_comm, sortedB_iff]
      intro j p q hp hq
      have := (List.getElem?_eq_some_iff.1 hq).1
      have := hl.out
      exact hno'.out j p q (by omega) hp hq
end Go.Proofs.YtaenackibigojaaDoor

/- Part of the proofs: SayPost, wide_, great_, ref_sameS: each says what its head says. -/
import Derived.Test.YtaenackibigojaaDoorR11
set_option linter.unusedVariables false
set_option linter.unusedSimpArgs false
namespace Go.Proofs.YtaenackibigojaaDoor
open Go.RowKit Go.BK
/-- True, or what false says. -/
def SayPost (p : Prop) (e : Ending) : Prop := ∃ b : Bool, e = .returned (.bool b) ∧ (b = false → p)

set_option maxHeartbeats 1000000 in
set_option maxRecDepth 100000 in
theorem wide_ (w : World) (A : Nat → Prop) (a : Option Addr) (n c : Nat) (l : List File) (h : Holds kFile A w a n l) :
    Calls Tryd.prog 6 #[.slice a n c] w fun e w' => SayPost (n ≤ 250 ∧ ∀ f ∈ l, f.name.length ≤ 300 ∧ f.data.length ≤ 70000) e ∧ w' = w := by
  have hl := Lib.hid h.1
  have hnn := h.le
  go_enter Tryd.func6, Tryd.ntmps6
  go_wp2
  go_loop [3] (fun i => ∃ k : Nat, k ≤ n ∧ k ≤ 300 ∧ i = .int .i64 k ∧ Hid (∀ (j : Nat) x, j < k → l[j]? = some x → x.name.length ≤ 300 ∧ x.data.length ≤ 70000)) (fun i => n - (intOf i).toNat)
  case atStart => exact ⟨0, Nat.zero_le _, Nat.zero_le _, rfl, Lib.hid (fun j f hj => absurd hj (by omega))⟩
  case round =>
    obtain ⟨k, hk, hk3, rfl, hok⟩ := hrel
    by_cases hlt : k < n
    · have s1 : ((k : Int) < (n : Int)) := by omega
      by_cases hlt3 : k < 300
      · have s2 : ((k : Int) < (300 : Int)) := by omega
        obtain ⟨f, hfk⟩ : ∃ f, l[k]? = some f := ⟨_, List.getElem?_eq_getElem (by rw [hl.out]; exact hlt)⟩
        obtain ⟨b, o, ad, m2, cc, rfl, hA, hb, hc0, hc1, hns, hmc, hcm, hd⟩ := files_at h k f hfk
        have e0 := hc0 _ (Ext.refl _)
        have e1 := hc1 _ (Ext.refl _)
        have hfk' := Lib.hid hfk
        have hm2 := Lib.hid (hd w (Ext.refl w)).1
        have hsz : (mkS f.name).size = f.name.length := mkS_size _
        clear hfk hc0 hc1 hd
        by_cases u1 : 300 < f.name.length
        · have u1' : (300 : Int) < (f.name.length : Int) := by omega
          go_wp2
          go_ret
          exact ⟨⟨true, rfl, by simp⟩, rfl⟩
        · have u1' : ¬ (300 : Int) < (f.name.length : Int) := by omega
          by_cases u2 : 70000 < m2
          · have u2' : (70000 : Int) < (m2 : Int) := by omega
            go_wp2
            go_ret
            exact ⟨⟨true, rfl, by simp⟩, rfl⟩
          · have u2' : ¬ (70000 : Int) < (m2 : Int) := by omega
            have u1h := Lib.hid u1
            have u2h := Lib.hid u2
            clear u1 u2
            go_wp2
            go_round
            case rel =>
              refine ⟨k + 1, by omega, by omega, by go_num, Lib.hid (fun j y hj hy => ?_)⟩
              by_cases hjk : j < k
              · exact hok.out j y hjk hy
              · obtain rfl : j = k := by omega
                rw [hfk'.out] at hy; cases hy
                have h1 := u1h.out; have h2 := u2h.out; have h3 := hm2.out
                exact ⟨by omega, by omega⟩
            case measure => simp [intOf]; omega
      · have s2 : ¬ ((k : Int) < (300 : Int)) := by omega
        have s3 : (250 : Int) < (n : Int) := by omega
        go_wp2
        go_ret
        exact ⟨⟨true, rfl, by simp⟩, rfl⟩
    · obtain rfl : k = n := by omega
      by_cases hbig : 250 < k
      · have s3 : (250 : Int) < (k : Int) := by omega
        go_wp2
        go_ret
        exact ⟨⟨true, rfl, by simp⟩, rfl⟩
      · have s3 : ¬ (250 : Int) < (k : Int) := by omega
        have hb' := Lib.hid hbig
        clear hbig
        go_wp2
        go_ret
        refine ⟨⟨false, rfl, fun _ => ⟨by have := hb'.out; omega, fun f hf => ?_⟩⟩, rfl⟩
        obtain ⟨j, hj, rfl⟩ := List.mem_iff_getElem.1 hf
        exact hok.out j _ (by have := hl.out; omega) (List.getElem?_eq_getElem hj)

set_option maxHeartbeats 1000000 in
set_option maxRecDepth 100000 in
theorem great_ (w : World) (A : Nat → Prop) (a : Option Addr) (n c : Nat) (l : List Stp) (h : Holds kOp A w a n l) :
    Calls Tryd.prog 7 #[.slice a n c] w fun e w' => SayPost (n ≤ 250 ∧ ∀ f ∈ l, f.name.length ≤ 300 ∧ f.data.length ≤ 70000) e ∧ w' = w := by
  have hl := Lib.hid h.1
  have hnn := h.le
  go_enter Tryd.func7, Tryd.ntmps7
  go_wp2
  go_loop [3] (fun i => ∃ k : Nat, k ≤ n ∧ k ≤ 300 ∧ i = .int .i64 k ∧ Hid (∀ (j : Nat) x, j < k → l[j]? = some x → x.name.length ≤ 300 ∧ x.data.length ≤ 70000)) (fun i => n - (intOf i).toNat)
  case atStart => exact ⟨0, Nat.zero_le _, Nat.zero_le _, rfl, Lib.hid (fun j f hj => absurd hj (by omega))⟩
  case round =>
    obtain ⟨k, hk, hk3, rfl, hok⟩ := hrel
    by_cases hlt : k < n
    · have s1 : ((k : Int) < (n : Int)) := by omega
      by_cases hlt3 : k < 300
      · have s2 : ((k : Int) < (300 : Int)) := by omega
        obtain ⟨f, hfk⟩ : ∃ f, l[k]? = some f := ⟨_, List.getElem?_eq_getElem (by rw [hl.out]; exact hlt)⟩
        obtain ⟨b, o, ad, m2, cc, ad', m', cc', rfl, hA, hb, hcK, hc0, hc1, hc3, hc4, hc5, hc6, hns, hmc, hcm, hd, _⟩ := ops_at h k f hfk
        have e0 := hc0 _ (Ext.refl _)
        have e1 := hc1 _ (Ext.refl _)
        have hfk' := Lib.hid hfk
        have hm2 := Lib.hid (hd w (Ext.refl w)).1
        have hsz : (mkS f.name).size = f.name.length := mkS_size _
        clear hfk hc0 hc1 hd
        by_cases u1 : 300 < f.name.length
        · have u1' : (300 : Int) < (f.name.length : Int) := by omega
          go_wp2
          go_ret
          exact ⟨⟨true, rfl, by simp⟩, rfl⟩
        · have u1' : ¬ (300 : Int) < (f.name.length : Int) := by omega
          by_cases u2 : 70000 < m2
          · have u2' : (70000 : Int) < (m2 : Int) := by omega
            go_wp2
            go_ret
            exact ⟨⟨true, rfl, by simp⟩, rfl⟩
          · have u2' : ¬ (70000 : Int) < (m2 : Int) := by omega
            have u1h := Lib.hid u1
            have u2h := Lib.hid u2
            clear u1 u2
            go_wp2
            go_round
            case rel =>
              refine ⟨k + 1, by omega, by omega, by go_num, Lib.hid (fun j y hj hy => ?_)⟩
              by_cases hjk : j < k
              · exact hok.out j y hjk hy
              · obtain rfl : j = k := by omega
                rw [hfk'.out] at hy; cases hy
                have h1 := u1h.out; have h2 := u2h.out; have h3 := hm2.out
                exact ⟨by omega, by omega⟩
            case measure => simp [intOf]; omega
      · have s2 : ¬ ((k : Int) < (300 : Int)) := by omega
        have s3 : (250 : Int) < (n : Int) := by omega
        go_wp2
        go_ret
        exact ⟨⟨true, rfl, by simp⟩, rfl⟩
    · obtain rfl : k = n := by omega
      by_cases hbig : 250 < k
      · have s3 : (250 : Int) < (k : Int) := by omega
        go_wp2
        go_ret
        exact ⟨⟨true, rfl, by simp⟩, rfl⟩
      · have s3 : ¬ (250 : Int) < (k : Int) := by omega
        have hb' := Lib.hid hbig
        clear hbig
        go_wp2
        go_ret
        refine ⟨⟨false, rfl, fun _ => ⟨by have := hb'.out; omega, fun f hf => ?_⟩⟩, rfl⟩
        obtain ⟨j, hj, rfl⟩ := List.mem_iff_getElem.1 hf
        exact hok.out j _ (by have := hl.out; omega) (List.getElem?_eq_getElem hj)

set_option maxHeartbeats 1000000 in
set_option maxRecDepth 100000 in
theorem ref_sameS (w : World) (A A' : Nat → Prop) (a a' : Option Addr) (n c n' c' : Nat) (l : List Str) (h : Holds kStr A w a n l) (h' : Holds kStr A' w a' n' l) :
    Calls Tryd.prog 19 #[.slice a n c, .slice a' n' c'] w fun e w' => e = .returned (.bool true) ∧ Ext w w' := by
  have hl := Lib.hid h.1
  obtain rfl : n = n' := h.1.symm.trans h'.1
  have hnn := h.le
  have hne2 : ((n : Int) != (n : Int)) = false := by simp
  go_enter Tryd.func19, Tryd.ntmps19
  go_wp2
  go_loopw [5] (fun i wr => ∃ k : Nat, i = .int .i64 k ∧ k ≤ n ∧ Ext w wr) (fun i _ => n - (intOf i).toNat)
  case atStart => exact ⟨0, rfl, Nat.zero_le _, Ext.refl _⟩
  case round =>
    obtain ⟨k, rfl, hkn, hx⟩ := hrel
    by_cases hlt : k < n
    · obtain ⟨x, hx1⟩ : ∃ f, l[k]? = some f := ⟨_, List.getElem?_eq_getElem (by rw [hl.out]; omega)⟩
      obtain ⟨b, o, rfl, hA, hb, hc0, hns⟩ := strs_at h k x hx1
      obtain ⟨b', o', rfl, hA', hb', hc0', hns'⟩ := strs_at h' k x hx1
      clear hx1
      have i0 : (0 : Int) ≤ (k : Int) := by omega
      have i1 : (k : Int) < (n : Int) := by omega
      have hs : (x == x) = true := by simp
      go_wp2
      (refine wp_region_ext (by kernel_rfl) (by kernel_rfl) ?_; (repeat (go_big_quiet_step (fail))); refine wpQuiet_nil ?_; rintro _ ⟨⟨wq, hxq⟩, rfl⟩; try dsimp only)
      go_wp2
      go_roundw
      case rel => exact ⟨k + 1, by go_num, by omega, hx.trans hxq⟩
      case measure => simp [intOf]; omega
    · go_wp2
      go_ret
      exact ⟨rfl, hx⟩
end Go.Proofs.YtaenackibigojaaDoor

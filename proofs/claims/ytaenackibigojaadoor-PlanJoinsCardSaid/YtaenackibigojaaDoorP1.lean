/- Part of the proofs: place1, bsearch, place: each says what its head says. -/
import Derived.Test.YtaenackibigojaaDoorQ1
import Derived.Test.YtaenackibigojaaDoorShelf
set_option linter.unusedVariables false
set_option linter.unusedSimpArgs false
namespace Go.Proofs.YtaenackibigojaaDoor
open Go.RowKit Go.BK

set_option maxHeartbeats 400000 in
set_option maxRecDepth 100000 in
theorem place1 (w : World) (nm s : Str) (a : Option Addr) (n c : Nat) :
    Calls Tryd.prog 52 #[.agg #[.string (mkS nm), .slice a n c], .string (mkS s)] w fun e w' => e = .returned (.int .i64 (cmpS nm s)) ∧ Ext w w' := by
  go_enter Tryd.func52, Tryd.ntmps52
  go_wp2_with (go_at_call 44; refine (Tryd.strings_Compare _ _ _).mono ?_; rintro e w' ⟨rfl, rfl⟩)
  go_ret
  exact ⟨ret_i rfl, Ext.alloc _ _⟩


set_option maxHeartbeats 1000000 in
set_option maxRecDepth 100000 in
theorem bsearch (w : World) (A : Nat → Prop) (a : Option Addr) (n c : Nat) (l : List File) (s : Str) (h : Holds kFile A w a n l) (hm : Fits n) (hs : Srt l) :
    Calls Tryd.prog 51 #[.slice a n c, .string (mkS s), .func (.func 52) #[] #[]] w fun e w' =>
      e = .returned (.tuple #[.int .i64 (pos l s : Nat), .bool (has l s)]) ∧ Ext w w' := by
  have hl := Lib.hid h.1
  have hnn : n ≤ 1099511627776 := hm.out
  have hs' := Lib.hid hs
  clear hs
  go_enter Tryd.func51, Tryd.ntmps51
  go_wp2
  go_loopw [9, 10] (fun i j wr => ∃ p q : Nat, i = .int .i64 p ∧ j = .int .i64 q ∧ p ≤ q ∧ q ≤ n ∧ (∀ t f, t < p → l[t]? = some f → f.name < s) ∧ (∀ t f, q ≤ t → l[t]? = some f → ¬ f.name < s) ∧ Ext w wr) (fun i j _ => (intOf j).toNat - (intOf i).toNat)
  case atStart => exact ⟨0, n, rfl, rfl, Nat.zero_le _, Nat.le_refl _, fun t f ht => absurd ht (by omega), fun t f ht hf => absurd (List.getElem?_eq_some_iff.1 hf).1 (by have := hl.out; omega), Ext.refl _⟩
  case round =>
    obtain ⟨p, q, rfl, rfl, hpq, hqn, h1, h2, hx⟩ := hrel
    have h1' := Lib.hid h1
    have h2' := Lib.hid h2
    clear h1 h2
    by_cases hlt : p < q
    · obtain ⟨m, hmm⟩ : ∃ m : Nat, (p + q) / 2 = m := ⟨_, rfl⟩
      have hpm : p ≤ m := by omega
      have hmq : m < q := by omega
      have em : ((p : Int) + (q : Int)) / 2 = (m : Int) := by omega
      clear hmm
      obtain ⟨f, hf⟩ : ∃ f, l[m]? = some f := ⟨_, List.getElem?_eq_getElem (by rw [hl.out]; omega)⟩
      obtain ⟨b, o, ad, mm, cc, rfl, hA, hb, hc0, hc1, hns, hmc, hcm, hd⟩ := files_at h m f hf
      have hf' := Lib.hid hf
      clear hf hd
      have i1 : m < n := by omega
      by_cases hcmp : f.name < s
      · have ec := cmpS_lt hcmp
        go_wp2_with (go_at_call 52; refine (place1 _ _ _ _ _ _).mono ?_; rintro e w2 ⟨rfl, hx2⟩)
        go_roundw
        case rel =>
          refine ⟨m + 1, q, by go_num, rfl, by omega, hqn, fun t g ht hg => ?_, h2'.out, hx.trans hx2⟩
          by_cases htm : t = m
          · subst htm; rw [hf'.out] at hg; cases hg; exact hcmp
          · exact str_lt_trans (srt_get hs'.out (show t < m by omega) hg hf'.out) hcmp
        case measure => simp [intOf]; omega
      · have ec : ∃ z : Int, cmpS f.name s = z ∧ ¬ z < 0 := by
          rcases str_le_of_not_lt hcmp with h3 | h3
          · exact ⟨1, cmpS_gt h3, by omega⟩
          · exact ⟨0, by rw [h3]; exact cmpS_eq _, by omega⟩
        obtain ⟨z, ec, hz⟩ := ec
        go_wp2_with (go_at_call 52; refine (place1 _ _ _ _ _ _).mono ?_; rintro e w2 ⟨rfl, hx2⟩)
        go_roundw
        case rel =>
          refine ⟨p, m, rfl, rfl, by omega, by omega, h1'.out, fun t g ht hg => ?_, hx.trans hx2⟩
          by_cases htm : t = m
          · subst htm; rw [hf'.out] at hg; cases hg; exact hcmp
          · intro hlt2
            exact hcmp (str_lt_trans (srt_get hs'.out (show m < t by omega) hf'.out hg) hlt2)
        case measure => simp [intOf]; omega
    · obtain rfl : p = q := by omega
      have hpos := Lib.hid (pos_eq (i := p) (by rw [hl.out]; exact hqn) h1'.out (fun f hf => h2'.out p f (Nat.le_refl _) hf))
      have hgt : ∀ t f, p < t → l[t]? = some f → s < f.name := fun t g ht hg => by
        obtain ⟨y, hy⟩ : ∃ f, l[p]? = some f := ⟨_, List.getElem?_eq_getElem (by have := (List.getElem?_eq_some_iff.1 hg).1; omega)⟩
        have h3 := srt_get hs'.out ht hy hg
        rcases str_le_of_not_lt (h2'.out p y (Nat.le_refl _) hy) with h4 | h4
        · exact str_lt_trans h4 h3
        · rw [← h4]; exact h3
      have hhas := Lib.hid (has_at h1'.out hgt)
      clear hgt
      by_cases hpn : p < n
      · obtain ⟨f, hf⟩ : ∃ f, l[p]? = some f := ⟨_, List.getElem?_eq_getElem (by rw [hl.out]; omega)⟩
        obtain ⟨b, o, ad, mm, cc, rfl, hA, hb, hc0, hc1, hns, hmc, hcm, hd⟩ := files_at h p f hf
        have hf' := Lib.hid hf
        clear hf hd
        cases hfs : f.name == s with
        | true =>
          have ec : cmpS f.name s = 0 := by rw [show f.name = s by simpa using hfs]; exact cmpS_eq _
          go_wp2_with (go_at_call 52; refine (place1 _ _ _ _ _ _).mono ?_; rintro e w2 ⟨rfl, hx2⟩)
          go_ret2
          exact ⟨by rw [hpos.out, hhas.out, hf'.out]; simp [hfs], hx.trans hx2⟩
        | false =>
          have ec : ∃ z : Int, cmpS f.name s = z ∧ (z == 0) = false := by
            rcases str_tri_ne (show f.name ≠ s by simpa using hfs) with h3 | h3
            · exact ⟨-1, cmpS_lt h3, by simp⟩
            · exact ⟨1, cmpS_gt h3, by simp⟩
          obtain ⟨z, ec, hz⟩ := ec
          go_wp2_with (go_at_call 52; refine (place1 _ _ _ _ _ _).mono ?_; rintro e w2 ⟨rfl, hx2⟩)
          go_ret2
          exact ⟨by rw [hpos.out, hhas.out, hf'.out]; simp [hfs], hx.trans hx2⟩
      · have hnone : Hid (l[p]? = none) := Lib.hid (List.getElem?_eq_none (by rw [hl.out]; omega))
        go_wp2
        go_ret2
        exact ⟨by rw [hpos.out, hhas.out, hnone.out]; rfl, hx⟩

set_option maxHeartbeats 400000 in
set_option maxRecDepth 100000 in
theorem place (w : World) (A : Nat → Prop) (a : Option Addr) (n c : Nat) (l : List File) (s : Str) (h : Holds kFile A w a n l) (hm : Fits n) (hs : Srt l) :
    Calls Tryd.prog 39 #[.slice a n c, .string (mkS s)] w fun e w' => e = .returned (.tuple #[.int .i64 (pos l s : Nat), .bool (has l s)]) ∧ Ext w w' := by
  go_enter Tryd.func39, Tryd.ntmps39
  go_wp2_with (go_at_call 51; refine (bsearch _ A _ _ _ l s h hm hs).mono ?_; rintro e w2 ⟨rfl, hx2⟩)
  go_ret2
  exact ⟨rfl, hx2⟩
end Go.Proofs.YtaenackibigojaaDoor

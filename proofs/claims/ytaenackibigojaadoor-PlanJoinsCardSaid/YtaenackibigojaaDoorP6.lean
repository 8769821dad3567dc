/- Part of the proofs: right1, indexFunc, containsFunc, pieces_eq, reps_strs, right_: each says what its head says. -/
import Derived.Test.YtaenackibigojaaDoorP5
set_option linter.unusedVariables false
set_option linter.unusedSimpArgs false
namespace Go.Proofs.YtaenackibigojaaDoor
open Go.RowKit Go.BK

/-- The library's own variable reads as some number. -/
def Env (w : World) : Prop := (∃ m : Int, w.cell? ⟨0, 0, none⟩ = some (.int .i64 m)) ∧ 0 < w.heap.size
theorem Env.ext {w w' : World} (h : Env w) (hx : Ext w w') : Env w' := by
  obtain ⟨⟨m, hm⟩, hb⟩ := h
  exact ⟨⟨m, (hx.cell (p := ⟨0, 0, none⟩) hb).trans hm⟩, Nat.lt_of_lt_of_le hb hx.size⟩

set_option maxHeartbeats 400000 in
set_option maxRecDepth 100000 in
theorem right1 (w : World) (s : Str) (hs : Fits s.length) :
    Calls Tryd.prog 49 #[.string (mkS s)] w fun e w' => e = .returned (.bool (!partB s)) ∧ Ext w w' := by
  go_enter Tryd.func49, Tryd.ntmps49
  go_wp2_with (go_at_call 50; refine (part _ s hs).mono ?_; rintro e w' ⟨rfl, hx⟩)
  go_ret
  exact ⟨ret_b rfl, hx⟩

set_option maxHeartbeats 800000 in
set_option maxRecDepth 100000 in
theorem indexFunc (w : World) (A : Nat → Prop) (a : Option Addr) (n c : Nat) (l : List Str) (h : Holds kStr A w a n l) (hf : ∀ x ∈ l, Fits x.length) :
    Calls Tryd.prog 58 #[.slice a n c, .func (.func 49) #[] #[]] w fun e w' =>
      (∃ k : Nat, e = .returned (.int .i64 k) ∧ l.all partB = false ∨ e = .returned (.int .i64 (-1)) ∧ l.all partB = true) ∧ Ext w w' := by
  have hl := Lib.hid h.1
  have hnn : n ≤ 9223372036854775807 := h.le
  have hf' := Lib.hid hf
  clear hf
  go_enter Tryd.func58, Tryd.ntmps58
  go_wp2
  go_loopw [8] (fun i wr => ∃ k : Nat, i = .int .i64 k ∧ k ≤ n ∧ (∀ j x, j < k → l[j]? = some x → partB x = true) ∧ Ext w wr) (fun i _ => n - (intOf i).toNat)
  case atStart => exact ⟨0, rfl, Nat.zero_le _, fun j f hj => absurd hj (by omega), Ext.refl _⟩
  case round =>
    obtain ⟨k, rfl, hkn, hno, hx⟩ := hrel
    have hno' := Lib.hid hno
    clear hno
    by_cases hlt : k < n
    · obtain ⟨x, hx1⟩ : ∃ f, l[k]? = some f := ⟨_, List.getElem?_eq_getElem (by rw [hl.out]; omega)⟩
      obtain ⟨b, o, rfl, hA, hb, hc0, hns⟩ := strs_at h k x hx1
      have hfx := hf'.out x (List.mem_of_getElem? hx1)
      have hx' := Lib.hid hx1
      clear hx1
      cases hp : partB x with
      | true =>
        go_wp2_with (go_at_call 49; refine (right1 _ x hfx).mono ?_; rintro e w' ⟨rfl, hx2⟩)
        go_roundw
        case rel =>
          refine ⟨k + 1, by go_num, by omega, fun j p hj hp' => ?_, hx.trans hx2⟩
          by_cases hjk : j < k
          · exact hno'.out j p hjk hp'
          · obtain rfl : j = k := by omega
            rw [hx'.out] at hp'; cases hp'; exact hp
        case measure => simp [intOf]; omega
      | false =>
        go_wp2_with (go_at_call 49; refine (right1 _ x hfx).mono ?_; rintro e w' ⟨rfl, hx2⟩)
        go_ret
        exact ⟨⟨k, .inl ⟨rfl, List.all_eq_false.2 ⟨x, List.mem_of_getElem? hx'.out, by simp [hp]⟩⟩⟩, hx.trans hx2⟩
    · go_wp2
      go_ret
      refine ⟨⟨0, .inr ⟨rfl, List.all_eq_true.2 fun x hx => ?_⟩⟩, hx⟩
      obtain ⟨j, hj, rfl⟩ := List.mem_iff_getElem.1 hx
      exact hno'.out j _ (by have := hl.out; omega) (List.getElem?_eq_getElem hj)

set_option maxHeartbeats 400000 in
set_option maxRecDepth 100000 in
theorem containsFunc (w : World) (A : Nat → Prop) (a : Option Addr) (n c : Nat) (l : List Str) (h : Holds kStr A w a n l) (hf : ∀ x ∈ l, Fits x.length) :
    Calls Tryd.prog 47 #[.slice a n c, .func (.func 49) #[] #[]] w fun e w' => e = .returned (.bool (!l.all partB)) ∧ Ext w w' := by
  have hf' := Lib.hid hf
  clear hf
  go_enter Tryd.func47, Tryd.ntmps47
  go_wp2_with (fail)
  refine (indexFunc w A a n c l h hf'.out).mono ?_
  rintro e w' ⟨⟨k, ⟨rfl, hall⟩ | ⟨rfl, hall⟩⟩, hx⟩
  · have h0 : (0 : Int) ≤ (k : Int) := by omega
    go_wp2
    go_ret
    exact ⟨ret_b (by rw [hall]; rfl), hx⟩
  · go_wp2
    go_ret
    exact ⟨ret_b (by rw [hall]; rfl), hx⟩

theorem pieces_eq (s : Str) : (Lib.splitB ⟨#[47]⟩ 0 (Lib.countB (mkS s) ⟨#[47]⟩) (mkS s)).map Value.string = (cut s).map fun p => .string (mkS p) := by
  have h1 := Lib.splitB_data ⟨#[47]⟩ 0 (Lib.countB (mkS s) ⟨#[47]⟩) (mkS s)
  have hc : Lib.countB (mkS s) ⟨#[47]⟩ = s.count 47 := Lib.count_one 47 s
  rw [hc, mkS_dataList] at h1
  have h2 : Lib.splitK [47] 0 (s.count 47) s = cut s := cut_splitK s
  rw [hc, ← h2]
  rw [show (⟨#[47]⟩ : ByteArray).data.toList = [47] from rfl] at h1
  rw [← h1, List.map_map]
  rfl
theorem reps_strs {A : Nat → Prop} {w : World} : ∀ {l : List Str}, (∀ x ∈ l, x.length ≤ maxLen) → kStr.reps A w l (l.map fun p => .string (mkS p))
  | [], _ => rfl
  | x :: l, h => ⟨[.string (mkS x)], _, rfl, ⟨rfl, h x (by simp)⟩, reps_strs fun y hy => h y (by simp [hy])⟩

set_option maxHeartbeats 400000 in
set_option maxRecDepth 100000 in
/-- member.Right. -/
theorem right_ (w : World) (s : Str) (hs : Fits s.length) (henv : Env w) :
    Calls Tryd.prog 36 #[.string (mkS s)] w fun e w' => e = .returned (.bool (right s)) ∧ Ext w w' := by
  have hs1 : s.length ≤ 1099511627776 := hs.out
  obtain ⟨⟨m, hm⟩, hb⟩ := henv
  have hm' := Lib.hid hm
  clear hm
  by_cases h64 : s.length ≤ 64
  · have hi : (s.length : Int) ≤ 64 := by omega
    have hr : right s = (cut s).all partB := by simp [right, h64]
    have hr' := Lib.hid hr
    clear hr
    have hn : Lib.countB (mkS s) ⟨#[47]⟩ + 1 = (cut s).length := by rw [cut_len]; exact congrArg (· + 1) (Lib.count_one 47 s)
    have hn' := Lib.hid hn
    clear hn
    have hcl : (cut s).length ≤ 65 := by have := List.count_le_length (a := (47 : UInt8)) (l := s); rw [cut_len]; omega
    have hlen : ∀ x ∈ cut s, x.length ≤ 64 := fun x hx => Nat.le_trans (cut_mem_len hx) h64
    have hlen' := Lib.hid hlen
    clear hlen
    go_enter Tryd.func36, Tryd.ntmps36
    go_wp2_with (fail)
    refine (Tryd.strings_Split (mkS s) ⟨#[47]⟩ m w (by rw [mkS_size]; omega) hm'.out (by decide)).mono ?_
    rintro e w' ⟨rfl, rfl⟩
    rw [pieces_eq, hn'.out]
    have hx1 : Ext w (w.alloc (.cells ((cut s).map fun p => Value.string (mkS p)).toArray 9)) := Ext.alloc _ _
    have hho := (OwnsF.lit (xs := cut s) w kStr 9 w.heap.size (fun _ => False) (reps_strs fun x hx => Nat.le_trans (hlen'.out x hx) (by simp [maxLen])) (fun k hk => hk.elim) (Nat.le_refl _) (by simp only [maxLen]; omega)).holds'.1
    generalize w.alloc (.cells ((cut s).map fun p => Value.string (mkS p)).toArray 9) = W1 at *
    go_wp2_with (fail)
    refine (containsFunc W1 _ _ _ _ (cut s) hho (fun x hx => Fits.of 64 (hlen'.out x hx) (by omega))).mono ?_
    rintro e w' ⟨rfl, hx2⟩
    go_wp2
    go_ret
    exact ⟨ret_b hr'.out.symm, hx1.trans hx2⟩
  · have hi : ¬ (s.length : Int) ≤ 64 := by omega
    have hi2 : decide ((s.length : Int) ≤ 64) = false := decide_eq_false hi
    have hr : right s = false := by simp [right, h64]
    have hr' := Lib.hid hr
    clear hr
    go_enter Tryd.func36, Tryd.ntmps36
    go_wp2
    go_ret
    exact ⟨ret_b (by rw [hr'.out]), Ext.refl _⟩
end Go.Proofs.YtaenackibigojaaDoor

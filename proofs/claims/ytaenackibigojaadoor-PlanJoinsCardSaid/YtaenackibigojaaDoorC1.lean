/- Arguments of a law opened: a slice of files, a slice of steps, as lists; what the row's listed variables give. -/
import Derived.Test.YtaenackibigojaaDoorCK
import Derived.Test.YtaenackibigojaaDoorK2
import Derived.Test.YtaenackibigojaaDoorProg
import Derived.ProofKit
import Derived.Deep.Slices
import Derived.Deep.Strs
import Derived.HandedShaped
import Derived.Shelf.Vars
import Derived.Test.YtaenackibigojaaDoorP6
import Derived.Test.YtaenackibigojaaDoorRows
import Derived.MakeChecks
set_option linter.unusedVariables false
set_option linter.unusedSimpArgs false
namespace Go.BK
open Go.ChangeShapes Go.WideShapes Go.Deep
section
variable {H : Type} {enc : TypeId × Value → H} {P : Program} {w : World} {base : Nat} {spare : Nat → Bool} {held : Bool}
theorem cell_mid {a : Addr} {v : Value} (h : w.cell? a = some v) : ∃ b o, a = ⟨b, o, none⟩ := by
  obtain ⟨b, o, m⟩ := a
  cases m with
  | none => exact ⟨b, o, rfl⟩
  | some x =>
    unfold World.cell? at h
    dsimp only at h
    split at h <;> simp at h
variable {α : Type} {K : Kd α}
theorem reps_map {A : Nat → Prop} (F : Nat → α) (G : Nat → List Value) : ∀ l : List Nat, (∀ i ∈ l, K.rep A w (F i) (G i)) → K.reps A w (l.map F) (l.flatMap G)
  | [], _ => rfl
  | i :: l, h => ⟨G i, l.flatMap G, by simp, h i (List.mem_cons_self ..), reps_map F G l (fun j hj => h j (List.mem_cons_of_mem _ hj))⟩
theorem range_flat {b o sz : Nat} (G : Nat → List Value) : ∀ n, (∀ i, i < n → (G i).length = sz ∧ w.rangeAt b (o + i * sz) (G i)) → w.rangeAt b o ((List.range n).flatMap G) ∧ ((List.range n).flatMap G).length = n * sz
  | 0, _ => by simp [World.rangeAt]
  | n + 1, h => by
    obtain ⟨h1, h2⟩ := range_flat G n (fun i hi => h i (by omega))
    obtain ⟨h3, h4⟩ := h n (by omega)
    rw [List.range_succ, List.flatMap_append]
    refine ⟨fun j v hv => ?_, by simp [h2, h3, Nat.succ_mul]⟩
    by_cases hj : j < n * sz
    · rw [List.getElem?_append_left (by omega)] at hv
      exact h1 j v hv
    · rw [List.getElem?_append_right (by omega), h2] at hv
      have := h4 (j - n * sz) v (by simpa using hv)
      rwa [show o + n * sz + (j - n * sz) = o + j by omega] at this
theorem open_kd [Inhabited α] {t e : TypeId} {fuel : Nat} {cs : List Value} {x : DataW H × List MemPlace} (ht : P.underlying t = some (.slice e)) (hK : P.cellsOf e = K.sz) (hpos : 0 < K.sz)
    (hel : ∀ n cs x, DataW.trod enc P w base spare held n e cs = some x → ∃ y, K.rep (fun _ => True) w y cs) (h : DataW.trod enc P w base spare held fuel t cs = some x) :
    ∃ a n c xs, cs = [.slice a n c] ∧ n ≤ c ∧ c ≤ maxLen ∧ Holds K (fun _ => True) w a n xs := by
  rcases open_slice ht h with ⟨rfl, _⟩ | ⟨a, len, cap, m, n, D, Pl, rfl, hb, hl, hm, hmm, _, hall⟩
  · exact ⟨none, 0, 0, [], rfl, Nat.le_refl _, by decide, Holds.nil _ _ _ _⟩
  · have hlm : len ≤ m := by rw [hmm]; split <;> omega
    obtain ⟨F, hF⟩ := choose_lt (α := α × List Value) (n := len) (p := fun i y => K.rep (fun _ => True) w y.1 y.2 ∧ y.2.length = K.sz ∧ ∀ j, j < K.sz → w.cell? ((a.add (i * K.sz)).add j) = y.2[j]?) (fun i hi => by
      obtain ⟨cs', h1, h2⟩ := hall i (by omega)
      obtain ⟨y, hy⟩ := hel _ _ _ h2
      obtain ⟨_, h4, h5⟩ := World.cells?_some h1
      rw [hK] at h4 h5
      exact ⟨(y, cs'), hy, h4, h5⟩)
    refine ⟨some a, len, cap, (List.range len).map fun i => (F i).1, rfl, hl, hm, by simp, Nat.le_trans hl hm, (List.range len).flatMap fun i => (F i).2, reps_map _ _ _ (fun i hi => (hF i (List.mem_range.1 hi)).1), fun hn => ?_⟩
    obtain ⟨_, g2, g3⟩ := hF 0 hn
    have hc0 := g3 0 hpos
    rw [List.getElem?_eq_getElem (by omega)] at hc0
    have hlt := World.block_lt_of_cell? _ _ hc0
    obtain ⟨b, o, hab⟩ := cell_mid hc0
    have ha : ∃ b o, a = ⟨b, o, none⟩ := by
      obtain ⟨b1, o1, m1⟩ := a
      cases m1 with
      | none => exact ⟨b1, o1, rfl⟩
      | some q => simp [Addr.add] at hab
    obtain ⟨b, o, rfl⟩ := ha
    refine ⟨b, o, rfl, trivial, by simpa [Addr.add] using hlt, (range_flat (sz := K.sz) _ len (fun i hi => ⟨(hF i hi).2.1, fun j v hv => ?_⟩)).1⟩
    have hj := (List.getElem?_eq_some_iff.1 hv).1
    have := (hF i hi).2.2 j (by rw [← (hF i hi).2.1]; exact hj)
    rw [hv, add_add] at this
    rw [Addr.add_mid] at this
    rwa [show o + i * K.sz + j = o + (i * K.sz + j) by omega]
end
end Go.BK
namespace Go.Proofs.YtaenackibigojaaDoor
open Go.RowKit Go.BK Go.ChangeShapes Go.WideShapes Go.Deep
section
variable {H : Type} {enc : TypeId × Value → H} {w : World} {base : Nat} {spare : Nat → Bool} {held : Bool}
theorem el_open_byte (n : Nat) (cs : List Value) (x : DataW H × List MemPlace) (h : DataW.trod enc Tryd.prog w base spare held n 5 cs = some x) : ∃ y, kByte.rep (fun _ => True) w y cs := by
  obtain ⟨z, rfl, _, hw⟩ := DataW.trod_int Tryd.underlying5 h
  have hz : 0 ≤ z ∧ z ≤ 255 := by
    simp only [Lit.wf, decide_eq_true_eq, Bool.and_eq_true] at hw
    have e1 : IntKind.u8.min = 0 := by decide
    have e2 : IntKind.u8.max = 255 := by decide
    rw [e1, e2] at hw
    exact hw
  refine ⟨UInt8.ofNat z.toNat, ?_⟩
  show [Value.int .u8 z] = [.int .u8 ((UInt8.ofNat z.toNat).toNat : Int)]
  have e3 : (UInt8.ofNat z.toNat).toNat = z.toNat := by
    rw [UInt8.toNat_ofNat']
    omega
  rw [e3]
  congr 2; omega
theorem el_open_bool (n : Nat) (cs : List Value) (x : DataW H × List MemPlace) (h : DataW.trod enc Tryd.prog w base spare held n 4 cs = some x) : ∃ y, kBool.rep (fun _ => True) w y cs := by
  obtain ⟨z, rfl, _⟩ := DataW.trod_bool Tryd.underlying4 h
  exact ⟨z, rfl⟩
theorem el_open_str (n : Nat) (cs : List Value) (x : DataW H × List MemPlace) (h : DataW.trod enc Tryd.prog w base spare held n 9 cs = some x) : ∃ y, kStr.rep (fun _ => True) w y cs := by
  obtain ⟨s, rfl, _, hs⟩ := DataW.trod_string Tryd.underlying9 h
  exact ⟨s.data.toList, by rw [mkS_data], by rw [Array.length_toList]; exact hs⟩
theorem el_open_bytes (n : Nat) (cs : List Value) (x : DataW H × List MemPlace) (h : DataW.trod enc Tryd.prog w base spare held n 27 cs = some x) : ∃ a k c xs, cs = [.slice a k c] ∧ k ≤ c ∧ c ≤ maxLen ∧ Holds kByte (fun _ => True) w a k xs :=
  open_kd Tryd.underlying27 (by kernel_rfl) (by decide) el_open_byte h
theorem el_open_bools (n : Nat) (cs : List Value) (x : DataW H × List MemPlace) (h : DataW.trod enc Tryd.prog w base spare held n 45 cs = some x) : ∃ a k c xs, cs = [.slice a k c] ∧ k ≤ c ∧ c ≤ maxLen ∧ Holds kBool (fun _ => True) w a k xs :=
  open_kd Tryd.underlying45 (by kernel_rfl) (by decide) el_open_bool h
end
end Go.Proofs.YtaenackibigojaaDoor
namespace Go.Proofs.YtaenackibigojaaDoor
open Go.RowKit Go.BK Go.ChangeShapes Go.WideShapes Go.Deep
section
variable {H : Type} {enc : TypeId × Value → H} {w : World} {base : Nat} {spare : Nat → Bool} {held : Bool}
theorem cells_str : Tryd.prog.cellsOf 9 = 1 := by kernel_rfl
theorem cells_bytes : Tryd.prog.cellsOf 27 = 1 := by kernel_rfl
theorem cells_file : Tryd.prog.cellsOf 29 = 2 := by kernel_rfl
set_option maxRecDepth 100000 in
theorem el_open_file (n : Nat) (cs : List Value) (x : DataW H × List MemPlace) (h : DataW.trod enc Tryd.prog w base spare held n 29 cs = some x) : ∃ y, kFile.rep (fun _ => True) w y cs := by
  obtain ⟨xs, n', _, _, hl, hlen, hf⟩ := DataW.trod_struct Tryd.underlying29 h
  rw [cells_file] at hl
  have hlen : xs.length = 2 := hlen
  match cs, hl with
  | [c0, c1], _ =>
    match xs, hlen with
    | [x0, x1], _ =>
      have f0 := hf 0 _ rfl
      have f1 := hf 1 _ rfl
      change DataW.trod _ _ _ _ _ _ _ 9 [c0] = _ at f0
      change DataW.trod _ _ _ _ _ _ _ 27 [c1] = _ at f1
      obtain ⟨s, e0, _, hs⟩ := DataW.trod_string Tryd.underlying9 f0
      obtain ⟨a, k, c, d, e1, g1, g2, g3⟩ := el_open_bytes _ _ _ f1
      have e0 : c0 = .string s := by simpa using e0
      have e1 : c1 = .slice a k c := by simpa using e1
      subst e0 e1
      refine ⟨⟨s.data.toList, d⟩, ?_⟩
      have := kFile_mk (f := ⟨s.data.toList, d⟩) (A := fun _ => True) (w := w) (by rw [Array.length_toList]; exact hs) g1 g2 g3
      rwa [mkS_data] at this
set_option maxRecDepth 100000 in
theorem el_open_op (n : Nat) (cs : List Value) (x : DataW H × List MemPlace) (h : DataW.trod enc Tryd.prog w base spare held n 49 cs = some x) : ∃ y, kOp.rep (fun _ => True) w y cs := by
  obtain ⟨xs, n', _, _, hl, hlen, hf⟩ := DataW.trod_struct Tryd.underlying49 h
  have hl : cs.length = 7 := hl.trans (by kernel_rfl)
  have hlen : xs.length = 5 := hlen
  match cs, hl with
  | [c0, c1, c2, c3, c4, c5, c6], _ =>
    match xs, hlen with
    | [x0, x1, x2, x3, x4], _ =>
      have f0 := hf 0 _ rfl
      have f1 := hf 1 _ rfl
      have f2 := hf 2 _ rfl
      have f3 := hf 3 _ rfl
      have f4 := hf 4 _ rfl
      change DataW.trod _ _ _ _ _ _ _ 3 [c0] = _ at f0
      change DataW.trod _ _ _ _ _ _ _ 9 [c1] = _ at f1
      change DataW.trod _ _ _ _ _ _ _ 27 [c2] = _ at f2
      change DataW.trod _ _ _ _ _ _ _ 3 [c3] = _ at f3
      change DataW.trod _ _ _ _ _ _ _ 47 [c4, c5, c6] = _ at f4
      obtain ⟨ys, n2, _, _, _, hlen2, hf2⟩ := DataW.trod_struct Tryd.underlying47 f4
      have hlen2 : ys.length = 3 := hlen2
      match ys, hlen2 with
      | [y0, y1, y2], _ =>
        have g0 := hf2 0 _ rfl
        have g1 := hf2 1 _ rfl
        have g2 := hf2 2 _ rfl
        change DataW.trod _ _ _ _ _ _ _ 45 [c4] = _ at g0
        change DataW.trod _ _ _ _ _ _ _ 3 [c5] = _ at g1
        change DataW.trod _ _ _ _ _ _ _ 5 [c6] = _ at g2
        obtain ⟨z0, e0, _, w0⟩ := DataW.trod_int Tryd.underlying3 f0
        obtain ⟨s, e1, _, hs⟩ := DataW.trod_string Tryd.underlying9 f1
        obtain ⟨a, k, c, d, e2, i1, i2, i3⟩ := el_open_bytes _ _ _ f2
        obtain ⟨z3, e3, _, w3⟩ := DataW.trod_int Tryd.underlying3 f3
        obtain ⟨a', k', c', d', e4, j1, j2, j3⟩ := el_open_bools _ _ _ g0
        obtain ⟨z5, e5, _, w5⟩ := DataW.trod_int Tryd.underlying3 g1
        obtain ⟨fb, e6⟩ := el_open_byte _ _ _ g2
        have e0 : c0 = .int .i64 z0 := by simpa using e0
        have e1 : c1 = .string s := by simpa using e1
        have e2 : c2 = .slice a k c := by simpa using e2
        have e3 : c3 = .int .i64 z3 := by simpa using e3
        have e4 : c4 = .slice a' k' c' := by simpa using e4
        have e5 : c5 = .int .i64 z5 := by simpa using e5
        have e6 : c6 = .int .u8 (fb.toNat : Int) := List.singleton_inj.1 e6
        subst e0 e1 e2 e3 e4 e5 e6
        simp only [Lit.wf, decide_eq_true_eq, Bool.and_eq_true] at w0 w3 w5
        refine ⟨⟨z0, s.data.toList, d, z3, d', z5, fb⟩, ?_⟩
        have := kOp_mk (o := ⟨z0, s.data.toList, d, z3, d', z5, fb⟩) (A := fun _ => True) (w := w) (by rw [Array.length_toList]; exact hs) i1 i2 i3 j1 j2 j3 w0 w3 w5
        rwa [mkS_data] at this
end
end Go.Proofs.YtaenackibigojaaDoor
namespace Go.Proofs.YtaenackibigojaaDoor
open Go.RowKit Go.BK Go.ChangeShapes Go.WideShapes Go.Deep
theorem own : ownKnob Tryd.prog.godebug = none := by kernel_rfl
theorem laidOut : laidOutB Tryd.prog = true := by kernel_rfl
theorem maxLen_cell (W : World) (h : W.ShapedOpen Tryd.prog) : Env W := by
  have h1 : ∃ m, W.cell? ⟨0, 0, none⟩ = some (.int .i64 m) :=
    cell_of_shapedOpen_int (t := 3) (zero := #[.int .i64 0]) h (of_decide_eq_true (by kernel_rfl)) (by kernel_rfl) rfl (by kernel_rfl) (by kernel_rfl) Tryd.underlying3
  obtain ⟨m, hm⟩ := h1
  exact ⟨⟨m, hm⟩, World.block_lt_of_cell? _ _ hm⟩
section
variable {H : Type} {enc : TypeId × Value → H} {w : World} {base : Nat} {spare : Nat → Bool} {held : Bool}
set_option maxRecDepth 100000 in
theorem open_files {v : Value} {d : DataW H} {p : List MemPlace} {b0 : Nat} (hv : Value.okWide Tryd.prog w .any b0 22 v) (h : DataW.Trod enc Tryd.prog w base spare held 22 v d p) :
    ∃ a n c l, v = .slice a n c ∧ n ≤ c ∧ c ≤ maxLen ∧ Holds kFile (fun _ => True) w a n l := by
  obtain ⟨a, n, c, rfl⟩ := okWide_slice Tryd.underlying22 hv
  obtain ⟨fuel, hf⟩ := h
  obtain ⟨a', n', c', l, he, h1, h2, h3⟩ := open_kd (K := kFile) Tryd.underlying22 (by kernel_rfl) (by decide) el_open_file hf
  have he' : [Value.slice a n c] = [.slice a' n' c'] := he
  injection he' with he' _
  rw [he']
  exact ⟨a', n', c', l, rfl, h1, h2, h3⟩
set_option maxRecDepth 100000 in
theorem open_ops {v : Value} {d : DataW H} {p : List MemPlace} {b0 : Nat} (hv : Value.okWide Tryd.prog w .any b0 23 v) (h : DataW.Trod enc Tryd.prog w base spare held 23 v d p) :
    ∃ a n c l, v = .slice a n c ∧ n ≤ c ∧ c ≤ maxLen ∧ Holds kOp (fun _ => True) w a n l := by
  obtain ⟨a, n, c, rfl⟩ := okWide_slice Tryd.underlying23 hv
  obtain ⟨fuel, hf⟩ := h
  obtain ⟨a', n', c', l, he, h1, h2, h3⟩ := open_kd (K := kOp) Tryd.underlying23 (by kernel_rfl) (by decide) el_open_op hf
  have he' : [Value.slice a n c] = [.slice a' n' c'] := he
  injection he' with he' _
  rw [he']
  exact ⟨a', n', c', l, rfl, h1, h2, h3⟩
end
theorem laid_met (os : Os) (args : Array Value) : laidMetH Tryd.prog Rows.planAppliesRow.laid ((World.laidAll Tryd.prog os Rows.planAppliesRow.laid).forCall (fun _ _ => 0) ⟨#[], args, []⟩).memory := by
  rw [MakeChecks.laidMetH_plain _ _ _ (by kernel_rfl)]
  exact laidMet_laidAll _ (by kernel_rfl) (by kernel_rfl)
end Go.Proofs.YtaenackibigojaaDoor

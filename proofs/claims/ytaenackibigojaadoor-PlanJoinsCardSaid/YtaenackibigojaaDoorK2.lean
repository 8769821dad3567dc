/- The kinds of data of package api. -/
import Derived.Test.YtaenackibigojaaDoorK1
set_option linter.unusedVariables false
set_option linter.unusedSimpArgs false
namespace Go.BK
open Go.RowKit

structure File where
  name : Str
  data : List UInt8
  deriving DecidableEq, Inhabited

def kBytes : Kd (List UInt8) := kSlice kByte
def kFile : Kd File := kMap (kPair kStr kBytes) fun f => (f.name, f.data)

theorem kFile_open {A : Nat → Prop} {w : World} {f : File} {vs : List Value} (h : kFile.rep A w f vs) :
    ∃ a n c, vs = [.string (mkS f.name), .slice a n c] ∧ f.name.length ≤ maxLen ∧ n ≤ c ∧ c ≤ maxLen ∧ Holds kByte A w a n f.data := by
  obtain ⟨v1, v2, rfl, ⟨rfl, h1⟩, ⟨a, n, c, rfl, h2, h3, h4⟩⟩ := h
  exact ⟨a, n, c, rfl, h1, h2, h3, h4⟩
theorem kFile_mk {A : Nat → Prop} {w : World} {f : File} {a : Option Addr} {n c : Nat} (h1 : f.name.length ≤ maxLen) (h2 : n ≤ c) (h3 : c ≤ maxLen) (h4 : Holds kByte A w a n f.data) :
    kFile.rep A w f [.string (mkS f.name), .slice a n c] := ⟨[.string (mkS f.name)], [.slice a n c], rfl, ⟨rfl, h1⟩, ⟨a, n, c, rfl, h2, h3, h4⟩⟩

/-- An element of a slice of files: its cells, in every world behind. -/
theorem files_at {A : Nat → Prop} {w : World} {a : Option Addr} {n : Nat} {l : List File} (h : Holds kFile A w a n l) (i : Nat) (f : File) (hf : l[i]? = some f) :
    ∃ b o ad m c, a = some ⟨b, o, none⟩ ∧ A b ∧ b < w.heap.size ∧ (∀ W, Ext w W → W.cell? ⟨b, o + i * 2, none⟩ = some (.string (mkS f.name))) ∧ (∀ W, Ext w W → W.cell? ⟨b, o + i * 2 + 1, none⟩ = some (.slice ad m c)) ∧
      f.name.length ≤ maxLen ∧ m ≤ c ∧ c ≤ maxLen ∧ (∀ W, Ext w W → Holds kByte A W ad m f.data) := by
  obtain ⟨b, o, us, ha, hA, hlt, hr, hat⟩ := h.at_ i f hf
  obtain ⟨ad, m, c, rfl, h1, h2, h3, h4⟩ := kFile_open hr
  exact ⟨b, o, ad, m, c, ha, hA, hlt, fun W hW => (hW.cell (p := ⟨b, o + i * 2, none⟩) hlt).trans (hat 0 _ rfl), fun W hW => (hW.cell (p := ⟨b, o + i * 2 + 1, none⟩) hlt).trans (hat 1 _ rfl), h1, h2, h3, fun W hW => h4.ext hW⟩

structure Stp where
  kind : Int
  name : Str
  data : List UInt8
  n : Int
  keep : List Bool
  names : Int
  fill : UInt8
  deriving DecidableEq, Inhabited

def kOp : Kd Stp := kMap (kPair (kInt .i64) (kPair kStr (kPair kBytes (kPair (kInt .i64) (kPair (kSlice kBool) (kPair (kInt .i64) kByte)))))) fun o => (o.kind, o.name, o.data, o.n, o.keep, o.names, o.fill)

theorem kOp_open {A : Nat → Prop} {w : World} {o : Stp} {vs : List Value} (h : kOp.rep A w o vs) :
    ∃ a n c a' n' c', vs = [.int .i64 o.kind, .string (mkS o.name), .slice a n c, .int .i64 o.n, .slice a' n' c', .int .i64 o.names, .int .u8 o.fill.toNat] ∧ o.name.length ≤ maxLen ∧ n ≤ c ∧ c ≤ maxLen ∧ Holds kByte A w a n o.data ∧
      n' ≤ c' ∧ c' ≤ maxLen ∧ Holds kBool A w a' n' o.keep ∧ (IntKind.min .i64 ≤ o.kind ∧ o.kind ≤ IntKind.max .i64) ∧ (IntKind.min .i64 ≤ o.n ∧ o.n ≤ IntKind.max .i64) ∧ (IntKind.min .i64 ≤ o.names ∧ o.names ≤ IntKind.max .i64) := by
  obtain ⟨v1, v2, rfl, ⟨rfl, h1⟩, v3, v4, rfl, ⟨rfl, h2⟩, v5, v6, rfl, ⟨a, n, c, rfl, h3, h4, h5⟩, v7, v8, rfl, ⟨rfl, h6⟩, v9, v10, rfl, ⟨a', n', c', rfl, h7, h8, h9⟩, v11, v12, rfl, ⟨rfl, h10⟩, h11⟩ := h
  have h11' : v12 = [.int .u8 (o.fill.toNat : Int)] := h11
  subst h11'
  exact ⟨a, n, c, a', n', c', rfl, h2, h3, h4, h5, h7, h8, h9, h1, h6, h10⟩
theorem kOp_mk {A : Nat → Prop} {w : World} {o : Stp} {a a' : Option Addr} {n c n' c' : Nat} (h1 : o.name.length ≤ maxLen) (h2 : n ≤ c) (h3 : c ≤ maxLen) (h4 : Holds kByte A w a n o.data) (h5 : n' ≤ c') (h6 : c' ≤ maxLen) (h7 : Holds kBool A w a' n' o.keep)
    (k1 : IntKind.min .i64 ≤ o.kind ∧ o.kind ≤ IntKind.max .i64) (k2 : IntKind.min .i64 ≤ o.n ∧ o.n ≤ IntKind.max .i64) (k3 : IntKind.min .i64 ≤ o.names ∧ o.names ≤ IntKind.max .i64) :
    kOp.rep A w o [.int .i64 o.kind, .string (mkS o.name), .slice a n c, .int .i64 o.n, .slice a' n' c', .int .i64 o.names, .int .u8 o.fill.toNat] :=
  ⟨[.int .i64 o.kind], _, rfl, ⟨rfl, k1⟩, [.string (mkS o.name)], _, rfl, ⟨rfl, h1⟩, [.slice a n c], _, rfl, ⟨a, n, c, rfl, h2, h3, h4⟩, [.int .i64 o.n], _, rfl, ⟨rfl, k2⟩, [.slice a' n' c'], _, rfl, ⟨a', n', c', rfl, h5, h6, h7⟩,
    [.int .i64 o.names], [.int .u8 o.fill.toNat], rfl, ⟨rfl, k3⟩, rfl⟩
theorem ops_at {A : Nat → Prop} {w : World} {a : Option Addr} {n : Nat} {l : List Stp} (h : Holds kOp A w a n l) (i : Nat) (f : Stp) (hf : l[i]? = some f) :
    ∃ b o ad m c ad' m' c', a = some ⟨b, o, none⟩ ∧ A b ∧ b < w.heap.size ∧ (∀ W, Ext w W → W.cell? ⟨b, o + i * 7, none⟩ = some (.int .i64 f.kind)) ∧ (∀ W, Ext w W → W.cell? ⟨b, o + i * 7 + 1, none⟩ = some (.string (mkS f.name))) ∧
      (∀ W, Ext w W → W.cell? ⟨b, o + i * 7 + 2, none⟩ = some (.slice ad m c)) ∧ (∀ W, Ext w W → W.cell? ⟨b, o + i * 7 + 3, none⟩ = some (.int .i64 f.n)) ∧ (∀ W, Ext w W → W.cell? ⟨b, o + i * 7 + 4, none⟩ = some (.slice ad' m' c')) ∧
      (∀ W, Ext w W → W.cell? ⟨b, o + i * 7 + 5, none⟩ = some (.int .i64 f.names)) ∧ (∀ W, Ext w W → W.cell? ⟨b, o + i * 7 + 6, none⟩ = some (.int .u8 f.fill.toNat)) ∧
      f.name.length ≤ maxLen ∧ m ≤ c ∧ c ≤ maxLen ∧ (∀ W, Ext w W → Holds kByte A W ad m f.data) ∧ m' ≤ c' ∧ c' ≤ maxLen ∧ (∀ W, Ext w W → Holds kBool A W ad' m' f.keep) ∧
      (IntKind.min .i64 ≤ f.kind ∧ f.kind ≤ IntKind.max .i64) ∧ (IntKind.min .i64 ≤ f.n ∧ f.n ≤ IntKind.max .i64) ∧ (IntKind.min .i64 ≤ f.names ∧ f.names ≤ IntKind.max .i64) := by
  obtain ⟨b, o, us, ha, hA, hlt, hr, hat⟩ := h.at_ i f hf
  obtain ⟨ad, m, c, ad', m', c', rfl, h1, h2, h3, h4, h5, h6, h7, h8, h9, h10⟩ := kOp_open hr
  exact ⟨b, o, ad, m, c, ad', m', c', ha, hA, hlt, fun W hW => (hW.cell (p := ⟨b, _, none⟩) hlt).trans (hat 0 _ rfl), fun W hW => (hW.cell (p := ⟨b, _, none⟩) hlt).trans (hat 1 _ rfl), fun W hW => (hW.cell (p := ⟨b, _, none⟩) hlt).trans (hat 2 _ rfl),
    fun W hW => (hW.cell (p := ⟨b, _, none⟩) hlt).trans (hat 3 _ rfl), fun W hW => (hW.cell (p := ⟨b, _, none⟩) hlt).trans (hat 4 _ rfl), fun W hW => (hW.cell (p := ⟨b, _, none⟩) hlt).trans (hat 5 _ rfl), fun W hW => (hW.cell (p := ⟨b, _, none⟩) hlt).trans (hat 6 _ rfl),
    h1, h2, h3, fun W hW => h4.ext hW, h5, h6, fun W hW => h7.ext hW, h8, h9, h10⟩

/-- Texts in a slice. -/
theorem strs_at {A : Nat → Prop} {w : World} {a : Option Addr} {n : Nat} {l : List Str} (h : Holds kStr A w a n l) (i : Nat) (f : Str) (hf : l[i]? = some f) :
    ∃ b o, a = some ⟨b, o, none⟩ ∧ A b ∧ b < w.heap.size ∧ (∀ W, Ext w W → W.cell? ⟨b, o + i, none⟩ = some (.string (mkS f))) ∧ f.length ≤ maxLen := by
  obtain ⟨b, o, us, ha, hA, hlt, ⟨rfl, hl⟩, hat⟩ := h.at_ i f hf
  refine ⟨b, o, ha, hA, hlt, fun W hW => (hW.cell (p := ⟨b, o + i, none⟩) hlt).trans ?_, hl⟩
  have := hat 0 _ rfl
  simpa [show kStr.sz = 1 from rfl] using this

/-- Files of sizes far from the machine's limits. -/
structure Mild (l : List File) : Prop where
  len : Fits l.length
  data : ∀ f ∈ l, Fits f.data.length
end Go.BK

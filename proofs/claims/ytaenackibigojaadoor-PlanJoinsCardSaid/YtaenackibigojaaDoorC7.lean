/- Proved: bindlelaw38.PlanJoins answers true for every input, and its arguments read behind the call as they did before; on the condition that the two listed tables of package unicode/utf8 hold what their text lays (the card ties them). -/
import Derived.Test.YtaenackibigojaaDoorL3
import Derived.Test.YtaenackibigojaaDoorC1
import Derived.Test.YtaenackibigojaaDoorCards
import Derived.Test.YtaenackibigojaaDoorTie
import Derived.SevenTiedAt
set_option linter.unusedVariables false
set_option linter.unusedSimpArgs false
namespace Go.Proofs.YtaenackibigojaaDoor
open Go.RowKit Go.BK Go.ChangeShapes Go.WideShapes Go.Deep
set_option maxRecDepth 100000 in
theorem joins_lifted (os : Os) (started : os.Started) (H : Type) (enc : TypeId × Value → H) :
    ReturnsInHanded {} Tryd.checked os 5 .any (fun w args => (Rows.planJoinsSpec.pre enc Tryd.prog Tryd.f5 [] false w args ∧ laidMetH Tryd.prog Rows.planJoinsRow.laid w) ∧ sizedMet enc Tryd.prog Tryd.f5 (OpenSpec.ofChange Rows.planJoinsSpec) false w args)
      (Rows.planJoinsSpec.post enc Tryd.prog Tryd.f5 false true false false) := by
  refine lift_true (C := Tryd.checked) (tb := 4) own started (by kernel_rfl) Tryd.func5
    (witness_laid (enc := enc) (C := Tryd.checked) (os := os) #[.slice none 0 0, .slice none 0 0, .slice none 0 0] 8 (by kernel_rfl) (by kernel_rfl) (by kernel_rfl) (by kernel_rfl) (by kernel_rfl) (laid_met os _))
    laidOut (by kernel_rfl) (by kernel_rfl) Tryd.underlying4 rfl ?_ ?_
  · intro ds hd
    match ds, hd with
    | [d1, d2, d3], _ => rfl
  · intro W base args ds p hval0 hA0 hL hS
    have hval : ∀ (j : Nat) t v, Tryd.f5.params[j]? = some t → args[j]? = some v → Value.okWide Tryd.prog W .any base t v := hval0
    have hA : DataW.TrodAll enc Tryd.prog W 0 (fun _ => true) true Tryd.f5.params.toList args.toList ds p := hA0
    rw [Tryd.params5] at hA hval
    obtain ⟨v0, v1, v2, d0, d1, d2, p0, p1, p2, rfl, rfl, rfl, h0, h1, h2⟩ := trodAll_three hA
    obtain ⟨a, n, c, l, rfl, hn, hc, hh⟩ := open_files (hval 0 22 v0 rfl rfl) h0
    obtain ⟨a2, n2, c2, l2, rfl, hn2, hc2, hh2⟩ := open_files (hval 1 22 v1 rfl rfl) h1
    obtain ⟨a3, n3, c3, l3, rfl, hn3, hc3, hh3⟩ := open_files (hval 2 22 v2 rfl rfl) h2
    exact law_joins W _ a a2 a3 n c n2 c2 n3 c3 l l2 l3 hh hn hc hh2 hn2 hc2 hh3 hn3 hc3 (maxLen_cell W hS)
theorem joins_row : Rows.PlanJoinsSaid :=
  OpenClaim.holds_of_wide 5 Tryd.f5 rfl rfl rfl rfl rfl rfl rfl ⟨rfl, rfl, rfl, rfl, rfl⟩ rfl rfl rfl rfl rfl (by kernel_rfl) Tryd.func5 (by kernel_rfl)
    (of_decide_eq_true (by kernel_rfl)) (by unfold Func.isWrapper; rw [if_neg (of_decide_eq_false (by kernel_rfl))]; exact ⟨rfl, rfl⟩)
    (fun os started H enc _ => joins_lifted os started H enc)
theorem joins_card : Rows.PlanJoinsCardSaid :=
  Claim7.holds_tied_plain_at .later [] [.data, .pinned] true Rows.planJoinsCard.stood.harness false
    joins_row (fun _ h => by cases h) (by kernel_rfl) (fun _ h => by cases h) planJoins_row_tie rfl ⟨rfl, rfl⟩ (by kernel_rfl) rfl
    (fun f fn hf hfn => by
      obtain rfl : f = 5 := Option.some.inj ((show Tryd.prog.funcNamed Rows.planJoinsRow.func = some 5 by kernel_rfl).symm.trans hf) |>.symm
      obtain rfl : fn = Tryd.f5 := (Option.some.inj (Tryd.func5.symm.trans hfn)).symm
      exact ⟨by kernel_rfl, fun j t ht => by
        rw [Tryd.params5] at ht
        have hm : t ∈ [22] := by simpa using Array.mem_of_getElem? ht
        have hall : ([22].all fun u => !Tryd.prog.wantsStandIn u) = true := by kernel_rfl
        exact (show Tryd.prog.wantsStandIn t = false by simpa using List.all_eq_true.1 hall t hm)⟩)
    (by kernel_rfl)
end Go.Proofs.YtaenackibigojaaDoor
#print axioms Go.Proofs.YtaenackibigojaaDoor.joins_card

/- Proved: bindlelaw38.PlanApplies answers true for every input, and its arguments read behind the call as they did before; on the condition that the two listed tables of package unicode/utf8 hold what their text lays (the card ties them). -/
import Derived.Test.YtaenackibigojaaDoorL1
import Derived.Test.YtaenackibigojaaDoorC1
import Derived.Test.YtaenackibigojaaDoorCards
import Derived.Test.YtaenackibigojaaDoorTie
import Derived.SevenTiedAt
set_option linter.unusedVariables false
set_option linter.unusedSimpArgs false
namespace Go.Proofs.YtaenackibigojaaDoor
open Go.RowKit Go.BK Go.ChangeShapes Go.WideShapes Go.Deep
set_option maxRecDepth 100000 in
theorem applies_lifted (os : Os) (started : os.Started) (H : Type) (enc : TypeId × Value → H) :
    ReturnsInHanded {} Tryd.checked os 3 .any (fun w args => (Rows.planAppliesSpec.pre enc Tryd.prog Tryd.f3 [] false w args ∧ laidMetH Tryd.prog Rows.planAppliesRow.laid w) ∧ sizedMet enc Tryd.prog Tryd.f3 (OpenSpec.ofChange Rows.planAppliesSpec) false w args)
      (Rows.planAppliesSpec.post enc Tryd.prog Tryd.f3 false true false false) := by
  refine lift_true (C := Tryd.checked) (tb := 4) own started (by kernel_rfl) Tryd.func3
    (witness_laid (enc := enc) (C := Tryd.checked) (os := os) #[.slice none 0 0, .slice none 0 0] 8 (by kernel_rfl) (by kernel_rfl) (by kernel_rfl) (by kernel_rfl) (by kernel_rfl) (laid_met os _))
    laidOut (by kernel_rfl) (by kernel_rfl) Tryd.underlying4 rfl ?_ ?_
  · intro ds hd
    match ds, hd with
    | [d1, d2], _ => rfl
  · intro W base args ds p hval0 hA0 hL hS
    have hval : ∀ (j : Nat) t v, Tryd.f3.params[j]? = some t → args[j]? = some v → Value.okWide Tryd.prog W .any base t v := hval0
    have hA : DataW.TrodAll enc Tryd.prog W 0 (fun _ => true) true Tryd.f3.params.toList args.toList ds p := hA0
    rw [Tryd.params3] at hA hval
    obtain ⟨v0, v1, d0, d1, p0, p1, rfl, rfl, rfl, h0, h1⟩ := trodAll_two hA
    obtain ⟨a, n, c, l, rfl, hn, hc, hh⟩ := open_files (hval 0 22 v0 rfl rfl) h0
    obtain ⟨a2, n2, c2, l2, rfl, _, _, hh2⟩ := open_ops (hval 1 23 v1 rfl rfl) h1
    exact law_applies W _ _ a a2 n c n2 c2 l l2 hh hn hc hh2 (maxLen_cell W hS)
theorem applies_row : Rows.PlanAppliesSaid :=
  OpenClaim.holds_of_wide 3 Tryd.f3 rfl rfl rfl rfl rfl rfl rfl ⟨rfl, rfl, rfl, rfl, rfl⟩ rfl rfl rfl rfl rfl (by kernel_rfl) Tryd.func3 (by kernel_rfl)
    (of_decide_eq_true (by kernel_rfl)) (by unfold Func.isWrapper; rw [if_neg (of_decide_eq_false (by kernel_rfl))]; exact ⟨rfl, rfl⟩)
    (fun os started H enc _ => applies_lifted os started H enc)
theorem applies_card : Rows.PlanAppliesCardSaid :=
  Claim7.holds_tied_plain_at .later [] [.data, .pinned] true Rows.planAppliesCard.stood.harness false
    applies_row (fun _ h => by cases h) (by kernel_rfl) (fun _ h => by cases h) planApplies_row_tie rfl ⟨rfl, rfl⟩ (by kernel_rfl) rfl
    (fun f fn hf hfn => by
      obtain rfl : f = 3 := Option.some.inj ((show Tryd.prog.funcNamed Rows.planAppliesRow.func = some 3 by kernel_rfl).symm.trans hf) |>.symm
      obtain rfl : fn = Tryd.f3 := (Option.some.inj (Tryd.func3.symm.trans hfn)).symm
      exact ⟨by kernel_rfl, fun j t ht => by
        rw [Tryd.params3] at ht
        have hm : t ∈ [22, 23] := by simpa using Array.mem_of_getElem? ht
        have hall : ([22, 23].all fun u => !Tryd.prog.wantsStandIn u) = true := by kernel_rfl
        exact (show Tryd.prog.wantsStandIn t = false by simpa using List.all_eq_true.1 hall t hm)⟩)
    (by kernel_rfl)
end Go.Proofs.YtaenackibigojaaDoor
#print axioms Go.Proofs.YtaenackibigojaaDoor.applies_card

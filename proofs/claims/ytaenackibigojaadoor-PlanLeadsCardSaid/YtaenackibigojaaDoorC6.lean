/- Proved: bindlelaw38.PlanLeads answers true for every input, and its arguments read behind the call as they did before; on the condition that the two listed tables of package unicode/utf8 hold what their text lays (the card ties them). -/
import Derived.Test.YtaenackibigojaaDoorL2
import Derived.Test.YtaenackibigojaaDoorC1
import Derived.Test.YtaenackibigojaaDoorCards
import Derived.Test.YtaenackibigojaaDoorTie
import Derived.SevenTiedAt
set_option linter.unusedVariables false
set_option linter.unusedSimpArgs false
namespace Go.Proofs.YtaenackibigojaaDoor
open Go.RowKit Go.BK Go.ChangeShapes Go.WideShapes Go.Deep
set_option maxRecDepth 100000 in
theorem leads_lifted (os : Os) (started : os.Started) (H : Type) (enc : TypeId × Value → H) :
    ReturnsInHanded {} Tryd.checked os 4 .any (fun w args => (Rows.planLeadsSpec.pre enc Tryd.prog Tryd.f4 [] false w args ∧ laidMetH Tryd.prog Rows.planLeadsRow.laid w) ∧ sizedMet enc Tryd.prog Tryd.f4 (OpenSpec.ofChange Rows.planLeadsSpec) false w args)
      (Rows.planLeadsSpec.post enc Tryd.prog Tryd.f4 false true false false) := by
  refine lift_true (C := Tryd.checked) (tb := 4) own started (by kernel_rfl) Tryd.func4
    (witness_laid (enc := enc) (C := Tryd.checked) (os := os) #[.slice none 0 0, .slice none 0 0, .int .i64 0] 8 (by kernel_rfl) (by kernel_rfl) (by kernel_rfl) (by kernel_rfl) (by kernel_rfl) (laid_met os _))
    laidOut (by kernel_rfl) (by kernel_rfl) Tryd.underlying4 rfl ?_ ?_
  · intro ds hd
    match ds, hd with
    | [d1, d2, d3], _ => rfl
  · intro W base args ds p hval0 hA0 hL hS
    have hval : ∀ (j : Nat) t v, Tryd.f4.params[j]? = some t → args[j]? = some v → Value.okWide Tryd.prog W .any base t v := hval0
    have hA : DataW.TrodAll enc Tryd.prog W 0 (fun _ => true) true Tryd.f4.params.toList args.toList ds p := hA0
    rw [Tryd.params4] at hA hval
    obtain ⟨v0, v1, v2, d0, d1, d2, p0, p1, p2, rfl, rfl, rfl, h0, h1, h2⟩ := trodAll_three hA
    obtain ⟨a, n, c, l, rfl, hn, hc, hh⟩ := open_files (hval 0 22 v0 rfl rfl) h0
    obtain ⟨a2, n2, c2, l2, rfl, hn2, hc2, hh2⟩ := open_files (hval 1 22 v1 rfl rfl) h1
    obtain ⟨z, rfl, rfl, rfl, wz⟩ := open_int Tryd.underlying3 (hval 2 3 v2 rfl rfl) h2
    simp only [Lit.wf, decide_eq_true_eq, Bool.and_eq_true] at wz
    exact law_leads W _ _ a a2 n c n2 c2 z l l2 hh hn hc hh2 hn2 hc2 wz.1 wz.2 (maxLen_cell W hS)
theorem leads_row : Rows.PlanLeadsSaid :=
  OpenClaim.holds_of_wide 4 Tryd.f4 rfl rfl rfl rfl rfl rfl rfl ⟨rfl, rfl, rfl, rfl, rfl⟩ rfl rfl rfl rfl rfl (by kernel_rfl) Tryd.func4 (by kernel_rfl)
    (of_decide_eq_true (by kernel_rfl)) (by unfold Func.isWrapper; rw [if_neg (of_decide_eq_false (by kernel_rfl))]; exact ⟨rfl, rfl⟩)
    (fun os started H enc _ => leads_lifted os started H enc)
theorem leads_card : Rows.PlanLeadsCardSaid :=
  Claim7.holds_tied_plain_at .later [] [.data, .pinned] true Rows.planLeadsCard.stood.harness false
    leads_row (fun _ h => by cases h) (by kernel_rfl) (fun _ h => by cases h) planLeads_row_tie rfl ⟨rfl, rfl⟩ (by kernel_rfl) rfl
    (fun f fn hf hfn => by
      obtain rfl : f = 4 := Option.some.inj ((show Tryd.prog.funcNamed Rows.planLeadsRow.func = some 4 by kernel_rfl).symm.trans hf) |>.symm
      obtain rfl : fn = Tryd.f4 := (Option.some.inj (Tryd.func4.symm.trans hfn)).symm
      exact ⟨by kernel_rfl, fun j t ht => by
        rw [Tryd.params4] at ht
        have hm : t ∈ [22, 22, 3] := by simpa using Array.mem_of_getElem? ht
        have hall : ([22, 22, 3].all fun u => !Tryd.prog.wantsStandIn u) = true := by kernel_rfl
        exact (show Tryd.prog.wantsStandIn t = false by simpa using List.all_eq_true.1 hall t hm)⟩)
    (by kernel_rfl)
end Go.Proofs.YtaenackibigojaaDoor
#print axioms Go.Proofs.YtaenackibigojaaDoor.leads_card

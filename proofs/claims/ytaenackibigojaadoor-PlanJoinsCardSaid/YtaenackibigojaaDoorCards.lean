/-
  DERIVED. GIVEN WITH THE SEED: THE CARDS: each row of YtaenackibigojaaDoorRows.lean that lists a variable, with what it lists TIED to the program's text (the seventh form; the later family's looks); each row that meets fmt, with fmt's text TOLD by the authors' own Lean function (tested against real Go, not proved from fmt's source: count such statements apart). THE CARD IS WHAT COUNTS. Prove the row's statement (the work); the ties are given (YtaenackibigojaaDoorTie.lean); close each card by the builder's one call (the guide's Derived/Test/ToyasCard.lean, 'card_holds'). Laid BY PROGRAM, IN A SANDBOX (cutbox-door.mjs). By AI agents, Wed Nov 11 2026. No macro, syntax, notation, axiom, sorry.
-/
import Derived.Test.YtaenackibigojaaDoorRows
import GoSem.ClaimSeven
namespace Go.Proofs.YtaenackibigojaaDoor
namespace Rows

/-- THE TIED CARD OF 'bindlelaw38.PlanApplies'. -/
def planAppliesCard : Claim7 := { stood := { row := planAppliesRow, standIns := [], harness := (true, "9f53b472948395540ed9537c50220097eb8ddc63f8407300ee2dce8f7d82e062"), looks := false }, kinds := [], alts := [], laidByText := true, laidKinds := [.data, .pinned], laidTests := true, laidLooks := .later }
def PlanAppliesCardSaid : Prop := Claim7.holds Tryd.pinned (.plain (OpenSpec.ofChange planAppliesSpec)) planAppliesCard

/-- THE TIED CARD OF 'bindlelaw38.PlanLeads'. -/
def planLeadsCard : Claim7 := { stood := { row := planLeadsRow, standIns := [], harness := (true, "9f53b472948395540ed9537c50220097eb8ddc63f8407300ee2dce8f7d82e062"), looks := false }, kinds := [], alts := [], laidByText := true, laidKinds := [.data, .pinned], laidTests := true, laidLooks := .later }
def PlanLeadsCardSaid : Prop := Claim7.holds Tryd.pinned (.plain (OpenSpec.ofChange planLeadsSpec)) planLeadsCard

/-- THE TIED CARD OF 'bindlelaw38.PlanJoins'. -/
def planJoinsCard : Claim7 := { stood := { row := planJoinsRow, standIns := [], harness := (true, "9f53b472948395540ed9537c50220097eb8ddc63f8407300ee2dce8f7d82e062"), looks := false }, kinds := [], alts := [], laidByText := true, laidKinds := [.data, .pinned], laidTests := true, laidLooks := .later }
def PlanJoinsCardSaid : Prop := Claim7.holds Tryd.pinned (.plain (OpenSpec.ofChange planJoinsSpec)) planJoinsCard

/-- THE SECOND FORM's CARD OF 'bindlelaw38.PlanApplies'. -/
def planAppliesUptoCard : Claim7 := { stood := { row := planAppliesUptoRow, standIns := [], harness := (true, "9f53b472948395540ed9537c50220097eb8ddc63f8407300ee2dce8f7d82e062"), looks := false }, kinds := [], alts := [], laidByText := true, laidKinds := [.data, .pinned], laidTests := true, laidLooks := .later }
def PlanAppliesUptoCardSaid : Prop := Claim7.holds Tryd.pinned (.plain (OpenSpec.upto planAppliesSpec)) planAppliesUptoCard

/-- THE SECOND FORM's CARD OF 'bindlelaw38.PlanLeads'. -/
def planLeadsUptoCard : Claim7 := { stood := { row := planLeadsUptoRow, standIns := [], harness := (true, "9f53b472948395540ed9537c50220097eb8ddc63f8407300ee2dce8f7d82e062"), looks := false }, kinds := [], alts := [], laidByText := true, laidKinds := [.data, .pinned], laidTests := true, laidLooks := .later }
def PlanLeadsUptoCardSaid : Prop := Claim7.holds Tryd.pinned (.plain (OpenSpec.upto planLeadsSpec)) planLeadsUptoCard

/-- THE SECOND FORM's CARD OF 'bindlelaw38.PlanJoins'. -/
def planJoinsUptoCard : Claim7 := { stood := { row := planJoinsUptoRow, standIns := [], harness := (true, "9f53b472948395540ed9537c50220097eb8ddc63f8407300ee2dce8f7d82e062"), looks := false }, kinds := [], alts := [], laidByText := true, laidKinds := [.data, .pinned], laidTests := true, laidLooks := .later }
def PlanJoinsUptoCardSaid : Prop := Claim7.holds Tryd.pinned (.plain (OpenSpec.upto planJoinsSpec)) planJoinsUptoCard
end Rows
end Go.Proofs.YtaenackibigojaaDoor

/-
  DERIVED. GIVEN WITH THE SEED: THE CARDS: each row of YtlblmofimjhbbaaDoorRows.lean that lists a variable, with what it lists TIED to the program's text (the seventh form; the later family's looks); each row that meets fmt, with fmt's text TOLD by the authors' own Lean function (tested against real Go, not proved from fmt's source: count such statements apart). THE CARD IS WHAT COUNTS. Prove the row's statement (the work); the ties are given (YtlblmofimjhbbaaDoorTie.lean); close each card by the builder's one call (the guide's Derived/Test/ToyasCard.lean, 'card_holds'). Laid BY PROGRAM, IN A SANDBOX (cutbox-door.mjs). By AI agents, Wed Nov 11 2026. No macro, syntax, notation, axiom, sorry.
-/
import Derived.Test.YtlblmofimjhbbaaDoorRows
import GoSem.ClaimSeven
namespace Go.Proofs.YtlblmofimjhbbaaDoor
namespace Rows

/-- THE TIED CARD OF 'laws.FnExactLinePlan'. -/
def fnExactLinePlanCard : Claim7 := { stood := { row := fnExactLinePlanRow, standIns := [], harness := (true, "dc7378d72235f7a7b28be6232b622e4c786836d7e5fbfa251908d03ae64fb1ae"), looks := true }, kinds := [], alts := [], laidByText := true, laidKinds := [.data, .data, .data], laidTests := true, laidLooks := .later }
def FnExactLinePlanCardSaid : Prop := Claim7.holds Tryd.pinned (.plain (OpenSpec.ofChange fnExactLinePlanSpec)) fnExactLinePlanCard

/-- THE TIED CARD OF 'laws.FnExactReadPlan'. -/
def fnExactReadPlanCard : Claim7 := { stood := { row := fnExactReadPlanRow, standIns := [], harness := (true, "dc7378d72235f7a7b28be6232b622e4c786836d7e5fbfa251908d03ae64fb1ae"), looks := true }, kinds := [], alts := [], laidByText := true, laidKinds := [.data, .data, .data, .data, .sentinel, .sentinel, .pinned], laidTests := true, laidLooks := .later }
def FnExactReadPlanCardSaid : Prop := Claim7.holds Tryd.pinned (.plain (OpenSpec.ofChange fnExactReadPlanSpec)) fnExactReadPlanCard

/-- THE SECOND FORM's CARD OF 'laws.FnExactLinePlan'. -/
def fnExactLinePlanUptoCard : Claim7 := { stood := { row := fnExactLinePlanUptoRow, standIns := [], harness := (true, "dc7378d72235f7a7b28be6232b622e4c786836d7e5fbfa251908d03ae64fb1ae"), looks := true }, kinds := [], alts := [], laidByText := true, laidKinds := [.data, .data, .data], laidTests := true, laidLooks := .later }
def FnExactLinePlanUptoCardSaid : Prop := Claim7.holds Tryd.pinned (.plain (OpenSpec.upto fnExactLinePlanSpec)) fnExactLinePlanUptoCard

/-- THE SECOND FORM's CARD OF 'laws.FnExactReadPlan'. -/
def fnExactReadPlanUptoCard : Claim7 := { stood := { row := fnExactReadPlanUptoRow, standIns := [], harness := (true, "dc7378d72235f7a7b28be6232b622e4c786836d7e5fbfa251908d03ae64fb1ae"), looks := true }, kinds := [], alts := [], laidByText := true, laidKinds := [.data, .data, .data, .data, .sentinel, .sentinel, .pinned], laidTests := true, laidLooks := .later }
def FnExactReadPlanUptoCardSaid : Prop := Claim7.holds Tryd.pinned (.plain (OpenSpec.upto fnExactReadPlanSpec)) fnExactReadPlanUptoCard
end Rows
end Go.Proofs.YtlblmofimjhbbaaDoor

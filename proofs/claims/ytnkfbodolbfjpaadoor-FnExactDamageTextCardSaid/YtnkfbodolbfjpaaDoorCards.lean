/-
  DERIVED. GIVEN WITH THE SEED: THE CARDS: each row of YtnkfbodolbfjpaaDoorRows.lean that lists a variable, with what it lists TIED to the program's text (the seventh form; the later family's looks); each row that meets fmt, with fmt's text TOLD by the authors' own Lean function (tested against real Go, not proved from fmt's source: count such statements apart). THE CARD IS WHAT COUNTS. Prove the row's statement (the work); the ties are given (YtnkfbodolbfjpaaDoorTie.lean); close each card by the builder's one call (the guide's Derived/Test/ToyasCard.lean, 'card_holds'). Laid BY PROGRAM, IN A SANDBOX (cutbox-door.mjs). By AI agents, Wed Nov 11 2026. No macro, syntax, notation, axiom, sorry.
-/
import Derived.Test.YtnkfbodolbfjpaaDoorRows
import GoSem.ClaimSeven
namespace Go.Proofs.YtnkfbodolbfjpaaDoor
namespace Rows

/-- THE TIED CARD OF 'laws.FnExactConfigText'. -/
def fnExactConfigTextCard : Claim7 := { stood := { row := fnExactConfigTextRow, standIns := [], harness := (true, "afe960fb3aa27ccfd02ef6c06a18d51cf3c53fe68f9f71827badc97c69ff7f18"), looks := false }, kinds := [], alts := [], laidByText := true, laidKinds := [.data, .data, .data], laidTests := true, laidLooks := .later }
def FnExactConfigTextCardSaid : Prop := Claim7.holds Tryd.pinned (.plain (OpenSpec.ofChange fnExactConfigTextSpec)) fnExactConfigTextCard

/-- THE TIED CARD OF 'laws.FnExactDamageText'. -/
def fnExactDamageTextCard : Claim7 := { stood := { row := fnExactDamageTextRow, standIns := [], harness := (true, "afe960fb3aa27ccfd02ef6c06a18d51cf3c53fe68f9f71827badc97c69ff7f18"), looks := false }, kinds := [], alts := [], laidByText := true, laidKinds := [.data, .data, .data], laidTests := true, laidLooks := .later }
def FnExactDamageTextCardSaid : Prop := Claim7.holds Tryd.pinned (.plain (OpenSpec.ofChange fnExactDamageTextSpec)) fnExactDamageTextCard

/-- THE TIED CARD OF 'laws.FnExactPlanText'. -/
def fnExactPlanTextCard : Claim7 := { stood := { row := fnExactPlanTextRow, standIns := [], harness := (true, "afe960fb3aa27ccfd02ef6c06a18d51cf3c53fe68f9f71827badc97c69ff7f18"), looks := false }, kinds := [], alts := [], laidByText := true, laidKinds := [.data, .data, .data], laidTests := true, laidLooks := .later }
def FnExactPlanTextCardSaid : Prop := Claim7.holds Tryd.pinned (.plain (OpenSpec.ofChange fnExactPlanTextSpec)) fnExactPlanTextCard

/-- THE SECOND FORM's CARD OF 'laws.FnExactConfigText'. -/
def fnExactConfigTextUptoCard : Claim7 := { stood := { row := fnExactConfigTextUptoRow, standIns := [], harness := (true, "afe960fb3aa27ccfd02ef6c06a18d51cf3c53fe68f9f71827badc97c69ff7f18"), looks := false }, kinds := [], alts := [], laidByText := true, laidKinds := [.data, .data, .data], laidTests := true, laidLooks := .later }
def FnExactConfigTextUptoCardSaid : Prop := Claim7.holds Tryd.pinned (.plain (OpenSpec.upto fnExactConfigTextSpec)) fnExactConfigTextUptoCard

/-- THE SECOND FORM's CARD OF 'laws.FnExactDamageText'. -/
def fnExactDamageTextUptoCard : Claim7 := { stood := { row := fnExactDamageTextUptoRow, standIns := [], harness := (true, "afe960fb3aa27ccfd02ef6c06a18d51cf3c53fe68f9f71827badc97c69ff7f18"), looks := false }, kinds := [], alts := [], laidByText := true, laidKinds := [.data, .data, .data], laidTests := true, laidLooks := .later }
def FnExactDamageTextUptoCardSaid : Prop := Claim7.holds Tryd.pinned (.plain (OpenSpec.upto fnExactDamageTextSpec)) fnExactDamageTextUptoCard

/-- THE SECOND FORM's CARD OF 'laws.FnExactPlanText'. -/
def fnExactPlanTextUptoCard : Claim7 := { stood := { row := fnExactPlanTextUptoRow, standIns := [], harness := (true, "afe960fb3aa27ccfd02ef6c06a18d51cf3c53fe68f9f71827badc97c69ff7f18"), looks := false }, kinds := [], alts := [], laidByText := true, laidKinds := [.data, .data, .data], laidTests := true, laidLooks := .later }
def FnExactPlanTextUptoCardSaid : Prop := Claim7.holds Tryd.pinned (.plain (OpenSpec.upto fnExactPlanTextSpec)) fnExactPlanTextUptoCard
end Rows
end Go.Proofs.YtnkfbodolbfjpaaDoor

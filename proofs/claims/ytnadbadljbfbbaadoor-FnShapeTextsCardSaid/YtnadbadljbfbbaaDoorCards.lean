/-
  DERIVED. GIVEN WITH THE SEED: THE CARDS: each row of YtnadbadljbfbbaaDoorRows.lean that lists a variable, with what it lists TIED to the program's text (the seventh form; the later family's looks); each row that meets fmt, with fmt's text TOLD by the authors' own Lean function (tested against real Go, not proved from fmt's source: count such statements apart). THE CARD IS WHAT COUNTS. Prove the row's statement (the work); the ties are given (YtnadbadljbfbbaaDoorTie.lean); close each card by the builder's one call (the guide's Derived/Test/ToyasCard.lean, 'card_holds'). Laid BY PROGRAM, IN A SANDBOX (cutbox-door.mjs). By AI agents, Wed Nov 11 2026. No macro, syntax, notation, axiom, sorry.
-/
import Derived.Test.YtnadbadljbfbbaaDoorRows
import GoSem.ClaimSeven
namespace Go.Proofs.YtnadbadljbfbbaaDoor
namespace Rows

/-- THE TIED CARD OF 'laws.FnExactReadPattern'. -/
def fnExactReadPatternCard : Claim7 := { stood := { row := fnExactReadPatternRow, standIns := [], harness := (true, "6c2e217c74027d0ededc7c0dd0ae2d10cbb2b95343f987788805d90c0784bbe7"), looks := false }, kinds := [], alts := [], laidByText := true, laidKinds := [.data, .pinned], laidTests := true, laidLooks := .later }
def FnExactReadPatternCardSaid : Prop := Claim7.holds Tryd.pinned (.plain (OpenSpec.ofChange fnExactReadPatternSpec)) fnExactReadPatternCard

/-- THE TIED CARD OF 'laws.FnShapeTexts'. -/
def fnShapeTextsCard : Claim7 := { stood := { row := fnShapeTextsRow, standIns := [], harness := (true, "6c2e217c74027d0ededc7c0dd0ae2d10cbb2b95343f987788805d90c0784bbe7"), looks := false }, kinds := [], alts := [], laidByText := true, laidKinds := [.data, .pinned], laidTests := true, laidLooks := .later }
def FnShapeTextsCardSaid : Prop := Claim7.holds Tryd.pinned (.plain (OpenSpec.ofChange fnShapeTextsSpec)) fnShapeTextsCard

/-- THE SECOND FORM's CARD OF 'laws.FnExactReadPattern'. -/
def fnExactReadPatternUptoCard : Claim7 := { stood := { row := fnExactReadPatternUptoRow, standIns := [], harness := (true, "6c2e217c74027d0ededc7c0dd0ae2d10cbb2b95343f987788805d90c0784bbe7"), looks := false }, kinds := [], alts := [], laidByText := true, laidKinds := [.data, .pinned], laidTests := true, laidLooks := .later }
def FnExactReadPatternUptoCardSaid : Prop := Claim7.holds Tryd.pinned (.plain (OpenSpec.upto fnExactReadPatternSpec)) fnExactReadPatternUptoCard

/-- THE SECOND FORM's CARD OF 'laws.FnShapeTexts'. -/
def fnShapeTextsUptoCard : Claim7 := { stood := { row := fnShapeTextsUptoRow, standIns := [], harness := (true, "6c2e217c74027d0ededc7c0dd0ae2d10cbb2b95343f987788805d90c0784bbe7"), looks := false }, kinds := [], alts := [], laidByText := true, laidKinds := [.data, .pinned], laidTests := true, laidLooks := .later }
def FnShapeTextsUptoCardSaid : Prop := Claim7.holds Tryd.pinned (.plain (OpenSpec.upto fnShapeTextsSpec)) fnShapeTextsUptoCard
end Rows
end Go.Proofs.YtnadbadljbfbbaaDoor

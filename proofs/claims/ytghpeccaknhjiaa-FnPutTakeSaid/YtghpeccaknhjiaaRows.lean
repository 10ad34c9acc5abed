/-
  No cell of these rows narrows 'for every input' (looked for: loops, veiled, ifaces, maps, wideKeys, modest, calm, conditions, laid).
  DERIVED. THE GIVEN ROWS OF THIS SEAT. 3 by the template 'for every input the law returns true; each argument reads behind the call as it read before'; 0 by the template 'total and deterministic' (their statements: YtghpeccaknhjiaaTotals.lean).
  GIVEN WITH THE SEED: the statements are not yours to turn. If you find one false, say at which input.
  Laid BY PROGRAM, IN A SANDBOX (cutbox-rows.mjs): the forced cells as the released guide's own fill.sh prints them over the translation 86aa298ed671989b… (all of the seat's roots in one cut). By AI agents, Wed Nov 11 2026. No macro, syntax, notation, axiom, sorry.
-/
import Derived.Test.YtghpeccaknhjiaaChecked
import GoSem.Claim
import GoSem.ClaimJoined
import GoSem.ClaimMapViews
import Derived.JoinedTies
import Derived.KernelRfl
namespace Go.Proofs.Ytghpeccaknhjiaa
/- THE CELL 'sum', in the pinned program and in every row, IS THE sha256 OF THE DUMP (.gsa) THAT YtghpeccaknhjiaaProg.lean LOADS. Nothing in Lean hashes anything: it is a label: what it is worth is what the hold of that sum in a sandbox is worth. -/
noncomputable def Try.pinned : Pinned := { name := "ytghpeccaknhjiaa", sum := "86aa298ed671989bb495be167ec29be6d8b1233578933588c54fb4bd858db82d", checked := Try.checked }
namespace Rows
def none {H : Type} : Left H := { results := [], args := [] }

/-- 'laws.FnExactPutTile': WHATEVER THE INPUT: true; the input reads as it did. -/
def fnExactPutTileSpec : ChangeSpec := { name := "fnExactPutTile", fn := fun _ => fun
  | [d1, d2, d3] => { results := [.lit (.bool true)], args := [d1, d2, d3] }
  | _ => none }
def fnExactPutTileRow : OpenClaim := { program := "ytghpeccaknhjiaa", sum := "86aa298ed671989bb495be167ec29be6d8b1233578933588c54fb4bd858db82d", func := "loop.example/g01081/laws.FnExactPutTile", spec := "fnExactPutTile", inPlace := ["slices.overlaps[loop.example/g01081/impl.Placed]"], unfollowed := true, recurses := true, apart := false }
def FnExactPutTileSaid : Prop := fnExactPutTileRow.holds Try.pinned (OpenSpec.ofChange fnExactPutTileSpec)

/-- ITS FALSE NEIGHBOUR: 'it returns false'. Refute it at one input. -/
def fnExactPutTileWrong : ChangeSpec := { name := "fnExactPutTile", fn := fun _ => fun
  | [d1, d2, d3] => { results := [.lit (.bool false)], args := [d1, d2, d3] }
  | _ => none }
def FnExactPutTileWrongFalsely : Prop := fnExactPutTileRow.holds Try.pinned (OpenSpec.ofChange fnExactPutTileWrong)

/-- 'laws.FnExactTakeTile': WHATEVER THE INPUT: true; the input reads as it did. -/
def fnExactTakeTileSpec : ChangeSpec := { name := "fnExactTakeTile", fn := fun _ => fun
  | [d1, d2] => { results := [.lit (.bool true)], args := [d1, d2] }
  | _ => none }
def fnExactTakeTileRow : OpenClaim := { program := "ytghpeccaknhjiaa", sum := "86aa298ed671989bb495be167ec29be6d8b1233578933588c54fb4bd858db82d", func := "loop.example/g01081/laws.FnExactTakeTile", spec := "fnExactTakeTile", unfollowed := true, recurses := true, apart := false }
def FnExactTakeTileSaid : Prop := fnExactTakeTileRow.holds Try.pinned (OpenSpec.ofChange fnExactTakeTileSpec)

/-- ITS FALSE NEIGHBOUR: 'it returns false'. Refute it at one input. -/
def fnExactTakeTileWrong : ChangeSpec := { name := "fnExactTakeTile", fn := fun _ => fun
  | [d1, d2] => { results := [.lit (.bool false)], args := [d1, d2] }
  | _ => none }
def FnExactTakeTileWrongFalsely : Prop := fnExactTakeTileRow.holds Try.pinned (OpenSpec.ofChange fnExactTakeTileWrong)

/-- 'laws.FnPutTake': WHATEVER THE INPUT: true; the input reads as it did. -/
def fnPutTakeSpec : ChangeSpec := { name := "fnPutTake", fn := fun _ => fun
  | [d] => { results := [.lit (.bool true)], args := [d] }
  | _ => none }
def fnPutTakeRow : OpenClaim := { program := "ytghpeccaknhjiaa", sum := "86aa298ed671989bb495be167ec29be6d8b1233578933588c54fb4bd858db82d", func := "loop.example/g01081/laws.FnPutTake", spec := "fnPutTake", inPlace := ["slices.overlaps[loop.example/g01081/impl.Placed]"], unfollowed := true, recurses := true, apart := false }
def FnPutTakeSaid : Prop := fnPutTakeRow.holds Try.pinned (OpenSpec.ofChange fnPutTakeSpec)

/-- ITS FALSE NEIGHBOUR: 'it returns false'. Refute it at one input. -/
def fnPutTakeWrong : ChangeSpec := { name := "fnPutTake", fn := fun _ => fun
  | [d] => { results := [.lit (.bool false)], args := [d] }
  | _ => none }
def FnPutTakeWrongFalsely : Prop := fnPutTakeRow.holds Try.pinned (OpenSpec.ofChange fnPutTakeWrong)

/- THE SECOND FORM. 'bulk': how many values and letters a reading holds, each counted each time it is reached (what is shared counts as often as it is met; a slice's spare places count too). A statement '..UptoSaid' is the law's where the arguments, and the package variables that the reading takes, are together of bulk at most 1048576: NARROWER than '..Said'. Prove '..Said' where nothing that the law and all that it calls make is longer than what came in: it says more and counts as full. Else prove '..UptoSaid'. A law counts once. -/
mutual
def uptoBulk {H : Type} : DataW H → Nat
  | .lit (.string bytes) => bytes.length + 1
  | .lit _ => 1
  | .nil => 1
  | .ptr d => uptoBulk d + 1
  | .slice elems spare => uptoBulkAll elems + uptoBulkAll spare + 1
  | .agg parts => uptoBulkAll parts + 1
  | .iface _ d => uptoBulk d + 1
  | .map entries => uptoBulkEntries entries + 1
  | .held _ => 1
def uptoBulkAll {H : Type} : List (DataW H) → Nat
  | [] => 0
  | d :: r => uptoBulk d + uptoBulkAll r
def uptoBulkEntries {H : Type} : List (Lit × DataW H) → Nat
  | [] => 0
  | x :: r => uptoBulkEntry x + uptoBulkEntries r
def uptoBulkEntry {H : Type} : Lit × DataW H → Nat
  | (.string bytes, d) => bytes.length + uptoBulk d + 1
  | (_, d) => uptoBulk d + 1
 end
def uptoSmall : (H : Type) → List (DataW H) → Bool := fun _ ds => decide (uptoBulkAll ds ≤ 1048576)
def OpenSpec.upto (s : _root_.Go.ChangeSpec) : _root_.Go.OpenSpec := { _root_.Go.OpenSpec.ofChange s with cond := some uptoSmall }

/-- 'laws.FnExactPutTile', WHERE WHAT IT READS IS OF BULK AT MOST 1048576: true; the input reads as it did. -/
def fnExactPutTileUptoRow : OpenClaim := { program := "ytghpeccaknhjiaa", sum := "86aa298ed671989bb495be167ec29be6d8b1233578933588c54fb4bd858db82d", func := "loop.example/g01081/laws.FnExactPutTile", spec := "fnExactPutTile", inPlace := ["slices.overlaps[loop.example/g01081/impl.Placed]"], unfollowed := true, recurses := true, apart := false, narrowed := true }
def FnExactPutTileUptoSaid : Prop := fnExactPutTileUptoRow.holds Try.pinned (OpenSpec.upto fnExactPutTileSpec)

/-- 'laws.FnExactTakeTile', WHERE WHAT IT READS IS OF BULK AT MOST 1048576: true; the input reads as it did. -/
def fnExactTakeTileUptoRow : OpenClaim := { program := "ytghpeccaknhjiaa", sum := "86aa298ed671989bb495be167ec29be6d8b1233578933588c54fb4bd858db82d", func := "loop.example/g01081/laws.FnExactTakeTile", spec := "fnExactTakeTile", unfollowed := true, recurses := true, apart := false, narrowed := true }
def FnExactTakeTileUptoSaid : Prop := fnExactTakeTileUptoRow.holds Try.pinned (OpenSpec.upto fnExactTakeTileSpec)

/-- 'laws.FnPutTake', WHERE WHAT IT READS IS OF BULK AT MOST 1048576: true; the input reads as it did. -/
def fnPutTakeUptoRow : OpenClaim := { program := "ytghpeccaknhjiaa", sum := "86aa298ed671989bb495be167ec29be6d8b1233578933588c54fb4bd858db82d", func := "loop.example/g01081/laws.FnPutTake", spec := "fnPutTake", inPlace := ["slices.overlaps[loop.example/g01081/impl.Placed]"], unfollowed := true, recurses := true, apart := false, narrowed := true }
def FnPutTakeUptoSaid : Prop := fnPutTakeUptoRow.holds Try.pinned (OpenSpec.upto fnPutTakeSpec)

end Rows
end Go.Proofs.Ytghpeccaknhjiaa

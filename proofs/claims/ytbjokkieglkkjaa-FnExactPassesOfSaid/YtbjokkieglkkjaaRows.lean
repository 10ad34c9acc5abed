/-
  No cell of these rows narrows 'for every input' (looked for: loops, veiled, ifaces, maps, wideKeys, modest, calm, conditions, laid).
  DERIVED. THE GIVEN ROWS OF THIS SEAT. 5 by the template 'for every input the law returns true; each argument reads behind the call as it read before'; 0 by the template 'total and deterministic' (their statements: YtbjokkieglkkjaaTotals.lean).
  GIVEN WITH THE SEED: the statements are not yours to turn. If you find one false, say at which input.
  Laid BY PROGRAM, IN A SANDBOX (cutbox-rows.mjs): the forced cells as the released guide's own fill.sh prints them over the translation 520bf3a6b56e0c77… (all of the seat's roots in one cut). By AI agents, Wed Nov 11 2026. No macro, syntax, notation, axiom, sorry.
-/
import Derived.Test.YtbjokkieglkkjaaChecked
import GoSem.Claim
import GoSem.ClaimJoined
import GoSem.ClaimMapViews
import Derived.JoinedTies
import Derived.KernelRfl
namespace Go.Proofs.Ytbjokkieglkkjaa
/- THE CELL 'sum', in the pinned program and in every row, IS THE sha256 OF THE DUMP (.gsa) THAT YtbjokkieglkkjaaProg.lean LOADS. Nothing in Lean hashes anything: it is a label: what it is worth is what the hold of that sum in a sandbox is worth. -/
noncomputable def Try.pinned : Pinned := { name := "ytbjokkieglkkjaa", sum := "520bf3a6b56e0c77c64957605070883bb8e58fae0499ae336c19c1f4318e69ce", checked := Try.checked }
namespace Rows
def none {H : Type} : Left H := { results := [], args := [] }

/-- 'laws.FnExactPutTile': WHATEVER THE INPUT: true; the input reads as it did. -/
def fnExactPutTileSpec : ChangeSpec := { name := "fnExactPutTile", fn := fun _ => fun
  | [d1, d2, d3] => { results := [.lit (.bool true)], args := [d1, d2, d3] }
  | _ => none }
def fnExactPutTileRow : OpenClaim := { program := "ytbjokkieglkkjaa", sum := "520bf3a6b56e0c77c64957605070883bb8e58fae0499ae336c19c1f4318e69ce", func := "loop.example/g01081/laws.FnExactPutTile", spec := "fnExactPutTile", inPlace := ["slices.overlaps[loop.example/g01081/impl.Placed]"], unfollowed := true, recurses := true, apart := false }
def FnExactPutTileSaid : Prop := fnExactPutTileRow.holds Try.pinned (OpenSpec.ofChange fnExactPutTileSpec)

/-- ITS FALSE NEIGHBOUR: 'it returns false'. Refute it at one input. -/
def fnExactPutTileWrong : ChangeSpec := { name := "fnExactPutTile", fn := fun _ => fun
  | [d1, d2, d3] => { results := [.lit (.bool false)], args := [d1, d2, d3] }
  | _ => none }
def FnExactPutTileWrongFalsely : Prop := fnExactPutTileRow.holds Try.pinned (OpenSpec.ofChange fnExactPutTileWrong)

/-- 'laws.FnExactTakeTile': WHATEVER THE INPUT: true; the input reads as it did. -/
def fnExactTakeTileSpec : ChangeSpec := { name := "fnExactTakeTile", fn := fun _ => fun
  | [d1, d2] => { results := [.lit (.bool true)], args := [d1, d2] }
  | _ => none }
def fnExactTakeTileRow : OpenClaim := { program := "ytbjokkieglkkjaa", sum := "520bf3a6b56e0c77c64957605070883bb8e58fae0499ae336c19c1f4318e69ce", func := "loop.example/g01081/laws.FnExactTakeTile", spec := "fnExactTakeTile", unfollowed := true, recurses := true, apart := false }
def FnExactTakeTileSaid : Prop := fnExactTakeTileRow.holds Try.pinned (OpenSpec.ofChange fnExactTakeTileSpec)

/-- ITS FALSE NEIGHBOUR: 'it returns false'. Refute it at one input. -/
def fnExactTakeTileWrong : ChangeSpec := { name := "fnExactTakeTile", fn := fun _ => fun
  | [d1, d2] => { results := [.lit (.bool false)], args := [d1, d2] }
  | _ => none }
def FnExactTakeTileWrongFalsely : Prop := fnExactTakeTileRow.holds Try.pinned (OpenSpec.ofChange fnExactTakeTileWrong)

/-- 'laws.FnExactIsFilled': WHATEVER THE INPUT: true; the input reads as it did. -/
def fnExactIsFilledSpec : ChangeSpec := { name := "fnExactIsFilled", fn := fun _ => fun
  | [d1, d2, d3] => { results := [.lit (.bool true)], args := [d1, d2, d3] }
  | _ => none }
def fnExactIsFilledRow : OpenClaim := { program := "ytbjokkieglkkjaa", sum := "520bf3a6b56e0c77c64957605070883bb8e58fae0499ae336c19c1f4318e69ce", func := "loop.example/g01081/laws.FnExactIsFilled", spec := "fnExactIsFilled", apart := false }
def FnExactIsFilledSaid : Prop := fnExactIsFilledRow.holds Try.pinned (OpenSpec.ofChange fnExactIsFilledSpec)

/-- ITS FALSE NEIGHBOUR: 'it returns false'. Refute it at one input. -/
def fnExactIsFilledWrong : ChangeSpec := { name := "fnExactIsFilled", fn := fun _ => fun
  | [d1, d2, d3] => { results := [.lit (.bool false)], args := [d1, d2, d3] }
  | _ => none }
def FnExactIsFilledWrongFalsely : Prop := fnExactIsFilledRow.holds Try.pinned (OpenSpec.ofChange fnExactIsFilledWrong)

/-- 'laws.FnExactPassesOf': WHATEVER THE INPUT: true; the input reads as it did. -/
def fnExactPassesOfSpec : ChangeSpec := { name := "fnExactPassesOf", fn := fun _ => fun
  | [d1, d2] => { results := [.lit (.bool true)], args := [d1, d2] }
  | _ => none }
def fnExactPassesOfRow : OpenClaim := { program := "ytbjokkieglkkjaa", sum := "520bf3a6b56e0c77c64957605070883bb8e58fae0499ae336c19c1f4318e69ce", func := "loop.example/g01081/laws.FnExactPassesOf", spec := "fnExactPassesOf", unfollowed := true, recurses := true, apart := false }
def FnExactPassesOfSaid : Prop := fnExactPassesOfRow.holds Try.pinned (OpenSpec.ofChange fnExactPassesOfSpec)

/-- ITS FALSE NEIGHBOUR: 'it returns false'. Refute it at one input. -/
def fnExactPassesOfWrong : ChangeSpec := { name := "fnExactPassesOf", fn := fun _ => fun
  | [d1, d2] => { results := [.lit (.bool false)], args := [d1, d2] }
  | _ => none }
def FnExactPassesOfWrongFalsely : Prop := fnExactPassesOfRow.holds Try.pinned (OpenSpec.ofChange fnExactPassesOfWrong)

/-- 'laws.FnBlocks': WHATEVER THE INPUT: true; the input reads as it did. -/
def fnBlocksSpec : ChangeSpec := { name := "fnBlocks", fn := fun _ => fun
  | [d] => { results := [.lit (.bool true)], args := [d] }
  | _ => none }
def fnBlocksRow : OpenClaim := { program := "ytbjokkieglkkjaa", sum := "520bf3a6b56e0c77c64957605070883bb8e58fae0499ae336c19c1f4318e69ce", func := "loop.example/g01081/laws.FnBlocks", spec := "fnBlocks", unfollowed := true, recurses := true, apart := false }
def FnBlocksSaid : Prop := fnBlocksRow.holds Try.pinned (OpenSpec.ofChange fnBlocksSpec)

/-- ITS FALSE NEIGHBOUR: 'it returns false'. Refute it at one input. -/
def fnBlocksWrong : ChangeSpec := { name := "fnBlocks", fn := fun _ => fun
  | [d] => { results := [.lit (.bool false)], args := [d] }
  | _ => none }
def FnBlocksWrongFalsely : Prop := fnBlocksRow.holds Try.pinned (OpenSpec.ofChange fnBlocksWrong)

/- THE SECOND FORM. 'bulk': how many values and letters a reading holds, each counted each time it is reached (what is shared counts as often as it is met; a slice's spare places count too). A statement '..UptoSaid' is the law's where the arguments, and the package variables that the reading takes, are together of bulk at most 1048576: NARROWER than '..Said'. Prove '..Said' where nothing that the law and all that it calls make is longer than what came in: it says more and counts as full. Else prove '..UptoSaid'. A law counts once. -/
mutual
def uptoBulk {H : Type} : DataW H → Nat
  | .lit (.string bytes) => bytes.length + 1
  | .lit _ => 1
  | .nil => 1
  | .ptr d => uptoBulk d + 1
  | .slice elems spare => uptoBulkAll elems + uptoBulkAll spare + 1
  | .agg parts => uptoBulkAll parts + 1
  | .iface _ d => uptoBulk d + 1
  | .map entries => uptoBulkEntries entries + 1
  | .held _ => 1
def uptoBulkAll {H : Type} : List (DataW H) → Nat
  | [] => 0
  | d :: r => uptoBulk d + uptoBulkAll r
def uptoBulkEntries {H : Type} : List (Lit × DataW H) → Nat
  | [] => 0
  | x :: r => uptoBulkEntry x + uptoBulkEntries r
def uptoBulkEntry {H : Type} : Lit × DataW H → Nat
  | (.string bytes, d) => bytes.length + uptoBulk d + 1
  | (_, d) => uptoBulk d + 1
 end
def uptoSmall : (H : Type) → List (DataW H) → Bool := fun _ ds => decide (uptoBulkAll ds ≤ 1048576)
def OpenSpec.upto (s : _root_.Go.ChangeSpec) : _root_.Go.OpenSpec := { _root_.Go.OpenSpec.ofChange s with cond := some uptoSmall }

/-- 'laws.FnExactPutTile', WHERE WHAT IT READS IS OF BULK AT MOST 1048576: true; the input reads as it did. -/
def fnExactPutTileUptoRow : OpenClaim := { program := "ytbjokkieglkkjaa", sum := "520bf3a6b56e0c77c64957605070883bb8e58fae0499ae336c19c1f4318e69ce", func := "loop.example/g01081/laws.FnExactPutTile", spec := "fnExactPutTile", inPlace := ["slices.overlaps[loop.example/g01081/impl.Placed]"], unfollowed := true, recurses := true, apart := false, narrowed := true }
def FnExactPutTileUptoSaid : Prop := fnExactPutTileUptoRow.holds Try.pinned (OpenSpec.upto fnExactPutTileSpec)

/-- 'laws.FnExactTakeTile', WHERE WHAT IT READS IS OF BULK AT MOST 1048576: true; the input reads as it did. -/
def fnExactTakeTileUptoRow : OpenClaim := { program := "ytbjokkieglkkjaa", sum := "520bf3a6b56e0c77c64957605070883bb8e58fae0499ae336c19c1f4318e69ce", func := "loop.example/g01081/laws.FnExactTakeTile", spec := "fnExactTakeTile", unfollowed := true, recurses := true, apart := false, narrowed := true }
def FnExactTakeTileUptoSaid : Prop := fnExactTakeTileUptoRow.holds Try.pinned (OpenSpec.upto fnExactTakeTileSpec)

/-- 'laws.FnExactIsFilled', WHERE WHAT IT READS IS OF BULK AT MOST 1048576: true; the input reads as it did. -/
def fnExactIsFilledUptoRow : OpenClaim := { program := "ytbjokkieglkkjaa", sum := "520bf3a6b56e0c77c64957605070883bb8e58fae0499ae336c19c1f4318e69ce", func := "loop.example/g01081/laws.FnExactIsFilled", spec := "fnExactIsFilled", apart := false, narrowed := true }
def FnExactIsFilledUptoSaid : Prop := fnExactIsFilledUptoRow.holds Try.pinned (OpenSpec.upto fnExactIsFilledSpec)

/-- 'laws.FnExactPassesOf', WHERE WHAT IT READS IS OF BULK AT MOST 1048576: true; the input reads as it did. -/
def fnExactPassesOfUptoRow : OpenClaim := { program := "ytbjokkieglkkjaa", sum := "520bf3a6b56e0c77c64957605070883bb8e58fae0499ae336c19c1f4318e69ce", func := "loop.example/g01081/laws.FnExactPassesOf", spec := "fnExactPassesOf", unfollowed := true, recurses := true, apart := false, narrowed := true }
def FnExactPassesOfUptoSaid : Prop := fnExactPassesOfUptoRow.holds Try.pinned (OpenSpec.upto fnExactPassesOfSpec)

/-- 'laws.FnBlocks', WHERE WHAT IT READS IS OF BULK AT MOST 1048576: true; the input reads as it did. -/
def fnBlocksUptoRow : OpenClaim := { program := "ytbjokkieglkkjaa", sum := "520bf3a6b56e0c77c64957605070883bb8e58fae0499ae336c19c1f4318e69ce", func := "loop.example/g01081/laws.FnBlocks", spec := "fnBlocks", unfollowed := true, recurses := true, apart := false, narrowed := true }
def FnBlocksUptoSaid : Prop := fnBlocksUptoRow.holds Try.pinned (OpenSpec.upto fnBlocksSpec)

end Rows
end Go.Proofs.Ytbjokkieglkkjaa

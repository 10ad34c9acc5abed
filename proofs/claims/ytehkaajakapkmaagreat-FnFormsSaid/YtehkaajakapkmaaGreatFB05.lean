/- Texts of one proof, one behind the other. -/
import Derived.WalkKit
import Derived.LoopTactic
import Derived.Lib.Hide
import Derived.Below
import Derived.Deep.Draws
namespace Go.Proofs.YtehkaajakapkmaaGreat
section
open Go.RowKit
end
end Go.Proofs.YtehkaajakapkmaaGreat

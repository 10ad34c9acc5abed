/- Functions of the library on slices of []int64. -/
import Derived.Test.YtnkfbodolbfjpaaBoilK
import Derived.Test.YtnkfbodolbfjpaaY23
namespace Go.Proofs.Ytnkfbodolbfjpaa
open Go.RowKit
set_option maxRecDepth 10000
set_option maxHeartbeats 4000000
end Go.Proofs.Ytnkfbodolbfjpaa

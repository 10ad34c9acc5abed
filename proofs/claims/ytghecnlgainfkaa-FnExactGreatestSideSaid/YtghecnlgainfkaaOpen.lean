/- How an argument that can be read lies in memory. No program is named here. -/
import Derived.Below
import Derived.ProofKit
import Derived.Carry
namespace Go.Proofs.Ytghecnlgainfkaa
open Go.ChangeShapes Go.WideShapes Go.ChangeAt Go.RowKit
end Go.Proofs.Ytghecnlgainfkaa

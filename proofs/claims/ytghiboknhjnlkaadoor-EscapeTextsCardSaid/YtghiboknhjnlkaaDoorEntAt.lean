/- The entity at a place of a text. -/
import Derived.Test.YtghiboknhjnlkaaDoorEntP
set_option linter.unusedVariables false
set_option linter.unusedSimpArgs false
namespace Go.Proofs.YtghiboknhjnlkaaDoor

def entAt (s : ByteArray) (at' : Int) : List UInt8 × Nat := if 0 ≤ at' ∧ at' < s.size then entL (s.data.toList.drop at'.toNat) else ([], 0)

end Go.Proofs.YtghiboknhjnlkaaDoor

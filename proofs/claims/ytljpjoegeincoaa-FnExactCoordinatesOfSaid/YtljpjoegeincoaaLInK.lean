/- Numbers from 0 to 40. Plain. -/
import Derived.Lib.Hide
namespace Go.Proofs.Ytljpjoegeincoaa
def inK (k : Int) : Bool := decide (0 ≤ k) && decide (k ≤ 40)
end Go.Proofs.Ytljpjoegeincoaa

/- AddDual of the program and of the reference. -/
import Derived.Test.YtalbbjhonkcbgaaGreatLAdd3
namespace Go.Proofs.YtalbbjhonkcbgaaGreat
open Go.RowKit Go.Sort

end Go.Proofs.YtalbbjhonkcbgaaGreat

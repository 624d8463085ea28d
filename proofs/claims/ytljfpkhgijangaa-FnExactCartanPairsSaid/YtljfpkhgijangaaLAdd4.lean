/- AddDual of the program and of the reference. -/
import Derived.Test.YtljfpkhgijangaaLAdd3
namespace Go.Proofs.Ytljfpkhgijangaa
open Go.RowKit Go.Sort

end Go.Proofs.Ytljfpkhgijangaa

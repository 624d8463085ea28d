/- AddDual of the program and of the reference. -/
import Derived.Test.YtpjffjcnfdndoaaLAdd3
namespace Go.Proofs.Ytpjffjcnfdndoaa
open Go.RowKit Go.Sort

end Go.Proofs.Ytpjffjcnfdndoaa

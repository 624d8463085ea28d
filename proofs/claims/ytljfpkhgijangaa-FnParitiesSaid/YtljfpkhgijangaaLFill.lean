/- Going through all tables: of the program. -/
import Derived.Test.YtljfpkhgijangaaLFill0
import Derived.Test.YtljfpkhgijangaaLFin
import Derived.Deep.DeepCutAuto
namespace Go.Proofs.Ytljfpkhgijangaa
open Go.RowKit Go.Sort

end Go.Proofs.Ytljfpkhgijangaa

/- AddDual of the program and of the reference. -/
import Derived.Test.YtmnkccjddahcjaaLAdd3
namespace Go.Proofs.Ytmnkccjddahcjaa
open Go.RowKit Go.Sort

end Go.Proofs.Ytmnkccjddahcjaa

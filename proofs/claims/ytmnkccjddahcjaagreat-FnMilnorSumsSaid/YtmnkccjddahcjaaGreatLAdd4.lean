/- AddDual of the program and of the reference. -/
import Derived.Test.YtmnkccjddahcjaaGreatLAdd3
namespace Go.Proofs.YtmnkccjddahcjaaGreat
open Go.RowKit Go.Sort

end Go.Proofs.YtmnkccjddahcjaaGreat

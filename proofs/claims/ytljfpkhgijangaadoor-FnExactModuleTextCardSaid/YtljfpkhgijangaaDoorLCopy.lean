/- Copies of lists of lists: copyLists of the program, l01Own2 of the reference. -/
import Derived.Test.YtljfpkhgijangaaDoorBaseC
import Derived.Test.YtljfpkhgijangaaDoorBase4
namespace Go.Proofs.YtljfpkhgijangaaDoor
open Go.RowKit Go.Sort

end Go.Proofs.YtljfpkhgijangaaDoor

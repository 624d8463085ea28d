/- Words for laws of two modules whose result goes into a variable in a region that draws. -/
import Derived.Test.YtljfpkhgijangaaLGen
import Derived.Test.YtljfpkhgijangaaLSrt
import Derived.Test.YtljfpkhgijangaaLModArg
namespace Go.Proofs.Ytljfpkhgijangaa
open Go.RowKit Go.Sort

section
variable {x1 x2 x3 x4 : Value} {g1 g2 g3 g4 : Addr} {w0 W W' : World}
theorem heldM4A (h : W.cell? g1 = some x1 ∧ W.cell? g2 = some x2 ∧ W.cell? g3 = some x3 ∧ W.cell? g4 = some x4 ∧ Below w0.heap.size w0 W) (o : Obj) : (W.alloc o).cell? g1 = some x1 ∧ (W.alloc o).cell? g2 = some x2 ∧ (W.alloc o).cell? g3 = some x3 ∧ (W.alloc o).cell? g4 = some x4 ∧ Below w0.heap.size w0 (W.alloc o) :=
  ⟨Go.Lib.cell?_alloc_some o h.1, Go.Lib.cell?_alloc_some o h.2.1, Go.Lib.cell?_alloc_some o h.2.2.1, Go.Lib.cell?_alloc_some o h.2.2.2.1, h.2.2.2.2.alloc h.2.2.2.2.size o⟩
theorem heldM4S (k : w0.cell? g1 = some x1 ∧ w0.cell? g2 = some x2 ∧ w0.cell? g3 = some x3 ∧ w0.cell? g4 = some x4) (h : W.cell? g1 = some x1 ∧ W.cell? g2 = some x2 ∧ W.cell? g3 = some x3 ∧ W.cell? g4 = some x4 ∧ Below w0.heap.size w0 W) {g : Nat} (hg : w0.heap.size ≤ g) (i j : Nat) (u v : Value) :
    ((W.setCell ⟨g, i, none⟩ u).setCell ⟨g, j, none⟩ v).cell? g1 = some x1 ∧ ((W.setCell ⟨g, i, none⟩ u).setCell ⟨g, j, none⟩ v).cell? g2 = some x2 ∧ ((W.setCell ⟨g, i, none⟩ u).setCell ⟨g, j, none⟩ v).cell? g3 = some x3 ∧ ((W.setCell ⟨g, i, none⟩ u).setCell ⟨g, j, none⟩ v).cell? g4 = some x4 ∧ Below w0.heap.size w0 ((W.setCell ⟨g, i, none⟩ u).setCell ⟨g, j, none⟩ v) := by
  have far : ∀ (q : Addr) (x : Value), w0.cell? q = some x → W.cell? q = some x → ((W.setCell ⟨g, i, none⟩ u).setCell ⟨g, j, none⟩ v).cell? q = some x := fun q x h1 h2 => by
    have hl := World.block_lt_of_cell? _ _ h1
    have hne : q.block ≠ g := by omega
    exact (cell_far (p := ⟨g, j, none⟩) v hne).trans ((cell_far (p := ⟨g, i, none⟩) u hne).trans h2)
  exact ⟨far _ _ k.1 h.1, far _ _ k.2.1 h.2.1, far _ _ k.2.2.1 h.2.2.1, far _ _ k.2.2.2 h.2.2.2.1, (h.2.2.2.2.setCell hg _).setCell hg _⟩
theorem var_below {x y : Value} {t : Nat} (h : Below (W.alloc (.cells #[x, y] t)).heap.size (W.alloc (.cells #[x, y] t)) W') : Var2 W' W.heap.size x y t := (Var2.new W x y t).kept h.block
theorem var_below_d {x y : Value} {t : Nat} (h : Below (W.alloc (.cells #[x, y] t)).drew.heap.size (W.alloc (.cells #[x, y] t)).drew W') : Var2 W' W.heap.size x y t := (Var2.new W x y t).kept h.block
end
theorem ModS.otherV {w : World} {g : Nat} {d a x y u v : Value} {ds : List Int} {act : List (List Int)} (h : ModS w.heap d a ds act) (V : Var2 w g x y 60) : ModS ((w.setCell ⟨g, 0, none⟩ u).setCell ⟨g, 1, none⟩ v).heap d a ds act :=
  ⟨(h.1.otherW V (by decide) _).otherW (V.set0 u) (by decide) _, (h.2.otherW V (by decide) (by decide) _).otherW (V.set0 u) (by decide) (by decide) _⟩
end Go.Proofs.Ytljfpkhgijangaa

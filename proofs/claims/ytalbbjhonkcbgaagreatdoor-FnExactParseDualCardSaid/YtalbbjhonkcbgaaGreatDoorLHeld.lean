/- What is kept of two cells through a region that draws. -/
import Derived.Test.YtalbbjhonkcbgaaGreatDoorLib
namespace Go.Proofs.YtalbbjhonkcbgaaGreatDoor
open Go.RowKit
theorem heldC2 {x1 x2 : Value} {g1 g2 : Addr} {w0 W W' : World} (h : W.cell? g1 = some x1 ∧ W.cell? g2 = some x2 ∧ Below w0.heap.size w0 W) (hb : Below W.heap.size W W') : W'.cell? g1 = some x1 ∧ W'.cell? g2 = some x2 ∧ Below w0.heap.size w0 W' :=
  ⟨(hb.cell (World.block_lt_of_cell? _ _ h.1)).trans h.1, (hb.cell (World.block_lt_of_cell? _ _ h.2.1)).trans h.2.1, h.2.2.trans (hb.mono h.2.2.size)⟩
theorem heldC2X {x1 x2 : Value} {g1 g2 : Addr} {w0 W : World} (h : W.cell? g1 = some x1 ∧ W.cell? g2 = some x2 ∧ Below w0.heap.size w0 W) : Below w0.heap.size w0 W := h.2.2
theorem heldC2B {x1 x2 : Value} {g1 g2 : Addr} {w w0 W : World} {B : Nat} (k : Below B w w0) (h : W.cell? g1 = some x1 ∧ W.cell? g2 = some x2 ∧ Below w0.heap.size w0 W) (hB : B ≤ w0.heap.size) : Below B w W := k.trans (h.2.2.mono hB)
end Go.Proofs.YtalbbjhonkcbgaaGreatDoor

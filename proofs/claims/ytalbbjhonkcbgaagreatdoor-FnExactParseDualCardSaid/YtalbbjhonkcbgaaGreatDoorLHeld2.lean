/- What is kept of two cells through a region that draws and makes a variable. -/
import Derived.Test.YtalbbjhonkcbgaaGreatDoorLHeld
import Derived.Test.YtalbbjhonkcbgaaGreatDoorLMilArg
import Derived.Lib.SliceRun
namespace Go.Proofs.YtalbbjhonkcbgaaGreatDoor
open Go.RowKit
theorem heldC2A {x1 x2 : Value} {g1 g2 : Addr} {w0 W : World} (h : W.cell? g1 = some x1 ∧ W.cell? g2 = some x2 ∧ Below w0.heap.size w0 W) (o : Obj) : (W.alloc o).cell? g1 = some x1 ∧ (W.alloc o).cell? g2 = some x2 ∧ Below w0.heap.size w0 (W.alloc o) :=
  ⟨Go.Lib.cell?_alloc_some o h.1, Go.Lib.cell?_alloc_some o h.2.1, h.2.2.alloc h.2.2.size o⟩
theorem new_below {W W' : World} {x : Value} {t : Nat} (h : Below (W.alloc (.cells #[x] t)).heap.size (W.alloc (.cells #[x] t)) W') : Cell1 W' W.heap.size x t :=
  (h.block _ (by simp)).trans (heap_alloc_new _ _)
theorem new_below_d {W W' : World} {x : Value} {t : Nat} (h : Below (W.alloc (.cells #[x] t)).drew.heap.size (W.alloc (.cells #[x] t)).drew W') : Cell1 W' W.heap.size x t :=
  (h.block W.heap.size (show W.heap.size < (W.alloc (.cells #[x] t)).heap.size by simp)).trans (heap_alloc_new _ _)
theorem Cell1.behind {W W' : World} {g t : Nat} {x : Value} (k : Cell1 W g x t) (h : Below W.heap.size W W') : Cell1 W' g x t := (h.block _ k.lt).trans k
theorem SlAt.other {w : World} {e g t : Nat} {v x : Value} {us : List Value} (a : SlAt w.heap e v us) (k : Cell1 w g x t) (ne : e ≠ t) (u : Value) : SlAt (w.setCell ⟨g, 0, none⟩ u).heap e v us := by
  rcases a with a | ⟨b, off, cap, cur, rfl, hb, r⟩
  · exact .inl a
  · refine .inr ⟨b, off, cap, cur, rfl, ?_, r⟩
    have hne : b ≠ g := by
      intro e1
      subst e1
      rw [show w.heap[b]? = _ from k] at hb
      simp only [Option.some.injEq, Obj.cells.injEq] at hb
      exact ne hb.2.1.symm
    rw [Below.heap_setCell _ _ _ _ (by show b ≠ g; exact hne)]; exact hb
theorem IntSS.other {w : World} {g t : Nat} {v x : Value} {xss : List (List Int)} (a : IntSS w.heap v xss) (k : Cell1 w g x t) (ne : 30 ≠ t) (ne2 : 2 ≠ t) (u : Value) : IntSS (w.setCell ⟨g, 0, none⟩ u).heap v xss := by
  obtain ⟨us, h1, h2, h3⟩ := a
  exact ⟨us, h1.other k ne u, h2, fun i z xs hz hx => SlAt.other (h3 i z xs hz hx) k ne2 u⟩
theorem heldC2S {x1 x2 : Value} {g1 g2 : Addr} {w0 W : World} {g : Nat} (h : W.cell? g1 = some x1 ∧ W.cell? g2 = some x2 ∧ Below w0.heap.size w0 W) (hg : w0.heap.size ≤ g) (h1 : g1.block < w0.heap.size) (h2 : g2.block < w0.heap.size) (u : Value) :
    (W.setCell ⟨g, 0, none⟩ u).cell? g1 = some x1 ∧ (W.setCell ⟨g, 0, none⟩ u).cell? g2 = some x2 ∧ Below w0.heap.size w0 (W.setCell ⟨g, 0, none⟩ u) :=
  ⟨(World.cell?_of_block (Below.heap_setCell _ _ _ _ (by show g1.block ≠ g; omega))).trans h.1, (World.cell?_of_block (Below.heap_setCell _ _ _ _ (by show g2.block ≠ g; omega))).trans h.2.1, h.2.2.setCell hg u⟩
end Go.Proofs.YtalbbjhonkcbgaaGreatDoor

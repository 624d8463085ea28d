/- Elements and dual elements as arguments of the statements: sizes, copies, comparisons, marks. -/
import Derived.Test.YtalbbjhonkcbgaaGreatDoorLArg
namespace Go.Proofs.YtalbbjhonkcbgaaGreatDoor
open Go.RowKit Go.Sort

/-- A variable of one cell. -/
def Cell1 (w : World) (g : Nat) (x : Value) (t : Nat) : Prop := w.heap[g]? = some (.cells #[x] t (0, 0))
theorem Cell1.new (w : World) (x : Value) (t : Nat) : Cell1 (w.alloc (.cells #[x] t)) w.heap.size x t := heap_alloc_new w _
theorem Cell1.c0 {w : World} {g : Nat} {x : Value} {t : Nat} (h : Cell1 w g x t) : w.cell? ⟨g, 0, none⟩ = some x := by rw [World.cell?]; simp only [show w.heap[g]? = _ from h]; rfl
theorem Cell1.free {w : World} {g : Nat} {x : Value} {t : Nat} (h : Cell1 w g x t) (j : Nat) : w.frozen? ⟨g, j, none⟩ = false := by rw [World.frozen?]; simp only [show w.heap[g]? = _ from h]; simp
theorem Cell1.lt {w : World} {g : Nat} {x : Value} {t : Nat} (h : Cell1 w g x t) : g < w.heap.size := (Array.getElem?_eq_some_iff.1 h).1
theorem Cell1.same {w w' : World} {g : Nat} {x : Value} {t : Nat} (h : Cell1 w g x t) (k : w'.heap[g]? = w.heap[g]?) : Cell1 w' g x t := k.trans h
theorem Cell1.kept {w w' : World} {g : Nat} {x : Value} {t : Nat} (h : Cell1 w g x t) (k : ∀ b, b < w.heap.size → w'.heap[b]? = w.heap[b]?) : Cell1 w' g x t := h.same (k g h.lt)
theorem Cell1.set {w : World} {g : Nat} {x : Value} {t : Nat} (h : Cell1 w g x t) (u : Value) : Cell1 (w.setCell ⟨g, 0, none⟩ u) g u t := heap_setCell_same w g 0 _ t u h
theorem Cell1.setFar {w : World} {g : Nat} {x : Value} {t : Nat} (h : Cell1 w g x t) (p : Addr) (hp : g ≠ p.block) (u : Value) : Cell1 (w.setCell p u) g x t := h.same (Below.heap_setCell _ _ _ _ hp)
theorem eqDual_same (v1 v2 : Value) (xss : List (List Int)) (w : World) (h1 : IntSS w.heap v1 xss) (h2 : IntSS w.heap v2 xss) :
    Calls Tryz.prog 7 #[.agg #[v1], .agg #[v2]] w fun e w' => e = .returned (.bool true) ∧ Below w.heap.size w w' := by
  have hb : Below w.heap.size w ((w.alloc (.cells #[v1] 24)).alloc (.cells #[v2] 24)) := ((Below.refl _ _).alloc (Nat.le_refl _) _).alloc (by simp) _
  have C := Lib.hid (eqInt64SS_same v1 v2 xss _ (h1.same hb.block) (h2.same hb.block))
  obtain ⟨a1, c1, rfl, m1⟩ := h1.len
  obtain ⟨a2, c2, rfl, m2⟩ := h2.len
  have HB := Lib.hid hb; clear hb h1 h2
  go_enter Tryz.func7, Tryz.ntmps7
  go_wp2_with (go_at_call 22; refine C.out.mono ?_; rintro e w1 ⟨rfl, n, rfl⟩)
  go_ret
  exact ⟨rfl, below_drewN n HB.out⟩
end Go.Proofs.YtalbbjhonkcbgaaGreatDoor

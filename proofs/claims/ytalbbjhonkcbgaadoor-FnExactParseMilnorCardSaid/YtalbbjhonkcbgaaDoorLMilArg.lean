/- Elements and dual elements as arguments of the statements: sizes, copies, comparisons, marks. -/
import Derived.Test.YtalbbjhonkcbgaaDoorLArg
namespace Go.Proofs.YtalbbjhonkcbgaaDoor
open Go.RowKit Go.Sort

/-- A variable of one cell. -/
def Cell1 (w : World) (g : Nat) (x : Value) (t : Nat) : Prop := w.heap[g]? = some (.cells #[x] t (0, 0))
theorem Cell1.new (w : World) (x : Value) (t : Nat) : Cell1 (w.alloc (.cells #[x] t)) w.heap.size x t := heap_alloc_new w _
theorem Cell1.c0 {w : World} {g : Nat} {x : Value} {t : Nat} (h : Cell1 w g x t) : w.cell? ⟨g, 0, none⟩ = some x := by rw [World.cell?]; simp only [show w.heap[g]? = _ from h]; rfl
theorem Cell1.free {w : World} {g : Nat} {x : Value} {t : Nat} (h : Cell1 w g x t) (j : Nat) : w.frozen? ⟨g, j, none⟩ = false := by rw [World.frozen?]; simp only [show w.heap[g]? = _ from h]; simp
theorem Cell1.lt {w : World} {g : Nat} {x : Value} {t : Nat} (h : Cell1 w g x t) : g < w.heap.size := (Array.getElem?_eq_some_iff.1 h).1
theorem Cell1.same {w w' : World} {g : Nat} {x : Value} {t : Nat} (h : Cell1 w g x t) (k : w'.heap[g]? = w.heap[g]?) : Cell1 w' g x t := k.trans h
theorem Cell1.kept {w w' : World} {g : Nat} {x : Value} {t : Nat} (h : Cell1 w g x t) (k : ∀ b, b < w.heap.size → w'.heap[b]? = w.heap[b]?) : Cell1 w' g x t := h.same (k g h.lt)
theorem Cell1.set {w : World} {g : Nat} {x : Value} {t : Nat} (h : Cell1 w g x t) (u : Value) : Cell1 (w.setCell ⟨g, 0, none⟩ u) g u t := heap_setCell_same w g 0 _ t u h
theorem Cell1.setFar {w : World} {g : Nat} {x : Value} {t : Nat} (h : Cell1 w g x t) (p : Addr) (hp : g ≠ p.block) (u : Value) : Cell1 (w.setCell p u) g x t := h.same (Below.heap_setCell _ _ _ _ hp)
theorem eqMilnor_same (v1 v2 : Value) (xss : List (List Int)) (w : World) (h1 : IntSS w.heap v1 xss) (h2 : IntSS w.heap v2 xss) :
    Calls Tryd.prog 6 #[.agg #[v1], .agg #[v2]] w fun e w' => e = .returned (.bool true) ∧ Below w.heap.size w w' := by
  have hb : Below w.heap.size w ((w.alloc (.cells #[v1] 24)).alloc (.cells #[v2] 24)) := ((Below.refl _ _).alloc (Nat.le_refl _) _).alloc (by simp) _
  have C := Lib.hid (eqInt64SS_same v1 v2 xss _ (h1.same hb.block) (h2.same hb.block))
  obtain ⟨a1, c1, rfl, m1⟩ := h1.len
  obtain ⟨a2, c2, rfl, m2⟩ := h2.len
  have HB := Lib.hid hb; clear hb h1 h2
  go_enter Tryd.func6, Tryd.ntmps6
  go_wp2_with (go_at_call 14; refine C.out.mono ?_; rintro e w1 ⟨rfl, n, rfl⟩)
  go_ret
  exact ⟨rfl, below_drewN n HB.out⟩
theorem markMilnor_c (v : Value) (us : List Value) (xss : List (List Int)) (k : Int) (B : Nat) (w : World) (h : OwnU w B v us xss) (hB : B ≤ w.heap.size) (hk : 0 ≤ k) (hx : k + cnt xss ≤ 4611686018427387904) :
    Calls Tryd.prog 7 #[.agg #[v], .int .i64 k] w fun e w' => e = .returned (.int .i64 (k + cnt xss)) ∧ OwnU w' B v us (marksS k xss) ∧ Below B w w' ∧ (∀ b, b < w.heap.size → (∀ u, u ∈ us → u.ownBlock ≠ some b) → w'.heap[b]? = w.heap[b]?) := by
  have hb : Below B w (w.alloc (.cells #[v] 24)) := (Below.refl _ _).alloc hB _
  have C := Lib.hid (markInt64SS_c v us xss k B _ (h.same (alloc_old w (.cells #[v] 24))) (by simp; omega) hk hx)
  obtain ⟨a1, c1, rfl, m1⟩ := h.ints.len
  have HB := Lib.hid hb; clear hb h
  go_enter Tryd.func7, Tryd.ntmps7
  go_wp2_with (go_at_call 15; refine C.out.mono ?_; rintro e w1 ⟨rfl, h1, z1, b1, k1⟩; have K1 := Lib.hid k1; clear k1)
  go_ret
  exact ⟨rfl, h1, HB.out.trans b1, fun b hb hne => (K1.out b (by simp; omega) hne).trans (alloc_old _ _ _ hb)⟩
theorem heldMilnor_c (v : Value) (xss : List (List Int)) (k : Int) (w : World) (h : IntSS w.heap v (marksS k xss)) (hk : 0 ≤ k) (hx : k + cnt xss ≤ 4611686018427387904) :
    Calls Tryd.prog 8 #[.agg #[v], .int .i64 k] w fun e w' => e = .returned (.int .i64 (k + cnt xss)) ∧ Below w.heap.size w w' := by
  have hb : Below w.heap.size w (w.alloc (.cells #[v] 24)) := (Below.refl _ _).alloc (Nat.le_refl _) _
  have C := Lib.hid (heldInt64SS_c v xss k _ (h.same hb.block) hk hx)
  obtain ⟨a1, c1, rfl, m1⟩ := h.len
  have HB := Lib.hid hb; clear hb h
  have t1 : decide (k + (cnt xss : Int) < 0) = false := by simp; omega
  go_enter Tryd.func8, Tryd.ntmps8
  go_wp2_with (go_at_call 16; refine C.out.mono ?_; rintro e w1 ⟨rfl, rfl⟩)
  go_ret
  exact ⟨rfl, HB.out⟩
end Go.Proofs.YtalbbjhonkcbgaaDoor

/- Sums of elements: AddMilnor of the program and of the reference. -/
import Derived.Test.YtalbbjhonkcbgaaGreatLAdd
import Derived.Test.YtalbbjhonkcbgaaGreatLOdd2
import Derived.Test.YtalbbjhonkcbgaaGreatLGen
namespace Go.Proofs.YtalbbjhonkcbgaaGreat
open Go.RowKit Go.Sort

theorem own_u_nil (w : World) (B : Nat) : OwnU w B (.slice none 0 0) [] [] := ⟨World.ownsRow_nil _ _ _ _, fun i u xs hu => by simp at hu, fun i j u u' _ hu => by simp at hu⟩
theorem arT_rows {xss : List (List Int)} (h : arT xss = true) : ∀ r ∈ xss, r.length ≤ 4398046511104 := fun r hr => by
  have := (arT_row h r hr).1
  simp only [isExp, Bool.and_eq_true, decide_eq_true_eq] at this
  omega
theorem sumOf_of (SO : SortOk) (v u : Value) (xss yss : List (List Int)) (w : World) (h : IntSS w.heap v xss) (hu : IntSS w.heap u yss) (ha : Asc xss) (hb : Asc yss) (hl : xss.length + yss.length ≤ 4398046511104) (hr : ∀ x ∈ xss, x.length ≤ 4398046511104) (hr2 : ∀ x ∈ yss, x.length ≤ 4398046511104) :
    Calls Tryz.prog 48 #[v, u] w fun e w' => ∃ r us, e = .returned r ∧ OwnU w' w.heap.size r us (mrg xss yss) ∧ Below w.heap.size w w' := by
  have C := Lib.hid (joined_c v u xss yss w h hu hl)
  have O := Lib.hid (fun (v : Value) (W : World) (h : IntSS W.heap v (xss ++ yss)) => oddOnes_of SO v (xss ++ yss) W h (by rw [List.length_append]; exact hl) (fun x hx => (List.mem_append.1 hx).elim (hr x) (hr2 x)))
  rw [← mrg_odd ha hb] at O
  obtain ⟨ao, c, rfl, -⟩ := h.len
  obtain ⟨bo, d, rfl, -⟩ := hu.len
  clear h hu SO
  go_enter Tryz.func48, Tryz.ntmps48
  go_wp2_with (first | (go_at_call 76; refine C.out.mono ?_; rintro e w1 ⟨r, us, rfl, hR, hb1⟩; obtain ⟨ra, rn, rc, rfl⟩ := own_shape hR.row) | (go_at_call 50; refine (O.out _ _ (hR.ints hb1.block)).mono ?_; rintro e w2 ⟨r2, us2, rfl, hU, hb2⟩; obtain ⟨sa, sn, sc, rfl⟩ := own_shape hU.row))
  go_ret
  exact ⟨_, _, rfl, own_u_base hU hb1.size, hb1.trans (hb2.mono hb1.size)⟩
/-- A result variable that has been given a sum. -/
theorem own_var1 {w1 w2 : World} {B g : Nat} {v x : Value} {us : List Value} {xss : List (List Int)} {t : Nat} (hU : OwnU w2 w1.heap.size v us xss) (hg : g < w1.heap.size) (u : Value) (hB : B ≤ w1.heap.size) (_ : Cell1 w2 g x t) : OwnU (w2.setCell ⟨g, 0, none⟩ u) B v us xss :=
  own_u_base (hU.far fun b h1 _ => Below.heap_setCell _ _ _ _ (by show b ≠ g; omega)) hB
end Go.Proofs.YtalbbjhonkcbgaaGreat

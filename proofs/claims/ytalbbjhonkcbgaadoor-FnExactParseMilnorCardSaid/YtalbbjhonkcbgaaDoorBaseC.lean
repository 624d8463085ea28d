/- Copies of slices of int64, and appends of whole ones. -/
import Derived.Test.YtalbbjhonkcbgaaDoorBase2
import Derived.Test.YtalbbjhonkcbgaaDoorLib3
namespace Go.Proofs.YtalbbjhonkcbgaaDoor
open Go.RowKit Go.Sort
section
variable {ops : Array Oper} {rest : List Oper} {o : Oper} {a : Act} {Q : Exit → Act → World → Prop}
theorem append_ints {w w0 : World} (hg : o.guard = none) (s x : Operand)
    (ho : o.op = .call { callee := .builtin .append, args := #[s, x], argTypes := #[39, 39] })
    (B : Nat) (v vx : Value) (xs ys : List Int) (hown : OwnI w B v xs) (hs : a.eval s = v) (hR : IntS w.heap vx ys) (hx : a.eval x = vx) (hbl : Below B w0 w) (hB : B ≤ w.heap.size)
    (hn : xs.length + ys.length ≤ 4398046511104)
    (hK : ∀ v' w', OwnI w' B v' (xs ++ ys) → Below B w0 w' → w.heap.size ≤ w'.heap.size → (∀ b, b < w.heap.size → some b ≠ v.ownBlock → w'.heap[b]? = w.heap[b]?) → wpList Tryd.prog ops Q rest (a.put o.dst v') w') :
    wpList Tryd.prog ops Q (o :: rest) a w := by
  obtain ⟨i0, hi, hz0, hz1, hz2⟩ := info_parts info_int64
  refine append_all hg s x _ ho B _ i0 _ 8 Tryd.underlying39 hi hz0 hz1 hz2 rfl (by omega) v vx _ _ _ hown hs hR hx hbl hB (ints_oneCell _ _) (by simpa using hn) ?_
  intro v' w' h1 h2 h3 h4
  exact hK v' w' (by unfold OwnI; simpa using h1) h2 h3 h4
end
end Go.Proofs.YtalbbjhonkcbgaaDoor

/- Pairings, degrees of elements. -/
import Derived.Test.YtalbbjhonkcbgaaGreatLMil2
namespace Go.Proofs.YtalbbjhonkcbgaaGreat
open Go.RowKit Go.Sort

/-- How many of the first lists are in the second ones. -/
def inBoth (a b : List (List Int)) : Nat := (a.filter fun r => decide (r ∈ b)).length
theorem inBoth_succ (a b : List (List Int)) (k : Nat) (h : k < a.length) : inBoth (a.take (k + 1)) b = inBoth (a.take k) b + if a.getD k [] ∈ b then 1 else 0 := by
  unfold inBoth
  rw [List.take_succ_eq_append_getElem h, List.filter_append, List.length_append, show a.getD k [] = a[k] by simp [h]]
  by_cases e : a[k] ∈ b <;> simp [e]
theorem inBoth_le (a b : List (List Int)) (k : Nat) : inBoth (a.take k) b ≤ k := Nat.le_trans (List.length_filter_le _ _) (List.length_take_le _ _)
def pairL (a b : List (List Int)) : Int := ((inBoth a b % 2 : Nat) : Int)
theorem xor1 (c : Nat) : bits BinOp.xor IntKind.i64 ((c % 2 : Nat) : Int) 1 = (((c + 1) % 2 : Nat) : Int) := by
  rcases Nat.mod_two_eq_zero_or_one c with h | h
  · rw [h, show (c + 1) % 2 = 1 by omega]; rfl
  · rw [h, show (c + 1) % 2 = 0 by omega]; rfl
/-- The degree of terms. -/
def degT (xss : List (List Int)) : Int := deg (xss.getD 0 [])
end Go.Proofs.YtalbbjhonkcbgaaGreat

/- Sums of elements: whether two can be added, of the program and of the reference. -/
import Derived.Test.YtalbbjhonkcbgaaGreatLMil2
import Derived.Test.YtalbbjhonkcbgaaGreatLPair
import Derived.Test.YtalbbjhonkcbgaaGreatLSum
import Derived.Test.YtalbbjhonkcbgaaGreatLMilArg
namespace Go.Proofs.YtalbbjhonkcbgaaGreat
open Go.RowKit Go.Sort

def sameD (xss yss : List (List Int)) : Bool := decide (xss.length = 0) || decide (yss.length = 0) || deg (xss.getD 0 []) == deg (yss.getD 0 [])
def addC (xss yss : List (List Int)) : Int := if arT xss && arT yss then (if sameD xss yss then 0 else 2) else 1
def addL (xss yss : List (List Int)) : List (List Int) := if arT xss && arT yss && sameD xss yss then mrg xss yss else []
theorem cnt_mrg : ∀ (a b : List (List Int)), cnt (mrg a b) ≤ cnt a + cnt b
  | [], b => by rw [mrg]; simp [cnt]
  | x :: a, [] => by rw [mrg]; simp [cnt]
  | x :: a, y :: b => by
    rw [mrg]
    split
    · have := cnt_mrg a (y :: b)
      simp only [cnt, List.map_cons, List.sum_cons] at *; omega
    · split
      · have := cnt_mrg (x :: a) b
        simp only [cnt, List.map_cons, List.sum_cons] at *; omega
      · have := cnt_mrg a b
        simp only [cnt, List.map_cons, List.sum_cons] at *; omega
termination_by a b => a.length + b.length
theorem addL_cnt (xss yss : List (List Int)) : cnt (addL xss yss) ≤ cnt xss + cnt yss := by
  unfold addL; split
  · exact cnt_mrg _ _
  · simp [cnt]
theorem arT_first {xss : List (List Int)} (h : arT xss = true) (h0 : 0 < xss.length) : isExp (xss.getD 0 []) = true := by
  rw [show xss.getD 0 [] = xss[0] by simp [h0]]; exact (arT_row h _ (List.getElem_mem _)).1
theorem isExp_nil : isExp [] = true := by decide
theorem arT_first' {xss : List (List Int)} (h : arT xss = true) : isExp (xss.getD 0 []) = true := by
  by_cases h0 : 0 < xss.length
  · exact arT_first h h0
  · rw [show xss = [] from List.eq_nil_of_length_eq_zero (by omega)]; exact isExp_nil
end Go.Proofs.YtalbbjhonkcbgaaGreat

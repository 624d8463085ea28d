/- Sums of dual elements: AddDual of the program and of the reference. -/
import Derived.Test.YtalbbjhonkcbgaaGreatLAdd2
import Derived.Test.YtalbbjhonkcbgaaGreatLCopy
namespace Go.Proofs.YtalbbjhonkcbgaaGreat
open Go.RowKit Go.Sort

def addDL (xss yss : List (List Int)) : List (List Int) := if (addL xss yss).length ≤ 2000 then addL xss yss else []
def addDC (xss yss : List (List Int)) : Int := if addC xss yss = 0 then (if (addL xss yss).length ≤ 2000 then 0 else 3) else addC xss yss
theorem addDL_cnt (xss yss : List (List Int)) : cnt (addDL xss yss) ≤ cnt xss + cnt yss := by
  unfold addDL; split
  · exact addL_cnt _ _
  · simp [cnt]
theorem addC_cases (xss yss : List (List Int)) : (addC xss yss = 0 ∧ arT xss = true ∧ arT yss = true ∧ addL xss yss = mrg xss yss) ∨ (addC xss yss ≠ 0 ∧ addL xss yss = []) := by
  cases h1 : arT xss && arT yss
  · exact .inr ⟨by simp [addC, h1], by simp [addL, h1]⟩
  · cases h2 : sameD xss yss
    · exact .inr ⟨by simp [addC, h1, h2], by simp [addL, h1, h2]⟩
    · have h3 := h1
      simp only [Bool.and_eq_true] at h3
      exact .inl ⟨by simp [addC, h1, h2], h3.1, h3.2, by simp [addL, h1, h2]⟩
end Go.Proofs.YtalbbjhonkcbgaaGreat

/- Products of elements and of dual elements: whether two have one, of the program. -/
import Derived.Test.YtljfpkhgijangaaLAdd2
import Derived.Test.YtljfpkhgijangaaLMulD
namespace Go.Proofs.Ytljfpkhgijangaa
open Go.RowKit Go.Sort

def sumD (xss yss : List (List Int)) : Bool := decide (xss.length = 0) || decide (yss.length = 0) || decide (degT xss + degT yss ≤ 40)
def multC (xss yss : List (List Int)) : Int := if arT xss && arT yss then (if sumD xss yss then 0 else 3) else 1
theorem degT_in {xss : List (List Int)} (h : arT xss = true) : 0 ≤ degT xss ∧ degT xss ≤ 40 := by
  unfold degT
  by_cases h0 : 0 < xss.length
  · rw [show xss.getD 0 [] = xss[0] by simp [h0]]; exact (arT_row h _ (List.getElem_mem _)).2
  · rw [show xss = [] from List.eq_nil_of_length_eq_zero (by omega)]; decide
theorem multC_zero {xss yss : List (List Int)} (h : multC xss yss = 0) : arT xss = true ∧ arT yss = true ∧ sumD xss yss = true := by
  unfold multC at h
  cases h1 : arT xss && arT yss
  · rw [h1] at h; simp at h
  · rw [h1] at h
    simp only [Bool.and_eq_true] at h1
    cases h2 : sumD xss yss
    · rw [h2] at h; simp at h
    · exact ⟨h1.1, h1.2, rfl⟩
theorem arT_sm {xss : List (List Int)} (h : arT xss = true) : SmS 1000000000000000 4398046511104 xss := fun r hr => by
  have h1 := (arT_row h r hr).1
  refine ⟨fun x hx => ?_, arT_rows h r hr⟩
  have := exp_num h1 x hx
  omega
def mdC (xss yss : List (List Int)) : Int := if multC xss yss = 0 then (if (oddL (joinsL xss yss)).length ≤ 2000 then 0 else 3) else multC xss yss
def mdL (xss yss : List (List Int)) : List (List Int) := if multC xss yss = 0 ∧ (oddL (joinsL xss yss)).length ≤ 2000 then oddL (joinsL xss yss) else []
end Go.Proofs.Ytljfpkhgijangaa

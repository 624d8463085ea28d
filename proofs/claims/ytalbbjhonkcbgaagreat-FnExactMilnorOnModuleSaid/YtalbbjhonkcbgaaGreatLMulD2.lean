/- Products of elements and of dual elements: whether two have one, of the program. -/
import Derived.Test.YtalbbjhonkcbgaaGreatLAdd2
import Derived.Test.YtalbbjhonkcbgaaGreatLMulD
namespace Go.Proofs.YtalbbjhonkcbgaaGreat
open Go.RowKit Go.Sort

theorem degT_in {xss : List (List Int)} (h : arT xss = true) : 0 ≤ degT xss ∧ degT xss ≤ 40 := by
  unfold degT
  by_cases h0 : 0 < xss.length
  · rw [show xss.getD 0 [] = xss[0] by simp [h0]]; exact (arT_row h _ (List.getElem_mem _)).2
  · rw [show xss = [] from List.eq_nil_of_length_eq_zero (by omega)]; decide
theorem arT_sm {xss : List (List Int)} (h : arT xss = true) : SmS 1000000000000000 4398046511104 xss := fun r hr => by
  have h1 := (arT_row h r hr).1
  refine ⟨fun x hx => ?_, arT_rows h r hr⟩
  have := exp_num h1 x hx
  omega
end Go.Proofs.YtalbbjhonkcbgaaGreat

/- Products of dual elements: of the reference. -/
import Derived.Test.YtalbbjhonkcbgaaGreatLMulD2
import Derived.Test.YtalbbjhonkcbgaaGreatLAdd4
namespace Go.Proofs.YtalbbjhonkcbgaaGreat
open Go.RowKit Go.Sort
theorem joinsL_nil_right (a : List (List Int)) : joinsL a [] = [] := List.eq_nil_of_length_eq_zero (by rw [joinsL_length]; rfl)
theorem cnt_le {l : List (List Int)} {k : Nat} (h : ∀ r ∈ l, r.length ≤ k) : cnt l ≤ l.length * k := by
  induction l with
  | nil => simp [cnt]
  | cons x l ih =>
    rw [cnt_cons, List.length_cons, Nat.add_mul]
    have := h x (List.mem_cons_self ..)
    have := ih fun r hr => h r (List.mem_cons_of_mem _ hr)
    omega
end Go.Proofs.YtalbbjhonkcbgaaGreat

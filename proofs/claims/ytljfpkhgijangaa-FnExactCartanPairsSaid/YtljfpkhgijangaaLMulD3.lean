/- Products of dual elements: of the reference. -/
import Derived.Test.YtljfpkhgijangaaLMulD2
import Derived.Test.YtljfpkhgijangaaLAdd4
namespace Go.Proofs.Ytljfpkhgijangaa
open Go.RowKit Go.Sort
theorem joinsL_nil_right (a : List (List Int)) : joinsL a [] = [] := List.eq_nil_of_length_eq_zero (by rw [joinsL_length]; rfl)
theorem cnt_le {l : List (List Int)} {k : Nat} (h : ∀ r ∈ l, r.length ≤ k) : cnt l ≤ l.length * k := by
  induction l with
  | nil => simp [cnt]
  | cons x l ih =>
    rw [cnt_cons, List.length_cons, Nat.add_mul]
    have := h x (List.mem_cons_self ..)
    have := ih fun r hr => h r (List.mem_cons_of_mem _ hr)
    omega
theorem mdL_cnt (xss yss : List (List Int)) : cnt (mdL xss yss) ≤ 40000 := by
  unfold mdL
  split
  · rename_i h
    obtain ⟨hT1, hT2, -⟩ := multC_zero h.1
    refine Nat.le_trans (cnt_le (k := 10) fun r hr => ?_) (by omega)
    obtain ⟨x, hx, y, hy, rfl⟩ := mem_joinsL (mem_oddL_sub hr)
    have := exp_len (arT_row hT1 x hx).1; have := exp_len (arT_row hT2 y hy).1
    rw [joinL_length]; omega
  · simp [cnt]
end Go.Proofs.Ytljfpkhgijangaa

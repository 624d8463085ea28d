/- Sums of exponent lists: of the program and of the reference. -/
import Derived.Test.YtalbbjhonkcbgaaGreatBase4
import Derived.Test.YtalbbjhonkcbgaaGreatBase2
import Derived.Test.YtalbbjhonkcbgaaGreatLTerm
namespace Go.Proofs.YtalbbjhonkcbgaaGreat
open Go.RowKit Go.Sort

/-- The sum of two lists, number by number. -/
def joinL (r s : List Int) : List Int := (List.range (max r.length s.length)).map fun i => r.getD i 0 + s.getD i 0
theorem joinL_length (r s : List Int) : (joinL r s).length = max r.length s.length := by simp [joinL]
/-- Numbers of at least 0 that are not great. -/
def Sm (b : Int) (r : List Int) : Prop := ∀ x ∈ r, 0 ≤ x ∧ x ≤ b
theorem Sm.at {b : Int} {r : List Int} (h : Sm b r) (hb : 0 ≤ b) (i : Nat) : 0 ≤ r.getD i 0 ∧ r.getD i 0 ≤ b := by
  by_cases hi : i < r.length
  · rw [show r.getD i 0 = r[i] by simp [hi]]; exact h _ (List.getElem_mem hi)
  · rw [show r.getD i 0 = 0 by simp [show r.length ≤ i by omega]]; exact ⟨Int.le_refl _, hb⟩
theorem Sm.join {b c : Int} {r s : List Int} (h : Sm b r) (k : Sm c s) (hb : 0 ≤ b) (hc : 0 ≤ c) : Sm (b + c) (joinL r s) := by
  intro x hx
  simp only [joinL, List.mem_map] at hx
  obtain ⟨i, -, rfl⟩ := hx
  have := h.at hb i; have := k.at hc i
  omega
/-- What the program's first loop has: the first k numbers of r, then zeros: n in all. -/
def joinA (r : List Int) (n k : Nat) : List Int := (List.range n).map fun i => if i < k then r.getD i 0 else 0
/-- What its second loop has. -/
def joinB (r s : List Int) (n k : Nat) : List Int := (List.range n).map fun i => if i < k then r.getD i 0 + s.getD i 0 else r.getD i 0
theorem joinA_length (r : List Int) (n k : Nat) : (joinA r n k).length = n := by simp [joinA]
theorem joinB_length (r s : List Int) (n k : Nat) : (joinB r s n k).length = n := by simp [joinB]
theorem joinA_zero (r : List Int) (n : Nat) : joinA r n 0 = List.replicate n 0 := by
  apply List.ext_getElem?; intro i
  by_cases hi : i < n <;> simp [joinA, hi]
theorem joinA_at (r : List Int) (n k : Nat) (hk : k < n) : (joinA r n k).getD k 0 = 0 := by simp [joinA, hk]
theorem joinA_set (r : List Int) (n k : Nat) (hk : k < n) : (joinA r n k).set k (r.getD k 0) = joinA r n (k + 1) := by
  apply List.ext_getElem?; intro i
  rw [List.getElem?_set]
  by_cases e : k = i
  · subst e; simp [joinA, hk]
  · rw [if_neg e]
    by_cases hi : i < n
    · have : (i < k) ↔ (i < k + 1) := by omega
      simp [joinA, hi, this]
    · simp [joinA, hi]
theorem joinA_all (r s : List Int) (n : Nat) : joinA r n r.length = joinB r s n 0 := by
  apply List.ext_getElem?; intro i
  by_cases hi : i < n
  · by_cases h2 : i < r.length
    · simp [joinA, joinB, hi, h2]
    · simp [joinA, joinB, hi, h2]
  · simp [joinA, joinB, hi]
theorem joinB_at (r s : List Int) (n k : Nat) (hk : k < n) : (joinB r s n k).getD k 0 = r.getD k 0 := by simp [joinB, hk]
theorem joinB_set (r s : List Int) (n k : Nat) (hk : k < n) : (joinB r s n k).set k (r.getD k 0 + s.getD k 0) = joinB r s n (k + 1) := by
  apply List.ext_getElem?; intro i
  rw [List.getElem?_set]
  by_cases e : k = i
  · subst e; simp [joinB, hk]
  · rw [if_neg e]
    by_cases hi : i < n
    · have : (i < k) ↔ (i < k + 1) := by omega
      simp [joinB, hi, this]
    · simp [joinB, hi]
theorem joinB_all (r s : List Int) : joinB r s (max r.length s.length) s.length = joinL r s := by
  apply List.ext_getElem?; intro i
  by_cases hi : i < max r.length s.length
  · by_cases h2 : i < s.length
    · simp [joinL, joinB, hi, h2]
    · simp [joinL, joinB, hi, h2]
  · simp [joinL, joinB, hi]
theorem joinL_take_succ (r s : List Int) (k : Nat) (hk : k < max r.length s.length) : (joinL r s).take (k + 1) = (joinL r s).take k ++ [r.getD k 0 + s.getD k 0] := by
  rw [List.take_succ_eq_append_getElem (by rw [joinL_length]; exact hk)]
  simp [joinL]
end Go.Proofs.YtalbbjhonkcbgaaGreat

/- Looking up a list among terms; pairings. -/
import Derived.Test.YtalbbjhonkcbgaaDoorLMil
namespace Go.Proofs.YtalbbjhonkcbgaaDoor
open Go.RowKit Go.Sort

/-- The place of a list among lists, or -1. -/
def placeL (xss : List (List Int)) (xs : List Int) : Int := if xs ∈ xss then (xss.idxOf xs : Int) else -1
theorem placeL_in {xss : List (List Int)} {xs : List Int} (h : xs ∈ xss) : 0 ≤ placeL xss xs ∧ placeL xss xs < xss.length := by
  rw [placeL, if_pos h]; have := List.idxOf_lt_length_of_mem h; omega
theorem placeL_out {xss : List (List Int)} {xs : List Int} (h : xs ∉ xss) : placeL xss xs = -1 := by rw [placeL, if_neg h]
theorem placeL_at {xss : List (List Int)} {xs : List Int} (k : Nat) (hk : k < xss.length) (h1 : xss.getD k [] = xs) (h2 : ∀ j, j < k → xss.getD j [] ≠ xs) : placeL xss xs = k := by
  have hm : xs ∈ xss := by rw [← h1, show xss.getD k [] = xss[k] by simp [hk]]; exact List.getElem_mem _
  rw [placeL, if_pos hm]
  have hlt := List.idxOf_lt_length_of_mem hm
  have hge : ¬ xss.idxOf xs < k := fun hlt2 => h2 _ hlt2 (by
    simp [hlt])
  have hle : ¬ k < xss.idxOf xs := fun hlt2 => by
    have := List.not_of_lt_findIdx (p := (· == xs)) (xs := xss) (i := k) hlt2
    rw [show xss.getD k [] = xss[k] by simp [hk]] at h1
    simp [h1] at this
  omega
theorem enters_compare : Enters Tryd.prog 50 := fun args w => by kernel_rfl
theorem asc_getD {xss : List (List Int)} (h : Asc xss) (i j : Nat) (hij : i < j) (hj : j < xss.length) : ltL (xss.getD i []) (xss.getD j []) = true := by
  rw [show xss.getD i [] = xss[i] by simp [show i < xss.length by omega], show xss.getD j [] = xss[j] by simp [hj]]
  exact List.pairwise_iff_getElem.1 h i j _ _ hij
end Go.Proofs.YtalbbjhonkcbgaaDoor

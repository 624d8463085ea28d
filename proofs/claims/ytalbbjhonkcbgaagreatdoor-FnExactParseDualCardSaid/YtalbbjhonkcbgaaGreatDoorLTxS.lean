/- Texts of elements: of the reference. -/
import Derived.Test.YtalbbjhonkcbgaaGreatDoorLTxI
namespace Go.Proofs.YtalbbjhonkcbgaaGreatDoor
open Go.RowKit Go.Sort

theorem join_step (xs : List (List UInt8)) (y sep : List UInt8) (h : xs ≠ []) : Go.Lib.join (xs ++ [y]) sep = Go.Lib.join xs sep ++ sep ++ y := by rw [join_snoc, if_neg h]
theorem expW_join (r : List Int) (R : List UInt8) : ((R ++ [40]) ++ Go.Lib.join (r.map dec) [44]) ++ [41] = R ++ expW r := by unfold expW; simp
theorem expW_ne (r : List Int) : expW r ≠ [] := by unfold expW; simp
theorem bs_isEmpty {l : List UInt8} (h : l ≠ []) : (bs l).toList.isEmpty = false := by
  rw [Go.Lib.toList_data, bs_data]
  cases l with
  | nil => exact absurd rfl h
  | cons _ _ => rfl
theorem bs_isNil : (bs []).toList.isEmpty = true := by rw [Go.Lib.toList_data, bs_data]; rfl
theorem bs_empty {l : List UInt8} (h : l ≠ []) : bs l ≠ ⟨#[]⟩ := fun e => h (bs_inj (e : bs l = bs []))
end Go.Proofs.YtalbbjhonkcbgaaGreatDoor

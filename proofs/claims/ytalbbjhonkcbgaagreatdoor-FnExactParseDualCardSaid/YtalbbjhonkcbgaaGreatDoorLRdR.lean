/- Reading texts: of the reference: ParseMilnor. -/
import Derived.Test.YtalbbjhonkcbgaaGreatDoorLRdM
import Derived.Test.YtalbbjhonkcbgaaGreatDoorLRdS
import Derived.Test.YtalbbjhonkcbgaaGreatDoorLApF
import Derived.Test.YtalbbjhonkcbgaaGreatDoorLMilArg
namespace Go.Proofs.YtalbbjhonkcbgaaGreatDoor
open Go.RowKit Go.Sort

theorem eq_one (t r : List UInt8) (h : t = r) : ((bs t).toList == r) = true := by
  rw [Go.Lib.toList_data, bs_data, h]; simp
theorem ne_one (t r : List UInt8) (h : t ≠ r) : ((bs t).toList == r) = false := by
  rw [Go.Lib.toList_data, bs_data]; simpa using h
theorem parB_no {x : List UInt8} (h : parB x = false) : x.length < 2 ∨ ∃ h2 : 2 ≤ x.length, x[0].toNat ≠ 40 ∨ (x[0].toNat = 40 ∧ x[x.length - 1].toNat ≠ 41) := by
  by_cases h2 : 2 ≤ x.length
  · right
    refine ⟨h2, ?_⟩
    by_cases h3 : x[0].toNat = 40
    · right
      refine ⟨h3, fun h4 => ?_⟩
      have e0 : x.getD 0 0 = 40 := by rw [show x.getD 0 0 = x[0] by simp [show 0 < x.length by omega]]; exact UInt8.toNat_inj.1 h3
      have e1 : x.getD (x.length - 1) 0 = 41 := by rw [show x.getD (x.length - 1) 0 = x[x.length - 1] by simp [show x.length - 1 < x.length by omega]]; exact UInt8.toNat_inj.1 h4
      have : parB x = true := by unfold parB; rw [e0, e1]; simp [h2]
      rw [this] at h; cases h
    · left; exact h3
  · left; omega
theorem parB_yes {x : List UInt8} (h : parB x = true) : ∃ h2 : 2 ≤ x.length, x[0].toNat = 40 ∧ x[x.length - 1].toNat = 41 := by
  have h2 := parB_len h
  simp only [parB, Bool.and_eq_true, decide_eq_true_eq, beq_iff_eq] at h
  refine ⟨h2, ?_, ?_⟩
  · rw [← show x.getD 0 0 = x[0] by simp [show 0 < x.length by omega], h.1.2]; rfl
  · rw [← show x.getD (x.length - 1) 0 = x[x.length - 1] by simp [show x.length - 1 < x.length by omega], h.2]; rfl
theorem all_no {α : Type} (p : α → Bool) (l : List α) (k : Nat) (hk : k < l.length) (h : p l[k] = false) : l.all p = false := by
  cases e : l.all p
  · rfl
  · rw [List.all_eq_true.1 e _ (List.getElem_mem hk)] at h; cases h
theorem all_take {α : Type} (p : α → Bool) (l : List α) (h : ∀ j (hj : j < l.length), p l[j] = true) : l.all p = true := by
  rw [List.all_eq_true]
  intro x hx
  obtain ⟨j, hj, rfl⟩ := List.getElem_of_mem hx
  exact h j hj
def pmB (t : List UInt8) : Bool := rfOk t && arT (rfV t)
def pmL (t : List UInt8) : List (List Int) := if pmB t then rfV t else []
def pmC (t : List UInt8) : Int := if pmB t then 0 else 6
end Go.Proofs.YtalbbjhonkcbgaaGreatDoor

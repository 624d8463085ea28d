/- Contracts of the functions on classes of projective spaces. -/
import Derived.Test.YtalbbjhonkcbgaaGreatDoorBase
namespace Go.Proofs.YtalbbjhonkcbgaaGreatDoor
open Go.RowKit

theorem in_c (n lo hi : Int) (w : World) : Calls Tryz.prog 80 #[.int .i64 n, .int .i64 lo, .int .i64 hi] w fun e w' => e = .returned (.bool (decide (lo ≤ n) && decide (n ≤ hi))) ∧ w = w' := by
  by_cases h1 : lo ≤ n
  · go_enter Tryz.func80, Tryz.ntmps80
    go_wp2
    go_ret
    exact ⟨by simp [h1], rfl⟩
  · go_enter Tryz.func80, Tryz.ntmps80
    go_wp2
    go_ret
    exact ⟨by simp [Int.not_le.2 h1], rfl⟩
theorem l01In_c (n lo hi : Int) (w : World) : Calls Tryz.prog 36 #[.int .i64 n, .int .i64 lo, .int .i64 hi] w fun e w' => e = .returned (.bool (decide (lo ≤ n) && decide (n ≤ hi))) ∧ w = w' := by
  by_cases h1 : lo ≤ n
  · go_enter Tryz.func36, Tryz.ntmps36
    go_wp2
    go_ret
    exact ⟨by simp [h1], rfl⟩
  · go_enter Tryz.func36, Tryz.ntmps36
    go_wp2
    go_ret
    exact ⟨by simp [Int.not_le.2 h1], rfl⟩
/-- Whether all binary digits of k are digits of n. -/
def par (n k : Int) : Bool := bits BinOp.and IntKind.i64 n k == k
def parI (n k : Int) : Int := if par n k then 1 else 0
theorem l01Parity_c (n k : Int) (w : World) (h0 : 0 ≤ k) (h1 : k ≤ n) : Calls Tryz.prog 122 #[.int .i64 n, .int .i64 k] w fun e w' => e = .returned (.int .i64 (parI n k)) ∧ w = w' := by
  have t1 : decide (k < 0) = false := by simp; omega
  have t2 : decide (n < k) = false := by simp; omega
  cases hp : par n k
  · have hq : (bits BinOp.and IntKind.i64 n k == k) = false := hp
    have hq2 : (bits BinOp.and IntKind.i64 n k != k) = true := by simp only [bne, hq]; rfl
    go_enter Tryz.func122, Tryz.ntmps122
    go_wp2
    go_ret
    exact ⟨by simp [parI, hp], rfl⟩
  · have hq : (bits BinOp.and IntKind.i64 n k == k) = true := hp
    have hq2 : (bits BinOp.and IntKind.i64 n k != k) = false := by simp only [bne, hq]; rfl
    go_enter Tryz.func122, Tryz.ntmps122
    go_wp2
    go_ret
    exact ⟨by simp [parI, hp], rfl⟩
/-- The classes of a projective space of dimension n: n + 1 numbers. -/
def whit (n : Int) (k : Nat) : List Int := (List.range k).map fun (i : Nat) => parI (n + 1) i
theorem whit_length (n : Int) (k : Nat) : (whit n k).length = k := by simp [whit]
theorem whit_succ (n : Int) (k : Nat) : whit n (k + 1) = whit n k ++ [parI (n + 1) k] := by simp [whit, List.range_succ]
/-- The code for a dimension. -/
def spc (n : Int) : Int := if 1 ≤ n ∧ n ≤ 1000 then 0 else 2
end Go.Proofs.YtalbbjhonkcbgaaGreatDoor

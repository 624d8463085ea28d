/- What the statement on classes of spaces calls besides. -/
import Derived.Test.YtmnkccjddahcjaaLSc
import Derived.Test.YtmnkccjddahcjaaLWn
import Derived.Test.YtmnkccjddahcjaaLDeg
namespace Go.Proofs.Ytmnkccjddahcjaa
open Go.RowKit

theorem binomialParity_c (n k : Int) (w : World) (hn : 0 ≤ n ∧ n ≤ 1000000000000) (hk : 0 ≤ k ∧ k ≤ 1000000000000) :
    Calls Try.prog 24 #[.int .i64 n, .int .i64 k] w fun e w' => e = .returned (.tuple #[.int .i64 (parI n k), .int .i64 0]) ∧ w = w' := by
  have N1 := Lib.hid (isNumber_c n)
  have N2 := Lib.hid (isNumber_c k)
  rw [show numB n = true by simp [numB]; omega] at N1
  rw [show numB k = true by simp [numB]; omega] at N2
  cases hp : par n k
  · have hq : (bits BinOp.and IntKind.i64 n k == k) = false := hp
    go_enter Try.func24, Try.ntmps24
    go_wp2_with (go_at_call 81; first | ((with_reducible refine (N1.out _).mono ?_); rintro e w' ⟨rfl, rfl⟩) | ((with_reducible refine (N2.out _).mono ?_); rintro e w' ⟨rfl, rfl⟩))
    go_ret2
    exact ⟨by simp [parI, hp], rfl⟩
  · have hq : (bits BinOp.and IntKind.i64 n k == k) = true := hp
    go_enter Try.func24, Try.ntmps24
    go_wp2_with (go_at_call 81; first | ((with_reducible refine (N1.out _).mono ?_); rintro e w' ⟨rfl, rfl⟩) | ((with_reducible refine (N2.out _).mono ?_); rintro e w' ⟨rfl, rfl⟩))
    go_ret2
    exact ⟨by simp [parI, hp], rfl⟩
def ibB (b : Int) : Bool := if 1 ≤ b ∧ b ≤ 40 then b % 2 == 1 else false
def ibC (b : Int) : Int := if 1 ≤ b ∧ b ≤ 40 then 0 else 2
theorem ib_odd (m : Nat) (h1 : 1 ≤ m) (h2 : m ≤ 40) : (!bdry m) = ((m : Int) % 2 == 1) := by
  rw [bdry_odd m h1 h2, Bool.eq_iff_iff]
  simp only [decide_eq_true_eq, beq_iff_eq]
  omega
theorem implIB_c (b : Int) (w : World) : Calls Try.prog 60 #[.int .i64 b] w fun e w' => e = .returned (.tuple #[.bool (ibB b), .int .i64 (ibC b)]) ∧ Below w.heap.size w w' := by
  by_cases hr : 1 ≤ b ∧ b ≤ 40
  · obtain ⟨m, rfl⟩ := Int.eq_ofNat_of_zero_le (show 0 ≤ b by omega)
    rw [show ibB m = (!bdry m) by rw [ib_odd m (by omega) (by omega)]; simp [ibB, hr], show ibC m = 0 by simp [ibC, hr]]
    exact implIsBoundary_c m w (by omega) (by omega)
  · rw [show ibB b = false by simp [ibB, hr], show ibC b = 2 by simp [ibC, hr]]
    exact (implIsBoundary_no b w hr).mono fun e w' ⟨h, k⟩ => ⟨h, by subst k; exact Below.refl _ _⟩
theorem specIB_c (b : Int) (w : World) : Calls Try.prog 61 #[.int .i64 b] w fun e w' => e = .returned (.tuple #[.bool (ibB b), .int .i64 (ibC b)]) ∧ Below w.heap.size w w' := by
  by_cases hr : 1 ≤ b ∧ b ≤ 40
  · obtain ⟨m, rfl⟩ := Int.eq_ofNat_of_zero_le (show 0 ≤ b by omega)
    rw [show ibB m = (!bdry m) by rw [ib_odd m (by omega) (by omega)]; simp [ibB, hr], show ibC m = 0 by simp [ibC, hr]]
    exact specIsBoundary_c m w (by omega) (by omega)
  · rw [show ibB b = false by simp [ibB, hr], show ibC b = 2 by simp [ibC, hr]]
    exact (specIsBoundary_no b w hr).mono fun e w' ⟨h, k⟩ => ⟨h, by subst k; exact Below.refl _ _⟩
end Go.Proofs.Ytmnkccjddahcjaa

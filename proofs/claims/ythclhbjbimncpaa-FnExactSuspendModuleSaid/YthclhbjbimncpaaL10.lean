/- Contracts of the functions on classes of projective spaces. -/
import Derived.Test.YthclhbjbimncpaaBase
namespace Go.Proofs.Ythclhbjbimncpaa
open Go.RowKit

theorem in_c (n lo hi : Int) (w : World) : Calls Try.prog 87 #[.int .i64 n, .int .i64 lo, .int .i64 hi] w fun e w' => e = .returned (.bool (decide (lo ≤ n) && decide (n ≤ hi))) ∧ w = w' := by
  by_cases h1 : lo ≤ n
  · go_enter Try.func87, Try.ntmps87
    go_wp2
    go_ret
    exact ⟨by simp [h1], rfl⟩
  · go_enter Try.func87, Try.ntmps87
    go_wp2
    go_ret
    exact ⟨by simp [Int.not_le.2 h1], rfl⟩
theorem l01In_c (n lo hi : Int) (w : World) : Calls Try.prog 89 #[.int .i64 n, .int .i64 lo, .int .i64 hi] w fun e w' => e = .returned (.bool (decide (lo ≤ n) && decide (n ≤ hi))) ∧ w = w' := by
  by_cases h1 : lo ≤ n
  · go_enter Try.func89, Try.ntmps89
    go_wp2
    go_ret
    exact ⟨by simp [h1], rfl⟩
  · go_enter Try.func89, Try.ntmps89
    go_wp2
    go_ret
    exact ⟨by simp [Int.not_le.2 h1], rfl⟩
/-- Whether all binary digits of k are digits of n. -/
def par (n k : Int) : Bool := bits BinOp.and IntKind.i64 n k == k
def parI (n k : Int) : Int := if par n k then 1 else 0
theorem choose_c (n k : Int) (w : World) : Calls Try.prog 80 #[.int .i64 n, .int .i64 k] w fun e w' => e = .returned (.int .i64 (parI n k)) ∧ w = w' := by
  cases hp : par n k
  · have hq : (bits BinOp.and IntKind.i64 n k == k) = false := hp
    go_enter Try.func80, Try.ntmps80
    go_wp2
    go_ret
    exact ⟨by simp [parI, hp], rfl⟩
  · have hq : (bits BinOp.and IntKind.i64 n k == k) = true := hp
    go_enter Try.func80, Try.ntmps80
    go_wp2
    go_ret
    exact ⟨by simp [parI, hp], rfl⟩
theorem l01Parity_c (n k : Int) (w : World) (h0 : 0 ≤ k) (h1 : k ≤ n) : Calls Try.prog 81 #[.int .i64 n, .int .i64 k] w fun e w' => e = .returned (.int .i64 (parI n k)) ∧ w = w' := by
  have t1 : decide (k < 0) = false := by simp; omega
  have t2 : decide (n < k) = false := by simp; omega
  cases hp : par n k
  · have hq : (bits BinOp.and IntKind.i64 n k == k) = false := hp
    have hq2 : (bits BinOp.and IntKind.i64 n k != k) = true := by simp only [bne, hq]; rfl
    go_enter Try.func81, Try.ntmps81
    go_wp2
    go_ret
    exact ⟨by simp [parI, hp], rfl⟩
  · have hq : (bits BinOp.and IntKind.i64 n k == k) = true := hp
    have hq2 : (bits BinOp.and IntKind.i64 n k != k) = false := by simp only [bne, hq]; rfl
    go_enter Try.func81, Try.ntmps81
    go_wp2
    go_ret
    exact ⟨by simp [parI, hp], rfl⟩
/-- The classes of a projective space of dimension n: n + 1 numbers. -/
def whit (n : Int) (k : Nat) : List Int := (List.range k).map fun (i : Nat) => parI (n + 1) i
theorem whit_length (n : Int) (k : Nat) : (whit n k).length = k := by simp [whit]
theorem whit_succ (n : Int) (k : Nat) : whit n (k + 1) = whit n k ++ [parI (n + 1) k] := by simp [whit, List.range_succ]
theorem whitney_c (n : Nat) (w : World) (hn : n ≤ 1000) :
    Calls Try.prog 75 #[.int .i64 n] w fun e w' => ∃ v, e = .returned v ∧ OwnI w' w.heap.size v (whit n (n + 1)) ∧ Below w.heap.size w w' := by
  go_enter Try.func75, Try.ntmps75
  go_wp2
  go_loopw [3, 8] (fun v i wr => ∃ k : Nat, k ≤ n + 1 ∧ i = .int .i64 k ∧ OwnI wr w.heap.size v (whit n k) ∧ Below w.heap.size w wr) (fun _ i _ => n + 1 - (intOf i).toNat)
  case atStart => exact ⟨0, Nat.zero_le _, rfl, ownI_empty (Nat.le_refl _), (Below.refl _ _).alloc (Nat.le_refl _) _⟩
  case round =>
    obtain ⟨k, hk, rfl, hown, hbl⟩ := hrel
    by_cases hlt : k < n + 1
    · have hl := whit_length n k
      have hs := hbl.size
      go_wp2_with (first | (go_at_call 80; refine (choose_c _ _ _).mono ?_; rintro e w' ⟨rfl, rfl⟩) | (at_builtin; refine append_int rfl _ _ rfl _ _ _ _ hown rfl hbl hs _ rfl (by simp) (by omega) ?_; intro v' w' hown' hbl' _ _))
      go_roundw
      case rel => exact ⟨k + 1, by omega, by go_num, by rw [whit_succ]; exact hown', hbl'⟩
      case measure => simp [intOf]; omega
    · obtain rfl : k = n + 1 := by omega
      go_wp2
      go_ret
      exact ⟨_, rfl, hown, hbl⟩
theorem l10Whitney_c (n : Nat) (w : World) (hn : n ≤ 1000) :
    Calls Try.prog 77 #[.int .i64 n] w fun e w' => ∃ v, e = .returned v ∧ OwnI w' w.heap.size v (whit n (n + 1)) ∧ Below w.heap.size w w' := by
  go_enter Try.func77, Try.ntmps77
  go_wp2
  go_loopw [3, 4] (fun v i wr => ∃ k : Nat, k ≤ n + 1 ∧ i = .int .i64 k ∧ OwnI wr w.heap.size v (whit n k) ∧ Below w.heap.size w wr) (fun _ i _ => n + 1 - (intOf i).toNat)
  case atStart => exact ⟨0, Nat.zero_le _, rfl, ownI_empty (Nat.le_refl _), (Below.refl _ _).alloc (Nat.le_refl _) _⟩
  case round =>
    obtain ⟨k, hk, rfl, hown, hbl⟩ := hrel
    by_cases hlt : k < n + 1
    · have hl := whit_length n k
      have hs := hbl.size
      go_wp2_with (first | (go_at_call 81; refine (l01Parity_c _ _ _ (by omega) (by omega)).mono ?_; rintro e w' ⟨rfl, rfl⟩) | (at_builtin; refine append_int rfl _ _ rfl _ _ _ _ hown rfl hbl hs _ rfl (by simp) (by omega) ?_; intro v' w' hown' hbl' _ _))
      go_roundw
      case rel => exact ⟨k + 1, by omega, by go_num, by rw [whit_succ]; exact hown', hbl'⟩
      case measure => simp [intOf]; omega
    · obtain rfl : k = n + 1 := by omega
      go_wp2
      go_ret
      exact ⟨_, rfl, hown, hbl⟩
theorem isSpace_c (n : Int) (w : World) : Calls Try.prog 74 #[.int .i64 n] w fun e w' => e = .returned (.bool (decide (1 ≤ n) && decide (n ≤ 1000))) ∧ w = w' := by
  go_enter Try.func74, Try.ntmps74
  go_wp2_with (first | (go_at_call 87; refine (in_c _ _ _ _).mono ?_; rintro e w' ⟨rfl, rfl⟩))
  go_ret
  exact ⟨rfl, rfl⟩
theorem l10Space_c (n : Int) (w : World) : Calls Try.prog 76 #[.int .i64 n] w fun e w' => e = .returned (.bool (decide (1 ≤ n) && decide (n ≤ 1000))) ∧ w = w' := by
  go_enter Try.func76, Try.ntmps76
  go_wp2_with (first | (go_at_call 89; refine (l01In_c _ _ _ _).mono ?_; rintro e w' ⟨rfl, rfl⟩))
  go_ret
  exact ⟨rfl, rfl⟩
/-- The code for a dimension. -/
def spc (n : Int) : Int := if 1 ≤ n ∧ n ≤ 1000 then 0 else 2
end Go.Proofs.Ythclhbjbimncpaa

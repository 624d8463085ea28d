/- Contracts of the functions on classes of projective spaces. -/
import Derived.Test.YtmnkccjddahcjaaBase
namespace Go.Proofs.Ytmnkccjddahcjaa
open Go.RowKit

theorem in_c (n lo hi : Int) (w : World) : Calls Try.prog 94 #[.int .i64 n, .int .i64 lo, .int .i64 hi] w fun e w' => e = .returned (.bool (decide (lo ≤ n) && decide (n ≤ hi))) ∧ w = w' := by
  by_cases h1 : lo ≤ n
  · go_enter Try.func94, Try.ntmps94
    go_wp2
    go_ret
    exact ⟨by simp [h1], rfl⟩
  · go_enter Try.func94, Try.ntmps94
    go_wp2
    go_ret
    exact ⟨by simp [Int.not_le.2 h1], rfl⟩
theorem l01In_c (n lo hi : Int) (w : World) : Calls Try.prog 82 #[.int .i64 n, .int .i64 lo, .int .i64 hi] w fun e w' => e = .returned (.bool (decide (lo ≤ n) && decide (n ≤ hi))) ∧ w = w' := by
  by_cases h1 : lo ≤ n
  · go_enter Try.func82, Try.ntmps82
    go_wp2
    go_ret
    exact ⟨by simp [h1], rfl⟩
  · go_enter Try.func82, Try.ntmps82
    go_wp2
    go_ret
    exact ⟨by simp [Int.not_le.2 h1], rfl⟩
/-- Whether all binary digits of k are digits of n. -/
def par (n k : Int) : Bool := bits BinOp.and IntKind.i64 n k == k
def parI (n k : Int) : Int := if par n k then 1 else 0
theorem choose_c (n k : Int) (w : World) : Calls Try.prog 115 #[.int .i64 n, .int .i64 k] w fun e w' => e = .returned (.int .i64 (parI n k)) ∧ w = w' := by
  cases hp : par n k
  · have hq : (bits BinOp.and IntKind.i64 n k == k) = false := hp
    go_enter Try.func115, Try.ntmps115
    go_wp2
    go_ret
    exact ⟨by simp [parI, hp], rfl⟩
  · have hq : (bits BinOp.and IntKind.i64 n k == k) = true := hp
    go_enter Try.func115, Try.ntmps115
    go_wp2
    go_ret
    exact ⟨by simp [parI, hp], rfl⟩
theorem l01Parity_c (n k : Int) (w : World) (h0 : 0 ≤ k) (h1 : k ≤ n) : Calls Try.prog 83 #[.int .i64 n, .int .i64 k] w fun e w' => e = .returned (.int .i64 (parI n k)) ∧ w = w' := by
  have t1 : decide (k < 0) = false := by simp; omega
  have t2 : decide (n < k) = false := by simp; omega
  cases hp : par n k
  · have hq : (bits BinOp.and IntKind.i64 n k == k) = false := hp
    have hq2 : (bits BinOp.and IntKind.i64 n k != k) = true := by simp only [bne, hq]; rfl
    go_enter Try.func83, Try.ntmps83
    go_wp2
    go_ret
    exact ⟨by simp [parI, hp], rfl⟩
  · have hq : (bits BinOp.and IntKind.i64 n k == k) = true := hp
    have hq2 : (bits BinOp.and IntKind.i64 n k != k) = false := by simp only [bne, hq]; rfl
    go_enter Try.func83, Try.ntmps83
    go_wp2
    go_ret
    exact ⟨by simp [parI, hp], rfl⟩
/-- The classes of a projective space of dimension n: n + 1 numbers. -/
def whit (n : Int) (k : Nat) : List Int := (List.range k).map fun (i : Nat) => parI (n + 1) i
theorem whit_length (n : Int) (k : Nat) : (whit n k).length = k := by simp [whit]
theorem whit_succ (n : Int) (k : Nat) : whit n (k + 1) = whit n k ++ [parI (n + 1) k] := by simp [whit, List.range_succ]
theorem whitney_c (n : Nat) (w : World) (hn : n ≤ 1000) :
    Calls Try.prog 110 #[.int .i64 n] w fun e w' => ∃ v, e = .returned v ∧ OwnI w' w.heap.size v (whit n (n + 1)) ∧ Below w.heap.size w w' := by
  go_enter Try.func110, Try.ntmps110
  go_wp2
  go_loopw [3, 8] (fun v i wr => ∃ k : Nat, k ≤ n + 1 ∧ i = .int .i64 k ∧ OwnI wr w.heap.size v (whit n k) ∧ Below w.heap.size w wr) (fun _ i _ => n + 1 - (intOf i).toNat)
  case atStart => exact ⟨0, Nat.zero_le _, rfl, ownI_empty (Nat.le_refl _), (Below.refl _ _).alloc (Nat.le_refl _) _⟩
  case round =>
    obtain ⟨k, hk, rfl, hown, hbl⟩ := hrel
    by_cases hlt : k < n + 1
    · have hl := whit_length n k
      have hs := hbl.size
      go_wp2_with (first | (go_at_call 115; refine (choose_c _ _ _).mono ?_; rintro e w' ⟨rfl, rfl⟩) | (at_builtin; refine append_int rfl _ _ rfl _ _ _ _ hown rfl hbl hs _ rfl (by simp) (by omega) ?_; intro v' w' hown' hbl' _ _))
      go_roundw
      case rel => exact ⟨k + 1, by omega, by go_num, by rw [whit_succ]; exact hown', hbl'⟩
      case measure => simp [intOf]; omega
    · obtain rfl : k = n + 1 := by omega
      go_wp2
      go_ret
      exact ⟨_, rfl, hown, hbl⟩
theorem l10Whitney_c (n : Nat) (w : World) (hn : n ≤ 1000) :
    Calls Try.prog 112 #[.int .i64 n] w fun e w' => ∃ v, e = .returned v ∧ OwnI w' w.heap.size v (whit n (n + 1)) ∧ Below w.heap.size w w' := by
  go_enter Try.func112, Try.ntmps112
  go_wp2
  go_loopw [3, 4] (fun v i wr => ∃ k : Nat, k ≤ n + 1 ∧ i = .int .i64 k ∧ OwnI wr w.heap.size v (whit n k) ∧ Below w.heap.size w wr) (fun _ i _ => n + 1 - (intOf i).toNat)
  case atStart => exact ⟨0, Nat.zero_le _, rfl, ownI_empty (Nat.le_refl _), (Below.refl _ _).alloc (Nat.le_refl _) _⟩
  case round =>
    obtain ⟨k, hk, rfl, hown, hbl⟩ := hrel
    by_cases hlt : k < n + 1
    · have hl := whit_length n k
      have hs := hbl.size
      go_wp2_with (first | (go_at_call 83; refine (l01Parity_c _ _ _ (by omega) (by omega)).mono ?_; rintro e w' ⟨rfl, rfl⟩) | (at_builtin; refine append_int rfl _ _ rfl _ _ _ _ hown rfl hbl hs _ rfl (by simp) (by omega) ?_; intro v' w' hown' hbl' _ _))
      go_roundw
      case rel => exact ⟨k + 1, by omega, by go_num, by rw [whit_succ]; exact hown', hbl'⟩
      case measure => simp [intOf]; omega
    · obtain rfl : k = n + 1 := by omega
      go_wp2
      go_ret
      exact ⟨_, rfl, hown, hbl⟩
theorem isSpace_c (n : Int) (w : World) : Calls Try.prog 109 #[.int .i64 n] w fun e w' => e = .returned (.bool (decide (1 ≤ n) && decide (n ≤ 1000))) ∧ w = w' := by
  go_enter Try.func109, Try.ntmps109
  go_wp2_with (first | (go_at_call 94; refine (in_c _ _ _ _).mono ?_; rintro e w' ⟨rfl, rfl⟩))
  go_ret
  exact ⟨rfl, rfl⟩
theorem l10Space_c (n : Int) (w : World) : Calls Try.prog 111 #[.int .i64 n] w fun e w' => e = .returned (.bool (decide (1 ≤ n) && decide (n ≤ 1000))) ∧ w = w' := by
  go_enter Try.func111, Try.ntmps111
  go_wp2_with (first | (go_at_call 82; refine (l01In_c _ _ _ _).mono ?_; rintro e w' ⟨rfl, rfl⟩))
  go_ret
  exact ⟨rfl, rfl⟩
/-- The code for a dimension. -/
def spc (n : Int) : Int := if 1 ≤ n ∧ n ≤ 1000 then 0 else 2
end Go.Proofs.Ytmnkccjddahcjaa

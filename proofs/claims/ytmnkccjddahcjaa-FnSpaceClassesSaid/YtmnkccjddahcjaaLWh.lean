/- WhitneyClasses, of the program and of the reference. -/
import Derived.Test.YtmnkccjddahcjaaL10
namespace Go.Proofs.Ytmnkccjddahcjaa
open Go.RowKit

def whOf (n : Int) : List Int := if 1 ≤ n ∧ n ≤ 1000 then whit n (n.toNat + 1) else []
theorem whOf_length (n : Int) : (whOf n).length ≤ 1001 := by
  unfold whOf; split
  · rw [whit_length]; omega
  · simp
theorem specWhitneyClasses_c (n : Int) (w : World) :
    Calls Try.prog 49 #[.int .i64 n] w fun e w' => ∃ v, e = .returned (.tuple #[v, .int .i64 (spc n)]) ∧ IntS w'.heap v (whOf n) ∧ Below w.heap.size w w' := by
  by_cases hr : 1 ≤ n ∧ n ≤ 1000
  · obtain ⟨m, rfl⟩ := Int.eq_ofNat_of_zero_le (show 0 ≤ n by omega)
    have t1 : (decide (1 ≤ (m : Int)) && decide ((m : Int) ≤ 1000)) = true := by simp; omega
    have es : spc m = 0 := by simp [spc, hr]
    have ew : whOf m = whit m (m + 1) := by simp [whOf, hr]
    rw [es, ew]; clear es ew
    obtain ⟨hr1, hr2⟩ := hr
    go_enter Try.func49, Try.ntmps49
    go_wp2_with (first | (go_at_call 111; refine (l10Space_c _ _).mono ?_; rintro e w' ⟨rfl, rfl⟩) | (go_at_call 112; refine (l10Whitney_c _ _ (by omega)).mono ?_; rintro e w1 ⟨v, rfl, hown1, hb1⟩))
    go_ret2
    exact ⟨_, rfl, hown1.ints, hb1⟩
  · have t1 : (decide (1 ≤ n) && decide (n ≤ 1000)) = false := by simp; omega
    have es : spc n = 2 := by simp [spc, hr]
    have ew : whOf n = [] := by simp [whOf, hr]
    rw [es, ew]; clear es ew hr
    go_enter Try.func49, Try.ntmps49
    go_wp2_with (first | (go_at_call 111; refine (l10Space_c _ _).mono ?_; rintro e w' ⟨rfl, rfl⟩))
    go_ret2
    exact ⟨_, rfl, IntS.nil _, Below.refl _ _⟩
theorem implWhitneyClasses_c (n : Int) (w : World) :
    Calls Try.prog 48 #[.int .i64 n] w fun e w' => ∃ v, e = .returned (.tuple #[v, .int .i64 (spc n)]) ∧ OwnI w' w.heap.size v (whOf n) ∧ Below w.heap.size w w' := by
  by_cases hr : 1 ≤ n ∧ n ≤ 1000
  · obtain ⟨m, rfl⟩ := Int.eq_ofNat_of_zero_le (show 0 ≤ n by omega)
    have t1 : (decide (1 ≤ (m : Int)) && decide ((m : Int) ≤ 1000)) = true := by simp; omega
    have es : spc m = 0 := by simp [spc, hr]
    have ew : whOf m = whit m (m + 1) := by simp [whOf, hr]
    rw [es, ew]; clear es ew
    obtain ⟨hr1, hr2⟩ := hr
    go_enter Try.func48, Try.ntmps48
    go_wp2_with (first | (go_at_call 109; refine (isSpace_c _ _).mono ?_; rintro e w' ⟨rfl, rfl⟩) | (go_at_call 110; refine (whitney_c _ _ (by omega)).mono ?_; rintro e w1 ⟨v, rfl, hown1, hb1⟩))
    go_ret2
    exact ⟨_, rfl, hown1, hb1⟩
  · have t1 : (decide (1 ≤ n) && decide (n ≤ 1000)) = false := by simp; omega
    have es : spc n = 2 := by simp [spc, hr]
    have ew : whOf n = [] := by simp [whOf, hr]
    rw [es, ew]; clear es ew hr
    go_enter Try.func48, Try.ntmps48
    go_wp2_with (first | (go_at_call 109; refine (isSpace_c _ _).mono ?_; rintro e w' ⟨rfl, rfl⟩))
    go_ret2
    exact ⟨_, rfl, OwnI.nil _ _, Below.refl _ _⟩
end Go.Proofs.Ytmnkccjddahcjaa

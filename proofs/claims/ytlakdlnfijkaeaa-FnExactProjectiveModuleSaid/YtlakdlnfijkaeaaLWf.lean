/- WuFormula, of the program and of the reference. -/
import Derived.Test.YtlakdlnfijkaeaaL10
import Derived.Test.YtlakdlnfijkaeaaBase2
namespace Go.Proofs.Ytlakdlnfijkaeaa
open Go.RowKit

theorem par_le (a b : Nat) (ha : a < 2 ^ 62) (hb : b < 2 ^ 62) (h : par a b = true) : b ≤ a := by
  unfold par at h
  rw [(bits_nat .i64 62 (by decide) (fun n h0 h1 => IntWalk.i64_in n (by omega)) a b ha hb).1] at h
  simp only [beq_iff_eq] at h
  have := @Nat.and_le_left a b
  omega
/-- Whether the place t stands in the formula. -/
def wfB (i j : Int) (t : Nat) : Bool := t == 0 || par (j - i + t - 1) t
def wfl (i j : Int) : Nat → List (List Int)
  | 0 => []
  | k + 1 => wfl i j k ++ if wfB i j k then [[i - k, j + k]] else []
theorem wfl_bounds (i j : Int) (k : Nat) : (wfl i j k).length ≤ k ∧ cnt (wfl i j k) ≤ 2 * k := by
  induction k with
  | zero => exact ⟨Nat.le_refl _, Nat.le_refl _⟩
  | succ k ih =>
    unfold wfl
    split
    · rw [cnt_append]; simp [cnt]; exact ⟨by omega, by unfold cnt at ih; omega⟩
    · simp; exact ⟨by omega, by omega⟩
def wfOf (i j : Int) : List (List Int) := if 0 ≤ i ∧ i ≤ j ∧ j ≤ 1000 then wfl i j (i.toNat + 1) else []
def wfC (i j : Int) : Int := if 0 ≤ i ∧ i ≤ j ∧ j ≤ 1000 then 0 else 2
theorem wfOf_bounds (i j : Int) : (wfOf i j).length ≤ 1001 ∧ cnt (wfOf i j) ≤ 2002 := by
  unfold wfOf; split
  · have := wfl_bounds i j (i.toNat + 1); omega
  · simp [cnt]

theorem l01Parity_par (n k : Int) (w : World) (h0 : 1 ≤ k) (h1 : 0 ≤ n) (hn : n ≤ 100000) (hk : k ≤ 100000) : Calls Try.prog 54 #[.int .i64 n, .int .i64 k] w fun e w' => e = .returned (.int .i64 (parI n k)) ∧ w = w' := by
  by_cases h : k ≤ n
  · exact l01Parity_c n k w (by omega) (by omega)
  · have t1 : decide (k < 0) = false := by simp; omega
    have t3 : n < k := by omega
    have hp : par n k = false := by
      cases e : par n k
      · rfl
      · exfalso
        have e2 : par (n.toNat : Nat) (k.toNat : Nat) = true := by rw [Int.toNat_of_nonneg h1, Int.toNat_of_nonneg (by omega)]; exact e
        have := par_le n.toNat k.toNat (by omega) (by omega) e2
        omega
    have hz : parI n k = 0 := by simp [parI, hp]
    rw [hz]
    clear hz hp h
    go_enter Try.func54, Try.ntmps54
    go_wp2
    go_ret
    exact ⟨rfl, rfl⟩
theorem specWuFormula_c (i j : Int) (w : World) :
    Calls Try.prog 26 #[.int .i64 i, .int .i64 j] w fun e w' => ∃ v, e = .returned (.tuple #[v, .int .i64 (wfC i j)]) ∧ IntSS w'.heap v (wfOf i j) ∧ Below w.heap.size w w' := by
  by_cases hr : 0 ≤ i ∧ i ≤ j ∧ j ≤ 1000
  · obtain ⟨m, rfl⟩ := Int.eq_ofNat_of_zero_le (show 0 ≤ i by omega)
    obtain ⟨q, rfl⟩ := Int.eq_ofNat_of_zero_le (show 0 ≤ j by omega)
    have t1 : (decide ((0 : Int) ≤ m) && decide ((m : Int) ≤ q)) = true := by simp; omega
    have t2 : decide (1000 < (q : Int)) = false := by simp; omega
    have es : wfC m q = 0 := by simp [wfC, hr]
    have ew : wfOf m q = wfl m q (m + 1) := by simp [wfOf, hr]
    rw [es, ew]; clear es ew
    obtain ⟨-, hr1, hr2⟩ := hr
    go_enter Try.func26, Try.ntmps26
    go_wp2_with (first | (go_at_call 49; refine (l01In_c _ _ _ _).mono ?_; rintro e w' ⟨rfl, rfl⟩))
    go_loopw [6, 7] (fun v i wr => ∃ k : Nat, k ≤ m + 1 ∧ i = .int .i64 k ∧ OwnII wr w.heap.size v (wfl m q k) ∧ Below w.heap.size w wr) (fun _ i _ => m + 1 - (intOf i).toNat)
    case atStart => exact ⟨0, Nat.zero_le _, rfl, ownII_empty (Nat.le_refl _), (Below.refl _ _).alloc (Nat.le_refl _) _⟩
    case round =>
      obtain ⟨k, hk, rfl, hown, hbl⟩ := hrel
      by_cases hlt : k < m + 1
      · have hl := (wfl_bounds m q k).1
        have hs := hbl.size
        cases hB : wfB m q k
        · have hk0 : (k : Int) ≠ 0 := by intro e; simp [wfB, show k = 0 by omega] at hB
          have hk1 := (neB hk0).1
          have hk2 : 1 ≤ k := by omega
          have hp : parI ((q : Int) - m + k - 1) k = 0 := by
            simp only [wfB, Bool.or_eq_false_iff] at hB; simp [parI, hB.2]
          have hst : wfl m q (k + 1) = wfl m q k := by rw [wfl, hB]; simp
          have HP := Lib.hid hp; have HST := Lib.hid hst; clear hp hst hB hk0
          go_wp2_with fail
          refine (l01Parity_par _ _ _ (by omega) (by omega) (by omega) (by omega)).mono ?_
          rw [HP.out]
          rintro e w' ⟨rfl, rfl⟩
          go_wp2_with fail
          go_roundw
          case rel => exact ⟨k + 1, by omega, by go_num, by rw [HST.out]; exact hown, hbl⟩
          case measure => simp [intOf]; omega
        · have hst : wfl m q (k + 1) = wfl m q k ++ [[(m : Int) - k, (q : Int) + k]] := by rw [wfl, hB]; simp
          have HST := Lib.hid hst; clear hst
          by_cases hk0 : k = 0
          · have hk1 := (eqB (show (k : Int) = 0 by omega)).1
            have HK := Lib.hid hk0
            clear hB hk0
            go_wp2_with (first | (at_builtin; refine append_row (w := wr.alloc _) (wE := wr) rfl _ _ rfl _ _ _ _ _ hown rfl (ownI_lit2 (Nat.le_refl _) _ _) ((Below.refl _ _).alloc (Nat.le_refl _) _) hbl hs _ rfl (by simp) (by omega) ?_; intro v' w' hown' hbl' _ _))
            go_roundw
            case rel => exact ⟨k + 1, by omega, by go_num, by rw [HST.out]; exact hown', hbl'⟩
            case measure => simp [intOf]; omega
          · have hk1 := (neB (show (k : Int) ≠ 0 by omega)).1
            have hk2 : 1 ≤ k := by omega
            have hp : parI ((q : Int) - m + k - 1) k = 1 := by
              simp only [wfB, Bool.or_eq_true, beq_iff_eq] at hB; simp [parI, hB.resolve_left hk0]
            have HP := Lib.hid hp; clear hp hB
            go_wp2_with fail
            refine (l01Parity_par _ _ _ (by omega) (by omega) (by omega) (by omega)).mono ?_
            rw [HP.out]
            rintro e w' ⟨rfl, rfl⟩
            go_wp2_with (first | (at_builtin; refine append_row (w := wr.alloc _) (wE := wr) rfl _ _ rfl _ _ _ _ _ hown rfl (ownI_lit2 (Nat.le_refl _) _ _) ((Below.refl _ _).alloc (Nat.le_refl _) _) hbl hs _ rfl (by simp) (by omega) ?_; intro v' w' hown' hbl' _ _))
            go_roundw
            case rel => exact ⟨k + 1, by omega, by go_num, by rw [HST.out]; exact hown', hbl'⟩
            case measure => simp [intOf]; omega
      · obtain rfl : k = m + 1 := by omega
        go_wp2_with fail
        go_ret2
        exact ⟨_, rfl, hown.ints, hbl⟩
  · have es : wfC i j = 2 := by simp [wfC, hr]
    have ew : wfOf i j = [] := by simp [wfOf, hr]
    rw [es, ew]; clear es ew
    by_cases h1 : 0 ≤ i ∧ i ≤ j
    · have t1 : (decide (0 ≤ i) && decide (i ≤ j)) = true := by simp; omega
      have t2 : decide (1000 < j) = true := by simp; omega
      clear hr h1
      go_enter Try.func26, Try.ntmps26
      go_wp2_with (first | (go_at_call 49; refine (l01In_c _ _ _ _).mono ?_; rintro e w' ⟨rfl, rfl⟩))
      go_ret2
      exact ⟨_, rfl, IntSS.nil _, Below.refl _ _⟩
    · have t1 : (decide (0 ≤ i) && decide (i ≤ j)) = false := by simp; omega
      clear hr h1
      go_enter Try.func26, Try.ntmps26
      go_wp2_with (first | (go_at_call 49; refine (l01In_c _ _ _ _).mono ?_; rintro e w' ⟨rfl, rfl⟩))
      go_ret2
      exact ⟨_, rfl, IntSS.nil _, Below.refl _ _⟩
theorem implWuFormula_c (i j : Int) (w : World) :
    Calls Try.prog 27 #[.int .i64 i, .int .i64 j] w fun e w' => ∃ v, e = .returned (.tuple #[v, .int .i64 (wfC i j)]) ∧ OwnII w' w.heap.size v (wfOf i j) ∧ Below w.heap.size w w' := by
  by_cases hr : 0 ≤ i ∧ i ≤ j ∧ j ≤ 1000
  · obtain ⟨m, rfl⟩ := Int.eq_ofNat_of_zero_le (show 0 ≤ i by omega)
    obtain ⟨q, rfl⟩ := Int.eq_ofNat_of_zero_le (show 0 ≤ j by omega)
    have t1 : decide ((m : Int) < 0) = false := by simp
    have t3 : decide (q < m) = false := by simp; omega
    have t2 : decide (1000 < (q : Int)) = false := by simp; omega
    have es : wfC m q = 0 := by simp [wfC, hr]
    have ew : wfOf m q = wfl m q (m + 1) := by simp [wfOf, hr]
    rw [es, ew]; clear es ew
    obtain ⟨-, hr1, hr2⟩ := hr
    go_enter Try.func27, Try.ntmps27
    go_wp2_with fail
    go_loopw [6, 23] (fun v i wr => ∃ k : Nat, k ≤ m + 1 ∧ i = .int .i64 k ∧ OwnII wr w.heap.size v (wfl m q k) ∧ Below w.heap.size w wr) (fun _ i _ => m + 1 - (intOf i).toNat)
    case atStart => exact ⟨0, Nat.zero_le _, rfl, ownII_empty (Nat.le_refl _), (Below.refl _ _).alloc (Nat.le_refl _) _⟩
    case round =>
      obtain ⟨k, hk, rfl, hown, hbl⟩ := hrel
      by_cases hlt : k < m + 1
      · have hl := (wfl_bounds m q k).1
        have hs := hbl.size
        cases hB : wfB m q k
        · have hk0 : (k : Int) ≠ 0 := by intro e; simp [wfB, show k = 0 by omega] at hB
          have hk1 := (neB hk0).1
          have hp : (bits BinOp.and IntKind.i64 ((q : Int) - m + k - 1) k == k) = false := by
            simp only [wfB, Bool.or_eq_false_iff] at hB; exact hB.2
          have hst : wfl m q (k + 1) = wfl m q k := by rw [wfl, hB]; simp
          have HST := Lib.hid hst; clear hst hB hk0
          go_wp2_with fail
          go_roundw
          case rel => exact ⟨k + 1, by omega, by go_num, by rw [HST.out]; exact hown, hbl⟩
          case measure => simp [intOf]; omega
        · have hst : wfl m q (k + 1) = wfl m q k ++ [[(m : Int) - k, (q : Int) + k]] := by rw [wfl, hB]; simp
          have HST := Lib.hid hst; clear hst
          by_cases hk0 : k = 0
          · have hk1 := (eqB (show (k : Int) = 0 by omega)).1
            have HK := Lib.hid hk0
            clear hB hk0
            go_wp2_with (first | (at_builtin; refine append_row (w := wr.alloc _) (wE := wr) rfl _ _ rfl _ _ _ _ _ hown rfl (ownI_lit2 (Nat.le_refl _) _ _) ((Below.refl _ _).alloc (Nat.le_refl _) _) hbl hs _ rfl (by simp) (by omega) ?_; intro v' w' hown' hbl' _ _))
            go_roundw
            case rel => exact ⟨k + 1, by omega, by go_num, by rw [HST.out]; exact hown', hbl'⟩
            case measure => simp [intOf]; omega
          · have hk1 := (neB (show (k : Int) ≠ 0 by omega)).1
            have hk2 : 1 ≤ k := by omega
            have hp : (bits BinOp.and IntKind.i64 ((q : Int) - m + k - 1) k == k) = true := by
              simp only [wfB, Bool.or_eq_true, beq_iff_eq] at hB; exact hB.resolve_left hk0
            clear hB
            go_wp2_with (first | (at_builtin; refine append_row (w := wr.alloc _) (wE := wr) rfl _ _ rfl _ _ _ _ _ hown rfl (ownI_lit2 (Nat.le_refl _) _ _) ((Below.refl _ _).alloc (Nat.le_refl _) _) hbl hs _ rfl (by simp) (by omega) ?_; intro v' w' hown' hbl' _ _))
            go_roundw
            case rel => exact ⟨k + 1, by omega, by go_num, by rw [HST.out]; exact hown', hbl'⟩
            case measure => simp [intOf]; omega
      · obtain rfl : k = m + 1 := by omega
        go_wp2_with fail
        go_ret2
        exact ⟨_, rfl, hown, hbl⟩
  · have es : wfC i j = 2 := by simp [wfC, hr]
    have ew : wfOf i j = [] := by simp [wfOf, hr]
    rw [es, ew]; clear es ew
    by_cases h0 : i < 0
    · clear hr
      go_enter Try.func27, Try.ntmps27
      go_wp2_with fail
      go_ret2
      exact ⟨_, rfl, OwnII.nil _ _, Below.refl _ _⟩
    · have h0' : decide (i < 0) = false := by simp; omega
      by_cases h1 : j < i
      · clear hr h0
        go_enter Try.func27, Try.ntmps27
        go_wp2_with fail
        go_ret2
        exact ⟨_, rfl, OwnII.nil _ _, Below.refl _ _⟩
      · have h1' : decide (j < i) = false := by simp; omega
        have t2 : decide (1000 < j) = true := by simp; omega
        clear hr h0 h1
        go_enter Try.func27, Try.ntmps27
        go_wp2_with fail
        go_ret2
        exact ⟨_, rfl, OwnII.nil _ _, Below.refl _ _⟩
end Go.Proofs.Ytlakdlnfijkaeaa

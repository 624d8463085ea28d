/- WuClasses, of the program and of the reference. -/
import Derived.Test.YtmnkccjddahcjaaL10
namespace Go.Proofs.Ytmnkccjddahcjaa
open Go.RowKit

/-- The Wu classes: k of them. -/
def wuc (n : Nat) (i : Nat) : Int := if 2 * i ≤ n then parI ((n : Int) - i) i else 0
def wu (n k : Nat) : List Int := (List.range k).map (wuc n)
theorem wu_length (n k : Nat) : (wu n k).length = k := by simp [wu]
theorem wu_succ (n k : Nat) : wu n (k + 1) = wu n k ++ [wuc n k] := by simp [wu, List.range_succ]
def wuOf (n : Int) : List Int := if 1 ≤ n ∧ n ≤ 1000 then wu n.toNat (n.toNat + 1) else []
/-- What the program's loop has: the first k classes, then zeros. -/
def wuz (n k : Nat) : List Int := wu n k ++ List.replicate (n + 1 - k) 0
theorem wuz_zero (n : Nat) : wuz n 0 = List.replicate (n + 1) 0 := by simp [wuz, wu]
theorem wuz_length (n k : Nat) (h : k ≤ n + 1) : (wuz n k).length = n + 1 := by simp [wuz, wu_length]; omega
theorem wuz_set (n k : Nat) (h : 2 * k ≤ n) : (wuz n k).set k (parI ((n : Int) - k) k) = wuz n (k + 1) := by
  unfold wuz
  rw [List.set_append_right _ _ (by simp [wu_length]), wu_length, Nat.sub_self, show n + 1 - k = (n + 1 - (k + 1)) + 1 by omega, List.replicate_succ, List.set_cons_zero, wu_succ]
  simp [wuc, h]
theorem wuz_all (n k : Nat) (h : n < 2 * k) (hk : k ≤ n + 1) : wuz n k = wu n (n + 1) := by
  apply List.ext_getElem?
  intro i
  unfold wuz
  by_cases hi : i < k
  · rw [List.getElem?_append_left (by simpa [wu_length] using hi)]
    simp [wu, hi, show i < n + 1 by omega]
  · rw [List.getElem?_append_right (by simpa [wu_length] using hi)]
    by_cases h2 : i < n + 1
    · simp [wu, wuc, h2, show i - k < n + 1 - k by omega, show ¬ 2 * i ≤ n by omega]
    · simp [wu, h2, show ¬ i - k < n + 1 - k by omega]

theorem specWuClasses_c (n : Int) (w : World) :
    Calls Try.prog 53 #[.int .i64 n] w fun e w' => ∃ v, e = .returned (.tuple #[v, .int .i64 (spc n)]) ∧ IntS w'.heap v (wuOf n) ∧ Below w.heap.size w w' := by
  by_cases hr : 1 ≤ n ∧ n ≤ 1000
  · obtain ⟨m, rfl⟩ := Int.eq_ofNat_of_zero_le (show 0 ≤ n by omega)
    have t1 : (decide (1 ≤ (m : Int)) && decide ((m : Int) ≤ 1000)) = true := by simp; omega
    have es : spc m = 0 := by simp [spc, hr]
    have ew : wuOf m = wu m (m + 1) := by simp [wuOf, hr]
    rw [es, ew]; clear es ew
    obtain ⟨hr1, hr2⟩ := hr
    go_enter Try.func53, Try.ntmps53
    go_wp2_with (first | (go_at_call 111; refine (l10Space_c _ _).mono ?_; rintro e w' ⟨rfl, rfl⟩))
    go_loopw [4, 5] (fun v i wr => ∃ k : Nat, k ≤ m + 1 ∧ i = .int .i64 k ∧ OwnI wr w.heap.size v (wu m k) ∧ Below w.heap.size w wr) (fun _ i _ => m + 1 - (intOf i).toNat)
    case atStart => exact ⟨0, Nat.zero_le _, rfl, ownI_empty (Nat.le_refl _), (Below.refl _ _).alloc (Nat.le_refl _) _⟩
    case round =>
      obtain ⟨k, hk, rfl, hown, hbl⟩ := hrel
      by_cases hlt : k < m + 1
      · have hl := wu_length m k
        have hs := hbl.size
        by_cases h2 : 2 * k ≤ m
        · go_wp2_with (first | (go_at_call 83; refine (l01Parity_c _ _ _ (by omega) (by omega)).mono ?_; rintro e w' ⟨rfl, rfl⟩) | (at_builtin; refine append_int rfl _ _ rfl _ _ _ _ hown rfl hbl hs _ rfl (by simp) (by omega) ?_; intro v' w' hown' hbl' _ _))
          go_roundw
          case rel => exact ⟨k + 1, by omega, by go_num, by rw [wu_succ]; simpa [wuc, h2] using hown', hbl'⟩
          case measure => simp [intOf]; omega
        · have h3 : ¬ 2 * k ≤ m := h2
          have H3 := Lib.hid h3; clear h3
          go_wp2_with (first | (at_builtin; refine append_int rfl _ _ rfl _ _ _ _ hown rfl hbl hs _ rfl (by simp) (by omega) ?_; intro v' w' hown' hbl' _ _))
          go_roundw
          case rel => exact ⟨k + 1, by omega, by go_num, by rw [wu_succ, wuc, if_neg H3.out]; exact hown', hbl'⟩
          case measure => simp [intOf]; omega
      · obtain rfl : k = m + 1 := by omega
        go_wp2
        go_ret2
        exact ⟨_, rfl, hown.ints, hbl⟩
  · have t1 : (decide (1 ≤ n) && decide (n ≤ 1000)) = false := by simp; omega
    have es : spc n = 2 := by simp [spc, hr]
    have ew : wuOf n = [] := by simp [wuOf, hr]
    rw [es, ew]; clear es ew hr
    go_enter Try.func53, Try.ntmps53
    go_wp2_with (first | (go_at_call 111; refine (l10Space_c _ _).mono ?_; rintro e w' ⟨rfl, rfl⟩))
    go_ret2
    exact ⟨_, rfl, IntS.nil _, Below.refl _ _⟩
theorem implWuClasses_c (n : Int) (w : World) :
    Calls Try.prog 52 #[.int .i64 n] w fun e w' => ∃ v, e = .returned (.tuple #[v, .int .i64 (spc n)]) ∧ OwnI w' w.heap.size v (wuOf n) ∧ Below w.heap.size w w' := by
  by_cases hr : 1 ≤ n ∧ n ≤ 1000
  · obtain ⟨m, rfl⟩ := Int.eq_ofNat_of_zero_le (show 0 ≤ n by omega)
    have t1 : (decide (1 ≤ (m : Int)) && decide ((m : Int) ≤ 1000)) = true := by simp; omega
    have es : spc m = 0 := by simp [spc, hr]
    have ew : wuOf m = wu m (m + 1) := by simp [wuOf, hr]
    rw [es, ew]; clear es ew
    obtain ⟨hr1, hr2⟩ := hr
    have hmk := fun w => make_run (P := Try.prog) 49 2 _ 8 info_int64 Try.underlying49 rfl (by omega) (m + 1) (by omega) .i64 .i64 ((m : Int) + 1) ((m : Int) + 1) (by omega) (by omega) w
    go_enter Try.func52, Try.ntmps52
    go_wp2_with (first | (go_at_call 109; refine (isSpace_c _ _).mono ?_; rintro e w' ⟨rfl, rfl⟩))
    clear hmk
    go_loopw [5] (fun i wr => ∃ k : Nat, 2 * k ≤ m + 2 ∧ i = .int .i64 k ∧ OwnI wr w.heap.size (.slice (some ⟨w.heap.size, 0, none⟩) (m + 1) (m + 1)) (wuz m k) ∧ Below w.heap.size w wr) (fun i _ => m + 1 - (intOf i).toNat)
    case atStart =>
      refine ⟨0, by omega, rfl, ?_, (Below.refl _ _).alloc (Nat.le_refl _) _⟩
      have := made_own w w.heap.size 2 (m + 1) (.int .i64 0) (Nat.le_refl _) (by omega)
      rw [wuz_zero]; unfold OwnI; simpa using this
    case round =>
      obtain ⟨k, hk, rfl, hown, hbl⟩ := hrel
      unfold OwnI at hown
      rw [wuz_length m k (by omega)] at hown
      by_cases h2 : 2 * k ≤ m
      · have hc := own_int_at hown k (by omega)
        have hf := hown.frozenAt k
        have hst := own_int_set hown k (parI ((m : Int) - k) k)
        rw [wuz_set m k h2] at hst
        have hbl' := hbl.setCell (p := ⟨w.heap.size, k, none⟩) (Nat.le_refl _) (.int .i64 (parI ((m : Int) - k) k))
        have G := Lib.hid (And.intro hst hbl'); clear hst hbl' hown
        go_wp2_with (first | (go_at_call 115; refine (choose_c _ _ _).mono ?_; rintro e w' ⟨rfl, rfl⟩))
        go_roundw
        case rel => exact ⟨k + 1, by omega, by go_num, by unfold OwnI; rw [wuz_length m (k + 1) (by omega)]; exact G.out.1, G.out.2⟩
        case measure => simp [intOf]; omega
      · go_wp2_with fail
        go_ret2
        refine ⟨_, rfl, ?_, hbl⟩
        rw [← wuz_all m k (by omega) (by omega)]
        unfold OwnI; rw [wuz_length m k (by omega)]; exact hown
  · have t1 : (decide (1 ≤ n) && decide (n ≤ 1000)) = false := by simp; omega
    have es : spc n = 2 := by simp [spc, hr]
    have ew : wuOf n = [] := by simp [wuOf, hr]
    rw [es, ew]; clear es ew hr
    go_enter Try.func52, Try.ntmps52
    go_wp2_with (first | (go_at_call 109; refine (isSpace_c _ _).mono ?_; rintro e w' ⟨rfl, rfl⟩))
    go_ret2
    exact ⟨_, rfl, OwnI.nil _ _, Below.refl _ _⟩
theorem wuOf_length (n : Int) : (wuOf n).length ≤ 1001 := by
  unfold wuOf; split
  · rw [wu_length]; omega
  · simp
end Go.Proofs.Ytmnkccjddahcjaa

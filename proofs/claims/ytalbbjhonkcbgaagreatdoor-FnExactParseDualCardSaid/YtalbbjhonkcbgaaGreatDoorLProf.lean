/- The least profile to whose part an element belongs: of the program and of the reference. -/
import Derived.Test.YtalbbjhonkcbgaaGreatDoorLMil
import Derived.Test.YtalbbjhonkcbgaaGreatDoorLMilArg
import Derived.Test.YtalbbjhonkcbgaaGreatDoorLTrim
import Derived.Test.YtalbbjhonkcbgaaGreatDoorBaseC
import Derived.Deep.RegionLaw
namespace Go.Proofs.YtalbbjhonkcbgaaGreatDoor
open Go.RowKit Go.Sort

/-- How many binary digits a number has. -/
def blN (n : Nat) : Nat := ((List.range 6).filter fun i => decide (2 ^ i ≤ n)).length
theorem blN_lt : ∀ n : Nat, n < 41 → ∀ m : Nat, m < 7 → (decide ((2 : Int) ^ m ≤ (n : Int)) = decide (m < blN n)) := by decide +kernel
theorem blN_le (n : Nat) : blN n ≤ 6 := Nat.le_trans (List.length_filter_le _ _) (by simp)
theorem blN_zero : blN 0 = 0 := by decide
set_option maxRecDepth 100000 in
theorem len64_c (n : Nat) (w : World) (h : n ≤ 40) : Calls Tryz.prog 143 #[.int .u64 n] w fun e w' => e = .returned (.int .i64 (blN n)) ∧ w = w' := by
  obtain ⟨x, hx⟩ : ∃ x : Int, x = n := ⟨_, rfl⟩
  rw [← hx]
  have h0 : 0 ≤ x := by omega
  have h1 : x ≤ 40 := by omega
  have HX := Lib.hid hx; clear hx
  generalize hq : (blN n : Int) = q
  have HQ := Lib.hid hq; clear hq
  go_enter Tryz.func143, Tryz.ntmps143
  go_wp2_with fail
  go_ret
  refine ⟨?_, rfl⟩
  have hx := HX.out
  subst hx
  rw [← HQ.out]
  clear HQ HX
  have hn : n = 0 ∨ n = 1 ∨ n = 2 ∨ n = 3 ∨ n = 4 ∨ n = 5 ∨ n = 6 ∨ n = 7 ∨ n = 8 ∨ n = 9 ∨ n = 10 ∨ n = 11 ∨ n = 12 ∨ n = 13 ∨ n = 14 ∨ n = 15 ∨ n = 16 ∨ n = 17 ∨ n = 18 ∨ n = 19 ∨ n = 20 ∨ n = 21 ∨ n = 22 ∨ n = 23 ∨ n = 24 ∨ n = 25 ∨ n = 26 ∨ n = 27 ∨ n = 28 ∨ n = 29 ∨ n = 30 ∨ n = 31 ∨ n = 32 ∨ n = 33 ∨ n = 34 ∨ n = 35 ∨ n = 36 ∨ n = 37 ∨ n = 38 ∨ n = 39 ∨ n = 40 := by omega
  rcases hn with rfl | rfl | rfl | rfl | rfl | rfl | rfl | rfl | rfl | rfl | rfl | rfl | rfl | rfl | rfl | rfl | rfl | rfl | rfl | rfl | rfl | rfl | rfl | rfl | rfl | rfl | rfl | rfl | rfl | rfl | rfl | rfl | rfl | rfl | rfl | rfl | rfl | rfl | rfl | rfl | rfl
  all_goals (simp; decide +revert +kernel)
/-- The digits of the number at place i of a row; the most of all rows. -/
def pfR (r : List Int) (i : Nat) : Nat := blN (r.getD i 0).toNat
def pf (xss : List (List Int)) (i : Nat) : Nat := xss.foldl (fun m r => max m (pfR r i)) 0
theorem pf_succ (xss : List (List Int)) (k i : Nat) (h : k < xss.length) : pf (xss.take (k + 1)) i = max (pf (xss.take k) i) (pfR xss[k] i) := by
  unfold pf; rw [List.take_succ_eq_append_getElem h, List.foldl_append]; rfl
theorem pf_le (xss : List (List Int)) (i : Nat) : pf xss i ≤ 6 := by
  unfold pf
  have : ∀ (l : List (List Int)) (m : Nat), m ≤ 6 → l.foldl (fun m r => max m (pfR r i)) m ≤ 6 := by
    intro l
    induction l with
    | nil => intro m h; exact h
    | cons r l ih => intro m h; exact ih _ (Nat.max_le.2 ⟨h, blN_le _⟩)
  exact this xss 0 (by omega)
def pfL (xss : List (List Int)) (n : Nat) : List Int := (List.range n).map fun i => ((pf xss i : Nat) : Int)
def pfI (xss : List (List Int)) (k c n : Nat) : List Int := (List.range n).map fun i => ((if i < c then pf (xss.take (k + 1)) i else pf (xss.take k) i : Nat) : Int)
theorem pfI_zero (xss : List (List Int)) (k n : Nat) : pfI xss k 0 n = pfL (xss.take k) n := by simp [pfI, pfL]
theorem pfI_at (xss : List (List Int)) (k c n : Nat) (h : c < n) : (pfI xss k c n).getD c 0 = (pf (xss.take k) c : Nat) := by simp [pfI, h]
theorem pfI_len (xss : List (List Int)) (k c n : Nat) : (pfI xss k c n).length = n := by simp [pfI]
theorem pfI_set (xss : List (List Int)) (k c n : Nat) (h : c < n) : (pfI xss k c n).set c (pf (xss.take (k + 1)) c : Nat) = pfI xss k (c + 1) n := by
  apply List.ext_getElem?
  intro i
  rw [List.getElem?_set]
  by_cases hi : i < n
  · by_cases e : c = i
    · subst e; simp [pfI, hi]
    · simp only [if_neg e, pfI, List.getElem?_map, List.getElem?_range hi, Option.map_some]
      congr 2
      by_cases h1 : i < c
      · rw [if_pos h1, if_pos (by omega)]
      · rw [if_neg h1, if_neg (by omega)]
  · rw [if_neg (by omega), List.getElem?_eq_none (by simp [pfI]; omega), List.getElem?_eq_none (by simp [pfI]; omega)]
theorem pfR_over (r : List Int) (i : Nat) (h : r.length ≤ i) : pfR r i = 0 := by
  unfold pfR; rw [List.getD_eq_getElem?_getD, List.getElem?_eq_none h]; exact blN_zero
theorem pfI_row (xss : List (List Int)) (k n : Nat) (h : k < xss.length) : pfI xss k xss[k].length n = pfL (xss.take (k + 1)) n := by
  unfold pfI pfL
  apply List.map_congr_left
  intro i _
  by_cases h1 : i < xss[k].length
  · rw [if_pos h1]
  · rw [if_neg h1, pf_succ xss k i h, pfR_over _ _ (by omega), Nat.max_zero]
theorem trim_range (f : Nat → Int) (k n : Nat) (hk : k ≤ n) (hz : ∀ i, k ≤ i → i < n → f i = 0) : trim ((List.range n).map f) = trim ((List.range k).map f) := by
  have e1 : trimN ((List.range n).map f) n = trimN ((List.range k).map f) k := by
    rw [trimN_zeros _ k n hk (fun i h1 h2 => by simp [h2, hz i h1 h2])]
    exact trimN_congr _ _ _ fun i hi => by simp [hi, show i < n by omega]
  unfold trim
  simp only [List.length_map, List.length_range]
  rw [e1]
  have hle := trimN_le ((List.range k).map f) k
  rw [← List.map_take, ← List.map_take, List.take_range, List.take_range]
  rw [Nat.min_eq_left (by omega), Nat.min_eq_left hle]
def pfOf (xss : List (List Int)) : List Int := if arT xss then trim (pfL xss 10) else []
def pfC (xss : List (List Int)) : Int := if arT xss then 0 else 1
theorem pfOf_length (xss : List (List Int)) : (pfOf xss).length ≤ 10 := by
  unfold pfOf; split
  · rw [trim_length]; have := trimN_le (pfL xss 10) (pfL xss 10).length; simpa [pfL] using this
  · simp
theorem pow1 (n : Nat) : (1 : Int) ≤ 2 ^ n := by
  induction n with
  | zero => simp
  | succ n ih => rw [Int.pow_succ]; omega
theorem arT_num {xss : List (List Int)} (h : arT xss = true) (r : List Int) (hr : r ∈ xss) (i : Nat) (hi : i < r.length) : 0 ≤ r.getD i 0 ∧ r.getD i 0 ≤ 40 := by
  have hx := arT_row h r hr
  rw [getD_at' r i hi]
  have h0 := (exp_num hx.1 r[i] (List.getElem_mem hi)).1
  refine ⟨h0, ?_⟩
  have hd := deg_take_succ r i hi
  have h1 := (deg_take_bound hx.1 i (by omega)).1
  -- the rest of the degree is at least 0
  have h2 : ∀ j, i + 1 ≤ j → j ≤ r.length → deg (r.take (i + 1)) ≤ deg (r.take j) := by
    intro j h3 h4
    induction j with
    | zero => omega
    | succ j ih =>
      by_cases e : i + 1 = j + 1
      · rw [e]; exact Int.le_refl _
      · have h5 := ih (by omega) (by omega)
        rw [deg_take_succ r j (by omega)]
        have h6 := (exp_num hx.1 r[j] (List.getElem_mem (by omega))).1
        have h7 : (1 : Int) ≤ 2 ^ (j + 1) := pow1 _
        have h8 : 0 ≤ r[j] * (2 ^ (j + 1) - 1) := Int.mul_nonneg h6 (by omega)
        omega
  have h3 := h2 r.length (by omega) (Nat.le_refl _)
  rw [List.take_length, hd] at h3
  have h4 : (1 : Int) ≤ 2 ^ (i + 1) - 1 := by
    have : (2 : Int) ≤ 2 ^ (i + 1) := by
      rw [Int.pow_succ]
      have : (1 : Int) ≤ 2 ^ i := pow1 _
      omega
    omega
  have h5 : r[i] * 1 ≤ r[i] * (2 ^ (i + 1) - 1) := Int.mul_le_mul_of_nonneg_left h4 h0
  omega
end Go.Proofs.YtalbbjhonkcbgaaGreatDoor

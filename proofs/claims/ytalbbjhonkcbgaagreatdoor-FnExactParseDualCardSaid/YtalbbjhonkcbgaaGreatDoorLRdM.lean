/- ParseMilnor: what the program and the reference read. Plain Lean; no program. -/
import Derived.Test.YtalbbjhonkcbgaaGreatDoorLRdP
import Derived.Test.YtalbbjhonkcbgaaGreatDoorLMil
namespace Go.Proofs.YtalbbjhonkcbgaaGreatDoor

/-- In parentheses. -/
def parB (s : List UInt8) : Bool := decide (2 ≤ s.length) && (s.getD 0 0 == 40) && (s.getD (s.length - 1) 0 == 41)
/-- What stands between them. -/
def inn (s : List UInt8) : List UInt8 := (s.drop 1).take (s.length - 2)
def expOk (s : List UInt8) : Bool := parB s && (decide (s.length = 2) || (spl 44 (inn s)).all readB)
def expV (s : List UInt8) : List Int := if s.length = 2 then [] else (spl 44 (inn s)).map fun w => (valN w : Int)
def refV (s : List UInt8) : List Int := if 2 < s.length then (spl 44 (inn s)).map valW else []
def pmOk (t : List UInt8) : Bool := (t == [48]) || (decide ((spl 43 t).length ≤ 2000) && (spl 43 t).all expOk)
def pmV (t : List UInt8) : List (List Int) := if t = [48] then [] else (spl 43 t).map expV
def rfOk (t : List UInt8) : Bool := (t == [48]) || (spl 43 t).all parB
def rfV (t : List UInt8) : List (List Int) := if t = [48] then [] else (spl 43 t).map refV
theorem parB_len {s : List UInt8} (h : parB s = true) : 2 ≤ s.length := by
  simp only [parB, Bool.and_eq_true, decide_eq_true_eq] at h; exact h.1.1
theorem ref_exp {s : List UInt8} (hp : parB s = true) (h : ∀ x ∈ refV s, 0 ≤ x) : expOk s = true ∧ refV s = expV s := by
  have h2 := parB_len hp
  unfold expOk expV
  unfold refV at h ⊢
  by_cases e : s.length = 2
  · rw [if_neg (by omega), if_pos e]
    simp [hp, e]
  · rw [if_pos (by omega)] at h ⊢
    rw [if_neg e]
    refine ⟨?_, List.map_congr_left fun w hw => (valW_in (h _ (List.mem_map_of_mem hw))).2⟩
    simp only [hp, Bool.true_and, Bool.or_eq_true, List.all_eq_true]
    exact .inr fun w hw => (valW_in (h _ (List.mem_map_of_mem hw))).1
theorem exp_ref {s : List UInt8} (h : expOk s = true) (hb : ∀ x ∈ expV s, x ≤ 999999999) : parB s = true ∧ refV s = expV s := by
  simp only [expOk, Bool.and_eq_true, Bool.or_eq_true, decide_eq_true_eq, List.all_eq_true] at h
  have h2 := parB_len h.1
  refine ⟨h.1, ?_⟩
  unfold expV at hb ⊢
  unfold refV
  by_cases e : s.length = 2
  · rw [if_neg (by omega), if_pos e]
  · rw [if_neg e] at hb
    rw [if_pos (by omega), if_neg e]
    have h3 := h.2.resolve_left e
    exact List.map_congr_left fun w hw => valW_of (h3 w hw) (by have := hb _ (List.mem_map_of_mem (f := fun w => (valN w : Int)) hw); omega)
theorem degA_top : ∀ (r : List Int) (i : Nat), (∀ x ∈ r, 0 ≤ x) → 0 ≤ degA i r ∧ ∀ x ∈ r, x ≤ degA i r
  | [], i, _ => ⟨by simp [degA], fun x hx => by cases hx⟩
  | n :: r, i, h => by
    have h1 := h n (List.mem_cons_self ..)
    obtain ⟨h2, h3⟩ := degA_top r (i + 1) fun x hx => h x (List.mem_cons_of_mem _ hx)
    have hp : (1 : Int) ≤ 2 ^ (i + 1) - 1 := by
      have : (2 : Int) ≤ 2 ^ (i + 1) := by
        rw [Int.pow_succ]
        have := Int.pow_pos (n := 2) (m := i) (by decide)
        omega
      omega
    have h4 : n * 1 ≤ n * (2 ^ (i + 1) - 1) := Int.mul_le_mul_of_nonneg_left hp h1
    rw [degA]
    refine ⟨by omega, fun x hx => ?_⟩
    rcases List.mem_cons.1 hx with rfl | hx
    · omega
    · have := h3 x hx; omega
theorem exp_small {r : List Int} (h : isExp r = true) (hd : deg r ≤ 40) : ∀ x ∈ r, 0 ≤ x ∧ x ≤ 999999999 := fun x hx => by
  have h1 := exp_num h x hx
  have h2 := (degA_top r 0 fun y hy => (exp_num h y hy).1).2 x hx
  unfold deg at hd
  exact ⟨h1.1, by omega⟩
/-- They agree. -/
theorem pm_same (t : List UInt8) : (pmOk t && arT (pmV t)) = (rfOk t && arT (rfV t)) ∧ ((rfOk t && arT (rfV t)) = true → pmV t = rfV t) := by
  by_cases e : t = [48]
  · simp [pmOk, pmV, rfOk, rfV, e]
  have hp : pmV t = (spl 43 t).map expV := if_neg e
  have hr : rfV t = (spl 43 t).map refV := if_neg e
  have e0 : (t == [48]) = false := by simpa using e
  have key : (rfOk t && arT (rfV t)) = true → (pmOk t && arT (pmV t)) = true ∧ pmV t = rfV t := by
    intro h
    rw [hr] at h
    simp only [rfOk, e0, Bool.false_or, Bool.and_eq_true, List.all_eq_true] at h
    have hrow := arT_row h.2
    have hl := arT_len h.2
    rw [List.length_map] at hl
    have hk : ∀ s ∈ spl 43 t, expOk s = true ∧ refV s = expV s := fun s hs => ref_exp (h.1 s hs) fun x hx => by
      have := hrow _ (List.mem_map_of_mem hs)
      exact (exp_small this.1 this.2.2 x hx).1
    have hv : pmV t = rfV t := by rw [hp, hr]; exact List.map_congr_left fun s hs => (hk s hs).2.symm
    refine ⟨?_, hv⟩
    rw [hv, hr, h.2]
    simp only [pmOk, e0, Bool.false_or, Bool.and_true, Bool.and_eq_true, decide_eq_true_eq, List.all_eq_true]
    exact ⟨hl, fun s hs => (hk s hs).1⟩
  have key2 : (pmOk t && arT (pmV t)) = true → (rfOk t && arT (rfV t)) = true := by
    intro h
    rw [hp] at h
    simp only [pmOk, e0, Bool.false_or, Bool.and_eq_true, decide_eq_true_eq, List.all_eq_true] at h
    have hrow := arT_row h.2
    have hk : ∀ s ∈ spl 43 t, parB s = true ∧ refV s = expV s := fun s hs => exp_ref (h.1.2 s hs) fun x hx => by
      have := hrow _ (List.mem_map_of_mem hs)
      exact (exp_small this.1 this.2.2 x hx).2
    have hv : rfV t = pmV t := by rw [hp, hr]; exact List.map_congr_left fun s hs => (hk s hs).2
    rw [hv, hp, h.2]
    simp only [rfOk, e0, Bool.false_or, Bool.and_true, List.all_eq_true]
    exact fun s hs => (hk s hs).1
  refine ⟨?_, fun h => (key h).2⟩
  cases h1 : (rfOk t && arT (rfV t))
  · cases h2 : (pmOk t && arT (pmV t))
    · rfl
    · rw [key2 h2] at h1; cases h1
  · exact (key h1).1
end Go.Proofs.YtalbbjhonkcbgaaGreatDoor

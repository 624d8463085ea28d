/- Conjugates of monomials: plain. -/
import Derived.Test.YtmnkccjddahcjaaGreatLCount
namespace Go.Proofs.YtmnkccjddahcjaaGreat
open Go.RowKit Go.Sort

/-- The monomial x(n)^e, and 1 for x(0). -/
def singL (n : Nat) (e : Int) : List Int := if n = 0 then [] else List.replicate (n - 1) 0 ++ [e]
/-- The lists whose sum is the conjugate of x(n), of those before. -/
def conjStep (t : List (List (List Int))) (n : Nat) : Nat → List (List Int)
  | 0 => []
  | i + 1 => conjStep t n i ++ joinsL [singL (n - i) (2 ^ i)] (t.getD i [])
/-- The conjugates of x(0) to x(n). -/
def conjTab : Nat → List (List (List Int))
  | 0 => [[[]]]
  | k + 1 => conjTab k ++ [oddL (conjStep (conjTab k) (k + 1) (k + 1))]
def conjX (n : Nat) : List (List Int) := (conjTab n).getD n []
theorem conjTab_length (n : Nat) : (conjTab n).length = n + 1 := by
  induction n with
  | zero => rfl
  | succ n ih => simp [conjTab, ih]
theorem conjTab_at (n i : Nat) (h : i ≤ n) : (conjTab n).getD i [] = conjX i := by
  induction n with
  | zero => rw [show i = 0 by omega]; rfl
  | succ n ih =>
    by_cases e : i = n + 1
    · subst e; rfl
    · rw [conjTab, List.getD_eq_getElem?_getD, List.getElem?_append_left (by rw [conjTab_length]; omega), ← List.getD_eq_getElem?_getD]
      exact ih (by omega)
theorem conjStep_congr (t t' : List (List (List Int))) (n : Nat) : ∀ k : Nat, (∀ i, i < k → t.getD i [] = t'.getD i []) → conjStep t n k = conjStep t' n k := by
  intro k
  induction k with
  | zero => intro _; rfl
  | succ k ih => intro h; rw [conjStep, conjStep, ih fun i hi => h i (by omega), h k (by omega)]
theorem conjX_succ (n : Nat) : conjX (n + 1) = oddL (conjStep (conjTab n) (n + 1) (n + 1)) := by
  unfold conjX
  rw [conjTab, List.getD_eq_getElem?_getD, List.getElem?_append_right (by rw [conjTab_length]; omega), conjTab_length]
  simp
/-- A list with all numbers c times. -/
def scaleL (c : Int) (r : List Int) : List Int := r.map fun x => x * c
def raiseL (c : Int) (a : List (List Int)) : List (List Int) := a.map (scaleL c)
/-- Times the powers of x whose exponents are the first j binary digits of e. -/
def digL (x : List (List Int)) (e : Nat) (out : List (List Int)) : Nat → List (List Int)
  | 0 => out
  | j + 1 => if e.testBit j then oddL (joinsL (digL x e out j) (raiseL (2 ^ j) x)) else digL x e out j
/-- The conjugate of the first k numbers of a monomial. -/
def dconN (r : List Int) : Nat → List (List Int)
  | 0 => [[]]
  | k + 1 => digL (conjX (k + 1)) (r.getD k 0).toNat (dconN r k) 6
def dconL (r : List Int) : List (List Int) := dconN r r.length
theorem deg_join {r s : List Int} : deg (joinL r s) = deg r + deg s := by
  rw [deg_W' (joinL r s) (max r.length s.length) (by rw [joinL_length]; omega), deg_W' r (max r.length s.length) (by omega), deg_W' s (max r.length s.length) (by omega), ← W_add]
  refine W_congr _ fun k hk => ?_
  simp [joinL, hk]
theorem deg_scale (c : Int) (r : List Int) : deg (scaleL c r) = deg r * c := by
  have : ∀ i, degA i (scaleL c r) = degA i r * c := by
    induction r with
    | nil => intro i; simp [scaleL, degA]
    | cons x r ih =>
      intro i
      have h := ih (i + 1)
      unfold scaleL at h ⊢
      rw [List.map_cons, degA, degA, h, Int.add_mul, Int.mul_assoc, Int.mul_assoc, Int.mul_comm c]
  exact this 0
theorem lastOk_at {r : List Int} (h : lastOk r = true) (h0 : 0 < r.length) : r.getD (r.length - 1) 0 ≠ 0 := by
  unfold lastOk at h
  simp only [Bool.or_eq_true, decide_eq_true_eq] at h
  rcases h with e | e
  · omega
  · simpa using e
theorem lastOk_of {r : List Int} (h : 0 < r.length → r.getD (r.length - 1) 0 ≠ 0) : lastOk r = true := by
  unfold lastOk
  by_cases e : r.length = 0
  · simp [e]
  · have := h (by omega)
    simp only [Bool.or_eq_true]; right; simpa using this
theorem lastOk_join {r s : List Int} (hr : ∀ x ∈ r, 0 ≤ x) (hs : ∀ x ∈ s, 0 ≤ x) (h : lastOk r = true) (k : lastOk s = true) : lastOk (joinL r s) = true := by
  refine lastOk_of fun h0 => ?_
  rw [joinL_length] at h0 ⊢
  have e : (joinL r s).getD (max r.length s.length - 1) 0 = r.getD (max r.length s.length - 1) 0 + s.getD (max r.length s.length - 1) 0 := by
    simp [joinL, show max r.length s.length - 1 < max r.length s.length by omega]
  rw [e]
  have nn : ∀ (l : List Int) (i : Nat), (∀ x ∈ l, 0 ≤ x) → 0 ≤ l.getD i 0 := fun l i hl => by
    by_cases hi : i < l.length
    · rw [show l.getD i 0 = l[i] by simp [hi]]; exact hl _ (List.getElem_mem hi)
    · rw [show l.getD i 0 = 0 by simp [show l.length ≤ i by omega]]; exact Int.le_refl _
  have p1 := nn r (max r.length s.length - 1) hr
  have p2 := nn s (max r.length s.length - 1) hs
  by_cases hl : s.length ≤ r.length
  · have := lastOk_at h (by omega)
    rw [show max r.length s.length = r.length by omega] at p1 p2 ⊢
    omega
  · have := lastOk_at k (by omega)
    rw [show max r.length s.length = s.length by omega] at p1 p2 ⊢
    omega
theorem exp_nn {r : List Int} (h : isExp r = true) : ∀ x ∈ r, 0 ≤ x := fun x hx => (exp_num h x hx).1
theorem exp_join {r s : List Int} {p q : Int} (hr : isExp r = true ∧ deg r = p) (hs : isExp s = true ∧ deg s = q) (h : p + q ≤ 40) (hp : 0 ≤ p) (hq : 0 ≤ q) : isExp (joinL r s) = true ∧ deg (joinL r s) = p + q := by
  have e : deg (joinL r s) = p + q := by rw [deg_join, hr.2, hs.2]
  have l1 := exp_len5 hr.1 (by omega); have l2 := exp_len5 hs.1 (by omega)
  refine ⟨isExp_of (fun x hx => ?_) (by rw [joinL_length]; omega) (by omega) (lastOk_join (exp_nn hr.1) (exp_nn hs.1) (isExp_last hr.1) (isExp_last hs.1)), e⟩
  exact (((isExp_sm hr.1).join (isExp_sm hs.1) (by omega) (by omega)) x hx).1
theorem ExpD.joins {a b : List (List Int)} {p q : Int} (ha : ExpD p a) (hb : ExpD q b) (hp : 0 ≤ p) (hq : 0 ≤ q) (h : p + q ≤ 40) : ExpD (p + q) (joinsL a b) := fun z hz => by
  obtain ⟨r, hr, s, hs, rfl⟩ := mem_joinsL hz
  exact exp_join (ha r hr) (hb s hs) h hp hq
theorem lastOk_scale {r : List Int} {c : Int} (hc : c ≠ 0) (h : lastOk r = true) : lastOk (scaleL c r) = true := by
  refine lastOk_of fun h0 => ?_
  have e : (scaleL c r).length = r.length := by simp [scaleL]
  rw [e] at h0 ⊢
  have := lastOk_at h h0
  rw [show (scaleL c r).getD (r.length - 1) 0 = r.getD (r.length - 1) 0 * c by simp [scaleL, show r.length - 1 < r.length by omega]]
  exact Int.mul_ne_zero this hc
theorem ExpD.raise {a : List (List Int)} {p : Int} (ha : ExpD p a) (hp : 0 ≤ p) (c : Int) (hc : 1 ≤ c) (h : p * c ≤ 40) : ExpD (p * c) (raiseL c a) := fun z hz => by
  simp only [raiseL, List.mem_map] at hz
  obtain ⟨r, hr, rfl⟩ := hz
  have e : deg (scaleL c r) = p * c := by rw [deg_scale, (ha r hr).2]
  have hpc : p * 1 ≤ p * c := Int.mul_le_mul_of_nonneg_left hc hp
  have l1 := exp_len5 (ha r hr).1 (by rw [(ha r hr).2]; omega)
  refine ⟨isExp_of (fun x hx => ?_) (by simp [scaleL]; omega) (by omega) (lastOk_scale (by omega) (isExp_last (ha r hr).1)), e⟩
  simp only [scaleL, List.mem_map] at hx
  obtain ⟨y, hy, rfl⟩ := hx
  exact Int.mul_nonneg (exp_nn (ha r hr).1 y hy) (by omega)
theorem conjX_ok : ∀ n : Nat, n < 7 → ((conjX n).all fun r => (isExp r && decide (deg r = 2 ^ n - 1)) && decide (r.length ≤ 6)) = true ∧ (conjX n).length ≤ 32 := by decide +kernel
theorem conjX_exp {n : Nat} (h : n < 7) : ExpD (2 ^ n - 1) (conjX n) := fun r hr => by
  have := List.all_eq_true.1 (conjX_ok n h).1 r hr
  simpa using (show (isExp r = true ∧ deg r = 2 ^ n - 1) ∧ r.length ≤ 6 by simpa using this).1
theorem conjX_sm {n : Nat} (h : n < 7) : SmS 1000000000000 6 (conjX n) := fun r hr => by
  have := List.all_eq_true.1 (conjX_ok n h).1 r hr
  have := (show (isExp r = true ∧ deg r = 2 ^ n - 1) ∧ r.length ≤ 6 by simpa using this)
  exact ⟨isExp_sm this.1.1, this.2⟩
/-- The number that the first j binary digits make. -/
theorem mod_succ (e j : Nat) : (e % 2 ^ (j + 1) : Nat) = e % 2 ^ j + (if e.testBit j then 2 ^ j else 0) := by
  rw [Nat.testBit_eq_decide_div_mod_eq]
  have h := Nat.mod_mul (a := 2 ^ j) (b := 2) (x := e)
  rw [Nat.pow_succ, h]
  have : e / 2 ^ j % 2 = 0 ∨ e / 2 ^ j % 2 = 1 := by omega
  rcases this with e1 | e1 <;> simp [e1]
/-- What a step along the digits asks. -/
structure DigOk (d p : Int) (e : Nat) (x out : List (List Int)) (j : Nat) : Prop where
  exp : ExpD (d + p * ((e % 2 ^ j : Nat) : Int)) (digL x e out j)
  asc : Asc (digL x e out j)
theorem dig_ok {d p : Int} {e : Nat} {x out : List (List Int)} (ho : ExpD d out) (ao : Asc out) (hx : ExpD p x) (hd : 0 ≤ d) (hp : 0 ≤ p) (h : d + p * (e : Int) ≤ 40) : ∀ j : Nat, DigOk d p e x out j := by
  intro j
  induction j with
  | zero =>
    refine ⟨?_, ao⟩
    rw [show e % 2 ^ 0 = 0 by simp [Nat.mod_one]]
    simpa [digL] using ho
  | succ j ih =>
    have hm := mod_succ e j
    have hle : e % 2 ^ (j + 1) ≤ e := Nat.mod_le _ _
    have hpe : p * ((e % 2 ^ (j + 1) : Nat) : Int) ≤ p * (e : Int) := Int.mul_le_mul_of_nonneg_left (by omega) hp
    cases hb : e.testBit j
    · rw [hb] at hm
      simp only [Bool.false_eq_true, if_false, Nat.add_zero] at hm
      exact ⟨by rw [hm, digL, hb]; exact ih.exp, by rw [digL, hb]; exact ih.asc⟩
    · rw [hb] at hm
      simp only [if_true] at hm
      have e1 : p * ((e % 2 ^ (j + 1) : Nat) : Int) = p * ((e % 2 ^ j : Nat) : Int) + p * 2 ^ j := by
        rw [hm, Int.natCast_add, Int.mul_add, Int.natCast_pow]; rfl
      have h1 : 0 ≤ p * ((e % 2 ^ j : Nat) : Int) := Int.mul_nonneg hp (by omega)
      have h2 : (1 : Int) ≤ 2 ^ j := by
        have := Nat.one_le_two_pow (n := j)
        have h3 : ((2 ^ j : Nat) : Int) = 2 ^ j := by rw [Int.natCast_pow]; rfl
        omega
      have h3 : 0 ≤ p * 2 ^ j := Int.mul_nonneg hp (by omega)
      refine ⟨?_, by rw [digL, hb]; exact asc_oddL _⟩
      rw [digL, hb, e1, ← Int.add_assoc]
      exact (ih.exp.joins (hx.raise hp _ h2 (by omega)) (by omega) h3 (by omega)).odd
theorem dig_bits {e : Nat} {x out : List (List Int)} {j : Nat} (h : e < 2 ^ j) : ∀ k : Nat, digL x e out (j + k) = digL x e out j := by
  intro k
  induction k with
  | zero => rfl
  | succ k ih =>
    rw [← Nat.add_assoc, digL, ih, Nat.testBit_lt_two_pow (Nat.lt_of_lt_of_le h (Nat.pow_le_pow_right (by omega) (by omega)))]; rfl
theorem deg_takeN {r : List Int} (h : isExp r = true) : ∀ k, k ≤ r.length → W (fun i => r.getD i 0) k ≤ deg r := by
  intro k hk
  rw [deg_W]
  have : ∀ n, W (fun i => r.getD i 0) k ≤ W (fun i => r.getD i 0) (k + n) := by
    intro n
    induction n with
    | zero => exact Int.le_refl _
    | succ n ih =>
      rw [← Nat.add_assoc, W]
      have h1 := ((isExp_sm h).at (by omega) (k + n)).1
      have := Int.mul_nonneg h1 (show (0 : Int) ≤ 2 ^ (k + n + 1) - 1 by have := pow_pos' (k + n); omega)
      omega
  have := this (r.length - k)
  rwa [show k + (r.length - k) = r.length by omega] at this
theorem dcon_ok {r : List Int} (h : isExp r = true) (hd : deg r ≤ 40) : ∀ k, k ≤ r.length → ExpD (W (fun i => r.getD i 0) k) (dconN r k) ∧ Asc (dconN r k) := by
  have hl := exp_len5 h hd
  intro k
  induction k with
  | zero =>
    intro _
    refine ⟨fun z hz => ?_, List.pairwise_singleton ..⟩
    rw [dconN, List.mem_singleton] at hz
    subst hz
    exact ⟨by decide, rfl⟩
  | succ k ih =>
    intro hk
    obtain ⟨i1, i2⟩ := ih (by omega)
    have hn := ((isExp_sm h).at (by omega) k).1
    have hw := deg_takeN h (k + 1) hk
    have hw0 := W_nonneg (f := fun i => r.getD i 0) k fun i _ => ((isExp_sm h).at (by omega) i).1
    rw [W] at hw ⊢
    obtain ⟨e, he⟩ : ∃ e : Nat, r.getD k 0 = e := ⟨(r.getD k 0).toNat, by omega⟩
    simp only [he] at hw ⊢
    rw [dconN, he, Int.toNat_natCast]
    have hp := pow_pos' k
    have hc : (e : Int) * (2 ^ (k + 1) - 1) = (2 ^ (k + 1) - 1) * (e : Int) := Int.mul_comm _ _
    rw [hc] at hw ⊢
    have h6 : e < 2 ^ 6 := by
      have := Int.mul_le_mul_of_nonneg_right hp (show (0 : Int) ≤ e by omega)
      omega
    have := dig_ok (e := e) i1 i2 (conjX_exp (n := k + 1) (by omega)) hw0 (by omega) (by omega) 6
    have hx := this.exp
    rw [show e % 2 ^ 6 = e from Nat.mod_eq_of_lt h6] at hx
    exact ⟨hx, this.asc⟩
theorem dconL_ok {r : List Int} (h : isExp r = true) (hd : deg r ≤ 40) : ExpD (deg r) (dconL r) ∧ Asc (dconL r) := by
  have := dcon_ok h hd r.length (Nat.le_refl _)
  rwa [← deg_W] at this
end Go.Proofs.YtmnkccjddahcjaaGreat

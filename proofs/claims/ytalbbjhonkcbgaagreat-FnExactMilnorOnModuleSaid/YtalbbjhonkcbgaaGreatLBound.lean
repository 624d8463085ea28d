/- Degrees of products of exponent lists, and how many there are: plain. -/
import Derived.Test.YtalbbjhonkcbgaaGreatLFill0
import Derived.Test.YtalbbjhonkcbgaaGreatLMulD3
namespace Go.Proofs.YtalbbjhonkcbgaaGreat
open Go.RowKit Go.Sort

/-- The sum of n numbers, the k-th times 2^(k+1)-1. -/
def W (f : Nat → Int) : Nat → Int
  | 0 => 0
  | n + 1 => W f n + f n * (2 ^ (n + 1) - 1)
theorem W_congr {f g : Nat → Int} (n : Nat) (h : ∀ k, k < n → f k = g k) : W f n = W g n := by
  induction n with
  | zero => rfl
  | succ n ih => rw [W, W, ih fun k hk => h k (by omega), h n (by omega)]
theorem W_add (f g : Nat → Int) (n : Nat) : W (fun k => f k + g k) n = W f n + W g n := by
  induction n with
  | zero => rfl
  | succ n ih => simp only [W, ih, Int.add_mul]; omega
theorem W_zero (f : Nat → Int) (a n : Nat) (ha : a ≤ n) (h : ∀ k, a ≤ k → k < n → f k = 0) : W f n = W f a := by
  induction n with
  | zero => rw [show a = 0 by omega]
  | succ n ih =>
    by_cases e : a = n + 1
    · rw [e]
    · rw [W, ih (by omega) fun k h1 h2 => h k h1 (by omega), h n (by omega) (by omega)]; simp
theorem W_one (p n : Nat) (d : Int) (hp : p < n) : W (fun k => if k = p then d else 0) n = d * (2 ^ (p + 1) - 1) := by
  induction n with
  | zero => omega
  | succ n ih =>
    rw [W]
    by_cases e : p = n
    · subst e
      rw [if_pos rfl, W_zero _ 0 p (by omega) (fun k _ hk => if_neg (by omega))]
      simp [W]
    · rw [ih (by omega), if_neg (by omega)]; simp
theorem pow_pos' (n : Nat) : (1 : Int) ≤ 2 ^ (n + 1) - 1 := by
  induction n with
  | zero => decide
  | succ n ih => rw [Int.pow_succ]; omega
theorem W_nonneg {f : Nat → Int} (n : Nat) (h : ∀ k, k < n → 0 ≤ f k) : 0 ≤ W f n := by
  induction n with
  | zero => exact Int.le_refl _
  | succ n ih =>
    have h1 := ih fun k hk => h k (by omega)
    have h2 : 0 ≤ f n * (2 ^ (n + 1) - 1) := Int.mul_nonneg (h n (by omega)) (by have := pow_pos' n; omega)
    rw [W]; omega
theorem W_ge {f : Nat → Int} (n p : Nat) (hp : p < n) (h : ∀ k, k < n → 0 ≤ f k) : f p * (2 ^ (p + 1) - 1) ≤ W f n := by
  induction n with
  | zero => omega
  | succ n ih =>
    rw [W]
    by_cases e : p = n
    · subst e
      have := W_nonneg p fun k hk => h k (by omega)
      omega
    · have h1 := ih (by omega) fun k hk => h k (by omega)
      have h2 : 0 ≤ f n * (2 ^ (n + 1) - 1) := Int.mul_nonneg (h n (by omega)) (by have := pow_pos' n; omega)
      omega
theorem deg_W (l : List Int) : deg l = W (fun k => l.getD k 0) l.length := by
  have : ∀ n, n ≤ l.length → deg (l.take n) = W (fun k => l.getD k 0) n := by
    intro n
    induction n with
    | zero => intro _; simp [W, deg, degA]
    | succ n ih =>
      intro hn
      rw [deg_take_succ l n (by omega), ih (by omega), W]; simp [show n < l.length by omega]
  have h := this l.length (Nat.le_refl _)
  rwa [List.take_length] at h
theorem deg_W' (l : List Int) (n : Nat) (hn : l.length ≤ n) : deg l = W (fun k => l.getD k 0) n := by
  rw [deg_W, W_zero _ l.length n hn fun k h1 _ => by simp [h1]]
theorem trimN_tail (l : List Int) : ∀ n i, trimN l n ≤ i → i < n → l.getD i 0 = 0 := by
  intro n
  induction n with
  | zero => intro i _ h; omega
  | succ n ih =>
    intro i h1 h2
    rw [trimN] at h1
    split at h1
    · rename_i e
      by_cases e2 : i = n
      · rw [e2]; exact e
      · exact ih i h1 (by omega)
    · omega
theorem trimN_last (l : List Int) : ∀ n p, trimN l n = p + 1 → l.getD p 0 ≠ 0 := by
  intro n
  induction n with
  | zero => intro p h; simp [trimN] at h
  | succ n ih =>
    intro p h
    rw [trimN] at h
    split at h
    · exact ih p h
    · rename_i e; have : n = p := by omega
      rw [← this]; exact e
theorem trim_getD (l : List Int) (k : Nat) (hk : k < l.length) : (trim l).getD k 0 = l.getD k 0 := by
  unfold trim
  by_cases h : k < trimN l l.length
  · simp [h]
  · rw [trimN_tail l l.length k (by omega) hk, List.getD_eq_getElem?_getD, List.getElem?_take, if_neg h]; rfl
theorem deg_trim (l : List Int) : deg (trim l) = W (fun k => l.getD k 0) l.length := by
  rw [deg_W' _ l.length (by rw [trim_length]; exact trimN_le _ _)]
  exact W_congr _ fun k hk => trim_getD l k hk
theorem lastOk_trim (l : List Int) : lastOk (trim l) = true := by
  unfold lastOk
  by_cases h : (trim l).length = 0
  · simp [h]
  · obtain ⟨p, hp⟩ : ∃ p, (trim l).length = p + 1 := ⟨(trim l).length - 1, by omega⟩
    have hp2 := hp
    rw [trim_length] at hp2
    have h1 := trimN_last l _ p hp2
    have h2 := trimN_le l l.length
    rw [← trim_getD l p (by omega)] at h1
    rw [hp, show p + 1 - 1 = p by omega]
    simpa using h1
theorem isExp_sm {r : List Int} (h : isExp r = true) : Sm 1000000000000 r := by
  unfold isExp at h
  simp only [Bool.and_eq_true, List.all_eq_true] at h
  intro x hx
  have := h.1.2 x hx
  unfold numB at this
  simpa using this
theorem exp_at {r : List Int} (h : isExp r = true) (i : Nat) (hi : i < r.length) : r.getD i 0 * (2 ^ (i + 1) - 1) ≤ deg r := by
  rw [deg_W]
  exact W_ge r.length i hi fun k _ => ((isExp_sm h).at (by omega) k).1
theorem exp_len5 {r : List Int} (h : isExp r = true) (hd : deg r ≤ 40) : r.length ≤ 5 := by
  have h0 := h
  unfold isExp lastOk at h0
  simp only [Bool.and_eq_true, Bool.or_eq_true, decide_eq_true_eq] at h0
  obtain ⟨⟨hl, -⟩, hl2⟩ := h0
  rcases hl2 with e | e
  · omega
  · rcases Nat.lt_or_ge 5 r.length with e2 | e2
    · exfalso
      have h1 := exp_at h (r.length - 1) (by omega)
      have h2 := ((isExp_sm h).at (by omega) (r.length - 1)).1
      have h3 : r.getD (r.length - 1) 0 ≠ 0 := by simpa using e
      have h4 : ∀ n, n < 11 → 5 < n → (63 : Int) ≤ 2 ^ (n - 1 + 1) - 1 := by decide
      have h5 := h4 r.length (by omega) e2
      have h6 : (1 : Int) * (2 ^ (r.length - 1 + 1) - 1) ≤ r.getD (r.length - 1) 0 * (2 ^ (r.length - 1 + 1) - 1) := Int.mul_le_mul_of_nonneg_right (by omega) (by omega)
      omega
    · exact e2
theorem isExp_of {z : List Int} (hn : ∀ x ∈ z, 0 ≤ x) (hl : z.length ≤ 10) (hd : deg z ≤ 40) (h : lastOk z = true) : isExp z = true := by
  unfold isExp
  simp only [Bool.and_eq_true, decide_eq_true_eq, List.all_eq_true]
  refine ⟨⟨hl, fun x hx => ?_⟩, h⟩
  obtain ⟨i, hi, rfl⟩ := List.getElem_of_mem hx
  have h0 := hn _ hx
  have h1 := W_ge (f := fun k => z.getD k 0) z.length i hi fun k hk => by
    show 0 ≤ z.getD k 0
    rw [show z.getD k 0 = z[k] by simp [hk]]; exact hn _ (List.getElem_mem hk)
  rw [← deg_W] at h1
  simp only [show z.getD i 0 = z[i] by simp [hi]] at h1
  have h2 := pow_pos' i
  have h3 : z[i] * 1 ≤ z[i] * (2 ^ (i + 1) - 1) := Int.mul_le_mul_of_nonneg_left h2 h0
  unfold numB
  simp only [Bool.and_eq_true, decide_eq_true_eq]
  omega
theorem sum_one (f : Nat → Int) (p : Nat) (d : Int) (n : Nat) : ((List.range n).map fun i => f i + if i = p then d else 0).sum = ((List.range n).map f).sum + if p < n then d else 0 := by
  induction n with
  | zero => simp
  | succ n ih =>
    rw [range_map_succ, range_map_succ, List.sum_append, List.sum_append, ih]
    simp only [List.sum_cons, List.sum_nil]
    by_cases e : p = n
    · subst e; simp; omega
    · rw [if_neg (show ¬ n = p by omega)]
      by_cases e2 : p < n
      · rw [if_pos e2, if_pos (by omega)]; omega
      · rw [if_neg e2, if_neg (by omega)]; omega
theorem tab_set {R S : List Int} {C : List (List Int)} {m n I J : Nat} (hR : R.length = m) (hS : S.length = n) (hC : C.length = m) (hrow : ∀ x ∈ C, x.length = n) (hI : I < m) (hJ : J < n) (a b x : Int) (k i : Nat) (hi : i < k + 2) :
    tabAt (R.set I a) (S.set J b) (setC C I J x) i (k + 1 - i) = tabAt R S C i (k + 1 - i) + (if i = I + 1 then (if k = I then a - R.getD I 0 else 0) + (if k = I + J + 1 then x - (C.getD I []).getD J 0 else 0) else 0) + if i = 0 then (if k = J then b - S.getD J 0 else 0) else 0 := by
  by_cases h0 : i = 0
  · subst h0
    rw [if_neg (by omega), if_pos rfl]
    simp only [tabAt, if_pos, Nat.sub_zero, show ¬ k + 1 = 0 by omega, if_false, Nat.add_sub_cancel]
    by_cases e : k = J
    · subst e; rw [getD_set_self _ _ _ (by omega), if_pos rfl]; simp; omega
    · rw [if_neg e]; simp [List.getElem?_set_ne (show J ≠ k by omega)]
  · obtain ⟨q, rfl⟩ : ∃ q, i = q + 1 := ⟨i - 1, by omega⟩
    rw [if_neg h0]
    by_cases e : q = I
    · subst e
      rw [if_pos rfl]
      have hcl := hrow _ (List.getElem_mem (show q < C.length by omega))
      by_cases e2 : k = q
      · subst e2
        rw [if_pos rfl, if_neg (by omega)]
        simp only [tabAt, Nat.sub_self, if_true, show ¬ k + 1 = 0 by omega, if_false, Nat.add_sub_cancel]
        rw [getD_set_self _ _ _ (by omega)]; omega
      · rw [if_neg e2]
        obtain ⟨t, ht⟩ : ∃ t, k + 1 - (q + 1) = t + 1 := ⟨k - q - 1, by omega⟩
        rw [ht]
        simp only [tabAt, show ¬ q + 1 = 0 by omega, show ¬ t + 1 = 0 by omega, if_false, Nat.add_sub_cancel]
        unfold setC
        rw [show (C.set q ((C.getD q []).set J x)).getD q [] = (C.getD q []).set J x by simp [show q < C.length by omega]]
        by_cases e3 : t = J
        · subst e3
          rw [if_pos (show k = q + t + 1 by omega), getD_set_self _ _ _ (by simp [show q < C.length by omega, hcl]; omega)]; omega
        · rw [if_neg (show ¬ k = q + J + 1 by omega)]
          rw [show ((C.getD q []).set J x).getD t 0 = (C.getD q []).getD t 0 by simp [List.getElem?_set_ne (show J ≠ t by omega)]]; simp
    · rw [if_neg (show ¬ q + 1 = I + 1 by omega)]
      have e1 : (R.set I a).getD q 0 = R.getD q 0 := by simp [List.getElem?_set_ne (show I ≠ q by omega)]
      have e2 : (setC C I J x).getD q [] = C.getD q [] := by unfold setC; simp [List.getElem?_set_ne (show I ≠ q by omega)]
      simp only [tabAt, show ¬ q + 1 = 0 by omega, if_false, Nat.add_sub_cancel, e1, e2]; omega
/-- The weight of a table. -/
def Wt (m n : Nat) (R S : List Int) (C : List (List Int)) : Int := W (fun k => (diagL R S C (k + 1)).sum) (m + n)
theorem Wt_set {R S : List Int} {C : List (List Int)} {m n I J : Nat} (hR : R.length = m) (hS : S.length = n) (hC : C.length = m) (hrow : ∀ x ∈ C, x.length = n) (hI : I < m) (hJ : J < n) (a b x : Int) :
    Wt m n (R.set I a) (S.set J b) (setC C I J x) = Wt m n R S C + (a - R.getD I 0) * (2 ^ (I + 1) - 1) + (b - S.getD J 0) * (2 ^ (J + 1) - 1) + (x - (C.getD I []).getD J 0) * (2 ^ (I + J + 1 + 1) - 1) := by
  unfold Wt
  rw [W_congr (g := fun k => (((diagL R S C (k + 1)).sum + if k = I then a - R.getD I 0 else 0) + if k = J then b - S.getD J 0 else 0) + if k = I + J + 1 then x - (C.getD I []).getD J 0 else 0) _ fun k _ => ?_]
  · rw [W_add, W_add, W_add, W_one _ _ _ (by omega), W_one _ _ _ (by omega), W_one _ _ _ (by omega)]
  · unfold diagL
    rw [show (List.range (k + 1 + 1)).map (fun i => tabAt (R.set I a) (S.set J b) (setC C I J x) i (k + 1 - i)) = (List.range (k + 1 + 1)).map fun i => (tabAt R S C i (k + 1 - i) + if i = I + 1 then (if k = I then a - R.getD I 0 else 0) + (if k = I + J + 1 then x - (C.getD I []).getD J 0 else 0) else 0) + if i = 0 then (if k = J then b - S.getD J 0 else 0) else 0 from
      List.map_congr_left fun i hi => tab_set hR hS hC hrow hI hJ a b x k i (List.mem_range.1 hi)]
    rw [sum_one, sum_one, if_pos (show 0 < k + 1 + 1 by omega)]
    by_cases h1 : k = I
    · rw [if_pos (show I + 1 < k + 1 + 1 by omega), if_neg (show ¬ k = I + J + 1 by omega)]; omega
    · rw [if_neg h1]
      by_cases h2 : k = I + J + 1
      · rw [if_pos (show I + 1 < k + 1 + 1 by omega)]; omega
      · rw [if_neg h2]; split <;> omega
theorem Wt_start (m n : Nat) (R S : List Int) (hR : R.length = m) (hS : S.length = n) : Wt m n R S (List.replicate m (List.replicate n 0)) = deg R + deg S := by
  unfold Wt
  rw [deg_W' R (m + n) (by omega), deg_W' S (m + n) (by omega), ← W_add]
  refine W_congr _ fun k _ => ?_
  unfold diagL
  rw [show (List.range (k + 1 + 1)).map (fun i => tabAt R S (List.replicate m (List.replicate n 0)) i (k + 1 - i)) = (List.range (k + 1 + 1)).map fun i => ((0 : Int) + if i = k + 1 then R.getD k 0 else 0) + if i = 0 then S.getD k 0 else 0 from
    List.map_congr_left fun i hi => ?_]
  · rw [sum_one (fun i => (0 : Int) + if i = k + 1 then R.getD k 0 else 0), sum_one (fun _ => (0 : Int)), if_pos (by omega), if_pos (by omega)]
    have : ∀ n, ((List.range n).map fun _ => (0 : Int)).sum = 0 := fun n => by
      induction n with
      | zero => rfl
      | succ n ih => rw [range_map_succ, List.sum_append, ih]; rfl
    rw [this]; omega
  · have hi' := List.mem_range.1 hi
    by_cases h0 : i = 0
    · subst h0; simp [tabAt]
    · by_cases h1 : i = k + 1
      · subst h1; simp [tabAt]
      · obtain ⟨q, rfl⟩ : ∃ q, i = q + 1 := ⟨i - 1, by omega⟩
        obtain ⟨t, ht⟩ : ∃ t, k + 1 - (q + 1) = t + 1 := ⟨k - q - 1, by omega⟩
        rw [if_neg h0, if_neg h1, ht]
        simp only [tabAt, show ¬ q + 1 = 0 by omega, show ¬ t + 1 = 0 by omega, if_false, Nat.add_sub_cancel]
        by_cases hq : q < m
        · by_cases htn : t < n
          · simp [hq, htn]
          · simp [hq, show n ≤ t by omega]
        · simp [show m ≤ q by omega]
theorem step_zero (u v x : Int) : (-(v * x)) * (u - 1) + (-x) * (v - 1) + x * (u * v - 1) = 0 := by
  have h : (-(v * x)) * (u - 1) = v * x - u * (v * x) := by rw [Int.neg_mul, Int.mul_sub, Int.mul_one, Int.mul_comm (v * x) u]; omega
  have h2 : (-x) * (v - 1) = x - v * x := by rw [Int.neg_mul, Int.mul_sub, Int.mul_one, Int.mul_comm x v]; omega
  have h3 : x * (u * v - 1) = u * (v * x) - x := by rw [Int.mul_sub, Int.mul_one, Int.mul_comm x, Int.mul_assoc]
  omega
theorem pow_two_add (I J : Nat) : (2 : Int) ^ (I + J + 1 + 1) = 2 ^ (I + 1) * 2 ^ (J + 1) := by
  rw [show I + J + 1 + 1 = (I + 1) + (J + 1) by omega, Int.pow_add]
theorem minX_le {R S : List Int} {I J x : Nat} (sR : Sm 1000000000000 R) (sS : Sm 1000000000000 S) (hx : x ≤ minX R S I J) : 0 ≤ 2 ^ (J + 1) * (x : Int) ∧ 2 ^ (J + 1) * (x : Int) ≤ R.getD I 0 ∧ (x : Int) ≤ S.getD J 0 := by
  have hx0 := sR.at (by omega) I
  have hy0 := sS.at (by omega) J
  have hp := pow_pos' J
  unfold minX at hx
  have hd := Int.ediv_nonneg hx0.1 (show 0 ≤ (2 : Int) ^ (J + 1) by omega)
  have h1 : (x : Int) ≤ R.getD I 0 / 2 ^ (J + 1) := by omega
  refine ⟨Int.mul_nonneg (by omega) (by omega), ?_, by omega⟩
  rw [Int.mul_comm]
  exact (Int.le_ediv_iff_mul_le (by omega)).1 h1
theorem fill_all {m n : Nat} : ∀ (k : Nat) (R S : List Int) (C : List (List Int)), R.length = m → S.length = n → C.length = m → (∀ x ∈ C, x.length = n) → ZeroFrom n C (m * n - k) → k ≤ m * n → Sm 1000000000000 R → Sm 1000000000000 S → (∀ x ∈ C, Sm 1000000000000 x) →
    ∀ z ∈ fillT m n k R S C, deg z = Wt m n R S C ∧ z.length ≤ m + n ∧ (∀ x ∈ z, 0 ≤ x) ∧ lastOk z = true := by
  intro k
  induction k with
  | zero =>
    intro R S C hR hS hC hrow hz hk sR sS sC z hz
    rw [fillT, finL] at hz
    split at hz
    · rw [List.mem_singleton] at hz
      subst hz
      have hl : (finT m n R S C).length = m + n := by simp [finT]
      refine ⟨?_, ?_, fun x hx => ?_, lastOk_trim _⟩
      · rw [deg_trim, hl]
        exact W_congr _ fun k hk => by simp [finT, hk]
      · rw [trim_length, ← hl]; exact trimN_le _ _
      · have hx2 := List.mem_of_mem_take hx
        simp only [finT, List.mem_map] at hx2
        obtain ⟨k, -, rfl⟩ := hx2
        exact (Sm.sum (diagL_sm (by omega) sR sS sC (k + 1))).1
    · cases hz
  | succ k ih =>
    intro R S C hR hS hC hrow hz hk sR sS sC z hzm
    obtain ⟨I, J, hP, hI, hJ⟩ : ∃ I J, m * n - (k + 1) = I * n + J ∧ I < m ∧ J < n := by
      have hn : 0 < n := by rcases Nat.eq_zero_or_pos n with e | e; · rw [e] at hk; omega
                            · exact e
      refine ⟨(m * n - (k + 1)) / n, (m * n - (k + 1)) % n, ?_, ?_, Nat.mod_lt _ hn⟩
      · exact (Nat.div_add_mod' _ _).symm
      · rw [Nat.div_lt_iff_lt_mul hn]; omega
    have hpl := place I n J hJ
    rw [fillT, hP, hpl.1, hpl.2] at hzm
    simp only [List.mem_flatMap, List.mem_range] at hzm
    obtain ⟨x, hx, hzx⟩ := hzm
    have hx0 := sR.at (by omega) I
    have hy0 := sS.at (by omega) J
    obtain ⟨hp0, hp1, hp2⟩ := minX_le (I := I) (J := J) sR sS (show x ≤ minX R S I J by omega)
    have h := ih _ _ _ (by rw [List.length_set]; exact hR) (by rw [List.length_set]; exact hS) (by rw [setC_length]; exact hC) (setC_rows hrow I J x) (by
        rw [show m * n - k = I * n + J + 1 by omega]
        exact zero_setC (by omega) (by rw [← hP]; exact hz) x) (by omega) (sR.setI I _ (by omega) (by omega)) (sS.setI J _ (by omega) (by omega)) (setC_sm sC I J x (by omega) (by omega)) z hzx
    refine ⟨?_, h.2⟩
    rw [h.1, Wt_set hR hS hC hrow hI hJ, hz I J hJ (by omega), pow_two_add]
    have := step_zero (2 ^ (I + 1)) (2 ^ (J + 1)) x
    rw [show R.getD I 0 - 2 ^ (J + 1) * (x : Int) - R.getD I 0 = -(2 ^ (J + 1) * (x : Int)) by omega, show S.getD J 0 - (x : Int) - S.getD J 0 = -(x : Int) by omega, Int.sub_zero]
    omega
theorem zero_start (m n p : Nat) : ZeroFrom n (List.replicate m (List.replicate n 0)) p := by
  intro i j _ _
  by_cases hi : i < m
  · by_cases hj : j < n
    · simp [hi, hj]
    · simp [hi, show n ≤ j by omega]
  · simp [show m ≤ i by omega]
theorem basL_all {r s : List Int} (hr : isExp r = true) (hs : isExp s = true) (hd : deg r + deg s ≤ 40) (dr : 0 ≤ deg r) (ds : 0 ≤ deg s) : ∀ z ∈ basL r s, isExp z = true ∧ deg z = deg r + deg s := by
  intro z hz
  have l1 := exp_len5 hr (by omega); have l2 := exp_len5 hs (by omega)
  have h := fill_all (m := r.length) (n := s.length) _ r s _ rfl rfl (by simp) (by intro x hx; rw [List.mem_replicate] at hx; rw [hx.2]; simp) (zero_start _ _ _) (Nat.le_refl _) (isExp_sm hr) (isExp_sm hs) (by
    intro x hx y hy
    rw [List.mem_replicate] at hx
    rw [hx.2, List.mem_replicate] at hy
    omega) z hz
  rw [Wt_start _ _ _ _ rfl rfl] at h
  exact ⟨isExp_of h.2.2.1 (by omega) (by omega) h.2.2.2, h.1⟩
def sumN (f : Nat → Nat) : Nat → Nat
  | 0 => 0
  | n + 1 => sumN f n + f n
theorem sumN_le {f g : Nat → Nat} (n : Nat) (h : ∀ x, x < n → f x ≤ g x) : sumN f n ≤ sumN g n := by
  induction n with
  | zero => exact Nat.le_refl _
  | succ n ih => have h1 := ih fun x hx => h x (by omega); have h2 := h n (by omega); simp only [sumN]; omega
theorem sumN_mono (f : Nat → Nat) (a b : Nat) (h : a ≤ b) : sumN f a ≤ sumN f b := by
  induction b with
  | zero => rw [show a = 0 by omega]; exact Nat.le_refl _
  | succ b ih =>
    by_cases e : a = b + 1
    · rw [e]; exact Nat.le_refl _
    · have := ih (by omega); rw [sumN]; omega
theorem flat_length {α : Type} (f : Nat → List α) (n : Nat) : ((List.range n).flatMap f).length = sumN (fun x => (f x).length) n := by
  induction n with
  | zero => rfl
  | succ n ih => rw [flat_succ, List.length_append, ih, sumN]
/-- How many tables there are of a weight, the last k cells being open. -/
def cntT (m n : Nat) : Nat → Nat → Nat
  | 0, _ => 1
  | k + 1, M => sumN (fun x => cntT m n k (M - (2 ^ ((m * n - (k + 1)) / n + (m * n - (k + 1)) % n + 2) - 1) * x)) (M / (2 ^ ((m * n - (k + 1)) / n + (m * n - (k + 1)) % n + 2) - 1) + 1)
theorem cntT_small : ∀ m, m < 6 → ∀ n, n < 6 → cntT m n (m * n) 40 ≤ 331 := by decide +kernel
theorem W_set (R : List Int) (I m : Nat) (a : Int) (hI : I < m) (hR : I < R.length) : W (fun k => (R.set I a).getD k 0) m = W (fun k => R.getD k 0) m + (a - R.getD I 0) * (2 ^ (I + 1) - 1) := by
  rw [← W_one I m _ hI, ← W_add]
  refine W_congr _ fun k _ => ?_
  by_cases e : k = I
  · subst e; simp only [if_pos]; rw [getD_set_self _ _ _ hR]; omega
  · simp only [if_neg e]; simp [List.getElem?_set_ne (show I ≠ k by omega)]
theorem fill_cnt {m n : Nat} : ∀ (k : Nat) (R S : List Int) (C : List (List Int)) (M : Nat), R.length = m → S.length = n → k ≤ m * n → Sm 1000000000000 R → Sm 1000000000000 S → W (fun k => R.getD k 0) m + W (fun k => S.getD k 0) n ≤ M → (fillT m n k R S C).length ≤ cntT m n k M := by
  intro k
  induction k with
  | zero =>
    intro R S C M _ _ _ _ _ _
    rw [fillT, finL, cntT]; split <;> simp
  | succ k ih =>
    intro R S C M hR hS hk sR sS hM
    obtain ⟨I, J, hP, hI, hJ⟩ : ∃ I J, m * n - (k + 1) = I * n + J ∧ I < m ∧ J < n := by
      have hn : 0 < n := by rcases Nat.eq_zero_or_pos n with e | e; · rw [e] at hk; omega
                            · exact e
      refine ⟨(m * n - (k + 1)) / n, (m * n - (k + 1)) % n, ?_, ?_, Nat.mod_lt _ hn⟩
      · exact (Nat.div_add_mod' _ _).symm
      · rw [Nat.div_lt_iff_lt_mul hn]; omega
    have hpl := place I n J hJ
    rw [fillT, cntT, hP, hpl.1, hpl.2, flat_length]
    obtain ⟨w, hw⟩ : ∃ w : Nat, w = 2 ^ (I + J + 2) - 1 := ⟨_, rfl⟩
    have hwp : 1 ≤ 2 ^ (I + J + 2) := Nat.one_le_two_pow
    have hw2 : 4 ≤ 2 ^ (I + J + 2) := by rw [Nat.pow_add]; have := @Nat.one_le_two_pow (I + J); omega
    have hwi : (w : Int) = 2 ^ (I + 1) * 2 ^ (J + 1) - 1 := by
      rw [← pow_two_add, hw, show I + J + 1 + 1 = I + J + 2 by omega]
      have : ((2 ^ (I + J + 2) : Nat) : Int) = 2 ^ (I + J + 2) := by simp
      omega
    rw [← hw]
    have hx0 := sR.at (by omega) I
    have hy0 := sS.at (by omega) J
    have key : ∀ x : Nat, x ≤ minX R S I J → W (fun k => (R.set I (R.getD I 0 - 2 ^ (J + 1) * (x : Int))).getD k 0) m + W (fun k => (S.set J (S.getD J 0 - x)).getD k 0) n = W (fun k => R.getD k 0) m + W (fun k => S.getD k 0) n - w * x := by
      intro x _
      rw [W_set R I m _ hI (by omega), W_set S J n _ hJ (by omega), hwi]
      have := step_zero (2 ^ (I + 1)) (2 ^ (J + 1)) x
      rw [show R.getD I 0 - 2 ^ (J + 1) * (x : Int) - R.getD I 0 = -(2 ^ (J + 1) * (x : Int)) by omega, show S.getD J 0 - (x : Int) - S.getD J 0 = -(x : Int) by omega, Int.mul_comm (2 ^ (I + 1) * 2 ^ (J + 1) - 1) (x : Int)]
      omega
    have sm : ∀ x : Nat, x ≤ minX R S I J → Sm 1000000000000 (R.set I (R.getD I 0 - 2 ^ (J + 1) * (x : Int))) ∧ Sm 1000000000000 (S.set J (S.getD J 0 - x)) := by
      intro x hx
      obtain ⟨hp0, hp1, hp2⟩ := minX_le (I := I) (J := J) sR sS hx
      exact ⟨sR.setI I _ (by omega) (by omega), sS.setI J _ (by omega) (by omega)⟩
    have bound : ∀ x : Nat, x ≤ minX R S I J → w * x ≤ M := by
      intro x hx
      have h1 := key x hx
      have h2 := sm x hx
      have h3 := W_nonneg (f := fun k => (R.set I (R.getD I 0 - 2 ^ (J + 1) * (x : Int))).getD k 0) m fun k _ => (h2.1.at (by omega) k).1
      have h4 := W_nonneg (f := fun k => (S.set J (S.getD J 0 - x)).getD k 0) n fun k _ => (h2.2.at (by omega) k).1
      have h5 : ((w * x : Nat) : Int) = w * x := by simp
      omega
    have hmin : minX R S I J ≤ M / w := by
      rw [Nat.le_div_iff_mul_le (by omega), Nat.mul_comm]
      exact bound _ (Nat.le_refl _)
    refine Nat.le_trans (sumN_le _ fun x hx => ?_) (sumN_mono _ _ _ (show minX R S I J + 1 ≤ M / w + 1 by omega))
    have h1 := key x (by omega)
    have h2 := sm x (by omega)
    have h3 := bound x (by omega)
    have h5 : ((w * x : Nat) : Int) = w * x := by simp
    exact ih _ _ _ _ (by rw [List.length_set]; exact hR) (by rw [List.length_set]; exact hS) (by omega) h2.1 h2.2 (by omega)
theorem basL_cnt {r s : List Int} (hr : isExp r = true) (hs : isExp s = true) (hd : deg r + deg s ≤ 40) (dr : 0 ≤ deg r) (ds : 0 ≤ deg s) : (basL r s).length ≤ 331 := by
  have l1 := exp_len5 hr (by omega); have l2 := exp_len5 hs (by omega)
  have h := fill_cnt (m := r.length) (n := s.length) (r.length * s.length) r s (List.replicate r.length (List.replicate s.length 0)) 40 rfl rfl (Nat.le_refl _) (isExp_sm hr) (isExp_sm hs) (by rw [← deg_W, ← deg_W]; omega)
  exact Nat.le_trans h (cntT_small _ (by omega) _ (by omega))
/-- Exponent lists of one degree. -/
def ExpD (d : Int) (l : List (List Int)) : Prop := ∀ r ∈ l, isExp r = true ∧ deg r = d
theorem flat_len_le {α β : Type} (f : α → List β) (l : List α) (c : Nat) (h : ∀ x ∈ l, (f x).length ≤ c) : (l.flatMap f).length ≤ l.length * c := by
  induction l with
  | nil => simp
  | cons x l ih =>
    rw [List.flatMap_cons, List.length_append, List.length_cons, Nat.add_mul]
    have := h x (List.mem_cons_self ..)
    have := ih fun y hy => h y (List.mem_cons_of_mem _ hy)
    omega
theorem prodsL_cnt {a b : List (List Int)} {p q : Int} (ha : ExpD p a) (hb : ExpD q b) (hp : 0 ≤ p) (hq : 0 ≤ q) (h : p + q ≤ 40) : (prodsL a b).length ≤ a.length * (b.length * 331) := by
  unfold prodsL
  refine flat_len_le _ _ _ fun r hr => flat_len_le _ _ _ fun s hs => ?_
  have h1 := ha r hr; have h2 := hb s hs
  exact basL_cnt h1.1 h2.1 (by omega) (by omega) (by omega)
theorem prodsL_exp {a b : List (List Int)} {p q : Int} (ha : ExpD p a) (hb : ExpD q b) (hp : 0 ≤ p) (hq : 0 ≤ q) (h : p + q ≤ 40) : ExpD (p + q) (prodsL a b) := by
  intro z hz
  simp only [prodsL, List.mem_flatMap] at hz
  obtain ⟨r, hr, s, hs, hz⟩ := hz
  have h1 := ha r hr; have h2 := hb s hs
  have := basL_all h1.1 h2.1 (by omega) (by omega) (by omega) z hz
  exact ⟨this.1, by omega⟩
theorem arT_expD {a : List (List Int)} (h : arT a = true) : ExpD (degT a) a := fun r hr => ⟨(arT_row h r hr).1, arT_deg h r hr⟩
theorem ExpD.sm {d : Int} {a : List (List Int)} (h : ExpD d a) (hd : d ≤ 40) : SmS 1000000000000 20 a := fun r hr => ⟨isExp_sm (h r hr).1, by have := exp_len5 (h r hr).1 (by have := (h r hr).2; omega); omega⟩
theorem prodsL_nil_right (a : List (List Int)) : prodsL a [] = [] := by
  unfold prodsL
  induction a with
  | nil => rfl
  | cons x a ih => rw [List.flatMap_cons, ih]; rfl
end Go.Proofs.YtalbbjhonkcbgaaGreat

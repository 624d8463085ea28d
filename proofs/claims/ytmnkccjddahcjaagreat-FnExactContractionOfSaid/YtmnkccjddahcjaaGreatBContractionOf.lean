/- Texts that lie in one file here: LCount LDcj LPart LParS LDcI LPrD LPrK LPrL LPrU LPrV LPrP LDcS LDcM. -/
import Derived.Test.YtmnkccjddahcjaaGreatLBound
import Derived.Test.YtmnkccjddahcjaaGreatLCopy
import Derived.Test.YtmnkccjddahcjaaGreatLOdd2
import Derived.Test.YtmnkccjddahcjaaGreatBaseC
import Derived.Test.YtmnkccjddahcjaaGreatLMulD
import Derived.Test.YtmnkccjddahcjaaGreatLPrM
import Derived.Test.YtmnkccjddahcjaaGreatLAdd4
import Derived.Test.YtmnkccjddahcjaaGreatLPrT
import Derived.Test.YtmnkccjddahcjaaGreatLSss
import Derived.Test.YtmnkccjddahcjaaGreatLStep2
namespace Go.Proofs.YtmnkccjddahcjaaGreat
section
open Go.RowKit Go.Sort

theorem nodup_lt : ∀ (N : Nat) (l : List Nat), l.Nodup → (∀ x ∈ l, x < N) → l.length ≤ N := by
  intro N
  induction N with
  | zero =>
    intro l _ h
    cases l with
    | nil => exact Nat.le_refl _
    | cons x l => exact absurd (h x (List.mem_cons_self ..)) (by omega)
  | succ N ih =>
    intro l hn h
    by_cases hm : N ∈ l
    · have h1 := ih (l.erase N) (hn.sublist (List.erase_sublist ..)) fun x hx => by
        have h2 := h x (List.mem_of_mem_erase hx)
        have h3 : x ≠ N := fun e => by
          subst e
          exact (hn.not_mem_erase) hx
        omega
      have h2 := List.length_erase_of_mem hm
      have h3 := List.length_pos_of_mem hm
      omega
    · have h1 := ih l hn fun x hx => by
        have h2 := h x hx
        have h3 : x ≠ N := fun e => hm (e ▸ hx)
        omega
      omega
/-- A number for an exponent list: with its degree it tells the list. -/
def enc (r : List Int) : Nat := (r.getD 1 0).toNat + 14 * ((r.getD 2 0).toNat + 6 * ((r.getD 3 0).toNat + 3 * (r.getD 4 0).toNat))
theorem deg_five {r : List Int} (h : r.length ≤ 5) : deg r = r.getD 0 0 + r.getD 1 0 * 3 + r.getD 2 0 * 7 + r.getD 3 0 * 15 + r.getD 4 0 * 31 := by
  rw [deg_W' r 5 h]
  simp only [W]
  rw [show (2 : Int) ^ (0 + 1) - 1 = 1 from rfl, show (2 : Int) ^ (1 + 1) - 1 = 3 from rfl, show (2 : Int) ^ (2 + 1) - 1 = 7 from rfl, show (2 : Int) ^ (3 + 1) - 1 = 15 from rfl, show (2 : Int) ^ (4 + 1) - 1 = 31 from rfl]
  omega
theorem exp_le {r : List Int} (h : isExp r = true) (hd : deg r ≤ 40) (i : Nat) : 0 ≤ r.getD i 0 ∧ r.getD i 0 * (2 ^ (i + 1) - 1) ≤ 40 := by
  refine ⟨((isExp_sm h).at (by omega) i).1, ?_⟩
  by_cases hi : i < r.length
  · have := exp_at h i hi; omega
  · rw [show r.getD i 0 = 0 by simp [show r.length ≤ i by omega]]; omega
theorem exp_digits {r : List Int} (h : isExp r = true) (hd : deg r ≤ 40) : r.getD 0 0 ≤ 40 ∧ r.getD 1 0 ≤ 13 ∧ r.getD 2 0 ≤ 5 ∧ r.getD 3 0 ≤ 2 ∧ r.getD 4 0 ≤ 1 := by
  have h0 := (exp_le h hd 0).2; have h1 := (exp_le h hd 1).2; have h2 := (exp_le h hd 2).2; have h3 := (exp_le h hd 3).2; have h4 := (exp_le h hd 4).2
  rw [show (2 : Int) ^ (0 + 1) - 1 = 1 from rfl] at h0
  rw [show (2 : Int) ^ (1 + 1) - 1 = 3 from rfl] at h1
  rw [show (2 : Int) ^ (2 + 1) - 1 = 7 from rfl] at h2
  rw [show (2 : Int) ^ (3 + 1) - 1 = 15 from rfl] at h3
  rw [show (2 : Int) ^ (4 + 1) - 1 = 31 from rfl] at h4
  omega
theorem last_ext {r s : List Int} (hr : lastOk r = true) (hs : lastOk s = true) (h : ∀ i, r.getD i 0 = s.getD i 0) : r = s := by
  have key : ∀ {r s : List Int}, lastOk s = true → (∀ i, r.getD i 0 = s.getD i 0) → s.length ≤ r.length := by
    intro r s hs h
    unfold lastOk at hs
    simp only [Bool.or_eq_true, decide_eq_true_eq] at hs
    rcases hs with e | e
    · omega
    · rcases Nat.lt_or_ge r.length s.length with e2 | e2
      · have h1 := h (s.length - 1)
        rw [show r.getD (s.length - 1) 0 = 0 by simp [show r.length ≤ s.length - 1 by omega]] at h1
        rw [← h1] at e; simp at e
      · exact e2
  have hl : r.length = s.length := Nat.le_antisymm (key hr fun i => (h i).symm) (key hs h)
  apply List.ext_getElem hl
  intro i h1 h2
  have := h i
  simpa [h1, h2] using this
theorem isExp_last {r : List Int} (h : isExp r = true) : lastOk r = true := by
  unfold isExp at h
  simp only [Bool.and_eq_true] at h
  exact h.2
theorem digits_eq {a1 a2 a3 a4 b1 b2 b3 b4 : Nat} (h1 : a1 < 14) (h2 : a2 < 6) (h3 : a3 < 3) (k1 : b1 < 14) (k2 : b2 < 6) (k3 : b3 < 3) (h : a1 + 14 * (a2 + 6 * (a3 + 3 * a4)) = b1 + 14 * (b2 + 6 * (b3 + 3 * b4))) : a1 = b1 ∧ a2 = b2 ∧ a3 = b3 ∧ a4 = b4 := by
  obtain ⟨e1, h⟩ : a1 = b1 ∧ a2 + 6 * (a3 + 3 * a4) = b2 + 6 * (b3 + 3 * b4) := by
    generalize a2 + 6 * (a3 + 3 * a4) = x at *
    generalize b2 + 6 * (b3 + 3 * b4) = y at *
    omega
  obtain ⟨e2, h⟩ : a2 = b2 ∧ a3 + 3 * a4 = b3 + 3 * b4 := by
    generalize a3 + 3 * a4 = x at *
    generalize b3 + 3 * b4 = y at *
    omega
  omega
theorem enc_inj {r s : List Int} (hr : isExp r = true) (hs : isExp s = true) (dr : deg r ≤ 40) (ds : deg s ≤ 40) (hd : deg r = deg s) (h : enc r = enc s) : r = s := by
  have a := exp_digits hr dr; have b := exp_digits hs ds
  have l1 := exp_len5 hr dr; have l2 := exp_len5 hs ds
  have p0 := (exp_le hr dr 0).1; have p1 := (exp_le hr dr 1).1; have p2 := (exp_le hr dr 2).1; have p3 := (exp_le hr dr 3).1; have p4 := (exp_le hr dr 4).1
  have q0 := (exp_le hs ds 0).1; have q1 := (exp_le hs ds 1).1; have q2 := (exp_le hs ds 2).1; have q3 := (exp_le hs ds 3).1; have q4 := (exp_le hs ds 4).1
  have e1 := deg_five l1; have e2 := deg_five l2
  unfold enc at h
  obtain ⟨f1, f2, f3, f4⟩ := digits_eq (by omega) (by omega) (by omega) (by omega) (by omega) (by omega) h
  have g1 : r.getD 1 0 = s.getD 1 0 := by omega
  have g2 : r.getD 2 0 = s.getD 2 0 := by omega
  have g3 : r.getD 3 0 = s.getD 3 0 := by omega
  have g4 : r.getD 4 0 = s.getD 4 0 := by omega
  clear h f1 f2 f3 f4
  refine last_ext (isExp_last hr) (isExp_last hs) fun i => ?_
  match i with
  | 0 => omega
  | 1 => exact g1
  | 2 => exact g2
  | 3 => exact g3
  | 4 => exact g4
  | i + 5 => rw [show r.getD (i + 5) 0 = 0 by simp [show r.length ≤ i + 5 by omega], show s.getD (i + 5) 0 = 0 by simp [show s.length ≤ i + 5 by omega]]
theorem enc_lt {r : List Int} (hr : isExp r = true) (dr : deg r ≤ 40) : enc r < 504 := by
  have a := exp_digits hr dr
  unfold enc
  omega
theorem expD_length {d : Int} {l : List (List Int)} (ha : Asc l) (h : ExpD d l) (hd : d ≤ 40) : l.length ≤ 504 := by
  rw [← List.length_map (f := enc)]
  refine nodup_lt _ _ ?_ fun x hx => ?_
  · unfold List.Nodup
    rw [List.pairwise_map]
    refine List.Pairwise.imp_of_mem ?_ ha
    intro a b ha hb hab e
    exact ltL_ne hab (enc_inj (h a ha).1 (h b hb).1 (by have := (h a ha).2; omega) (by have := (h b hb).2; omega) (by rw [(h a ha).2, (h b hb).2]) e)
  · obtain ⟨r, hr, rfl⟩ := List.mem_map.1 hx
    exact enc_lt (h r hr).1 (by have := (h r hr).2; omega)
theorem ExpD.odd {d : Int} {l : List (List Int)} (h : ExpD d l) : ExpD d (oddL l) := fun r hr => h r (mem_oddL_sub hr)
/-- What a product of lists of degrees asks. -/
theorem prods_ok {a b : List (List Int)} {p q : Int} (ha : ExpD p a) (hb : ExpD q b) (hp : 0 ≤ p) (hq : 0 ≤ q) (h : p + q ≤ 40) (aa : Asc a) (bb : Asc b) : SmS 1000000000000 20 a ∧ SmS 1000000000000 20 b ∧ (prodsL a b).length ≤ 100000000 ∧ ∀ x ∈ prodsL a b, x.length ≤ 5 := by
  refine ⟨ha.sm (by omega), hb.sm (by omega), Nat.le_trans (prodsL_cnt ha hb hp hq h) ?_, fun x hx => ?_⟩
  · have l1 := expD_length aa ha (by omega); have l2 := expD_length bb hb (by omega)
    exact Nat.le_trans (Nat.mul_le_mul l1 (Nat.mul_le_mul_right 331 l2)) (by omega)
  · have := prodsL_exp ha hb hp hq h x hx
    exact exp_len5 this.1 (by omega)
/-- The powers of an element. -/
def powL (a : List (List Int)) : Nat → List (List Int)
  | 0 => [[]]
  | k + 1 => oddL (prodsL (powL a k) a)
theorem powL_asc (a : List (List Int)) (k : Nat) : Asc (powL a k) := by
  cases k with
  | zero => exact List.pairwise_singleton ..
  | succ k => exact asc_oddL _
theorem powL_exp {a : List (List Int)} {d : Int} (ha : ExpD d a) (hd : 0 ≤ d) : ∀ k : Nat, (k : Int) * d ≤ 40 → ExpD (k * d) (powL a k) := by
  intro k
  induction k with
  | zero =>
    intro _ r hr
    rw [powL, List.mem_singleton] at hr
    subst hr
    exact ⟨by decide, by simp [deg, degA]⟩
  | succ k ih =>
    intro h
    have e : ((k + 1 : Nat) : Int) * d = k * d + d := by rw [Int.natCast_add, Int.add_mul]; omega
    rw [e] at h ⊢
    have hk : 0 ≤ (k : Int) * d := Int.mul_nonneg (by omega) hd
    exact (prodsL_exp (ih (by omega)) ha hk hd h).odd
end
section
open Go.RowKit Go.Sort

/-- The monomial x(n)^e, and 1 for x(0). -/
def singL (n : Nat) (e : Int) : List Int := if n = 0 then [] else List.replicate (n - 1) 0 ++ [e]
/-- The lists whose sum is the conjugate of x(n), of those before. -/
def conjStep (t : List (List (List Int))) (n : Nat) : Nat → List (List Int)
  | 0 => []
  | i + 1 => conjStep t n i ++ joinsL [singL (n - i) (2 ^ i)] (t.getD i [])
/-- The conjugates of x(0) to x(n). -/
def conjTab : Nat → List (List (List Int))
  | 0 => [[[]]]
  | k + 1 => conjTab k ++ [oddL (conjStep (conjTab k) (k + 1) (k + 1))]
def conjX (n : Nat) : List (List Int) := (conjTab n).getD n []
theorem conjTab_length (n : Nat) : (conjTab n).length = n + 1 := by
  induction n with
  | zero => rfl
  | succ n ih => simp [conjTab, ih]
theorem conjTab_at (n i : Nat) (h : i ≤ n) : (conjTab n).getD i [] = conjX i := by
  induction n with
  | zero => rw [show i = 0 by omega]; rfl
  | succ n ih =>
    by_cases e : i = n + 1
    · subst e; rfl
    · rw [conjTab, List.getD_eq_getElem?_getD, List.getElem?_append_left (by rw [conjTab_length]; omega), ← List.getD_eq_getElem?_getD]
      exact ih (by omega)
theorem conjStep_congr (t t' : List (List (List Int))) (n : Nat) : ∀ k : Nat, (∀ i, i < k → t.getD i [] = t'.getD i []) → conjStep t n k = conjStep t' n k := by
  intro k
  induction k with
  | zero => intro _; rfl
  | succ k ih => intro h; rw [conjStep, conjStep, ih fun i hi => h i (by omega), h k (by omega)]
theorem conjX_succ (n : Nat) : conjX (n + 1) = oddL (conjStep (conjTab n) (n + 1) (n + 1)) := by
  unfold conjX
  rw [conjTab, List.getD_eq_getElem?_getD, List.getElem?_append_right (by rw [conjTab_length]; omega), conjTab_length]
  simp
/-- A list with all numbers c times. -/
def scaleL (c : Int) (r : List Int) : List Int := r.map fun x => x * c
def raiseL (c : Int) (a : List (List Int)) : List (List Int) := a.map (scaleL c)
/-- Times the powers of x whose exponents are the first j binary digits of e. -/
def digL (x : List (List Int)) (e : Nat) (out : List (List Int)) : Nat → List (List Int)
  | 0 => out
  | j + 1 => if e.testBit j then oddL (joinsL (digL x e out j) (raiseL (2 ^ j) x)) else digL x e out j
/-- The conjugate of the first k numbers of a monomial. -/
def dconN (r : List Int) : Nat → List (List Int)
  | 0 => [[]]
  | k + 1 => digL (conjX (k + 1)) (r.getD k 0).toNat (dconN r k) 6
def dconL (r : List Int) : List (List Int) := dconN r r.length
theorem deg_join {r s : List Int} : deg (joinL r s) = deg r + deg s := by
  rw [deg_W' (joinL r s) (max r.length s.length) (by rw [joinL_length]; omega), deg_W' r (max r.length s.length) (by omega), deg_W' s (max r.length s.length) (by omega), ← W_add]
  refine W_congr _ fun k hk => ?_
  simp [joinL, hk]
theorem deg_scale (c : Int) (r : List Int) : deg (scaleL c r) = deg r * c := by
  have : ∀ i, degA i (scaleL c r) = degA i r * c := by
    induction r with
    | nil => intro i; simp [scaleL, degA]
    | cons x r ih =>
      intro i
      have h := ih (i + 1)
      unfold scaleL at h ⊢
      rw [List.map_cons, degA, degA, h, Int.add_mul, Int.mul_assoc, Int.mul_assoc, Int.mul_comm c]
  exact this 0
theorem lastOk_at {r : List Int} (h : lastOk r = true) (h0 : 0 < r.length) : r.getD (r.length - 1) 0 ≠ 0 := by
  unfold lastOk at h
  simp only [Bool.or_eq_true, decide_eq_true_eq] at h
  rcases h with e | e
  · omega
  · simpa using e
theorem lastOk_of {r : List Int} (h : 0 < r.length → r.getD (r.length - 1) 0 ≠ 0) : lastOk r = true := by
  unfold lastOk
  by_cases e : r.length = 0
  · simp [e]
  · have := h (by omega)
    simp only [Bool.or_eq_true]; right; simpa using this
theorem lastOk_join {r s : List Int} (hr : ∀ x ∈ r, 0 ≤ x) (hs : ∀ x ∈ s, 0 ≤ x) (h : lastOk r = true) (k : lastOk s = true) : lastOk (joinL r s) = true := by
  refine lastOk_of fun h0 => ?_
  rw [joinL_length] at h0 ⊢
  have e : (joinL r s).getD (max r.length s.length - 1) 0 = r.getD (max r.length s.length - 1) 0 + s.getD (max r.length s.length - 1) 0 := by
    simp [joinL, show max r.length s.length - 1 < max r.length s.length by omega]
  rw [e]
  have nn : ∀ (l : List Int) (i : Nat), (∀ x ∈ l, 0 ≤ x) → 0 ≤ l.getD i 0 := fun l i hl => by
    by_cases hi : i < l.length
    · rw [show l.getD i 0 = l[i] by simp [hi]]; exact hl _ (List.getElem_mem hi)
    · rw [show l.getD i 0 = 0 by simp [show l.length ≤ i by omega]]; exact Int.le_refl _
  have p1 := nn r (max r.length s.length - 1) hr
  have p2 := nn s (max r.length s.length - 1) hs
  by_cases hl : s.length ≤ r.length
  · have := lastOk_at h (by omega)
    rw [show max r.length s.length = r.length by omega] at p1 p2 ⊢
    omega
  · have := lastOk_at k (by omega)
    rw [show max r.length s.length = s.length by omega] at p1 p2 ⊢
    omega
theorem exp_nn {r : List Int} (h : isExp r = true) : ∀ x ∈ r, 0 ≤ x := fun x hx => (exp_num h x hx).1
theorem exp_join {r s : List Int} {p q : Int} (hr : isExp r = true ∧ deg r = p) (hs : isExp s = true ∧ deg s = q) (h : p + q ≤ 40) (hp : 0 ≤ p) (hq : 0 ≤ q) : isExp (joinL r s) = true ∧ deg (joinL r s) = p + q := by
  have e : deg (joinL r s) = p + q := by rw [deg_join, hr.2, hs.2]
  have l1 := exp_len5 hr.1 (by omega); have l2 := exp_len5 hs.1 (by omega)
  refine ⟨isExp_of (fun x hx => ?_) (by rw [joinL_length]; omega) (by omega) (lastOk_join (exp_nn hr.1) (exp_nn hs.1) (isExp_last hr.1) (isExp_last hs.1)), e⟩
  exact (((isExp_sm hr.1).join (isExp_sm hs.1) (by omega) (by omega)) x hx).1
theorem ExpD.joins {a b : List (List Int)} {p q : Int} (ha : ExpD p a) (hb : ExpD q b) (hp : 0 ≤ p) (hq : 0 ≤ q) (h : p + q ≤ 40) : ExpD (p + q) (joinsL a b) := fun z hz => by
  obtain ⟨r, hr, s, hs, rfl⟩ := mem_joinsL hz
  exact exp_join (ha r hr) (hb s hs) h hp hq
theorem lastOk_scale {r : List Int} {c : Int} (hc : c ≠ 0) (h : lastOk r = true) : lastOk (scaleL c r) = true := by
  refine lastOk_of fun h0 => ?_
  have e : (scaleL c r).length = r.length := by simp [scaleL]
  rw [e] at h0 ⊢
  have := lastOk_at h h0
  rw [show (scaleL c r).getD (r.length - 1) 0 = r.getD (r.length - 1) 0 * c by simp [scaleL, show r.length - 1 < r.length by omega]]
  exact Int.mul_ne_zero this hc
theorem ExpD.raise {a : List (List Int)} {p : Int} (ha : ExpD p a) (hp : 0 ≤ p) (c : Int) (hc : 1 ≤ c) (h : p * c ≤ 40) : ExpD (p * c) (raiseL c a) := fun z hz => by
  simp only [raiseL, List.mem_map] at hz
  obtain ⟨r, hr, rfl⟩ := hz
  have e : deg (scaleL c r) = p * c := by rw [deg_scale, (ha r hr).2]
  have hpc : p * 1 ≤ p * c := Int.mul_le_mul_of_nonneg_left hc hp
  have l1 := exp_len5 (ha r hr).1 (by rw [(ha r hr).2]; omega)
  refine ⟨isExp_of (fun x hx => ?_) (by simp [scaleL]; omega) (by omega) (lastOk_scale (by omega) (isExp_last (ha r hr).1)), e⟩
  simp only [scaleL, List.mem_map] at hx
  obtain ⟨y, hy, rfl⟩ := hx
  exact Int.mul_nonneg (exp_nn (ha r hr).1 y hy) (by omega)
theorem conjX_ok : ∀ n : Nat, n < 7 → ((conjX n).all fun r => (isExp r && decide (deg r = 2 ^ n - 1)) && decide (r.length ≤ 6)) = true ∧ (conjX n).length ≤ 32 := by decide +kernel
theorem conjX_exp {n : Nat} (h : n < 7) : ExpD (2 ^ n - 1) (conjX n) := fun r hr => by
  have := List.all_eq_true.1 (conjX_ok n h).1 r hr
  simpa using (show (isExp r = true ∧ deg r = 2 ^ n - 1) ∧ r.length ≤ 6 by simpa using this).1
theorem conjX_sm {n : Nat} (h : n < 7) : SmS 1000000000000 6 (conjX n) := fun r hr => by
  have := List.all_eq_true.1 (conjX_ok n h).1 r hr
  have := (show (isExp r = true ∧ deg r = 2 ^ n - 1) ∧ r.length ≤ 6 by simpa using this)
  exact ⟨isExp_sm this.1.1, this.2⟩
/-- The number that the first j binary digits make. -/
theorem mod_succ (e j : Nat) : (e % 2 ^ (j + 1) : Nat) = e % 2 ^ j + (if e.testBit j then 2 ^ j else 0) := by
  rw [Nat.testBit_eq_decide_div_mod_eq]
  have h := Nat.mod_mul (a := 2 ^ j) (b := 2) (x := e)
  rw [Nat.pow_succ, h]
  have : e / 2 ^ j % 2 = 0 ∨ e / 2 ^ j % 2 = 1 := by omega
  rcases this with e1 | e1 <;> simp [e1]
/-- What a step along the digits asks. -/
structure DigOk (d p : Int) (e : Nat) (x out : List (List Int)) (j : Nat) : Prop where
  exp : ExpD (d + p * ((e % 2 ^ j : Nat) : Int)) (digL x e out j)
  asc : Asc (digL x e out j)
theorem dig_ok {d p : Int} {e : Nat} {x out : List (List Int)} (ho : ExpD d out) (ao : Asc out) (hx : ExpD p x) (hd : 0 ≤ d) (hp : 0 ≤ p) (h : d + p * (e : Int) ≤ 40) : ∀ j : Nat, DigOk d p e x out j := by
  intro j
  induction j with
  | zero =>
    refine ⟨?_, ao⟩
    rw [show e % 2 ^ 0 = 0 by simp [Nat.mod_one]]
    simpa [digL] using ho
  | succ j ih =>
    have hm := mod_succ e j
    have hle : e % 2 ^ (j + 1) ≤ e := Nat.mod_le _ _
    have hpe : p * ((e % 2 ^ (j + 1) : Nat) : Int) ≤ p * (e : Int) := Int.mul_le_mul_of_nonneg_left (by omega) hp
    cases hb : e.testBit j
    · rw [hb] at hm
      simp only [Bool.false_eq_true, if_false, Nat.add_zero] at hm
      exact ⟨by rw [hm, digL, hb]; exact ih.exp, by rw [digL, hb]; exact ih.asc⟩
    · rw [hb] at hm
      simp only [if_true] at hm
      have e1 : p * ((e % 2 ^ (j + 1) : Nat) : Int) = p * ((e % 2 ^ j : Nat) : Int) + p * 2 ^ j := by
        rw [hm, Int.natCast_add, Int.mul_add, Int.natCast_pow]; rfl
      have h1 : 0 ≤ p * ((e % 2 ^ j : Nat) : Int) := Int.mul_nonneg hp (by omega)
      have h2 : (1 : Int) ≤ 2 ^ j := by
        have := Nat.one_le_two_pow (n := j)
        have h3 : ((2 ^ j : Nat) : Int) = 2 ^ j := by rw [Int.natCast_pow]; rfl
        omega
      have h3 : 0 ≤ p * 2 ^ j := Int.mul_nonneg hp (by omega)
      refine ⟨?_, by rw [digL, hb]; exact asc_oddL _⟩
      rw [digL, hb, e1, ← Int.add_assoc]
      exact (ih.exp.joins (hx.raise hp _ h2 (by omega)) (by omega) h3 (by omega)).odd
theorem dig_bits {e : Nat} {x out : List (List Int)} {j : Nat} (h : e < 2 ^ j) : ∀ k : Nat, digL x e out (j + k) = digL x e out j := by
  intro k
  induction k with
  | zero => rfl
  | succ k ih =>
    rw [← Nat.add_assoc, digL, ih, Nat.testBit_lt_two_pow (Nat.lt_of_lt_of_le h (Nat.pow_le_pow_right (by omega) (by omega)))]; rfl
theorem deg_takeN {r : List Int} (h : isExp r = true) : ∀ k, k ≤ r.length → W (fun i => r.getD i 0) k ≤ deg r := by
  intro k hk
  rw [deg_W]
  have : ∀ n, W (fun i => r.getD i 0) k ≤ W (fun i => r.getD i 0) (k + n) := by
    intro n
    induction n with
    | zero => exact Int.le_refl _
    | succ n ih =>
      rw [← Nat.add_assoc, W]
      have h1 := ((isExp_sm h).at (by omega) (k + n)).1
      have := Int.mul_nonneg h1 (show (0 : Int) ≤ 2 ^ (k + n + 1) - 1 by have := pow_pos' (k + n); omega)
      omega
  have := this (r.length - k)
  rwa [show k + (r.length - k) = r.length by omega] at this
theorem dcon_ok {r : List Int} (h : isExp r = true) (hd : deg r ≤ 40) : ∀ k, k ≤ r.length → ExpD (W (fun i => r.getD i 0) k) (dconN r k) ∧ Asc (dconN r k) := by
  have hl := exp_len5 h hd
  intro k
  induction k with
  | zero =>
    intro _
    refine ⟨fun z hz => ?_, List.pairwise_singleton ..⟩
    rw [dconN, List.mem_singleton] at hz
    subst hz
    exact ⟨by decide, rfl⟩
  | succ k ih =>
    intro hk
    obtain ⟨i1, i2⟩ := ih (by omega)
    have hn := ((isExp_sm h).at (by omega) k).1
    have hw := deg_takeN h (k + 1) hk
    have hw0 := W_nonneg (f := fun i => r.getD i 0) k fun i _ => ((isExp_sm h).at (by omega) i).1
    rw [W] at hw ⊢
    obtain ⟨e, he⟩ : ∃ e : Nat, r.getD k 0 = e := ⟨(r.getD k 0).toNat, by omega⟩
    simp only [he] at hw ⊢
    rw [dconN, he, Int.toNat_natCast]
    have hp := pow_pos' k
    have hc : (e : Int) * (2 ^ (k + 1) - 1) = (2 ^ (k + 1) - 1) * (e : Int) := Int.mul_comm _ _
    rw [hc] at hw ⊢
    have h6 : e < 2 ^ 6 := by
      have := Int.mul_le_mul_of_nonneg_right hp (show (0 : Int) ≤ e by omega)
      omega
    have := dig_ok (e := e) i1 i2 (conjX_exp (n := k + 1) (by omega)) hw0 (by omega) (by omega) 6
    have hx := this.exp
    rw [show e % 2 ^ 6 = e from Nat.mod_eq_of_lt h6] at hx
    exact ⟨hx, this.asc⟩
theorem dconL_ok {r : List Int} (h : isExp r = true) (hd : deg r ≤ 40) : ExpD (deg r) (dconL r) ∧ Asc (dconL r) := by
  have := dcon_ok h hd r.length (Nat.le_refl _)
  rwa [← deg_W] at this
end
section
open Go.RowKit Go.Sort

/-- The weight of the number at place i. -/
def wtI (i : Nat) : Nat := 2 ^ (i + 1) - 1
theorem wtI_pos (i : Nat) : 1 ≤ wtI i := by
  unfold wtI
  have : 2 ^ 1 ≤ 2 ^ (i + 1) := Nat.pow_le_pow_right (by omega) (by omega)
  omega
theorem wtI_succ (i : Nat) : wtI (i + 1) = 2 * wtI i + 1 := by
  unfold wtI
  have : 1 ≤ 2 ^ (i + 1) := Nat.one_le_two_pow
  rw [Nat.pow_succ 2 (i + 1)]; omega
theorem wtI_int (i : Nat) : (wtI i : Int) = 2 ^ (i + 1) - 1 := by
  unfold wtI
  have : 1 ≤ 2 ^ (i + 1) := Nat.one_le_two_pow
  rw [Int.natCast_sub this, Int.natCast_pow]; rfl
/-- The ends, from place i on, of the exponent lists whose rest of the degree is d. -/
def partF : Nat → Nat → Nat → List (List Int)
  | 0, _, _ => []
  | f + 1, d, i => if d = 0 then [[]] else if d < wtI i then [] else (List.range (d / wtI i + 1)).flatMap fun n => (partF f (d - n * wtI i) (i + 1)).map fun x => (n : Int) :: x
def partL (d : Nat) : List (List Int) := partF 8 d 0
theorem asc_consMap {l : List (List Int)} (h : Asc l) (n : Int) : Asc (l.map fun x => n :: x) := by
  unfold Asc at *
  rw [List.pairwise_map]
  refine h.imp fun {a b} hab => ?_
  simp [ltL, hab]
theorem asc_flat {f : Nat → List (List Int)} (hf : ∀ n, Asc (f n)) : ∀ N : Nat, Asc ((List.range N).flatMap fun n => (f n).map fun x => (n : Int) :: x) := by
  intro N
  induction N with
  | zero => exact List.Pairwise.nil
  | succ N ih =>
    rw [List.range_succ, List.flatMap_append]
    unfold Asc
    rw [List.pairwise_append]
    refine ⟨ih, by have := asc_consMap (hf N) N; unfold Asc at this; simpa using this, fun a ha b hb => ?_⟩
    simp only [List.mem_flatMap, List.mem_range, List.mem_map, List.mem_singleton] at ha hb
    obtain ⟨n, hn, x, -, rfl⟩ := ha
    obtain ⟨m, rfl, y, -, rfl⟩ := hb
    have : (n : Int) < (m : Int) := by omega
    simp [ltL, this]
theorem asc_partF : ∀ f d i, Asc (partF f d i) := by
  intro f
  induction f with
  | zero => intro d i; exact List.Pairwise.nil
  | succ f ih =>
    intro d i
    rw [partF]
    split
    · exact List.pairwise_singleton ..
    · split
      · exact List.Pairwise.nil
      · exact asc_flat (fun n => ih _ _) _
theorem asc_partL (d : Nat) : Asc (partL d) := asc_partF _ _ _
/-- What is in it. -/
theorem mem_partF : ∀ (f d i : Nat) (x : List Int), x ∈ partF f d i → (∀ y ∈ x, 0 ≤ y) ∧ degA i x = d ∧ lastOk x = true ∧ x.length ≤ f - 1 ∧ (x = [] ↔ d = 0) := by
  intro f
  induction f with
  | zero => intro d i x h; simp [partF] at h
  | succ f ih =>
    intro d i x h
    rw [partF] at h
    split at h
    · rename_i h0
      rw [List.mem_singleton] at h
      subst h; subst h0
      exact ⟨by simp, by simp [degA], by decide, by simp, by simp⟩
    · rename_i h0
      split at h
      · simp at h
      · rename_i h1
        simp only [List.mem_flatMap, List.mem_range, List.mem_map] at h
        obtain ⟨n, hn, y, hy, rfl⟩ := h
        obtain ⟨e1, e2, e3, e4, e5⟩ := ih _ _ _ hy
        have hw := wtI_pos i
        have hnw : n * wtI i ≤ d := by
          have : n ≤ d / wtI i := by omega
          exact (Nat.le_div_iff_mul_le (by omega)).1 this
        refine ⟨?_, ?_, ?_, ?_, ?_⟩
        · intro z hz
          rcases List.mem_cons.1 hz with rfl | hz
          · omega
          · exact e1 z hz
        · rw [degA, e2, ← wtI_int, ← Int.natCast_mul, ← Int.natCast_add]
          congr 1; omega
        · unfold lastOk at e3 ⊢
          cases y with
          | nil =>
            have : d = n * wtI i := by have := e5.1 rfl; omega
            have hn0 : n ≠ 0 := by rintro rfl; omega
            simp; omega
          | cons z y =>
            simp only [List.length_cons, Bool.or_eq_true, decide_eq_true_eq] at e3 ⊢
            right
            rcases e3 with e | e
            · omega
            · simpa using e
        · have : f ≠ 0 := by rintro rfl; simp [partF] at hy
          simp; omega
        · simp; omega
theorem mem_partL {d : Nat} (hd : d ≤ 40) {x : List Int} (h : x ∈ partL d) : isExp x = true ∧ deg x = d := by
  obtain ⟨h1, h2, h3, h4, -⟩ := mem_partF 8 d 0 x h
  exact ⟨isExp_of h1 (by omega) (by unfold deg; omega) h3, h2⟩
/-- And all of it. -/
theorem partF_all : ∀ (f d i : Nat) (x : List Int), (∀ y ∈ x, 0 ≤ y) → degA i x = (d : Int) → lastOk x = true → x.length < f → x ∈ partF f d i := by
  intro f
  induction f with
  | zero => intro d i x _ _ _ h; omega
  | succ f ih =>
    intro d i x h1 h2 h3 h4
    have hw := wtI_pos i
    rw [partF]
    cases x with
    | nil =>
      rw [degA] at h2
      rw [if_pos (by omega)]; simp
    | cons y x =>
      have hy := h1 y (List.mem_cons_self ..)
      have hx : ∀ z ∈ x, 0 ≤ z := fun z hz => h1 z (List.mem_cons_of_mem _ hz)
      have hdx : ∀ (l : List Int) (j : Nat), (∀ z ∈ l, 0 ≤ z) → 0 ≤ degA j l := by
        intro l
        induction l with
        | nil => intro j _; simp [degA]
        | cons z l ihl =>
          intro j hz
          rw [degA, ← wtI_int]
          have := ihl (j + 1) fun u hu => hz u (List.mem_cons_of_mem _ hu)
          have := Int.mul_nonneg (hz z (List.mem_cons_self ..)) (show (0 : Int) ≤ wtI j by omega)
          omega
      have hr := hdx x (i + 1) hx
      obtain ⟨n, rfl⟩ : ∃ n : Nat, y = n := ⟨y.toNat, by omega⟩
      rw [degA, ← wtI_int, ← Int.natCast_mul] at h2
      have hle : n * wtI i ≤ d := by omega
      have hlx : lastOk x = true := by
        unfold lastOk at h3 ⊢
        cases x with
        | nil => simp
        | cons z x =>
          simp only [List.length_cons, Bool.or_eq_true, decide_eq_true_eq] at h3 ⊢
          right
          rcases h3 with e | e
          · omega
          · simpa using e
      have hpos : wtI i ≤ d := by
        cases x with
        | nil =>
          have hn0 : n ≠ 0 := by
            rintro rfl
            simp [lastOk] at h3
          have : 1 * wtI i ≤ n * wtI i := Nat.mul_le_mul_right _ (by omega)
          omega
        | cons z x =>
          have hlp : ∀ (l : List Int) (j : Nat), (∀ z ∈ l, 0 ≤ z) → lastOk l = true → l ≠ [] → (wtI j : Int) ≤ degA j l := by
            intro l
            induction l with
            | nil => intro j _ _ h; exact absurd rfl h
            | cons z l ihl =>
              intro j hz hl _
              have hz0 := hz z (List.mem_cons_self ..)
              have hzl := hdx l (j + 1) fun u hu => hz u (List.mem_cons_of_mem _ hu)
              rw [degA, ← wtI_int]
              cases l with
              | nil =>
                have : z ≠ 0 := by
                  rintro rfl
                  simp [lastOk] at hl
                have := Int.mul_le_mul_of_nonneg_right (show (1 : Int) ≤ z by omega) (show (0 : Int) ≤ wtI j by omega)
                omega
              | cons u l =>
                have h5 := ihl (j + 1) (fun u hu => hz u (List.mem_cons_of_mem _ hu)) (by
                  unfold lastOk at hl ⊢
                  simp only [List.length_cons, Bool.or_eq_true, decide_eq_true_eq] at hl ⊢
                  right
                  rcases hl with e | e
                  · omega
                  · simpa using e) (by simp)
                have := Int.mul_nonneg hz0 (show (0 : Int) ≤ wtI j by omega)
                have := wtI_succ j
                omega
          have h5 := hlp (z :: x) (i + 1) hx hlx (by simp)
          have := wtI_succ i
          omega
      rw [if_neg (by omega), if_neg (by omega)]
      simp only [List.mem_flatMap, List.mem_range, List.mem_map]
      refine ⟨n, ?_, x, ih _ _ x hx (by omega) hlx (by simp at h4; omega), rfl⟩
      have := (Nat.le_div_iff_mul_le (show 0 < wtI i by omega)).2 hle
      omega
theorem partL_all {d : Nat} (hd : d ≤ 40) {x : List Int} (h : isExp x = true) (he : deg x = d) : x ∈ partL d :=
  partF_all 8 d 0 x (fun y hy => (exp_num h y hy).1) he (by simp only [isExp, Bool.and_eq_true] at h; exact h.2) (by have := exp_len5 h (by omega); omega)
end
section
open Go.RowKit Go.Sort

/-- The lists of the first n numbers at a place, behind their beginning. -/
def partG (f d i : Nat) (xs : List Int) (n : Nat) : List (List Int) := (List.range n).flatMap fun m => (partF f (d - m * wtI i) (i + 1)).map fun x => xs ++ (m : Int) :: x
theorem partG_succ (f d i : Nat) (xs : List Int) (n : Nat) : partG f d i xs (n + 1) = partG f d i xs n ++ (partF f (d - n * wtI i) (i + 1)).map (xs ++ [(n : Int)] ++ ·) := by
  unfold partG
  rw [List.range_succ, List.flatMap_append]
  simp
theorem partG_all (f d i : Nat) (xs : List Int) (hd : 1 ≤ d) (hw : wtI i ≤ d) : (partF (f + 1) d i).map (xs ++ ·) = partG f d i xs (d / wtI i + 1) := by
  rw [partF, if_neg (by omega), if_neg (by omega)]
  unfold partG
  rw [List.map_flatMap]
  simp [List.map_map, Function.comp_def]
theorem partG_len (f d i : Nat) (xs : List Int) (n N : Nat) (h : n ≤ N) : (partG f d i xs n).length ≤ (partG f d i xs N).length := by
  obtain ⟨k, rfl⟩ : ∃ k, N = n + k := ⟨N - n, by omega⟩
  clear h
  induction k with
  | zero => exact Nat.le_refl _
  | succ k ih => rw [← Nat.add_assoc, partG_succ, List.length_append]; omega
theorem wtI_small {i d : Nat} (hi : i < 8) (hd : d ≤ 40) (h : wtI i ≤ d) : i ≤ 4 := by
  have : ∀ i, i < 8 → 4 < i → 63 ≤ wtI i := by decide
  rcases Nat.lt_or_ge 4 i with e | e
  · have := this i hi e; omega
  · exact e
theorem wtI_le {i : Nat} (hi : i < 8) : wtI i ≤ 255 := by
  have : ∀ i, i < 8 → wtI i ≤ 255 := by decide
  exact this i hi
set_option maxRecDepth 100000 in
set_option maxHeartbeats 1000000 in
theorem l01Partitions_c : ∀ (f d : Nat) (xs : List Int) (L : List (List Int)) (s l : Value) (us : List Value) (B : Nat) (w : World), xs.length + f = 8 → 2 ≤ f → 1 ≤ d → d ≤ 40 → IntS w.heap s xs → OwnU w B l us L → B ≤ w.heap.size → L.length + (partF f d xs.length).length < 4398046511104 →
    Calls Tryz.prog 241 #[.int .i64 d, s, l] w fun e w' => ∃ r us', e = .returned r ∧ OwnU w' B r us' (L ++ (partF f d xs.length).map (xs ++ ·)) ∧ Below B w w' ∧ KeepI w w' := by
  intro f
  induction f with
  | zero => intro d xs L s l us B w h1 h2; omega
  | succ f ih =>
    intro d xs L s l us B w hif hf hd hd2 hs hl hB hlen
    obtain ⟨sa, sc, rfl, -⟩ := hs.len
    obtain ⟨la, ln, lc, rfl⟩ := own_shape hl.row
    have hwp := wtI_pos xs.length
    have hw8 := wtI_le (i := xs.length) (by omega)
    have hW : wrap64 (2 ^ (xs.length + 1)) = (wtI xs.length : Int) + 1 := by
      have := wtI_int xs.length
      unfold wrap64; omega
    have hwi : IntKind.i64.wrap ((xs.length : Int) + 1) = xs.length + 1 := IntWalk.i64_in _ (by omega)
    have t0 := (neB (show (d : Int) ≠ 0 by omega)).1
    have t0' := (neB (show (d : Int) ≠ 0 by omega)).2
    by_cases hw : wtI xs.length ≤ d
    · have hi4 := wtI_small (by omega) hd2 hw
      have hG := partG_all f d xs.length xs hd hw
      rw [hG]
      have hGl : L.length + (partG f d xs.length xs (d / wtI xs.length + 1)).length < 4398046511104 := by rw [← hG, List.length_map]; exact hlen
      have HGL := Lib.hid hGl
      have t1 : decide ((d : Int) < (wtI xs.length : Int)) = false := decide_eq_false (by omega)
      have t2 : decide (d < wtI xs.length) = false := decide_eq_false (by omega)
      have HS := Lib.hid hs; have HL := Lib.hid hl
      have IH := Lib.hid ih
      have HSU := Lib.hid (partG_succ f d xs.length xs)
      have HLE := Lib.hid (partG_len f d xs.length xs)
      have HPF : Hid (∀ j, partF f 0 j = [[]]) := fun j => by
        obtain ⟨f', rfl⟩ : ∃ f', f = f' + 1 := ⟨f - 1, by omega⟩
        rw [partF, if_pos rfl]
      obtain ⟨W, hWW⟩ : ∃ W : Nat, wtI xs.length = W := ⟨_, rfl⟩
      have HWW := Lib.hid hWW
      rw [hWW] at hW t1 t2 hwp hw8 hw HGL HSU ⊢
      obtain ⟨q, hq⟩ : ∃ q : Nat, d / W = q := ⟨_, rfl⟩
      have hQ : ∀ n : Nat, n ≤ q ↔ n * W ≤ d := fun n => by rw [← hq]; exact Nat.le_div_iff_mul_le hwp
      have HQ := Lib.hid hQ
      clear hQ
      have hqd : q ≤ 40 := by
        have := (HQ.out q).1 (Nat.le_refl _)
        have := Nat.mul_le_mul_left q hwp
        omega
      rw [hq] at HGL ⊢
      have HIF := Lib.hid hif
      clear hG hGl hlen hs hl ih hq hWW hif
      go_enter Tryz.func241, Tryz.ntmps241
      go_wp2_with fail
      clear t1 t2 t0 t0' hW
      go_loopw [2, 8] (fun l r wr => ∃ (n : Nat) (us : List Value), n ≤ q + 1 ∧ r = .int .i64 n ∧ OwnU wr B l us (L ++ partG f d xs.length xs n) ∧ Below B w wr ∧ KeepI w wr) (fun _ r _ => 41 - (intOf r).toNat)
      case atStart => exact ⟨0, us, by omega, rfl, by simpa [partG] using HL.out, Below.refl _ _, KeepI.refl _⟩
      case round =>
        obtain ⟨n, us2, hn, rfl, hU, hbl, hke⟩ := hrel
        obtain ⟨va, vn, vc, rfl⟩ := own_shape hU.row
        have HU := Lib.hid hU; have HBL := Lib.hid hbl; have HKE := Lib.hid hke
        have hsz := hbl.size
        have HSW := Lib.hid (HS.out.keep hke)
        clear hU hbl hke
        have hnW : (0 : Int) ≤ (n : Int) * (W : Int) := Int.mul_nonneg (by omega) (by omega)
        have hnW2 : (n : Int) * (W : Int) ≤ 41 * 255 := Int.mul_le_mul (by omega) (by omega) (by omega) (by omega)
        by_cases hnq : n ≤ q
        · have hle := (HQ.out n).1 hnq
          have hle2 : (n : Int) * (W : Int) ≤ d := by have : ((n * W : Nat) : Int) ≤ (d : Int) := by omega
                                                      rwa [Int.natCast_mul] at this
          have u1 : decide ((n : Int) * (W : Int) ≤ (d : Int)) = true := decide_eq_true hle2
          have HGN := Lib.hid (HSU.out n)
          have HLN := Lib.hid (HLE.out (n + 1) (q + 1) (by omega))
          have HLN0 := Lib.hid (HLE.out n (q + 1) (by omega))
          have hll : (L ++ partG f d xs.length xs n).length ≤ 4398046511104 := by rw [List.length_append]; have := HLN0.out; have := HGL.out; omega
          have HLL := Lib.hid hll
          clear hll
          by_cases he : n * W = d
          · have he2 : (n : Int) * (W : Int) = d := by have : ((n * W : Nat) : Int) = (d : Int) := by omega
                                                       rwa [Int.natCast_mul] at this
            have u2 := (eqB he2).1
            have hqn : q = n := by
              have := (HQ.out (n + 1)).2
              have h2 : ¬ (n + 1) * W ≤ d := by rw [Nat.add_mul]; omega
              have h3 : ¬ n + 1 ≤ q := fun h => h2 ((HQ.out (n + 1)).1 h)
              omega
            have HF : Hid (L ++ partG f d xs.length xs (q + 1) = (L ++ partG f d xs.length xs n) ++ [xs ++ [(n : Int)]]) := by
              show _ = _
              rw [hqn, HGN.out, he, Nat.sub_self, HPF.out]; simp
            clear he he2 hqn hle hle2 hnq
            go_wp2_with (first | (go_at_call 165; refine (l01Own_c _ _ _ (by exact HSW.out) (by omega)).mono ?_; rintro e w2 ⟨rv, rfl, hR2, hb2⟩; obtain ⟨ra, rn, rc, rfl⟩ := own_shape hR2; have HR2 := Lib.hid hR2; have HB2 := Lib.hid hb2; clear hR2 hb2) | (at_builtin; refine append_int rfl _ _ rfl wr.heap.size _ _ _ HR2.out rfl HB2.out HB2.out.size _ rfl (by simp) (by omega) ?_; intro v' w3 hown' hbl' _ _; obtain ⟨qa, qn, qc, rfl⟩ := own_shape hown'; have HO3 := Lib.hid hown'; have HB3 := Lib.hid hbl'; clear hown' hbl') | (at_builtin; refine append_rowU rfl _ _ rfl B _ _ us2 _ _ HU.out rfl HO3.out HB3.out HBL.out (by omega) _ rfl rfl HLL.out ?_; intro v4 w4 hU4 hb4 hk4 _ _ _; obtain ⟨ta, tn, tc, rfl⟩ := own_shape hU4.row))
            go_ret
            exact ⟨_, _, rfl, by rw [HF.out]; exact hU4, hb4, (HKE.out.trans (KeepI.of_same HB3.out.block)).trans hk4⟩
          · have hne : (n : Int) * (W : Int) ≠ d := fun e => he (by have : ((n * W : Nat) : Int) = (d : Int) := by rw [Int.natCast_mul]; exact e
                                                                    omega)
            have u2 := (neB hne).1
            obtain ⟨D, hD⟩ : ∃ D : Nat, d - n * W = D := ⟨_, rfl⟩
            have hD1 : 1 ≤ D := by omega
            have hDd : D ≤ 40 := by omega
            have hsub : (d : Int) - (n : Int) * (W : Int) = D := by rw [← Int.natCast_mul]; omega
            have hDl : (L ++ partG f d xs.length xs n).length + (partF f D (xs ++ [(n : Int)]).length).length < 4398046511104 := by
              have h1 := HGN.out
              rw [hD] at h1
              have h2 := congrArg List.length h1
              rw [List.length_append, List.length_map] at h2
              have h3 := HLN.out; have h4 := HGL.out
              rw [List.length_append, List.length_append, List.length_singleton]; omega
            have HDL := Lib.hid hDl
            have HF : Hid ((L ++ partG f d xs.length xs n) ++ (partF f D (xs ++ [(n : Int)]).length).map (xs ++ [(n : Int)] ++ ·) = L ++ partG f d xs.length xs (n + 1)) := by
              show _ = _
              rw [HGN.out, hD, List.length_append, List.length_singleton, List.append_assoc]
            have hf2 : 2 ≤ f := by have := HIF.out; omega
            clear he hne hle hle2 hD hDl
            go_wp2_with (first | (go_at_call 165; refine (l01Own_c _ _ _ (by exact HSW.out) (by omega)).mono ?_; rintro e w2 ⟨rv, rfl, hR2, hb2⟩; obtain ⟨ra, rn, rc, rfl⟩ := own_shape hR2; have HR2 := Lib.hid hR2; have HB2 := Lib.hid hb2; clear hR2 hb2) | (at_builtin; refine append_int rfl _ _ rfl wr.heap.size _ _ _ HR2.out rfl HB2.out HB2.out.size _ rfl (by simp) (by omega) ?_; intro v' w3 hown' hbl' _ _; obtain ⟨qa, qn, qc, rfl⟩ := own_shape hown'; have HO3 := Lib.hid hown'; have HB3 := Lib.hid hbl'; clear hown' hbl') | (go_at_call 241; refine (IH.out D (xs ++ [(n : Int)]) (L ++ partG f d xs.length xs n) _ _ us2 B w3 (by rw [List.length_append, List.length_singleton]; have := HIF.out; omega) hf2 hD1 hDd HO3.out.ints (HU.out.same HB3.out.block) (Nat.le_trans hB (Nat.le_trans hsz HB3.out.size)) HDL.out).mono ?_; rintro e w4 ⟨r4, us4, rfl, hU4, hb4, hk4⟩; rw [HF.out] at hU4; obtain ⟨ta, tn, tc, rfl⟩ := own_shape hU4.row))
            go_roundw
            case rel => exact ⟨n + 1, us4, by omega, by go_num, hU4, (HBL.out.trans (HB3.out.mono (Nat.le_trans hB hsz))).trans hb4, (HKE.out.trans (KeepI.of_same HB3.out.block)).trans hk4⟩
            case measure => simp [intOf]; omega
        · have hgt : ¬ n * W ≤ d := fun h => hnq ((HQ.out _).2 h)
          have u1 : decide ((n : Int) * (W : Int) ≤ (d : Int)) = false := decide_eq_false (fun h => hgt (by
            have : ((n * W : Nat) : Int) ≤ (d : Int) := by rw [Int.natCast_mul]; exact h
            omega))
          have HN : Hid (n = q + 1) := by show _ = _; omega
          clear hgt hnq
          go_wp2_with fail
          go_ret
          exact ⟨_, us2, rfl, by rw [← HN.out]; exact HU.out, HBL.out, HKE.out⟩
    · have e1 : partF (f + 1) d xs.length = [] := by rw [partF, if_neg (by omega), if_pos (by omega)]
      rw [e1]
      have t1 : decide ((d : Int) < (wtI xs.length : Int)) = true := decide_eq_true (by omega)
      have t2 : decide (d < wtI xs.length) = true := decide_eq_true (by omega)
      have HL := Lib.hid hl
      clear e1 hlen hs hl ih hw
      go_enter Tryz.func241, Tryz.ntmps241
      go_wp2_with fail
      go_ret
      exact ⟨_, us, rfl, by simpa using HL.out, Below.refl _ _, KeepI.refl _⟩
theorem own_u_none (w : World) (B : Nat) : OwnU w B (.slice none 0 0) [] [] := ⟨World.ownsRow_nil _ _ _ _, fun i u xs hu => by simp at hu, fun i j u u' _ hu => by simp at hu⟩
theorem own_u_lit {w : World} {B : Nat} {u : Value} {xs : List Int} (hu : OwnI w B u xs) (hB : B ≤ w.heap.size) : OwnU (w.alloc (.cells #[u] 56)) B (.slice (some ⟨w.heap.size, 0, none⟩) 1 1) [u] [xs] := by
  refine ⟨World.ownsRow_lit (e := 56) (size := 1) w #[u] 1 hB (by unfold maxLen; omega) rfl, fun i x ys hx hy => ?_, fun i j x x' hij hx hx' => ?_⟩
  · match i, hx, hy with
    | 0, hx, hy =>
      simp at hx hy
      subst hx; subst hy; exact hu.same (alloc_old w _)
  · match j, hx' with
    | 0, _ => omega
    | j + 1, hx' => simp at hx'
set_option maxRecDepth 100000 in
theorem l01All_c (d : Nat) (w : World) (hd : d ≤ 40) :
    Calls Tryz.prog 205 #[.int .i64 d] w fun e w' => ∃ r us, e = .returned r ∧ OwnU w' w.heap.size r us (partL d) ∧ Below w.heap.size w w' := by
  have hE := ownI_empty (w := w) (B := w.heap.size) (Nat.le_refl _)
  have hbl : Below w.heap.size w (w.alloc (.cells #[] 2)) := (Below.refl _ _).alloc (Nat.le_refl _) _
  by_cases h0 : d = 0
  · subst h0
    have C : Calls Tryz.prog 241 #[.int .i64 0, .slice (some ⟨w.heap.size, 0, none⟩) 0 0, .slice none 0 0] (w.alloc (.cells #[] 2)) fun e w' => ∃ r us, e = .returned r ∧ OwnU w' w.heap.size r us (partL 0) ∧ Below w.heap.size w w' := by
      have HE := Lib.hid hE; have HB := Lib.hid hbl
      clear hE hbl
      go_enter Tryz.func241, Tryz.ntmps241
      go_wp2_with (at_builtin; refine append_rowU rfl _ _ rfl w.heap.size _ _ [] [] [] (own_u_none _ _) rfl HE.out HB.out (Below.refl _ _) (Nat.le_refl _) _ rfl (by simp) (Nat.zero_le _) ?_; intro v4 w4 hU4 hb4 hk4 _ _ _; obtain ⟨ta, tn, tc, rfl⟩ := own_shape hU4.row)
      go_ret
      exact ⟨_, _, rfl, hU4, hb4⟩
    have C := Lib.hid C
    clear hE hbl
    go_enter Tryz.func205, Tryz.ntmps205
    go_wp2_with (go_at_call 241; refine C.out.mono ?_; rintro e w1 ⟨r, us, rfl, hU, hb⟩; obtain ⟨ta, tn, tc, rfl⟩ := own_shape hU.row)
    go_ret
    exact ⟨_, _, rfl, hU, hb⟩
  · have hlen : (partL d).length ≤ 504 := expD_length (d := (d : Int)) (asc_partL d) (fun x hx => mem_partL hd hx) (by omega)
    have C := Lib.hid (l01Partitions_c 8 d [] [] (.slice (some ⟨w.heap.size, 0, none⟩) 0 0) (.slice none 0 0) [] w.heap.size (w.alloc (.cells #[] 2)) rfl (by omega) (by omega) hd hE.ints (own_u_none _ _) (by simp) (by show 0 + (partL d).length < _; omega))
    have HB := Lib.hid hbl
    have HE : Hid (([] : List (List Int)) ++ (partF 8 d ([] : List Int).length).map (([] : List Int) ++ ·) = partL d) := by show _ = _; simp [partL]
    rw [HE.out] at C
    clear hE hbl h0 hlen
    go_enter Tryz.func205, Tryz.ntmps205
    go_wp2_with (go_at_call 241; refine C.out.mono ?_; rintro e w1 ⟨r, us, rfl, hU, hb, hk⟩; obtain ⟨ta, tn, tc, rfl⟩ := own_shape hU.row)
    go_ret
    exact ⟨_, _, rfl, hU, HB.out.trans hb⟩
theorem l04Basis_c (d : Nat) (w : World) (hd : d ≤ 40) :
    Calls Tryz.prog 141 #[.int .i64 d] w fun e w' => ∃ r us, e = .returned r ∧ OwnU w' w.heap.size r us (partL d) ∧ Below w.heap.size w w' := by
  go_enter Tryz.func141, Tryz.ntmps141
  go_wp2_with (go_at_call 205; refine (l01All_c d w hd).mono ?_; rintro e w1 ⟨r, us, rfl, hU, hb⟩; obtain ⟨ta, tn, tc, rfl⟩ := own_shape hU.row)
  go_ret
  exact ⟨_, _, rfl, hU, hb⟩
end
section
open Go.RowKit Go.Sort

theorem ref_keep {w w' : World} {B : Nat} {v : Value} {us : List Value} {xss : List (List Int)} (a : RefR w' B w.heap v us xss) (k : KeepI w w') : RefR w' B w'.heap v us xss := ⟨a.row, fun i u xs hu hx => (a.each i u xs hu hx).keep k⟩
theorem singL_length (n : Nat) (e : Int) : (singL n e).length = n := by
  unfold singL
  split
  · rename_i h; rw [h]; rfl
  · simp; omega
theorem singL_sm (n : Nat) (e : Int) {b : Int} (hb : 0 ≤ b) (h0 : 0 ≤ e) (h1 : e ≤ b) : Sm b (singL n e) := by
  unfold singL
  split
  · intro x hx; cases hx
  · intro x hx
    rw [List.mem_append, List.mem_replicate, List.mem_singleton] at hx
    rcases hx with ⟨-, rfl⟩ | rfl
    · exact ⟨Int.le_refl _, hb⟩
    · exact ⟨h0, h1⟩
theorem singL_set (n : Nat) (e : Int) : (List.replicate (n + 1) (0 : Int)).set n e = singL (n + 1) e := by
  unfold singL
  rw [if_neg (by omega), Nat.add_sub_cancel]
  apply List.ext_getElem?; intro i
  rw [List.getElem?_set]
  by_cases h : n = i
  · subst h; simp
  · rw [if_neg h]
    by_cases h2 : i < n
    · rw [List.getElem?_append_left (by simpa using h2)]; simp [h2, show i < n + 1 by omega]
    · rw [List.getElem?_eq_none (by simp; omega), List.getElem?_eq_none (by simp; omega)]
set_option maxRecDepth 100000 in
theorem single_c (n : Nat) (e : Int) (w : World) (hn : n ≤ 1000) :
    Calls Tryz.prog 231 #[.int .i64 n, .int .i64 e] w fun r w' => ∃ v, r = .returned v ∧ OwnI w' w.heap.size v (singL n e) ∧ Below w.heap.size w w' := by
  cases n with
  | zero =>
    go_enter Tryz.func231, Tryz.ntmps231
    go_wp2_with fail
    go_ret
    exact ⟨_, rfl, ownI_empty (Nat.le_refl _), (Below.refl _ _).alloc (Nat.le_refl _) _⟩
  | succ m =>
    have hmk := fun w => make_run (P := Tryz.prog) 56 2 _ 8 info_int64 Tryz.underlying56 rfl (by omega) (m + 1) (by omega) .i64 .i64 ((m : Int) + 1) ((m : Int) + 1) (by omega) (by omega) w
    have hmo := made_own w w.heap.size 2 (m + 1) (.int .i64 0) (Nat.le_refl _) (by omega)
    have hmo2 : (w.alloc (.cells (madeCells #[.int .i64 0] (m + 1)) 2)).ownsRow w.heap.size 2 1 (.slice (some ⟨w.heap.size, 0, none⟩) (m + 1) (m + 1)) (m + 1) ((List.replicate (m + 1) (0 : Int)).map (Value.int .i64)) := by simpa using hmo
    obtain ⟨W5, hW5⟩ : ∃ W5, W5 = w.alloc (.cells (madeCells #[.int .i64 0] (m + 1)) 2) := ⟨_, rfl⟩
    have hb5 : Below w.heap.size w W5 := by rw [hW5]; exact (Below.refl _ _).alloc (Nat.le_refl _) _
    rw [← hW5] at hmo2
    have q0 := own_int_at hmo2 m (by omega)
    rw [show (List.replicate (m + 1) (0 : Int)).getD m 0 = 0 by simp] at q0
    have f0 := hmo2.frozenAt m
    have hst := own_int_set hmo2 m e
    rw [singL_set] at hst
    have HST : Hid (OwnI (W5.setCell ⟨w.heap.size, m, none⟩ (.int .i64 e)) w.heap.size (.slice (some ⟨w.heap.size, 0, none⟩) (m + 1) (m + 1)) (singL (m + 1) e)) := by
      show OwnI _ _ _ _
      unfold OwnI
      rw [singL_length]; exact hst
    have HB5 := Lib.hid (hb5.setCell (p := ⟨w.heap.size, m, none⟩) (Nat.le_refl _) (.int .i64 e))
    have HW5 := Lib.hid hW5
    clear hmo hmo2 hst hb5 hW5
    have hs1 : (m : Int) + 1 - 1 = m := by omega
    have hi0 : (0 : Int) ≤ m := by omega
    have t0 := (neB (show (m : Int) + 1 ≠ 0 by omega)).1
    rw [show ((m + 1 : Nat) : Int) = (m : Int) + 1 by omega]
    go_enter Tryz.func231, Tryz.ntmps231
    go_upto_region 4 with fail
    rw [← HW5.out]
    clear hmk
    go_wp2_with fail
    go_ret
    exact ⟨_, rfl, HST.out, HB5.out⟩
set_option maxRecDepth 100000 in
set_option maxHeartbeats 1000000 in
theorem raised_c (v : Value) (xss : List (List Int)) (c : Int) (w : World) (h : IntSS w.heap v xss) (hs : SmS 1000000000000 20 xss) (hc0 : 0 ≤ c) (hc : c ≤ 1000) (hl : xss.length ≤ 4398046511104) :
    Calls Tryz.prog 240 #[v, .int .i64 c] w fun e w' => ∃ r us, e = .returned r ∧ OwnU w' w.heap.size r us (raiseL c xss) ∧ Below w.heap.size w w' := by
  obtain ⟨ao, cp, rfl, hm⟩ := h.len
  have H := Lib.hid h; have HS := Lib.hid hs; clear h hs
  go_enter Tryz.func240, Tryz.ntmps240
  go_wp2_with fail
  go_loopw [5, 14] (fun o i wr => ∃ (k : Nat) (us : List Value), k ≤ xss.length ∧ i = .int .i64 k ∧ OwnU wr w.heap.size o us (raiseL c (xss.take k)) ∧ Below w.heap.size w wr) (fun _ i _ => xss.length - (intOf i).toNat)
  case atStart => exact ⟨0, [], Nat.zero_le _, rfl, ⟨World.ownsRow_made w #[] 0 (Nat.le_refl _) (Nat.zero_le _) rfl, fun i u xs hu => by simp at hu, fun i j u u' _ hu => by simp at hu⟩, (Below.refl _ _).alloc (Nat.le_refl _) _⟩
  case round =>
    obtain ⟨k, us, hk, rfl, hU, hbl⟩ := hrel
    obtain ⟨va, vn, vc, rfl⟩ := own_shape hU.row
    have HU := Lib.hid hU; have HBL := Lib.hid hbl
    have hsz := hbl.size
    by_cases hlt : k < xss.length
    · obtain ⟨b1, o1, c1, uk, hv1, hc1, huk, -⟩ := H.out.at k hlt
      simp only [Value.slice.injEq, true_and] at hv1
      obtain ⟨rfl, rfl⟩ := hv1
      have hcx := (hbl.cell (World.block_lt_of_cell? _ _ hc1)).trans hc1
      have HX := Lib.hid (huk.same hbl.block)
      have hrx := HS.out _ (List.getElem_mem hlt)
      have HRX := Lib.hid hrx.1
      have hrl := hrx.2
      have HT : Hid (raiseL c (xss.take (k + 1)) = raiseL c (xss.take k) ++ [scaleL c xss[k]]) := by
        show _ = _
        unfold raiseL; rw [List.take_succ_eq_append_getElem hlt, List.map_append]; rfl
      obtain ⟨qa, qc, rfl, -⟩ := huk.len
      have hll : (raiseL c (xss.take k)).length ≤ 4398046511104 := by simp [raiseL]; omega
      have HLL := Lib.hid hll
      have hki : (k : Int) < xss.length := by omega
      clear hU hbl hc1 huk hrx hll
      generalize xss[k] = r at *
      rename World => WR
      go_wp2_with fail
      go_loopw [8, 21] (fun o i wk => ∃ j : Nat, j ≤ r.length ∧ i = .int .i64 j ∧ OwnI wk WR.heap.size o (scaleL c (r.take j)) ∧ Below WR.heap.size WR wk) (fun _ i _ => r.length - (intOf i).toNat)
      case atStart => exact ⟨0, Nat.zero_le _, rfl, ownI_empty (Nat.le_refl _), (Below.refl _ _).alloc (Nat.le_refl _) _⟩
      case round =>
        obtain ⟨j, hj, rfl, hO, hb2⟩ := hrel
        obtain ⟨ya, yn, yc, rfl⟩ := own_shape hO
        have HO := Lib.hid hO; have HB2 := Lib.hid hb2
        have hsz2 := hb2.size
        by_cases hjl : j < r.length
        · obtain ⟨b2, o2, c2, hv2, hc2, -⟩ := HX.out.at j hjl
          simp only [Value.slice.injEq, true_and] at hv2
          obtain ⟨rfl, rfl⟩ := hv2
          have hcy := (hb2.cell (World.block_lt_of_cell? _ _ hc2)).trans hc2
          obtain ⟨hx0, hx1⟩ := HRX.out _ (List.getElem_mem hjl)
          have HT2 : Hid (scaleL c (r.take (j + 1)) = scaleL c (r.take j) ++ [r[j] * c]) := by
            show _ = _
            unfold scaleL; rw [List.take_succ_eq_append_getElem hjl, List.map_append]; rfl
          have hll : (scaleL c (r.take j)).length ≤ 4398046511104 := by simp [scaleL]; omega
          have HLL2 := Lib.hid hll
          have hji : (j : Int) < r.length := by omega
          clear hO hb2 hc2 hll
          generalize r[j] = x at *
          have hm0 : 0 ≤ x * c := Int.mul_nonneg hx0 hc0
          have hm1 : x * c ≤ 1000000000000000 := Int.le_trans (Int.mul_le_mul hx1 hc hc0 (by omega)) (by omega)
          go_wp2_with (at_builtin; refine append_int rfl _ _ rfl WR.heap.size _ _ _ HO.out rfl HB2.out hsz2 _ rfl (by simp) HLL2.out ?_; intro v' w3 hown' hbl' _ _; obtain ⟨qa2, qn2, qc2, rfl⟩ := own_shape hown')
          go_roundw
          case rel => exact ⟨j + 1, by omega, by go_num, by rw [HT2.out]; exact hown', hbl'⟩
          case measure => simp [intOf]; omega
        · obtain rfl : j = r.length := by omega
          rw [List.take_length] at HO
          clear hO hb2
          go_wp2_with (at_builtin; refine append_rowU rfl _ _ rfl w.heap.size _ _ us _ _ HU.out rfl HO.out HB2.out HBL.out hsz _ rfl rfl HLL.out ?_; intro v4 w4 hU4 hb4 _ _ _ _; obtain ⟨ta, tn, tc, rfl⟩ := own_shape hU4.row)
          go_roundw
          case rel => exact ⟨k + 1, _, by omega, by go_num, by rw [HT.out]; exact hU4, hb4⟩
          case measure => simp [intOf]; omega
    · obtain rfl : k = xss.length := by omega
      rw [List.take_length] at HU
      clear hU hbl
      go_wp2_with fail
      go_ret
      exact ⟨_, us, rfl, HU.out, HBL.out⟩
theorem conjX_len {n : Nat} (h : n < 7) : (conjX n).length ≤ 32 := (conjX_ok n h).2
theorem conjStep_ok : ∀ n : Nat, n < 7 → ∀ k : Nat, k < 8 → (conjStep (conjTab 6) n k).length ≤ 200 := by decide +kernel
theorem conjStep_sm : ∀ n : Nat, n < 7 → ∀ k : Nat, k < 8 → ((conjStep (conjTab 6) n k).all fun r => (decide (r.length ≤ 6))) = true := by decide +kernel
theorem conjX_zero : conjX 0 = [[]] := rfl
theorem conjTab_get {n i : Nat} (h : i ≤ n) (h6 : n ≤ 6) : (conjTab n).getD i [] = (conjTab 6).getD i [] := by rw [conjTab_at n i h, conjTab_at 6 i (by omega)]
/-- A step towards the conjugate of x(n). -/
theorem conjStep_next (n i : Nat) (hi : i ≤ 6) : conjStep (conjTab 6) n (i + 1) = conjStep (conjTab 6) n i ++ joinsL [singL (n - i) (2 ^ i)] (conjX i) := by
  rw [conjStep, conjTab_at 6 i hi]
theorem conjX_step {n : Nat} (hn : n < 6) : conjX (n + 1) = oddL (conjStep (conjTab 6) (n + 1) (n + 1)) := by
  rw [conjX_succ, conjStep_congr (conjTab n) (conjTab 6) (n + 1) (n + 1) fun i hi => conjTab_get (by omega) (by omega)]
theorem oddL_skip (L M : List (List Int)) : oddL (L ++ oddL M) = oddL (L ++ M) := (oddL_append' L M).symm
/-- What the program has gathered. -/
def conjG (n : Nat) : Nat → List (List Int)
  | 0 => []
  | i + 1 => conjG n i ++ oddL (joinsL [singL (n - i) (2 ^ i)] (conjX i))
theorem conjG_odd (n : Nat) : ∀ i : Nat, i ≤ 7 → oddL (conjG n i) = oddL (conjStep (conjTab 6) n i) := by
  intro i
  induction i with
  | zero => intro _; rfl
  | succ i ih =>
    intro hi
    rw [conjG, conjStep_next n i (by omega), oddL_skip, oddL_append, ih (by omega), ← oddL_append]
theorem conjG_ok : ∀ n : Nat, n < 7 → ∀ k : Nat, k < 8 → (conjG n k).length ≤ 200 ∧ ((conjG n k).all fun r => (decide (r.length ≤ 6))) = true := by decide +kernel
set_option maxRecDepth 100000 in
set_option maxHeartbeats 1000000 in
theorem conjugateOf_of (SO : SortOk) : ∀ (f n : Nat), n < f → n < 7 → ∀ w : World, Calls Tryz.prog 239 #[.int .i64 n] w fun e w' => ∃ r us, e = .returned r ∧ OwnU w' w.heap.size r us (conjX n) ∧ Below w.heap.size w w' := by
  intro f
  induction f with
  | zero => intro n hn; omega
  | succ f ih =>
    intro n hnf hn w
    cases n with
    | zero =>
      have hl1 := own_u_lit (B := w.heap.size) (ownI_empty (w := w) (B := w.heap.size) (Nat.le_refl _)) (by simp)
      rw [size_alloc_w] at hl1
      have HL := Lib.hid hl1
      clear hl1 ih
      rw [conjX_zero]
      go_enter Tryz.func239, Tryz.ntmps239
      go_wp2_with fail
      go_ret
      exact ⟨_, _, rfl, HL.out, ((Below.refl _ _).alloc (Nat.le_refl _) _).alloc (by simp) _⟩
    | succ n =>
      have IH := Lib.hid ih
      rw [conjX_step (by omega), ← conjG_odd (n + 1) (n + 1) (by omega)]
      have HO := Lib.hid (fun (v : Value) (W : World) (h : IntSS W.heap v (conjG (n + 1) (n + 1))) => oddOnes_of SO v _ W h (by have := (conjG_ok (n + 1) hn (n + 1) (by omega)).1; omega) (fun x hx => by have := List.all_eq_true.1 (conjG_ok (n + 1) hn (n + 1) (by omega)).2 x hx; simp at this; omega))
      have t0 := (neB (show (n : Int) + 1 ≠ 0 by omega)).1
      rw [show ((n + 1 : Nat) : Int) = (n : Int) + 1 by omega]
      clear ih
      go_enter Tryz.func239, Tryz.ntmps239
      go_wp2_with fail
      go_loopw [3, 11] (fun o i wr => ∃ (k : Nat) (us : List Value), k ≤ n + 1 ∧ i = .int .i64 k ∧ RefR wr w.heap.size wr.heap o us (conjG (n + 1) k) ∧ Below w.heap.size w wr) (fun _ i _ => n + 1 - (intOf i).toNat)
      case atStart => exact ⟨0, [], Nat.zero_le _, rfl, ref_empty _ (Nat.le_refl _), (Below.refl _ _).alloc (Nat.le_refl _) _⟩
      case round =>
        obtain ⟨k, us, hk, rfl, hR, hbl⟩ := hrel
        obtain ⟨va, vn, vc, rfl⟩ := own_shape hR.row
        have HR := Lib.hid hR; have HBL := Lib.hid hbl
        clear hR hbl
        by_cases hkn : k < n + 1
        · have hki : (k : Int) < (n : Int) + 1 := by omega
          have CK := Lib.hid (IH.out k (by omega) (by omega))
          obtain ⟨m, hm⟩ : ∃ m : Nat, n + 1 - k = m := ⟨_, rfl⟩
          have hm2 : (n : Int) + 1 - k = m := by omega
          have hm9 : m ≤ 1000 := by omega
          have hpk : (2 : Int) ^ k ≤ 1000 ∧ 0 ≤ (2 : Int) ^ k := by
            have : ∀ k, k < 8 → (2 : Int) ^ k ≤ 1000 ∧ 0 ≤ (2 : Int) ^ k := by decide
            exact this k (by omega)
          have hpw : wrap64 (2 ^ k) = (2 : Int) ^ k := by unfold wrap64; omega
          have HN : Hid (conjG (n + 1) (k + 1) = conjG (n + 1) k ++ oddL (joinsL [singL m (2 ^ k)] (conjX k))) := by show _ = _; rw [conjG, hm]
          have hcl := (conjG_ok (n + 1) hn k (by omega)).1
          have hxl := conjX_len (n := k) (by omega)
          have hxs := conjX_sm (n := k) (by omega)
          have hol : (oddL (joinsL [singL m (2 ^ k)] (conjX k))).length ≤ 32 := by
            have h1 := oddL_length (joinsL [singL m (2 ^ k)] (conjX k))
            rw [joinsL_length, List.length_singleton] at h1
            omega
          have SG := Lib.hid (fun (e : Int) (W : World) => single_c m e W hm9)
          have MD := Lib.hid (fun (v u : Value) (W : World) (h : IntSS W.heap v [singL m (2 ^ k)]) (hu : IntSS W.heap u (conjX k)) => multiplyDual_of SO v u _ _ W h hu (fun r hr => by
            rw [List.mem_singleton] at hr; subst hr
            exact ⟨singL_sm m _ (by omega) hpk.2 (by omega), by rw [singL_length]; omega⟩) (fun r hr => ⟨fun x hx => by have := (hxs r hr).1 x hx; omega, by have := (hxs r hr).2; omega⟩) (by rw [List.length_singleton]; omega))
          have HLN : Hid ((conjG (n + 1) k).length + (oddL (joinsL [singL m (2 ^ k)] (conjX k))).length ≤ 4398046511104) := by show _ ≤ _; omega
          clear hm hcl hxl hxs hol hkn IH
          obtain ⟨E, hE⟩ : ∃ E : Int, (2 : Int) ^ k = E := ⟨_, rfl⟩
          have hpw2 := hpw.trans hE
          rw [hE] at HN MD HLN
          clear hE hpw hpk
          generalize oddL (joinsL [singL m E] (conjX k)) = px at *
          go_wp2_with (first | (go_at_call 231; refine (SG.out _ _).mono ?_; rintro e w2 ⟨rs, rfl, hs2, hb2⟩; obtain ⟨ra, rn, rc, rfl⟩ := own_shape hs2; have HS2 := Lib.hid (one_row hs2.ints); have HB2 := Lib.hid (hb2.alloc hb2.size (.cells #[.slice ra rn rc] 56)); clear hs2 hb2) | (go_at_call 239; refine (CK.out _).mono ?_; rintro e w3 ⟨r3, us3, rfl, hU3, hb3⟩; obtain ⟨ca, cn, cc, rfl⟩ := own_shape hU3.row; have HS3 := Lib.hid (HS2.out.same hb3.block); have HB3 := Lib.hid (HB2.out.trans (hb3.mono HB2.out.size)); have HU3 := Lib.hid hU3.ints; clear hU3 hb3) | (go_at_call 129; refine (MD.out _ _ _ HS3.out HU3.out).mono ?_; rintro e w4 ⟨r4, us4, rfl, hU4, hb4⟩; obtain ⟨da, dn, dc, rfl⟩ := own_shape hU4.row; have HB4 := Lib.hid (HB3.out.trans (hb4.mono HB3.out.size)); have HR4 := Lib.hid ((HR.out.same HB4.out.block).grow HB4.out.block); have HX4 := Lib.hid (hU4.ints.at2 (fun _ _ => rfl)); have HBX := Lib.hid (HBL.out.trans (HB4.out.mono HBL.out.size)); clear hU4 hb4) | (at_builtin; refine append_refs rfl _ _ rfl w.heap.size w4.heap _ _ us _ _ HR4.out rfl HX4.out rfl HBX.out HBX.out.size HLN.out ?_; intro v5 us5 w5 hU5 hb5 hs5 hk5; obtain ⟨sa, sn, sc, rfl⟩ := own_shape hU5.row; have HU5 := Lib.hid (ref_keep hU5 (KeepI.grown HR4.out.row (by decide) hk5))))
          go_roundw
          case rel => exact ⟨k + 1, _, by omega, by go_num, by rw [HN.out]; exact HU5.out, hb5⟩
          case measure => simp [intOf]; omega
        · obtain rfl : k = n + 1 := by omega
          go_wp2_with (go_at_call 107; refine (HO.out _ _ (HR.out.ints (fun _ _ => rfl))).mono ?_; rintro e w2 ⟨r2, us2, rfl, hU2, hb2⟩; obtain ⟨sa, sn, sc, rfl⟩ := own_shape hU2.row)
          go_ret
          exact ⟨_, _, rfl, own_u_base hU2 HBL.out.size, HBL.out.trans (hb2.mono HBL.out.size)⟩
theorem ExpD.smS {d : Int} {l : List (List Int)} (h : ExpD d l) (hd : d ≤ 40) : SmS 1000000000000000 4398046511104 l := fun r hr => by
  have := h.sm hd r hr
  exact ⟨fun x hx => by have := this.1 x hx; omega, by have := this.2; omega⟩
/-- What a step along the digits of a number of a monomial has. -/
theorem dig_all {r : List Int} (hE : isExp r = true) (hd : deg r ≤ 40) {k : Nat} (hk : k < r.length) : ∃ e : Nat, r.getD k 0 = e ∧ e ≤ 40 ∧ ∀ j : Nat, j ≤ 6 → SmS 1000000000000000 4398046511104 (digL (conjX (k + 1)) e (dconN r k) j) ∧ (digL (conjX (k + 1)) e (dconN r k) j).length ≤ 504 := by
  have hl := exp_len5 hE hd
  obtain ⟨i1, i2⟩ := dcon_ok hE hd k (by omega)
  have hn := ((isExp_sm hE).at (by omega) k).1
  have hw := deg_takeN hE (k + 1) hk
  have hw0 := W_nonneg (f := fun i => r.getD i 0) k fun i _ => ((isExp_sm hE).at (by omega) i).1
  rw [W] at hw
  obtain ⟨e, he⟩ : ∃ e : Nat, r.getD k 0 = e := ⟨(r.getD k 0).toNat, by omega⟩
  simp only [he] at hw
  have hp := pow_pos' k
  have hc : (e : Int) * (2 ^ (k + 1) - 1) = (2 ^ (k + 1) - 1) * (e : Int) := Int.mul_comm _ _
  have h6 : e ≤ 40 := by
    have := Int.mul_le_mul_of_nonneg_left hp (show (0 : Int) ≤ e by omega)
    omega
  rw [hc] at hw
  refine ⟨e, he, h6, fun j _ => ?_⟩
  have hx := dig_ok (e := e) i1 i2 (conjX_exp (n := k + 1) (by omega)) hw0 (by omega) (by omega) j
  have hm : ((2 : Int) ^ (k + 1) - 1) * ((e % 2 ^ j : Nat) : Int) ≤ (2 ^ (k + 1) - 1) * (e : Int) := Int.mul_le_mul_of_nonneg_left (by have := Nat.mod_le e (2 ^ j); omega) (by omega)
  have hb : W (fun i => r.getD i 0) k + (2 ^ (k + 1) - 1) * ((e % 2 ^ j : Nat) : Int) ≤ 40 := by omega
  exact ⟨hx.exp.smS hb, expD_length hx.asc hx.exp hb⟩
theorem and_bit : ∀ e : Nat, e < 41 → ∀ j : Nat, j < 6 → (bits BinOp.and IntKind.i64 (e : Int) ((2 : Int) ^ j) != 0) = e.testBit j := by decide +kernel
theorem dconN_succ (r : List Int) (k e : Nat) (he : r.getD k 0 = e) : dconN r (k + 1) = digL (conjX (k + 1)) e (dconN r k) 6 := by rw [dconN, he, Int.toNat_natCast]
theorem dig_end {e : Nat} {x out : List (List Int)} {j : Nat} (h : e < 2 ^ j) (hj : j ≤ 6) : digL x e out 6 = digL x e out j := by
  have := dig_bits (x := x) (out := out) h (6 - j)
  rwa [show j + (6 - j) = 6 by omega] at this
theorem raise_smS {X : List (List Int)} (h : SmS 1000000000000 6 X) {c : Int} (h0 : 0 ≤ c) (h1 : c ≤ 64) : SmS 1000000000000000 4398046511104 (raiseL c X) := fun z hz => by
  simp only [raiseL, List.mem_map] at hz
  obtain ⟨r, hr, rfl⟩ := hz
  have h2 := h r hr
  refine ⟨fun x hx => ?_, by simp [scaleL]; omega⟩
  simp only [scaleL, List.mem_map] at hx
  obtain ⟨y, hy, rfl⟩ := hx
  have h3 := h2.1 y hy
  exact ⟨Int.mul_nonneg h3.1 h0, Int.le_trans (Int.mul_le_mul h3.2 h1 h0 (by omega)) (by omega)⟩
theorem pow2_le : ∀ j : Nat, j ≤ 6 → (1 : Int) ≤ 2 ^ j ∧ (2 : Int) ^ j ≤ 64 ∧ ((2 : Int) ^ j) * 2 = 2 ^ (j + 1) := by decide
set_option maxRecDepth 100000 in
set_option maxHeartbeats 1000000 in
theorem dualConjugate_of (SO : SortOk) (v : Value) (r : List Int) (w : World) (h : IntS w.heap v r) (hE : isExp r = true) (hd : deg r ≤ 40) :
    Calls Tryz.prog 204 #[v] w fun e w' => ∃ r', ∃ us, e = .returned r' ∧ OwnU w' w.heap.size r' us (dconL r) ∧ Below w.heap.size w w' := by
  have hl5 := exp_len5 hE hd
  have DA := Lib.hid (fun k (hk : k < r.length) => dig_all hE hd hk)
  obtain ⟨ao, c, rfl, hm⟩ := h.len
  have H := Lib.hid h
  have hl1 := own_u_lit (B := w.heap.size) (ownI_empty (w := w) (B := w.heap.size) (Nat.le_refl _)) (by simp)
  rw [size_alloc_w] at hl1
  have HL := Lib.hid hl1
  clear hl1 h hE hd
  unfold dconL
  go_enter Tryz.func204, Tryz.ntmps204
  go_wp2_with fail
  go_loopw [3, 12] (fun o i wr => ∃ (k : Nat) (us : List Value), k ≤ r.length ∧ i = .int .i64 k ∧ OwnU wr w.heap.size o us (dconN r k) ∧ Below w.heap.size w wr) (fun _ i _ => r.length - (intOf i).toNat)
  case atStart => exact ⟨0, _, Nat.zero_le _, rfl, HL.out, ((Below.refl _ _).alloc (Nat.le_refl _) _).alloc (by simp) _⟩
  case round =>
    obtain ⟨k, us, hk, rfl, hU, hbl⟩ := hrel
    obtain ⟨va, vn, vc, rfl⟩ := own_shape hU.row
    have HU := Lib.hid hU; have HBL := Lib.hid hbl
    by_cases hkl : k < r.length
    · obtain ⟨e, he, he40, HJ⟩ := DA.out k hkl
      have HJ := Lib.hid HJ
      obtain ⟨b1, o1, c1, hv1, hc1, -⟩ := H.out.at k hkl
      simp only [Value.slice.injEq, true_and] at hv1
      obtain ⟨rfl, rfl⟩ := hv1
      have hcx := (hbl.cell (World.block_lt_of_cell? _ _ hc1)).trans hc1
      rw [← getD_at', he] at hcx
      have HSU := Lib.hid (dconN_succ r k e he)
      have hki : (k : Int) < r.length := by omega
      have CJ := Lib.hid (fun W => conjugateOf_of SO (k + 2) (k + 1) (by omega) (by omega) W)
      rw [show ((k + 1 : Nat) : Int) = (k : Int) + 1 by omega] at CJ
      have hxl := conjX_len (n := k + 1) (by omega)
      have hxs := Lib.hid (conjX_sm (n := k + 1) (by omega))
      have HXE := Lib.hid (conjX_exp (n := k + 1) (by omega))
      clear hU hbl hc1 he
      generalize conjX (k + 1) = X at *
      generalize dconN r k = D0 at *
      go_wp2_with (go_at_call 239; refine (CJ.out _).mono ?_; rintro e w3 ⟨r3, us3, rfl, hU3, hb3⟩; obtain ⟨ca, cn, cc, rfl⟩ := own_shape hU3.row; have HX3 := Lib.hid hU3.ints; have HB3 := Lib.hid (HBL.out.trans (hb3.mono HBL.out.size)); have HU3 := Lib.hid (HU.out.same hb3.block); have hcx3 := (hb3.cell (World.block_lt_of_cell? _ _ hcx)).trans hcx; clear hU3 hb3)
      go_loopw [3, 7] (fun o p wk => ∃ (j : Nat) (us : List Value), j ≤ 6 ∧ p = .int .i64 ((2 : Int) ^ j) ∧ OwnU wk w.heap.size o us (digL X e D0 j) ∧ Below w3.heap.size w3 wk) (fun _ p _ => 65 - (intOf p).toNat)
      case atStart => exact ⟨0, us, by omega, rfl, HU3.out, Below.refl _ _⟩
      case round =>
        obtain ⟨j, us2, hj, rfl, hO, hb2⟩ := hrel
        obtain ⟨ya, yn, yc, rfl⟩ := own_shape hO.row
        have HO := Lib.hid hO; have HB2 := Lib.hid hb2
        have HBW := Lib.hid (HB3.out.trans (hb2.mono HB3.out.size))
        have HXW := Lib.hid (HX3.out.same hb2.block)
        have hcy := (hb2.cell (World.block_lt_of_cell? _ _ hcx3)).trans hcx3
        obtain ⟨hp1, hp2, hp3⟩ := pow2_le j hj
        obtain ⟨hsm, hlen⟩ := HJ.out j hj
        have HSM := Lib.hid hsm
        clear hO hb2 hsm
        by_cases hle : (2 : Int) ^ j ≤ e
        · have hj6 : j < 6 := by
            rcases Nat.lt_or_ge j 6 with h | h
            · exact h
            · obtain rfl : j = 6 := by omega
              rw [show (2 : Int) ^ 6 = 64 by decide] at hle
              omega
          have hb := and_bit e (by omega) j hj6
          have HD : Hid (digL X e D0 (j + 1) = if e.testBit j then oddL (joinsL (digL X e D0 j) (raiseL (2 ^ j) X)) else digL X e D0 j) := rfl
          have HRS := Lib.hid (raise_smS hxs.out (show (0 : Int) ≤ 2 ^ j by omega) hp2)
          cases hbt : e.testBit j
          · rw [hbt] at hb HD
            obtain ⟨P, hP⟩ : ∃ P : Int, (2 : Int) ^ j = P := ⟨_, rfl⟩
            have HP3 : Hid (P * 2 = (2 : Int) ^ (j + 1)) := by show _ = _; rw [← hP]; exact hp3
            rw [hP] at hp1 hp2 hle hb ⊢
            have u1 : decide (P ≤ (e : Int)) = true := decide_eq_true hle
            have HPP := Lib.hid hP
            clear hP hp3 hbt HRS
            go_wp2_with fail
            go_roundw
            case rel => exact ⟨j + 1, us2, by omega, by rw [HP3.out], by rw [HD.out]; exact HO.out, HB2.out⟩
            case measure => simp [intOf]; omega
          · rw [hbt] at hb HD
            obtain ⟨P, hP⟩ : ∃ P : Int, (2 : Int) ^ j = P := ⟨_, rfl⟩
            have HP3 : Hid (P * 2 = (2 : Int) ^ (j + 1)) := by show _ = _; rw [← hP]; exact hp3
            have RC := Lib.hid (fun (W : World) (h : IntSS W.heap (.slice ca cn cc) X) => raised_c (.slice ca cn cc) X P W h (fun r hr => ⟨(hxs.out r hr).1, by have := (hxs.out r hr).2; omega⟩) (by omega) (by omega) (by omega))
            have MD := Lib.hid (fun (v u : Value) (W : World) (h : IntSS W.heap v (digL X e D0 j)) (hu : IntSS W.heap u (raiseL ((2 : Int) ^ j) X)) => multiplyDual_of SO v u _ _ W h hu HSM.out HRS.out (by
              have h1 : (raiseL ((2 : Int) ^ j) X).length ≤ 32 := by simp [raiseL]; exact hxl
              exact Nat.le_trans (Nat.mul_le_mul hlen h1) (by omega)))
            rw [hP] at hp1 hp2 hle hb MD HD ⊢
            have u1 : decide (P ≤ (e : Int)) = true := decide_eq_true hle
            have HPP := Lib.hid hP
            clear hP hp3 hbt HRS HSM
            go_wp2_with (first | (go_at_call 240; refine (RC.out _ HXW.out).mono ?_; rintro e w5 ⟨r5, us5, rfl, hU5, hb5⟩; obtain ⟨da, dn, dc, rfl⟩ := own_shape hU5.row) | (go_at_call 129; refine (MD.out _ _ _ (HO.out.ints.same hb5.block) hU5.ints).mono ?_; rintro e w6 ⟨r6, us6, rfl, hU6, hb6⟩; obtain ⟨ea, en, ec, rfl⟩ := own_shape hU6.row; have HB6 := Lib.hid (hb5.trans (hb6.mono hb5.size)); have HS6 := Lib.hid hb5.size; have HU6 := Lib.hid hU6; clear hU6 hb6 hU5 hb5))
            go_roundw
            case rel => exact ⟨j + 1, us6, by omega, by rw [HP3.out], by rw [HD.out]; exact own_u_base HU6.out (Nat.le_trans HBW.out.size HS6.out), HB2.out.trans (HB6.out.mono HB2.out.size)⟩
            case measure => simp [intOf]; omega
        · have hlt : e < 2 ^ j := by
            have : ((2 ^ j : Nat) : Int) = (2 : Int) ^ j := by rw [Int.natCast_pow]; rfl
            omega
          have HE := Lib.hid (dig_end (x := X) (out := D0) hlt hj)
          have u1 : decide ((2 : Int) ^ j ≤ (e : Int)) = false := decide_eq_false hle
          obtain ⟨P, hP⟩ : ∃ P : Int, (2 : Int) ^ j = P := ⟨_, rfl⟩
          rw [hP] at hp1 hp2 hle u1 ⊢
          clear hP hp3 hlt hlen
          go_wp2_with fail
          go_roundw
          case rel => exact ⟨k + 1, us2, by omega, by go_num, by rw [HSU.out, HE.out]; exact HO.out, HBW.out⟩
          case measure => simp [intOf]; omega
    · obtain rfl : k = r.length := by omega
      clear hU hbl
      go_wp2_with fail
      go_ret
      exact ⟨_, us, rfl, HU.out, HBL.out⟩
end
section

/-- The pairs of the coproduct of a power of 2 of x(n). -/
def partsP (n : Nat) (P : Int) : List (List (List Int)) := (List.range (n + 1)).map fun i => [singL (n - i) (P * 2 ^ i), singL i P]
theorem partsP_length (n : Nat) (P : Int) : (partsP n P).length = n + 1 := by simp [partsP]
def digC (n e : Nat) (out : List (List (List Int))) : Nat → List (List (List Int))
  | 0 => out
  | j + 1 => if e.testBit j then oddP (prodP (digC n e out j) (partsP n (2 ^ j))) else digC n e out j
def copN (r : List Int) : Nat → List (List (List Int))
  | 0 => [[[], []]]
  | k + 1 => digC (k + 1) (r.getD k 0).toNat (copN r k) 6
def copL (r : List Int) : List (List (List Int)) := copN r r.length
theorem digC_end {n e : Nat} {out : List (List (List Int))} {j : Nat} (h : e < 2 ^ j) : ∀ k : Nat, digC n e out (j + k) = digC n e out j := by
  intro k
  induction k with
  | zero => rfl
  | succ k ih =>
    rw [← Nat.add_assoc, digC, ih, Nat.testBit_lt_two_pow (Nat.lt_of_lt_of_le h (Nat.pow_le_pow_right (by omega) (by omega)))]; rfl
theorem digC_len {n e D : Nat} {out : List (List (List Int))} (h : e < 2 ^ D) : ∀ j : Nat, (digC n e out j).length ≤ out.length * (n + 1) ^ (min j D) := by
  intro j
  induction j with
  | zero => simp [digC]
  | succ j ih =>
    rcases Nat.lt_or_ge j D with hj | hj
    · have e1 : min (j + 1) D = min j D + 1 := by omega
      rw [e1, Nat.pow_succ, ← Nat.mul_assoc]
      rw [digC]
      split
      · refine Nat.le_trans (oddP_length _) ?_
        rw [prodP_length, partsP_length]
        exact Nat.mul_le_mul_right _ ih
      · exact Nat.le_trans ih (Nat.le_mul_of_pos_right _ (by omega))
    · rw [digC, Nat.testBit_lt_two_pow (Nat.lt_of_lt_of_le h (Nat.pow_le_pow_right (by omega) hj)), show min (j + 1) D = min j D by omega]
      exact ih
theorem PrS.join {b c : Int} {l : Nat} {p q : List (List Int)} (hp : PrS b l p) (hq : PrS c l q) (hb : 0 ≤ b) (hc : 0 ≤ c) : PrS (b + c) l (pjoin p q) := by
  obtain ⟨x, y, rfl, ⟨h1, h2⟩, h3, h4⟩ := hp
  obtain ⟨z, t, rfl, ⟨k1, k2⟩, k3, k4⟩ := hq
  refine ⟨_, _, rfl, ⟨fun n hn => ?_, by rw [joinL_length]; simp; omega⟩, fun n hn => ?_, by rw [joinL_length]; simp; omega⟩
  · obtain ⟨i, hi, rfl⟩ := List.mem_map.1 hn
    have a1 := h1.at hb i; have a2 := k1.at hc i
    show 0 ≤ x.getD i 0 + z.getD i 0 ∧ x.getD i 0 + z.getD i 0 ≤ b + c
    omega
  · obtain ⟨i, hi, rfl⟩ := List.mem_map.1 hn
    have a1 := h3.at hb i; have a2 := k3.at hc i
    show 0 ≤ y.getD i 0 + t.getD i 0 ∧ y.getD i 0 + t.getD i 0 ≤ b + c
    omega
theorem partsP_ok : ∀ n : Nat, n < 7 → ∀ j : Nat, j < 6 → ∀ q ∈ partsP n ((2 : Int) ^ j), PrS 4096 6 q := by
  intro n hn j hj q hq
  obtain ⟨i, hi, rfl⟩ := List.mem_map.1 hq
  rw [List.mem_range] at hi
  have hP : (1 : Int) ≤ 2 ^ j ∧ (2 : Int) ^ j ≤ 32 := by
    have : ∀ j : Nat, j < 6 → (1 : Int) ≤ 2 ^ j ∧ (2 : Int) ^ j ≤ 32 := by decide
    exact this j hj
  have hI : (1 : Int) ≤ 2 ^ i ∧ (2 : Int) ^ i ≤ 64 := by
    have : ∀ j : Nat, j < 7 → (1 : Int) ≤ 2 ^ j ∧ (2 : Int) ^ j ≤ 64 := by decide
    exact this i (by omega)
  have hm := Int.mul_le_mul hP.2 hI.2 (by omega) (by omega)
  have hm0 := Int.mul_nonneg (show (0 : Int) ≤ 2 ^ j by omega) (show (0 : Int) ≤ 2 ^ i by omega)
  exact ⟨_, _, rfl, ⟨singL_sm _ _ (by omega) hm0 (by omega), by rw [singL_length]; omega⟩, singL_sm _ _ (by omega) (by omega) (by omega), by rw [singL_length]; omega⟩
theorem digC_ok {n e : Nat} {b : Int} {out : List (List (List Int))} (hn : n < 7) (ho : ∀ q ∈ out, PrS b 6 q) (hb : 0 ≤ b) : ∀ j : Nat, j ≤ 6 → ∀ q ∈ digC n e out j, PrS (b + 4096 * j) 6 q := by
  intro j
  induction j with
  | zero => intro _ q hq; exact (ho q hq).mono (by omega) (Nat.le_refl _)
  | succ j ih =>
    intro hj q hq
    rw [digC] at hq
    split at hq
    · obtain ⟨p, hp, hx⟩ := List.mem_flatMap.1 (oddP_mem hq)
      obtain ⟨z, hz, rfl⟩ := List.mem_map.1 hx
      exact ((ih (by omega) p hp).join (partsP_ok n hn j (by omega) z hz) (by omega) (by omega)).mono (by omega) (Nat.le_refl _)
    · exact (ih (by omega) q hq).mono (by omega) (Nat.le_refl _)
theorem copN_ok (r : List Int) : ∀ k : Nat, k ≤ 6 → ∀ q ∈ copN r k, PrS (24576 * k) 6 q := by
  intro k
  induction k with
  | zero =>
    intro _ q hq
    rw [copN, List.mem_singleton] at hq
    subst hq
    exact ⟨[], [], rfl, ⟨(fun x h => absurd h (by simp)), Nat.zero_le _⟩, (fun x h => absurd h (by simp)), Nat.zero_le _⟩
  | succ k ih =>
    intro hk q hq
    rw [copN] at hq
    exact (digC_ok (by omega) (ih (by omega)) (by omega) 6 (Nat.le_refl _) q hq).mono (by omega) (Nat.le_refl _)
/-- Bounds of the numbers of digits and of pairs. -/
def digB (k : Nat) : Nat := [6, 4, 3, 2, 1].getD k 0
def lenB (k : Nat) : Nat := [1, 64, 5184, 331776, 8294400, 49766400].getD k 0
theorem lenB_step : ∀ k : Nat, k < 5 → lenB k * (k + 2) ^ digB k = lenB (k + 1) := by decide
theorem lenB_all : ∀ k : Nat, k < 6 → lenB k ≤ 49766400 := by decide
theorem copN_dig {r : List Int} (hE : isExp r = true) (hd : deg r ≤ 40) {k : Nat} (hk : k < r.length) : ∃ e : Nat, r.getD k 0 = e ∧ e ≤ 40 ∧ e < 2 ^ digB k := by
  have hl := exp_len5 hE hd
  have hn := ((isExp_sm hE).at (by omega) k).1
  have hw := deg_takeN hE (k + 1) hk
  have hw0 := W_nonneg (f := fun i => r.getD i 0) k fun i _ => ((isExp_sm hE).at (by omega) i).1
  rw [W] at hw
  obtain ⟨e, he⟩ : ∃ e : Nat, r.getD k 0 = e := ⟨(r.getD k 0).toNat, by omega⟩
  simp only [he] at hw
  refine ⟨e, he, ?_⟩
  generalize W (fun i => r.getD i 0) k = w0 at hw hw0
  match k, hk, hw with
  | 0, _, hw => simp at hw; exact ⟨by omega, by show e < 64; omega⟩
  | 1, _, hw => simp at hw; exact ⟨by omega, by show e < 16; omega⟩
  | 2, _, hw => simp at hw; exact ⟨by omega, by show e < 8; omega⟩
  | 3, _, hw => simp at hw; exact ⟨by omega, by show e < 4; omega⟩
  | 4, _, hw => simp at hw; exact ⟨by omega, by show e < 2; omega⟩
  | k + 5, hk, _ => omega
theorem copN_len {r : List Int} (hE : isExp r = true) (hd : deg r ≤ 40) : ∀ k : Nat, k ≤ r.length → (copN r k).length ≤ lenB k := by
  have hl := exp_len5 hE hd
  intro k
  induction k with
  | zero => intro _; simp [copN, lenB]
  | succ k ih =>
    intro hk
    obtain ⟨e, he, h40, hlt⟩ := copN_dig hE hd (show k < r.length by omega)
    rw [copN, he, Int.toNat_natCast]
    have h6 : digB k ≤ 6 := by
      have : ∀ k : Nat, k < 5 → digB k ≤ 6 := by decide
      exact this k (by omega)
    have := digC_len (n := k + 1) (out := copN r k) hlt 6
    rw [Nat.min_eq_right h6] at this
    refine Nat.le_trans this ?_
    rw [← lenB_step k (by omega)]
    exact Nat.mul_le_mul_right _ (ih (by omega))
/-- What each step of the walk asks. -/
theorem cop_all {r : List Int} (hE : isExp r = true) (hd : deg r ≤ 40) {k : Nat} (hk : k < r.length) : ∃ e : Nat, r.getD k 0 = e ∧ e ≤ 40 ∧ ∀ j : Nat, j ≤ 6 → (∀ q ∈ digC (k + 1) e (copN r k) j, PrS 1000000000000000 4398046511104 q) ∧ (digC (k + 1) e (copN r k) j).length ≤ 49766400 := by
  have hl := exp_len5 hE hd
  obtain ⟨e, he, h40, hlt⟩ := copN_dig hE hd hk
  refine ⟨e, he, h40, fun j hj => ⟨fun q hq => ?_, ?_⟩⟩
  · exact (digC_ok (by omega) (copN_ok r k (by omega)) (by omega) j hj q hq).mono (by omega) (by omega)
  · have h1 := digC_len (n := k + 1) (out := copN r k) hlt j
    have h2 := copN_len hE hd k (by omega)
    refine Nat.le_trans h1 (Nat.le_trans (Nat.mul_le_mul h2 (Nat.pow_le_pow_right (by omega) (Nat.min_le_right j (digB k)))) ?_)
    rw [lenB_step k (by omega)]
    exact lenB_all (k + 1) (by omega)
end
section
open Go.RowKit Go.Sort

theorem RefSS.base {w : World} {B B' : Nat} {h : Array Obj} {v : Value} {us : List Value} {xsss : List (List (List Int))} (a : RefSS w B h v us xsss) (k : B' ≤ B) : RefSS w B' h v us xsss := ⟨own_base a.row k, a.each⟩
theorem RefSS.step {w w' w2 : World} {B : Nat} {v : Value} {us : List Value} {xsss : List (List (List Int))} (a : RefSS w B w.heap v us xsss) (h : Below w.heap.size w w') (k : ∀ b, b < w'.heap.size → w2.heap[b]? = w'.heap[b]?) : RefSS w2 B w2.heap v us xsss :=
  have e : ∀ b, b < w.heap.size → w2.heap[b]? = w.heap[b]? := fun b hb => (k b (Nat.lt_of_lt_of_le hb h.size)).trans (h.block b hb)
  (a.same e).grow e
theorem below_then5 {B : Nat} {w w4 w5 w6 : World} {o : Obj} (h : Below B w w4) (hB : B ≤ w4.heap.size) (h5 : Below w4.heap.size w4 w5) (h6 : Below w5.heap.size w5 w6) : Below B w (w6.alloc o) :=
  ((h.trans (h5.mono hB)).trans (h6.mono (Nat.le_trans hB h5.size))).alloc (Nat.le_trans hB (Nat.le_trans h5.size h6.size)) _
theorem refSS_lit {W : World} {B : Nat} {u : Value} {xss : List (List Int)} (hu : IntSS W.heap u xss) (hB : B ≤ W.heap.size) : RefSS (W.alloc (.cells #[u] 22)) B (W.alloc (.cells #[u] 22)).heap (.slice (some ⟨W.heap.size, 0, none⟩) 1 1) [u] [xss] :=
  (refSS_one hu hB).grow (alloc_old _ _)
theorem copN_succ (r : List Int) (k e : Nat) (he : r.getD k 0 = e) : copN r (k + 1) = digC (k + 1) e (copN r k) 6 := by rw [copN, he, Int.toNat_natCast]
theorem digC_stop {n e : Nat} {out : List (List (List Int))} {j : Nat} (h : e < 2 ^ j) (hj : j ≤ 6) : digC n e out 6 = digC n e out j := by
  have := digC_end (n := n) (out := out) h (6 - j)
  rwa [show j + (6 - j) = 6 by omega] at this
theorem partsP_take (n : Nat) (P : Int) (t : Nat) (h : t < n + 1) : (partsP n P).take (t + 1) = (partsP n P).take t ++ [[singL (n - t) (P * 2 ^ t), singL t P]] := by
  have ht : t < (partsP n P).length := by rw [partsP_length]; exact h
  rw [List.take_succ_eq_append_getElem ht]
  congr 2
  simp [partsP]
theorem pow_shift : ∀ j : Nat, j < 6 → ∀ t : Nat, t < 7 → wrap64 ((2 : Int) ^ j * 2 ^ t) = 2 ^ j * 2 ^ t ∧ 1 ≤ (2 : Int) ^ j * 2 ^ t ∧ (2 : Int) ^ j * 2 ^ t ≤ 4096 := by decide +kernel
set_option maxRecDepth 100000 in
set_option maxHeartbeats 1000000 in
theorem coproduct_c (v : Value) (r : List Int) (w : World) (h : IntS w.heap v r) (hE : isExp r = true) (hd : deg r ≤ 40) :
    Calls Tryz.prog 184 #[v] w fun e w' => ∃ r', ∃ us, e = .returned r' ∧ RefSS w' w.heap.size w'.heap r' us (copL r) ∧ Below w.heap.size w w' := by
  have hl5 := exp_len5 hE hd
  have DA := Lib.hid (fun k (hk : k < r.length) => cop_all hE hd hk)
  obtain ⟨ao, c, rfl, hm⟩ := h.len
  have H := Lib.hid h
  have e1 := ownI_empty (w := w) (B := w.heap.size) (Nat.le_refl _)
  have e2 := ownI_empty (w := w.alloc (.cells #[] 2)) (B := w.heap.size) (by simp)
  have pr := two_row (e1.ints.same (alloc_old _ _)) e2.ints
  have hB3 : ∀ o1 o2 o3 : Obj, w.heap.size ≤ (((w.alloc o1).alloc o2).alloc o3).heap.size := fun _ _ _ => by rw [size_alloc_w, size_alloc_w, size_alloc_w]; omega
  have hB2 : ∀ o1 o2 : Obj, w.heap.size ≤ ((w.alloc o1).alloc o2).heap.size := fun _ _ => by rw [size_alloc_w, size_alloc_w]; omega
  have hB1 : ∀ o1 : Obj, w.heap.size ≤ (w.alloc o1).heap.size := fun _ => by rw [size_alloc_w]; omega
  have hl1 := refSS_lit (B := w.heap.size) pr (hB3 _ _ _)
  simp only [size_alloc_w] at hl1
  have HL := Lib.hid hl1
  clear hl1 h hE hd e1 e2 pr
  unfold copL
  go_enter Tryz.func184, Tryz.ntmps184
  go_wp2_with fail
  go_loopw [3, 16] (fun o i wr => ∃ (k : Nat) (us : List Value), k ≤ r.length ∧ i = .int .i64 k ∧ RefSS wr w.heap.size wr.heap o us (copN r k) ∧ Below w.heap.size w wr) (fun _ i _ => r.length - (intOf i).toNat)
  case atStart => exact ⟨0, _, Nat.zero_le _, rfl, HL.out, ((((Below.refl _ _).alloc (Nat.le_refl _) _).alloc (hB1 _) _).alloc (hB2 _ _) _).alloc (hB3 _ _ _) _⟩
  case round =>
    obtain ⟨k, us, hk, rfl, hU, hbl⟩ := hrel
    obtain ⟨va, vn, vc, rfl⟩ := own_shape hU.row
    have HU := Lib.hid hU; have HBL := Lib.hid hbl
    by_cases hkl : k < r.length
    · obtain ⟨e, he, he40, HJ⟩ := DA.out k hkl
      have HJ := Lib.hid HJ
      obtain ⟨b1, o1, c1, hv1, hc1, -⟩ := H.out.at k hkl
      simp only [Value.slice.injEq, true_and] at hv1
      obtain ⟨rfl, rfl⟩ := hv1
      have hcx := (hbl.cell (World.block_lt_of_cell? _ _ hc1)).trans hc1
      rw [← getD_at', he] at hcx
      have HSU := Lib.hid (copN_succ r k e he)
      have hki : (k : Int) < r.length := by omega
      clear hU hbl hc1 he
      generalize copN r k = D0 at *
      go_wp2_with fail
      go_loopw [3, 7] (fun o p wk => ∃ (j : Nat) (us : List Value), j ≤ 6 ∧ p = .int .i64 ((2 : Int) ^ j) ∧ RefSS wk w.heap.size wk.heap o us (digC (k + 1) e D0 j) ∧ Below w.heap.size w wk) (fun _ p _ => 65 - (intOf p).toNat)
      case atStart => exact ⟨0, us, by omega, rfl, HU.out, HBL.out⟩
      case round =>
        obtain ⟨j, us2, hj, rfl, hO, hb2⟩ := hrel
        obtain ⟨ya, yn, yc, rfl⟩ := own_shape hO.row
        have HO := Lib.hid hO; have HB2 := Lib.hid hb2
        obtain ⟨hp1, hp2, hp3⟩ := pow2_le j hj
        obtain ⟨hsm, hlen⟩ := HJ.out j hj
        have HSM := Lib.hid hsm
        clear hO hb2 hsm
        by_cases hle : (2 : Int) ^ j ≤ e
        · have hj6 : j < 6 := by
            rcases Nat.lt_or_ge j 6 with h | h
            · exact h
            · obtain rfl : j = 6 := by omega
              rw [show (2 : Int) ^ 6 = 64 by decide] at hle
              omega
          have hb := and_bit e (by omega) j hj6
          have HD : Hid (digC (k + 1) e D0 (j + 1) = if e.testBit j then oddP (prodP (digC (k + 1) e D0 j) (partsP (k + 1) (2 ^ j))) else digC (k + 1) e D0 j) := rfl
          cases hbt : e.testBit j
          · rw [hbt] at hb HD
            obtain ⟨P, hP⟩ : ∃ P : Int, (2 : Int) ^ j = P := ⟨_, rfl⟩
            have HP3 : Hid (P * 2 = (2 : Int) ^ (j + 1)) := by show _ = _; rw [← hP]; exact hp3
            rw [hP] at hp1 hp2 hle hb ⊢
            have hb1 : (bits BinOp.and IntKind.i64 (e : Int) P == 0) = true := by simpa using hb
            have u1 : decide (P ≤ (e : Int)) = true := decide_eq_true hle
            have HPP := Lib.hid hP
            clear hP hp3 hbt
            go_wp2_with fail
            go_roundw
            case rel => exact ⟨j + 1, us2, by omega, by rw [HP3.out], by rw [HD.out]; exact HO.out, HB2.out⟩
            case measure => simp [intOf]; omega
          · rw [hbt] at hb HD
            have HPS := Lib.hid (fun t (ht : t < 7) => pow_shift j hj6 t ht)
            have HPK := Lib.hid (partsP_ok (k + 1) (by omega) j hj6)
            obtain ⟨P, hP⟩ : ∃ P : Int, (2 : Int) ^ j = P := ⟨_, rfl⟩
            have HP3 : Hid (P * 2 = (2 : Int) ^ (j + 1)) := by show _ = _; rw [← hP]; exact hp3
            rw [hP] at hp1 hp2 hle hb HD HPS HPK ⊢
            have MP := Lib.hid (fun (v u : Value) (W : World) (h : IntSSS W.heap v (digC (k + 1) e D0 j)) (hu : IntSSS W.heap u (partsP (k + 1) P)) => multiplyPairs_c v u _ _ W h hu HSM.out (fun q hq => (HPK.out q hq).mono (by omega) (by omega)) (by
              rw [partsP_length]
              exact Nat.le_trans (Nat.mul_le_mul hlen (show k + 1 + 1 ≤ 6 by omega)) (by omega)))
            have hb1 : (bits BinOp.and IntKind.i64 (e : Int) P == 0) = false := by simpa using hb
            have u1 : decide (P ≤ (e : Int)) = true := decide_eq_true hle
            have HPP := Lib.hid hP
            have hk6 : (k : Int) + 1 < 7 := by omega
            have hkw : IntKind.i64.wrap ((k : Int) + 1) = (k : Int) + 1 := IntWalk.i64_in _ (by omega)
            clear hP hp3 hbt HSM
            rename World => WK
            go_wp2_with fail
            go_loopw [8, 9] (fun o i wm => ∃ (t : Nat) (us : List Value), t ≤ k + 2 ∧ i = .int .i64 t ∧ RefSS wm WK.heap.size wm.heap o us ((partsP (k + 1) P).take t) ∧ Below WK.heap.size WK wm) (fun _ i _ => k + 2 - (intOf i).toNat)
            case atStart => exact ⟨0, [], Nat.zero_le _, rfl, refSS_empty _ (Nat.le_refl _), (Below.refl _ _).alloc (Nat.le_refl _) _⟩
            case round =>
              obtain ⟨t, us4, ht, rfl, hQ, hb4⟩ := hrel
              obtain ⟨qa, qn, qc, rfl⟩ := own_shape hQ.row
              have HQ := Lib.hid hQ; have HB4 := Lib.hid hb4
              have hsz4 := hb4.size
              by_cases htl : t < k + 2
              · have HPT := Lib.hid (partsP_take (k + 1) P t (by omega))
                obtain ⟨hs1, hs2, hs3⟩ := HPS.out t (by omega)
                obtain ⟨m, hm⟩ : ∃ m : Nat, k + 1 - t = m := ⟨_, rfl⟩
                rw [hm] at HPT
                have hm2 : (k : Int) + 1 - t = m := by omega
                have hm9 : m ≤ 1000 := by omega
                have ht9 : t ≤ 1000 := by omega
                obtain ⟨Q2, hQ2⟩ : ∃ Q2 : Int, P * 2 ^ t = Q2 := ⟨_, rfl⟩
                rw [hQ2] at hs1 hs2 hs3 HPT
                have SG := Lib.hid (fun (W : World) => single_c m Q2 W hm9)
                have SG2 := Lib.hid (fun (W : World) => single_c t P W ht9)
                have hti : (t : Int) ≤ (k : Int) + 1 := by omega
                have hql : ((partsP (k + 1) P).take t).length ≤ 4398046511104 := by rw [List.length_take]; omega
                have HQL := Lib.hid hql
                have u3 : decide ((t : Int) ≤ (k : Int) + 1) = true := decide_eq_true hti
                clear hQ hb4 hm hql
                go_wp2_with (first | (go_at_call 231; first | ((with_reducible refine (SG.out _).mono ?_); rintro e w5 ⟨r5, rfl, hs5, hx5⟩; obtain ⟨ra, rn, rc, rfl⟩ := own_shape hs5) | ((with_reducible refine (SG2.out _).mono ?_); rintro e w6 ⟨r6, rfl, hs6, hx6⟩; obtain ⟨rb, rm, rd, rfl⟩ := own_shape hs6)) | (at_builtin; refine append_refSS rfl _ _ rfl WK.heap.size _ (.slice (some ⟨w6.heap.size, 0, none⟩) 2 2) us4 _ [singL m Q2, singL t P] (HQ.out.step (hx5.trans (hx6.mono hx5.size)) (alloc_old _ _)) rfl (two_row (hs5.ints.same hx6.block) hs6.ints) (below_then5 HB4.out hsz4 hx5 hx6) (by have := hx5.size; have := hx6.size; simp; omega) _ rfl (by simp) HQL.out ?_; intro v7 us7 w7 hU7 hb7 hs7 hk7; obtain ⟨sa, sn, sc, rfl⟩ := own_shape hU7.row))
                go_roundw
                case rel => exact ⟨t + 1, us7, by omega, by go_num, by rw [HPT.out]; exact hU7, hb7⟩
                case measure => simp [intOf]; omega
              · obtain rfl : t = k + 2 := by omega
                rw [List.take_of_length_le (by rw [partsP_length]; omega)] at HQ
                have HOQ := Lib.hid ((HO.out.ints (fun _ _ => rfl)).same hb4.block)
                have HQI := Lib.hid (HQ.out.ints (fun _ _ => rfl))
                have HBQ := Lib.hid (HB2.out.trans (hb4.mono HB2.out.size))
                have MP1 := Lib.hid (fun (W : World) (h : IntSSS W.heap (.slice ya yn yc) (digC (k + 1) e D0 j)) (hu : IntSSS W.heap (.slice qa qn qc) (partsP (k + 1) P)) => MP.out _ _ W h hu)
                have u3 : decide (((k + 2 : Nat) : Int) ≤ (k : Int) + 1) = false := decide_eq_false (by omega)
                clear hQ hb4
                go_wp2_with (go_at_call 232; (with_reducible refine (MP1.out _ HOQ.out HQI.out).mono ?_); rintro e w8 ⟨r8, us8, rfl, hU8, hb8⟩; obtain ⟨ta, tn, tc, rfl⟩ := own_shape hU8.row)
                go_roundw
                case rel => exact ⟨j + 1, us8, by omega, by rw [HP3.out], by rw [HD.out]; exact hU8.base HBQ.out.size, HBQ.out.trans (hb8.mono HBQ.out.size)⟩
                case measure => simp [intOf]; omega
        · have hlt : e < 2 ^ j := by
            have : ((2 ^ j : Nat) : Int) = (2 : Int) ^ j := by rw [Int.natCast_pow]; rfl
            omega
          have HE := Lib.hid (digC_stop (n := k + 1) (out := D0) hlt hj)
          have u1 : decide ((2 : Int) ^ j ≤ (e : Int)) = false := decide_eq_false hle
          obtain ⟨P, hP⟩ : ∃ P : Int, (2 : Int) ^ j = P := ⟨_, rfl⟩
          rw [hP] at hp1 hp2 hle u1 ⊢
          clear hP hp3 hlt hlen
          go_wp2_with fail
          go_roundw
          case rel => exact ⟨k + 1, us2, by omega, by go_num, by rw [HSU.out, HE.out]; exact HO.out, HB2.out⟩
          case measure => simp [intOf]; omega
    · obtain rfl : k = r.length := by omega
      clear hU hbl
      go_wp2_with fail
      go_ret
      exact ⟨_, us, rfl, HU.out, HBL.out⟩
end
section
open Go.RowKit Go.Sort

theorem flat_len2 {α β : Type} (f : α → List β) (l : List α) (N : Nat) (h : ∀ x ∈ l, (f x).length ≤ N) : (l.flatMap f).length ≤ l.length * N := by
  induction l with
  | nil => simp
  | cons x l ih =>
    rw [List.flatMap_cons, List.length_append, List.length_cons, Nat.add_mul]
    have h1 := h x (List.mem_cons_self ..)
    have h2 := ih fun y hy => h y (List.mem_cons_of_mem _ hy)
    omega
theorem copL_len {r : List Int} (hE : isExp r = true) (hd : deg r ≤ 40) : (copL r).length ≤ 49766400 := by
  have hl := exp_len5 hE hd
  exact Nat.le_trans (copN_len hE hd r.length (Nat.le_refl _)) (lenB_all _ (by omega))
theorem copL_ok {r : List Int} (hl : r.length ≤ 6) : ∀ q ∈ copL r, PrS 1000000 6 q := fun q hq => (copN_ok r r.length hl q hq).mono (by omega) (Nat.le_refl _)
def copsL (xss : List (List Int)) : List (List (List Int)) := xss.flatMap copL
theorem copsL_row {xss : List (List Int)} (hT : arT xss = true) {r : List Int} (hr : r ∈ xss) : isExp r = true ∧ deg r ≤ 40 := by
  have h1 := arT_expD hT r hr
  exact ⟨h1.1, by rw [h1.2]; exact (degT_in hT).2⟩
theorem copsL_ok {xss : List (List Int)} (hT : arT xss = true) : ∀ q ∈ copsL xss, PrS 1000000 6 q := fun q hq => by
  obtain ⟨r, hr, hq⟩ := List.mem_flatMap.1 hq
  obtain ⟨h1, h2⟩ := copsL_row hT hr
  exact copL_ok (by have := exp_len5 h1 h2; omega) q hq
theorem copsL_len {xss : List (List Int)} (hT : arT xss = true) (n : Nat) (hx : xss.length ≤ 504) : (copsL (xss.take n)).length ≤ 504 * 49766400 := by
  refine Nat.le_trans (flat_len2 copL (xss.take n) 49766400 fun r hr => ?_) (Nat.mul_le_mul_right _ (by rw [List.length_take]; omega))
  obtain ⟨h1, h2⟩ := copsL_row hT (List.mem_of_mem_take hr)
  exact copL_len h1 h2
theorem copsL_step (xss : List (List Int)) (k : Nat) (h : k < xss.length) : copsL (xss.take (k + 1)) = copsL (xss.take k) ++ copL xss[k] := by
  unfold copsL
  rw [List.take_succ_eq_append_getElem h, List.flatMap_append]; simp
section
variable {ops : Array Oper} {rest : List Oper} {o : Oper} {a : Act} {Q : Exit → Act → World → Prop}
/-- 'append(out, list...)', references to slices of slices. -/
theorem append_allSS {w w0 : World} (hg : o.guard = none) (s x : Operand)
    (ho : o.op = .call { callee := .builtin .append, args := #[s, x], argTypes := #[42, 42] })
    (B : Nat) (v vx : Value) (us : List Value) (xsss ysss : List (List (List Int))) (hR : RefSS w B w.heap v us xsss) (hs : a.eval s = v) (hX : IntSSS w.heap vx ysss) (hx : a.eval x = vx) (hbl : Below B w0 w) (hB : B ≤ w.heap.size)
    (hn : xsss.length + ysss.length ≤ 4398046511104)
    (hK : ∀ v' us' w', RefSS w' B w'.heap v' us' (xsss ++ ysss) → Below B w0 w' → w.heap.size ≤ w'.heap.size → (∀ b, b < w.heap.size → some b ≠ v.ownBlock → w'.heap[b]? = w.heap[b]?) → wpList Tryz.prog ops Q rest (a.put o.dst v') w') :
    wpList Tryz.prog ops Q (o :: rest) a w := by
  obtain ⟨i0, hi, hz0, hz1, hz2⟩ := info_parts info_slSS
  obtain ⟨vs, hS, hvl, hve⟩ := hX
  refine append_all hg s x _ ho B _ i0 _ 24 Tryz.underlying42 hi hz0 hz1 hz2 rfl (by omega) v vx _ us vs hR.row hs hS hx hbl hB (fun u hu => ?_) (by omega) ?_
  · obtain ⟨i, hi, rfl⟩ := List.getElem_of_mem hu
    exact intSS_oneCell (hve i _ _ (List.getElem?_eq_getElem hi) (List.getElem?_eq_getElem (show i < ysss.length by omega)))
  · intro v' w' h1 h2 h3 h4
    have hk := KeepT.grown hR.row h4
    have hl := hR.len
    refine hK v' _ w' ⟨by rw [List.length_append, ← hvl]; exact h1, fun i y ys hy hz => ?_⟩ h2 h3 h4
    by_cases hi : i < us.length
    · rw [List.getElem?_append_left hi] at hy
      rw [List.getElem?_append_left (by omega)] at hz
      exact (hR.each i y ys hy hz).keepT (by decide) (by decide) hk
    · rw [List.getElem?_append_right (by omega)] at hy hz
      rw [← hl] at hz
      exact (hve _ y ys hy hz).keepT (by decide) (by decide) hk
end
set_option maxRecDepth 100000 in
set_option maxHeartbeats 1000000 in
theorem coproducts_c (v : Value) (xss : List (List Int)) (w : World) (h : IntSS w.heap v xss) (hT : arT xss = true) (hx504 : xss.length ≤ 504) :
    Calls Tryz.prog 105 #[v] w fun e w' => ∃ r us, e = .returned r ∧ RefSS w' w.heap.size w'.heap r us (oddP (copsL xss)) ∧ Below w.heap.size w w' := by
  obtain ⟨ao, c, rfl, hm⟩ := h.len
  have H := Lib.hid h
  have HLN := Lib.hid (fun n => copsL_len hT n hx504)
  have HRW := Lib.hid (fun r (hr : r ∈ xss) => copsL_row hT hr)
  have hln := copsL_len hT xss.length hx504
  rw [List.take_length] at hln
  have OP := Lib.hid (fun (v : Value) (us : List Value) (B : Nat) (W : World) (hR : RefSS W B W.heap v us (copsL xss)) (hB : B ≤ W.heap.size) => oddPairs_c v us (copsL xss) B W hR hB (by omega) (fun q hq => (copsL_ok hT q hq).pr))
  clear h hT hln
  go_enter Tryz.func105, Tryz.ntmps105
  go_wp2_with fail
  go_loopw [3, 9] (fun o i wr => ∃ (k : Nat) (us : List Value), k ≤ xss.length ∧ i = .int .i64 k ∧ RefSS wr w.heap.size wr.heap o us (copsL (xss.take k)) ∧ Below w.heap.size w wr) (fun _ i _ => xss.length - (intOf i).toNat)
  case atStart => exact ⟨0, [], Nat.zero_le _, rfl, refSS_empty _ (Nat.le_refl _), (Below.refl _ _).alloc (Nat.le_refl _) _⟩
  case round =>
    obtain ⟨k, us, hk, rfl, hU, hbl⟩ := hrel
    obtain ⟨va, vn, vc, rfl⟩ := own_shape hU.row
    have HU := Lib.hid hU; have HBL := Lib.hid hbl
    have hsz := hbl.size
    by_cases hkl : k < xss.length
    · obtain ⟨b1, o1, c1, uk, hv1, hc1, huk, -⟩ := H.out.at k hkl
      simp only [Value.slice.injEq, true_and] at hv1
      obtain ⟨rfl, rfl⟩ := hv1
      have hcx := (hbl.cell (World.block_lt_of_cell? _ _ hc1)).trans hc1
      have HX := Lib.hid (huk.same hbl.block)
      have hrow := HRW.out _ (List.getElem_mem hkl)
      have HDS := Lib.hid (copsL_step xss k hkl)
      obtain ⟨qa, qc, rfl, -⟩ := huk.len
      have CO := Lib.hid (fun (W : World) (h : IntS W.heap (.slice qa xss[k].length qc) xss[k]) => coproduct_c _ xss[k] W h hrow.1 hrow.2)
      have hl1 := HLN.out k
      have hl2 := copL_len hrow.1 hrow.2
      have hki : (k : Int) < xss.length := by omega
      have HLL : Hid ((copsL (xss.take k)).length + (copL xss[k]).length ≤ 4398046511104) := by show _ ≤ _; omega
      clear hU hbl hc1 huk hrow hl1 hl2
      generalize xss[k] = r at *
      go_wp2_with (first | (go_at_call 184; refine (CO.out _ HX.out).mono ?_; rintro e w3 ⟨r3, us3, rfl, hU3, hb3⟩; obtain ⟨da, dn, dc, rfl⟩ := own_shape hU3.row) | (at_builtin; refine append_allSS rfl _ _ rfl w.heap.size _ _ us _ (copL r) (HU.out.step hb3 (fun _ _ => rfl)) rfl (hU3.ints (fun _ _ => rfl)) rfl (HBL.out.trans (hb3.mono hsz)) (Nat.le_trans hsz hb3.size) HLL.out ?_; intro v4 us4 w4 hU4 hb4 _ _; obtain ⟨ea, en, ec, rfl⟩ := own_shape hU4.row))
      go_roundw
      case rel => exact ⟨k + 1, us4, by omega, by go_num, by rw [HDS.out]; exact hU4, hb4⟩
      case measure => simp [intOf]; omega
    · obtain rfl : k = xss.length := by omega
      rw [List.take_length] at hU
      have OP1 := Lib.hid (OP.out _ _ _ wr hU hsz)
      clear hU HU
      go_wp2_with (go_at_call 185; refine OP1.out.mono ?_; rintro e w2 ⟨r, us3, rfl, hR3, hb3, hk3⟩; obtain ⟨qa, qn, qc, rfl⟩ := own_shape hR3.row)
      go_ret
      exact ⟨_, _, rfl, hR3.base hsz, HBL.out.trans hb3⟩
end
section
open Go.RowKit Go.Sort

theorem putP_split {x : List (List Int)} {l : List (List (List Int))} (hx : IsPr x) (hl : ∀ y ∈ l, IsPr y) (k : Nat) (hk : k ≤ l.length) (h1 : ∀ j, j < k → ltL (encP (l.getD j [])) (encP x) = true) (h2 : k < l.length → ltL (encP (l.getD k [])) (encP x) = false) :
    putP x l = l.take k ++ (if k < l.length ∧ l.getD k [] = x then l.drop (k + 1) else x :: l.drop k) := by
  have hg : ∀ j, j < l.length → (l.map encP).getD j [] = encP (l.getD j []) := fun j hj => getD_enc l j hj
  have hp := put_split (encP x) (l.map encP) k (by simpa using hk) (fun j hj => by rw [hg j (by omega)]; exact h1 j hj) (fun h => by rw [List.length_map] at h; rw [hg k h]; exact h2 h)
  refine enc_map_inj (fun y hy => ?_) (fun y hy => ?_) ?_
  · rcases putP_mem _ _ _ hy with h | h
    · exact hl y h
    · rw [h]; exact hx
  · rcases List.mem_append.1 hy with h | h
    · exact hl y (List.mem_of_mem_take h)
    · split at h
      · exact hl y (List.mem_of_mem_drop h)
      · rcases List.mem_cons.1 h with h | h
        · rw [h]; exact hx
        · exact hl y (List.mem_of_mem_drop h)
  · rw [putP_enc, hp, List.map_append, List.map_take, List.length_map]
    congr 1
    by_cases hkl : k < l.length
    · rw [hg k hkl]
      have hy : IsPr (l.getD k []) := by rw [show l.getD k [] = l[k] by simp [hkl]]; exact hl _ (List.getElem_mem hkl)
      by_cases e : l.getD k [] = x
      · rw [if_pos ⟨hkl, by rw [e]⟩, if_pos ⟨hkl, e⟩, List.map_drop]
      · rw [if_neg (fun h => e (encP_inj hy hx h.2)), if_neg (fun h => e h.2), List.map_cons, List.map_drop]
    · rw [if_neg (fun h => hkl h.1), if_neg (fun h => hkl h.1), List.map_cons, List.map_drop]
theorem RefSS.drewN {w : World} {B : Nat} {v : Value} {us : List Value} {xsss : List (List (List Int))} (n : Nat) (a : RefSS w B w.heap v us xsss) : RefSS (w.drewN n) B (w.drewN n).heap v us xsss := ⟨own_same a.row (fun _ _ => rfl), a.each⟩
theorem IntSSS.drop {h : Array Obj} {ao : Option Addr} {c : Nat} {yss : List (List (List Int))} (x : IntSSS h (.slice ao yss.length c) yss) (k : Nat) (hk : k ≤ yss.length) : IntSSS h (.slice (dropA ao c k) (yss.length - k) (c - k)) (yss.drop k) := by
  obtain ⟨vs, h1, h2, h3⟩ := x
  have := slAt_drop (k := k) (by rw [h2]; exact h1) (by omega)
  rw [h2] at this
  exact ⟨_, this, by simp [h2], fun i u ys hu hy => by
    rw [List.getElem?_drop] at hu hy
    exact h3 _ u ys hu hy⟩
theorem IntSSS.take {h : Array Obj} {ao : Option Addr} {c : Nat} {yss : List (List (List Int))} (x : IntSSS h (.slice ao yss.length c) yss) (k : Nat) (hk : k ≤ yss.length) : IntSSS h (.slice ao k c) (yss.take k) := by
  obtain ⟨vs, h1, h2, h3⟩ := x
  have := slAt_take (m := k) (by rw [h2]; exact h1) (by omega)
  refine ⟨_, this, by simp [h2], fun i u ys hu hy => ?_⟩
  rw [List.getElem?_take] at hu hy
  split at hu
  · rename_i hi
    rw [if_pos hi] at hy
    exact h3 _ u ys hu hy
  · cases hu
section
variable {ops : Array Oper} {o : Oper} {a : Act} {Q : Exit → Act → World → Prop} {K : Act → World → Prop} {E : Prop}
theorem step_append_allSS {w w0 : World} (hg : o.guard = none) (s x : Operand)
    (ho : o.op = .call { callee := .builtin .append, args := #[s, x], argTypes := #[42, 42] })
    (B : Nat) (v vx : Value) (us : List Value) (xsss ysss : List (List (List Int))) (hR : RefSS w B w.heap v us xsss) (hs : a.eval s = v) (hX : IntSSS w.heap vx ysss) (hx : a.eval x = vx) (hbl : Below B w0 w) (hB : B ≤ w.heap.size)
    (hn : xsss.length + ysss.length ≤ 4398046511104)
    (hK : ∀ v' us' w', RefSS w' B w'.heap v' us' (xsss ++ ysss) → Below B w0 w' → w.heap.size ≤ w'.heap.size → (∀ b, b < w.heap.size → some b ≠ v.ownBlock → w'.heap[b]? = w.heap[b]?) → K (a.put o.dst v') w') :
    if Region.wanted o (yielded ops a.tmps) = true then Oper.wp Tryz.prog o a w K Q else E := by
  obtain ⟨i0, hi, hz0, hz1, hz2⟩ := info_parts info_slSS
  obtain ⟨vs, hS, hvl, hve⟩ := hX
  refine step_append_all hg s x _ ho B _ i0 _ 24 Tryz.underlying42 hi hz0 hz1 hz2 rfl (by omega) v vx _ us vs hR.row hs hS hx hbl hB (fun u hu => ?_) (by omega) ?_
  · obtain ⟨i, hi, rfl⟩ := List.getElem_of_mem hu
    exact intSS_oneCell (hve i _ _ (List.getElem?_eq_getElem hi) (List.getElem?_eq_getElem (show i < ysss.length by omega)))
  · intro v' w' h1 h2 h3 h4
    have hk := KeepT.grown hR.row h4
    have hl := hR.len
    refine hK v' _ w' ⟨by rw [List.length_append, ← hvl]; exact h1, fun i y ys hy hz => ?_⟩ h2 h3 h4
    by_cases hi : i < us.length
    · rw [List.getElem?_append_left hi] at hy
      rw [List.getElem?_append_left (by omega)] at hz
      exact (hR.each i y ys hy hz).keepT (by decide) (by decide) hk
    · rw [List.getElem?_append_right (by omega)] at hy hz
      rw [← hl] at hz
      exact (hve _ y ys hy hz).keepT (by decide) (by decide) hk
end
set_option maxRecDepth 100000 in
set_option maxHeartbeats 1000000 in
theorem l06Toggle_c (v u : Value) (L : List (List (List Int))) (q : List (List Int)) (w : World) (h : IntSSS w.heap v L) (hu : IntSS w.heap u q) (hL : ∀ y ∈ L, IsPr y) (hq : IsPr q) (hl : L.length < 4398046511104) :
    Calls Tryz.prog 179 #[v, u] w fun e w' => ∃ r us, e = .returned r ∧ RefSS w' w.heap.size w'.heap r us (putP q L) ∧ Below w.heap.size w w' := by
  have BF := Lib.hid (fun (y : Value) (ys : List (List Int)) (W : World) (h1 : IntSS W.heap y ys) (h2 : IntSS W.heap u q) (hp : IsPr ys) => l06Before_c y u ys q W h1 h2 hp hq)
  have SM := Lib.hid (fun (y : Value) (ys : List (List Int)) (W : World) (h1 : IntSS W.heap y ys) (h2 : IntSS W.heap u q) => l01Same2_c y u ys q W h1 h2)
  obtain ⟨ao, c, rfl, hm⟩ := h.len
  obtain ⟨pa, pc, rfl, hm2⟩ := hu.len
  have hcap : L.length ≤ c := by
    obtain ⟨us, h1, h2, _⟩ := h
    obtain ⟨a', c', hv', h3, _⟩ := SlAt.len h1
    simp only [Value.slice.injEq] at hv'
    omega
  have H := Lib.hid h; have HQ := Lib.hid hu; have HL := Lib.hid hL
  have PS := Lib.hid (fun k => putP_split hq hL k)
  clear h hu hL hq
  go_enter Tryz.func179, Tryz.ntmps179
  go_wp2_with fail
  go_loopw [5] (fun i wr => ∃ k n : Nat, k ≤ L.length ∧ i = .int .i64 k ∧ wr = w.drewN n ∧ ∀ j, j < k → ltL (encP (L.getD j [])) (encP q) = true) (fun i _ => L.length - (intOf i).toNat)
  case atStart => exact ⟨0, 0, Nat.zero_le _, rfl, rfl, fun j hj => by omega⟩
  case round =>
    obtain ⟨k, n, hk, rfl, rfl, hpre⟩ := hrel
    have HP := Lib.hid hpre; clear hpre
    have b0 : (0 : Int) ≤ k := by omega
    have b1 : (k : Int) ≤ c := by omega
    have b6 : (k : Int) ≤ L.length := by omega
    by_cases hlt : k < L.length
    · obtain ⟨b1', o1, c1, uk, hv1, hc1, huk, -⟩ := H.out.at k hlt
      simp only [Value.slice.injEq, true_and] at hv1
      obtain ⟨rfl, rfl⟩ := hv1
      obtain ⟨qa0, qc0, rfl, -⟩ := huk.len
      rw [show L[k] = L.getD k [] by simp [hlt]] at huk hc1
      have HPK : Hid (IsPr (L.getD k [])) := by
        show IsPr _
        rw [show L.getD k [] = L[k] by simp [hlt]]; exact HL.out _ (List.getElem_mem hlt)
      have HUK := Lib.hid huk
      have hki : (k : Int) < L.length := by omega
      clear huk
      have B1 := Lib.hid (BF.out (.slice qa0 (L.getD k []).length qc0) _ (w.drewN n) HUK.out HQ.out HPK.out)
      cases hL : ltL (encP (L.getD k [])) (encP q)
      · rw [hL] at B1
        by_cases heq : L.getD k [] = q
        · have HS : Hid (putP q L = L.take k ++ L.drop (k + 1)) := by
            show _ = _
            rw [PS.out k hk HP.out (fun _ => hL), if_pos ⟨hlt, heq⟩]
          have M1 := Lib.hid (fun (W : World) (h : IntSS W.heap (.slice qa0 (L.getD k []).length qc0) (L.getD k [])) (h2 : IntSS W.heap (.slice pa q.length pc) q) => SM.out _ _ W h h2)
          rw [show decide (L.getD k [] = q) = true by simpa using heq] at M1
          have b2 : (0 : Int) ≤ (k : Int) + 1 := by omega
          have b3 : (k : Int) + 1 ≤ L.length := by omega
          have b4 : ((k : Int) + 1).toNat = k + 1 := by omega
          have b5 : IntKind.i64.wrap ((k : Int) + 1) = (k : Int) + 1 := IntWalk.i64_in _ (by omega)
          clear hL heq
          generalize L.getD k [] = ys at *
          by_cases hck : c = k + 1
          · obtain rfl : c = k + 1 := hck
            have HDR : Hid (IntSSS w.heap (.slice (some ⟨b1', o1, none⟩) (L.length - (k + 1)) 0) (L.drop (k + 1))) := by
              have := H.out.drop (k + 1) (by omega)
              rw [dropA, if_pos rfl, Nat.sub_self] at this
              exact this
            go_wp2_with (first | (go_at_call 225; refine B1.out.mono ?_; rintro e W2 ⟨rfl, n2, rfl⟩) | (at_builtin; refine append_allSS rfl _ _ rfl w.heap.size (.slice (some ⟨w.heap.size, 0, none⟩) 0 0) (.slice (some ⟨b1', o1, none⟩) k (k + 1)) [] [] (L.take k) (refSS_empty _ (Nat.le_refl _)) rfl ((H.out.take k hk).same (alloc_old _ _)) rfl ((below_drewN _ (Below.refl _ w)).alloc (Nat.le_refl _) _) (by simp) (by simp; omega) ?_; intro v1 us1 w1 hR1 hb1 hs1 hk1; obtain ⟨sa, sn, sc, rfl⟩ := own_shape hR1.row; have hcx1 := (hb1.cell (World.block_lt_of_cell? _ _ hc1)).trans hc1; have HR1 := Lib.hid hR1; have HB1 := Lib.hid hb1; clear hR1 hb1 hs1 hk1) | (go_at_call 226; refine (M1.out _ (HUK.out.same HB1.out.block) (HQ.out.same HB1.out.block)).mono ?_; rintro e W3 ⟨rfl, n3, rfl⟩) | (at_builtin; refine append_allSS rfl _ _ rfl w.heap.size _ (.slice (some ⟨b1', o1, none⟩) (L.length - (k + 1)) 0) us1 (L.take k) (L.drop (k + 1)) (HR1.out.drewN n3) rfl (HDR.out.same HB1.out.block) rfl (below_drewN _ HB1.out) HB1.out.size (by simp; omega) ?_; intro v4 us4 w4 hR4 hb4 _ _; obtain ⟨ta, tn, tc, rfl⟩ := own_shape hR4.row) | (at_builtin; refine append_allSS rfl _ _ rfl w.heap.size _ (.slice (some ⟨b1', o1, none⟩) (L.length - (k + 1)) (k + 1 - (k + 1))) us1 (L.take k) (L.drop (k + 1)) (HR1.out.drewN n3) rfl (by have := HDR.out.same HB1.out.block; rw [Nat.sub_self]; exact this) rfl (below_drewN _ HB1.out) HB1.out.size (by simp; omega) ?_; intro v4 us4 w4 hR4 hb4 _ _; obtain ⟨ta, tn, tc, rfl⟩ := own_shape hR4.row) | (at_builtin; refine append_allSS rfl _ _ rfl w.heap.size _ (.slice (some ⟨b1', o1, none⟩) 0 0) us1 (L.take k) (L.drop (k + 1)) (HR1.out.drewN n3) rfl (by have := HDR.out.same HB1.out.block; rw [show L.length - (k + 1) = 0 by omega] at this; exact this) rfl (below_drewN _ HB1.out) HB1.out.size (by simp; omega) ?_; intro v4 us4 w4 hR4 hb4 _ _; obtain ⟨ta, tn, tc, rfl⟩ := own_shape hR4.row))
            all_goals
              go_ret
              exact ⟨_, us4, rfl, by rw [HS.out]; exact hR4, hb4⟩
          · have HDR : Hid (IntSSS w.heap (.slice (some ⟨b1', o1 + (k + 1), none⟩) (L.length - (k + 1)) (c - (k + 1))) (L.drop (k + 1))) := by
              have := H.out.drop (k + 1) (by omega)
              rw [dropA, if_neg hck] at this
              exact this
            go_wp2_with (first | (go_at_call 225; refine B1.out.mono ?_; rintro e W2 ⟨rfl, n2, rfl⟩) | (at_builtin; refine append_allSS rfl _ _ rfl w.heap.size (.slice (some ⟨w.heap.size, 0, none⟩) 0 0) (.slice (some ⟨b1', o1, none⟩) k c) [] [] (L.take k) (refSS_empty _ (Nat.le_refl _)) rfl ((H.out.take k hk).same (alloc_old _ _)) rfl ((below_drewN _ (Below.refl _ w)).alloc (Nat.le_refl _) _) (by simp) (by simp; omega) ?_; intro v1 us1 w1 hR1 hb1 hs1 hk1; obtain ⟨sa, sn, sc, rfl⟩ := own_shape hR1.row; have hcx1 := (hb1.cell (World.block_lt_of_cell? _ _ hc1)).trans hc1; have HR1 := Lib.hid hR1; have HB1 := Lib.hid hb1; clear hR1 hb1 hs1 hk1) | (go_at_call 226; refine (M1.out _ (HUK.out.same HB1.out.block) (HQ.out.same HB1.out.block)).mono ?_; rintro e W3 ⟨rfl, n3, rfl⟩) | (at_builtin; refine append_allSS rfl _ _ rfl w.heap.size _ (.slice (some ⟨b1', o1 + (k + 1), none⟩) (L.length - (k + 1)) (c - (k + 1))) us1 (L.take k) (L.drop (k + 1)) (HR1.out.drewN n3) rfl (HDR.out.same HB1.out.block) rfl (below_drewN _ HB1.out) HB1.out.size (by simp; omega) ?_; intro v4 us4 w4 hR4 hb4 _ _; obtain ⟨ta, tn, tc, rfl⟩ := own_shape hR4.row))
            all_goals
              go_ret
              exact ⟨_, us4, rfl, by rw [HS.out]; exact hR4, hb4⟩
        · have HS : Hid (putP q L = L.take k ++ q :: L.drop k) := by
            show _ = _
            rw [PS.out k hk HP.out (fun _ => hL), if_neg (fun x => heq x.2)]
          have M1 := Lib.hid (fun (W : World) (h : IntSS W.heap (.slice qa0 (L.getD k []).length qc0) (L.getD k [])) (h2 : IntSS W.heap (.slice pa q.length pc) q) => SM.out _ _ W h h2)
          rw [show decide (L.getD k [] = q) = false by simpa using heq] at M1
          have hck : c ≠ k := by omega
          have HD : Hid (dropA (some ⟨b1', o1, none⟩) c k = some ⟨b1', o1 + k, none⟩) := by
            show _ = _
            have : c ≠ k := by omega
            simp [dropA, this, Addr.add]
          clear hL heq
          generalize L.getD k [] = ys at *
          go_wp2_with (first | (go_at_call 225; refine B1.out.mono ?_; rintro e W2 ⟨rfl, n2, rfl⟩) | (at_builtin; refine append_allSS rfl _ _ rfl w.heap.size (.slice (some ⟨w.heap.size, 0, none⟩) 0 0) (.slice (some ⟨b1', o1, none⟩) k c) [] [] (L.take k) (refSS_empty _ (Nat.le_refl _)) rfl ((H.out.take k hk).same (alloc_old _ _)) rfl ((below_drewN _ (Below.refl _ w)).alloc (Nat.le_refl _) _) (by simp) (by simp; omega) ?_; intro v1 us1 w1 hR1 hb1 hs1 hk1; obtain ⟨sa, sn, sc, rfl⟩ := own_shape hR1.row; have hcx1 := (hb1.cell (World.block_lt_of_cell? _ _ hc1)).trans hc1; have HR1 := Lib.hid hR1; have HB1 := Lib.hid hb1; clear hR1 hb1 hs1 hk1) | (go_at_call 226; refine (M1.out _ (HUK.out.same HB1.out.block) (HQ.out.same HB1.out.block)).mono ?_; rintro e W3 ⟨rfl, n3, rfl⟩))
          go_region_held3 (fun _ => True) (trivial)
            (first | (refine step_append_refSS (w0 := w) (wE := w1) (by rfl) _ _ (by rfl) w.heap.size _ (.slice pa q.length pc) us1 _ q HR1.out (by rfl) ((HQ.out.same HB1.out.block).same (alloc_old _ _)) (by first | exact (below_drewN _ (Below.refl _ w1)).alloc (Nat.le_refl _) _ | exact ((Below.refl _ w1).drew).alloc (Nat.le_refl _) _) HB1.out HB1.out.size w1.heap.size (by rfl) (by exact heap_alloc_new _ _) (by simp; omega) ?_; intro v2 us2 w2 hR2 hb2 hs2 hk2; obtain ⟨ta, tn, tc, rfl⟩ := own_shape hR2.row) | (refine step_append_allSS (w0 := w) (by rfl) _ _ (by rfl) w.heap.size _ (.slice (some ⟨b1', o1 + k, none⟩) (L.length - k) (c - k)) us2 _ (L.drop k) hR2 (by rfl) (by have := (H.out.drop k hk).same hb2.block; rw [HD.out ] at this; exact this) (by rfl) hb2 hb2.size (by simp; omega) ?_; intro v3 us3 w3 hR3 hb3 _ _; obtain ⟨qa, qn, qc, rfl⟩ := own_shape hR3.row) | fail)
          go_wp2_with fail
          all_goals
            go_ret
            exact ⟨_, us3, rfl, by rw [HS.out]; simpa using hR3, hb3⟩
      · rw [hL] at B1
        have HPS : Hid (∀ j, j < k + 1 → ltL (encP (L.getD j [])) (encP q) = true) := fun j hj => by
          by_cases e : j = k
          · rw [e]; exact hL
          · exact HP.out j (by omega)
        clear hL
        generalize L.getD k [] = ys at *
        go_wp2_with (go_at_call 225; refine B1.out.mono ?_; rintro e W2 ⟨rfl, n2, rfl⟩)
        go_roundw
        case rel => exact ⟨k + 1, _, by omega, by go_num, by first | rfl | (simp only [World.drewN_drewN]; rfl), HPS.out⟩
        case measure => simp [intOf]; omega
    · have HS : Hid (putP q L = L.take k ++ q :: L.drop k) := by
        show _ = _
        rw [PS.out k hk HP.out (fun h => absurd h hlt), if_neg (fun x => hlt x.1)]
      have hnlt : decide ((k : Int) < (L.length : Int)) = false := decide_eq_false (by omega)
      by_cases hck : c = k
      · obtain rfl : k = c := hck.symm
        have HD : Hid (dropA ao k k = ao) := by show _ = _; rw [dropA, if_pos rfl]
        go_wp2_with (at_builtin; refine append_allSS rfl _ _ rfl w.heap.size (.slice (some ⟨w.heap.size, 0, none⟩) 0 0) (.slice ao k k) [] [] (L.take k) (refSS_empty _ (Nat.le_refl _)) rfl ((H.out.take k hk).same (alloc_old _ _)) rfl ((below_drewN _ (Below.refl _ w)).alloc (Nat.le_refl _) _) (by simp) (by simp; omega) ?_; intro v1 us1 w1 hR1 hb1 hs1 hk1; obtain ⟨sa, sn, sc, rfl⟩ := own_shape hR1.row; have HR1 := Lib.hid hR1; have HB1 := Lib.hid hb1; clear hR1 hb1 hs1 hk1)
        go_region_held3 (fun _ => True) (trivial)
          (first | (refine step_append_refSS (w0 := w) (wE := w1) (by rfl) _ _ (by rfl) w.heap.size _ (.slice pa q.length pc) us1 _ q HR1.out (by rfl) ((HQ.out.same HB1.out.block).same (alloc_old _ _)) (by first | exact (below_drewN _ (Below.refl _ w1)).alloc (Nat.le_refl _) _ | exact ((Below.refl _ w1).drew).alloc (Nat.le_refl _) _) HB1.out HB1.out.size w1.heap.size (by rfl) (by exact heap_alloc_new _ _) (by simp; omega) ?_; intro v2 us2 w2 hR2 hb2 hs2 hk2; obtain ⟨ta, tn, tc, rfl⟩ := own_shape hR2.row) | (refine step_append_allSS (w0 := w) (by rfl) _ _ (by rfl) w.heap.size _ (.slice ao 0 0) us2 _ (L.drop k) hR2 (by rfl) (by have := (H.out.drop k hk).same hb2.block; rw [HD.out , Nat.sub_self, show L.length - k = 0 by omega] at this; exact this) (by rfl) hb2 hb2.size (by simp; omega) ?_; intro v3 us3 w3 hR3 hb3 _ _; obtain ⟨qa, qn, qc, rfl⟩ := own_shape hR3.row) | fail)
        go_wp2_with fail
        all_goals
          go_ret
          exact ⟨_, us3, rfl, by rw [HS.out]; simpa using hR3, hb3⟩
      · have HD : Hid (dropA ao c k = ao.map (·.add k)) := by show _ = _; rw [dropA, if_neg hck]
        go_wp2_with (at_builtin; refine append_allSS rfl _ _ rfl w.heap.size (.slice (some ⟨w.heap.size, 0, none⟩) 0 0) (.slice ao k c) [] [] (L.take k) (refSS_empty _ (Nat.le_refl _)) rfl ((H.out.take k hk).same (alloc_old _ _)) rfl ((below_drewN _ (Below.refl _ w)).alloc (Nat.le_refl _) _) (by simp) (by simp; omega) ?_; intro v1 us1 w1 hR1 hb1 hs1 hk1; obtain ⟨sa, sn, sc, rfl⟩ := own_shape hR1.row; have HR1 := Lib.hid hR1; have HB1 := Lib.hid hb1; clear hR1 hb1 hs1 hk1)
        go_region_held3 (fun _ => True) (trivial)
          (first | (refine step_append_refSS (w0 := w) (wE := w1) (by rfl) _ _ (by rfl) w.heap.size _ (.slice pa q.length pc) us1 _ q HR1.out (by rfl) ((HQ.out.same HB1.out.block).same (alloc_old _ _)) (by first | exact (below_drewN _ (Below.refl _ w1)).alloc (Nat.le_refl _) _ | exact ((Below.refl _ w1).drew).alloc (Nat.le_refl _) _) HB1.out HB1.out.size w1.heap.size (by rfl) (by exact heap_alloc_new _ _) (by simp; omega) ?_; intro v2 us2 w2 hR2 hb2 hs2 hk2; obtain ⟨ta, tn, tc, rfl⟩ := own_shape hR2.row) | (refine step_append_allSS (w0 := w) (by rfl) _ _ (by rfl) w.heap.size _ (.slice (ao.map (·.add k)) (L.length - k) (c - k)) us2 _ (L.drop k) hR2 (by rfl) (by have := (H.out.drop k hk).same hb2.block; rw [HD.out ] at this; exact this) (by rfl) hb2 hb2.size (by simp; omega) ?_; intro v3 us3 w3 hR3 hb3 _ _; obtain ⟨qa, qn, qc, rfl⟩ := own_shape hR3.row) | fail)
        go_wp2_with fail
        all_goals
          go_ret
          exact ⟨_, us3, rfl, by rw [HS.out]; simpa using hR3, hb3⟩
end
section
open Go.RowKit Go.Sort

def SplitOk : Prop := ∀ (v : Value) (r : List Int) (w : World), IntS w.heap v r → isExp r = true → deg r ≤ 40 →
    Calls Tryz.prog 178 #[v] w fun e w' => ∃ r' us, e = .returned r' ∧ RefSS w' w.heap.size w'.heap r' us (copL r) ∧ Below w.heap.size w w'
set_option maxRecDepth 100000 in
set_option maxHeartbeats 1000000 in
theorem l06Coproduct_of (SP : SplitOk) (v : Value) (xss : List (List Int)) (w : World) (h : IntSS w.heap v xss) (hT : arT xss = true) (hx504 : xss.length ≤ 504) :
    Calls Tryz.prog 99 #[v] w fun e w' => ∃ r us, e = .returned r ∧ RefSS w' w.heap.size w'.heap r us (oddP (copsL xss)) ∧ Below w.heap.size w w' := by
  obtain ⟨ao, c, rfl, hm⟩ := h.len
  have H := Lib.hid h; have SP' := Lib.hid SP
  have HLN := Lib.hid (fun n => copsL_len hT n hx504)
  have HRW := Lib.hid (fun r (hr : r ∈ xss) => copsL_row hT hr)
  have HPR := Lib.hid (fun q hq => (copsL_ok hT q hq).pr)
  clear h hT SP
  go_enter Tryz.func99, Tryz.ntmps99
  go_wp2_with fail
  go_loopw [3, 4] (fun o i wr => ∃ (k : Nat) (us : List Value), k ≤ xss.length ∧ i = .int .i64 k ∧ RefSS wr w.heap.size wr.heap o us (oddP (copsL (xss.take k))) ∧ Below w.heap.size w wr) (fun _ i _ => xss.length - (intOf i).toNat)
  case atStart => exact ⟨0, [], Nat.zero_le _, rfl, refSS_empty _ (Nat.le_refl _), (Below.refl _ _).alloc (Nat.le_refl _) _⟩
  case round =>
    obtain ⟨k, us, hk, rfl, hU, hbl⟩ := hrel
    obtain ⟨va, vn, vc, rfl⟩ := own_shape hU.row
    have HU := Lib.hid hU; have HBL := Lib.hid hbl
    have hsz := hbl.size
    by_cases hkl : k < xss.length
    · obtain ⟨b1, o1, c1, uk, hv1, hc1, huk, -⟩ := H.out.at k hkl
      simp only [Value.slice.injEq, true_and] at hv1
      obtain ⟨rfl, rfl⟩ := hv1
      have hcx := (hbl.cell (World.block_lt_of_cell? _ _ hc1)).trans hc1
      have HX := Lib.hid (huk.same hbl.block)
      have hrow := HRW.out _ (List.getElem_mem hkl)
      have HDS := Lib.hid (copsL_step xss k hkl)
      have HP1 : Hid (∀ q ∈ copsL (xss.take k), IsPr q) := fun q hq => by
        obtain ⟨r, hr, hq⟩ := List.mem_flatMap.1 hq
        exact HPR.out q (List.mem_flatMap.2 ⟨r, List.mem_of_mem_take hr, hq⟩)
      have HP2 : Hid (∀ q ∈ copL xss[k], IsPr q) := fun q hq => HPR.out q (List.mem_flatMap.2 ⟨_, List.getElem_mem hkl, hq⟩)
      obtain ⟨qa, qc, rfl, -⟩ := huk.len
      have CO := Lib.hid (fun (W : World) (h : IntS W.heap (.slice qa xss[k].length qc) xss[k]) => SP'.out _ xss[k] W h hrow.1 hrow.2)
      have hl1 := HLN.out k
      have hl2 := copL_len hrow.1 hrow.2
      have hki : (k : Int) < xss.length := by omega
      clear hU hbl hc1 huk hrow
      generalize xss[k] = r at *
      generalize copsL (xss.take k) = A at *
      generalize copL r = M at *
      go_wp2_with (go_at_call 178; refine (CO.out _ HX.out).mono ?_; rintro e w3 ⟨r3, us3, rfl, hU3, hb3⟩; obtain ⟨da, dc, rfl, -⟩ := (hU3.ints (fun _ _ => rfl)).len; have HM := Lib.hid (hU3.ints (fun _ _ => rfl)); have HU3 := Lib.hid (HU.out.step hb3 (fun _ _ => rfl)); have HB3 := Lib.hid (HBL.out.trans (hb3.mono hsz)); clear hU3 hb3)
      go_loopw [3, 6] (fun o j wk => ∃ (t : Nat) (us : List Value), t ≤ M.length ∧ j = .int .i64 t ∧ RefSS wk w.heap.size wk.heap o us (oddP (A ++ M.take t)) ∧ Below w3.heap.size w3 wk) (fun _ j _ => M.length - (intOf j).toNat)
      case atStart => exact ⟨0, us, Nat.zero_le _, rfl, by simpa using HU3.out, Below.refl _ _⟩
      case round =>
        obtain ⟨t, us2, ht, rfl, hO, hb2⟩ := hrel
        obtain ⟨ya, yc, rfl, -⟩ := (hO.ints (fun _ _ => rfl)).len
        have HO := Lib.hid (hO.ints (fun _ _ => rfl)); have HO0 := Lib.hid hO; have HB2 := Lib.hid hb2
        have HBW := Lib.hid (HB3.out.trans (hb2.mono HB3.out.size))
        by_cases htl : t < M.length
        · obtain ⟨b2, o2, c2, u2, hv2, hc2, hu2, -⟩ := HM.out.at t htl
          simp only [Value.slice.injEq, true_and] at hv2
          obtain ⟨rfl, rfl⟩ := hv2
          have hcy := (hb2.cell (World.block_lt_of_cell? _ _ hc2)).trans hc2
          have HY := Lib.hid (hu2.same hb2.block)
          obtain ⟨za, zc, rfl, -⟩ := hu2.len
          have HS : Hid (oddP (A ++ M.take (t + 1)) = putP M[t] (oddP (A ++ M.take t))) := by
            show _ = _
            rw [List.take_succ_eq_append_getElem htl, ← List.append_assoc, oddP_snoc]
          have hpq : ∀ y ∈ oddP (A ++ M.take t), IsPr y := fun y hy => by
            rcases List.mem_append.1 (oddP_mem hy) with h | h
            · exact HP1.out y h
            · exact HP2.out y (List.mem_of_mem_take h)
          have hpm := HP2.out _ (List.getElem_mem htl)
          have hll : (oddP (A ++ M.take t)).length < 4398046511104 := by
            have := oddP_length (A ++ M.take t)
            rw [List.length_append, List.length_take] at this
            omega
          have TG := Lib.hid (fun (W : World) (h : IntSSS W.heap (.slice ya (oddP (A ++ M.take t)).length yc) (oddP (A ++ M.take t))) (hu : IntSS W.heap (.slice za M[t].length zc) M[t]) => l06Toggle_c _ _ _ M[t] W h hu hpq hpm hll)
          have hti : (t : Int) < M.length := by omega
          clear hO hb2 hc2 hu2 hpq hpm hll
          generalize M[t] = z at *
          generalize oddP (A ++ M.take t) = R at *
          go_wp2_with (go_at_call 179; refine (TG.out _ HO.out HY.out).mono ?_; rintro e w8 ⟨r8, us8, rfl, hU8, hb8⟩; obtain ⟨ta, tn, tc, rfl⟩ := own_shape hU8.row)
          go_roundw
          case rel => exact ⟨t + 1, us8, by omega, by go_num, by rw [HS.out]; exact hU8.base HBW.out.size, HB2.out.trans (hb8.mono HB2.out.size)⟩
          case measure => simp [intOf]; omega
        · obtain rfl : t = M.length := by omega
          rw [List.take_length, ← HDS.out] at HO0 ⊢
          clear hO hb2
          go_wp2_with fail
          go_roundw
          case rel => exact ⟨k + 1, us2, by omega, by go_num, HO0.out, HBW.out⟩
          case measure => simp [intOf]; omega
    · obtain rfl : k = xss.length := by omega
      rw [List.take_length] at HU
      clear hU hbl
      go_wp2_with fail
      go_ret
      exact ⟨_, _, rfl, HU.out, HBL.out⟩
end
section

/-- The same products, the second factors outside. -/
def prodQ (A F : List (List (List Int))) : List (List (List Int)) := F.flatMap fun q => A.map fun p => pjoin p q
theorem prodP_cons (p : List (List Int)) (A F : List (List (List Int))) : prodP (p :: A) F = F.map (pjoin p) ++ prodP A F := rfl
theorem prodQ_cons (p : List (List Int)) (A : List (List (List Int))) : ∀ F : List (List (List Int)), (prodQ (p :: A) F).Perm (F.map (pjoin p) ++ prodQ A F)
  | [] => List.Perm.refl _
  | q :: F => by
    have ih := prodQ_cons p A F
    show (pjoin p q :: (A.map (fun p => pjoin p q) ++ prodQ (p :: A) F)).Perm (pjoin p q :: (F.map (pjoin p) ++ (A.map (fun p => pjoin p q) ++ prodQ A F)))
    refine List.Perm.cons _ ?_
    refine (List.Perm.append_left _ ih).trans ?_
    rw [← List.append_assoc, ← List.append_assoc]
    exact List.Perm.append_right _ List.perm_append_comm
theorem prodQ_perm (F : List (List (List Int))) : ∀ A : List (List (List Int)), (prodQ A F).Perm (prodP A F)
  | [] => by
    have : prodQ [] F = [] := by unfold prodQ; simp
    rw [this]; exact List.Perm.refl _
  | p :: A => (prodQ_cons p A F).trans (by rw [prodP_cons]; exact List.Perm.append_left _ (prodQ_perm F A))
theorem oddP_order {b c : Int} {l m : Nat} {A F : List (List (List Int))} (hA : ∀ p ∈ A, PrS b l p) (hF : ∀ q ∈ F, PrS c m q) : oddP (prodQ A F) = oddP (prodP A F) :=
  (oddP_perm (prodP_pr hA hF) (prodQ_perm F A).symm).symm
theorem scale_singL (n : Nat) (e c : Int) : scaleL c (singL n e) = singL n (e * c) := by
  unfold scaleL singL
  split
  · rfl
  · simp
end
section
open Go.RowKit Go.Sort

set_option maxRecDepth 100000 in
theorem l06Power_c (n : Nat) (e : Int) (w : World) (hn : n ≤ 1000) (he : 1 ≤ e) :
    Calls Tryz.prog 168 #[.int .i64 n, .int .i64 e] w fun r w' => ∃ v, r = .returned v ∧ OwnI w' w.heap.size v (singL n e) ∧ Below w.heap.size w w' := by
  have te := (neB (show e ≠ 0 by omega)).1
  cases n with
  | zero =>
    go_enter Tryz.func168, Tryz.ntmps168
    go_wp2_with fail
    go_ret
    exact ⟨_, rfl, ownI_empty (Nat.le_refl _), (Below.refl _ _).alloc (Nat.le_refl _) _⟩
  | succ m =>
    have hmk := fun w => make_run (P := Tryz.prog) 56 2 _ 8 info_int64 Tryz.underlying56 rfl (by omega) (m + 1) (by omega) .i64 .i64 ((m : Int) + 1) ((m : Int) + 1) (by omega) (by omega) w
    have hmo := made_own w w.heap.size 2 (m + 1) (.int .i64 0) (Nat.le_refl _) (by omega)
    have hmo2 : (w.alloc (.cells (madeCells #[.int .i64 0] (m + 1)) 2)).ownsRow w.heap.size 2 1 (.slice (some ⟨w.heap.size, 0, none⟩) (m + 1) (m + 1)) (m + 1) ((List.replicate (m + 1) (0 : Int)).map (Value.int .i64)) := by simpa using hmo
    obtain ⟨W5, hW5⟩ : ∃ W5, W5 = w.alloc (.cells (madeCells #[.int .i64 0] (m + 1)) 2) := ⟨_, rfl⟩
    have hb5 : Below w.heap.size w W5 := by rw [hW5]; exact (Below.refl _ _).alloc (Nat.le_refl _) _
    rw [← hW5] at hmo2
    have q0 := own_int_at hmo2 m (by omega)
    rw [show (List.replicate (m + 1) (0 : Int)).getD m 0 = 0 by simp] at q0
    have f0 := hmo2.frozenAt m
    have hst := own_int_set hmo2 m e
    rw [singL_set] at hst
    have HST : Hid (OwnI (W5.setCell ⟨w.heap.size, m, none⟩ (.int .i64 e)) w.heap.size (.slice (some ⟨w.heap.size, 0, none⟩) (m + 1) (m + 1)) (singL (m + 1) e)) := by
      show OwnI _ _ _ _
      unfold OwnI
      rw [singL_length]; exact hst
    have HB5 := Lib.hid (hb5.setCell (p := ⟨w.heap.size, m, none⟩) (Nat.le_refl _) (.int .i64 e))
    have HW5 := Lib.hid hW5
    clear hmo hmo2 hst hb5 hW5
    have hs1 : (m : Int) + 1 - 1 = m := by omega
    have hi0 : (0 : Int) ≤ m := by omega
    have t0 := (neB (show (m : Int) + 1 ≠ 0 by omega)).1
    rw [show ((m + 1 : Nat) : Int) = (m : Int) + 1 by omega]
    go_enter Tryz.func168, Tryz.ntmps168
    go_upto_region 4 with fail
    rw [← HW5.out]
    clear hmk
    go_wp2_with fail
    go_ret
    exact ⟨_, rfl, HST.out, HB5.out⟩
set_option maxRecDepth 100000 in
theorem l06Scaled_c (v : Value) (r : List Int) (c : Int) (w : World) (h : IntS w.heap v r) (hs : Sm 1000000000000 r) (hc0 : 0 ≤ c) (hc : c ≤ 1000) (hl : r.length ≤ 4398046511104) :
    Calls Tryz.prog 223 #[v, .int .i64 c] w fun e w' => ∃ r', e = .returned r' ∧ OwnI w' w.heap.size r' (scaleL c r) ∧ Below w.heap.size w w' := by
  obtain ⟨ao, cp, rfl, hm⟩ := h.len
  have HX := Lib.hid h; have HRX := Lib.hid hs; clear h hs
  go_enter Tryz.func223, Tryz.ntmps223
  go_wp2_with fail
  go_loopw [5, 6] (fun o i wk => ∃ j : Nat, j ≤ r.length ∧ i = .int .i64 j ∧ OwnI wk w.heap.size o (scaleL c (r.take j)) ∧ Below w.heap.size w wk) (fun _ i _ => r.length - (intOf i).toNat)
  case atStart => exact ⟨0, Nat.zero_le _, rfl, ownI_empty (Nat.le_refl _), (Below.refl _ _).alloc (Nat.le_refl _) _⟩
  case round =>
    obtain ⟨j, hj, rfl, hO, hb2⟩ := hrel
    obtain ⟨ya, yn, yc, rfl⟩ := own_shape hO
    have HO := Lib.hid hO; have HB2 := Lib.hid hb2
    have hsz2 := hb2.size
    by_cases hjl : j < r.length
    · obtain ⟨b2, o2, c2, hv2, hc2, -⟩ := HX.out.at j hjl
      simp only [Value.slice.injEq, true_and] at hv2
      obtain ⟨rfl, rfl⟩ := hv2
      have hcy := (hb2.cell (World.block_lt_of_cell? _ _ hc2)).trans hc2
      obtain ⟨hx0, hx1⟩ := HRX.out _ (List.getElem_mem hjl)
      have HT2 : Hid (scaleL c (r.take (j + 1)) = scaleL c (r.take j) ++ [r[j] * c]) := by
        show _ = _
        unfold scaleL; rw [List.take_succ_eq_append_getElem hjl, List.map_append]; rfl
      have hll : (scaleL c (r.take j)).length ≤ 4398046511104 := by simp [scaleL]; omega
      have HLL2 := Lib.hid hll
      have hji : (j : Int) < r.length := by omega
      clear hO hb2 hc2 hll
      generalize r[j] = x at *
      have hm0 : 0 ≤ x * c := Int.mul_nonneg hx0 hc0
      have hm1 : x * c ≤ 1000000000000000 := Int.le_trans (Int.mul_le_mul hx1 hc hc0 (by omega)) (by omega)
      go_wp2_with (at_builtin; refine append_int rfl _ _ rfl w.heap.size _ _ _ HO.out rfl HB2.out hsz2 _ rfl (by simp) HLL2.out ?_; intro v' w3 hown' hbl' _ _; obtain ⟨qa2, qn2, qc2, rfl⟩ := own_shape hown')
      go_roundw
      case rel => exact ⟨j + 1, by omega, by go_num, by rw [HT2.out]; exact hown', hbl'⟩
      case measure => simp [intOf]; omega
    · obtain rfl : j = r.length := by omega
      rw [List.take_length] at HO
      clear hO hb2
      go_wp2_with fail
      go_ret
      exact ⟨_, rfl, HO.out, HB2.out⟩
/-- The places of the first j binary digits of e that are 1. -/
def digP (e : Nat) : Nat → List Int
  | 0 => []
  | j + 1 => if e.testBit j then digP e j ++ [(j : Int)] else digP e j
theorem digP_len (e : Nat) : ∀ j : Nat, (digP e j).length ≤ j := by
  intro j
  induction j with
  | zero => exact Nat.le_refl _
  | succ j ih =>
    rw [digP]
    split
    · rw [List.length_append, List.length_singleton]; omega
    · omega
theorem digP_end {e j : Nat} (h : e < 2 ^ j) : ∀ k : Nat, digP e (j + k) = digP e j := by
  intro k
  induction k with
  | zero => rfl
  | succ k ih => rw [← Nat.add_assoc, digP, Nat.testBit_lt_two_pow (Nat.lt_of_lt_of_le h (Nat.pow_le_pow_right (by omega) (by omega)))]; exact ih
theorem digP_mem (e : Nat) : ∀ j : Nat, ∀ x ∈ digP e j, ∃ i : Nat, x = i ∧ i < j := by
  intro j
  induction j with
  | zero => intro x hx; cases hx
  | succ j ih =>
    intro x hx
    rw [digP] at hx
    split at hx
    · rcases List.mem_append.1 hx with h | h
      · obtain ⟨i, h1, h2⟩ := ih x h; exact ⟨i, h1, by omega⟩
      · rw [List.mem_singleton] at h; exact ⟨j, h, by omega⟩
    · obtain ⟨i, h1, h2⟩ := ih x hx; exact ⟨i, h1, by omega⟩
set_option maxRecDepth 100000 in
theorem l01Digits_c (e : Nat) (w : World) (he : e < 64) :
    Calls Tryz.prog 222 #[.int .i64 e] w fun r w' => ∃ v, r = .returned v ∧ OwnI w' w.heap.size v (digP e 6) ∧ Below w.heap.size w w' := by
  go_enter Tryz.func222, Tryz.ntmps222
  go_wp2_with fail
  go_loopw [0, 3, 4] (fun n o i wk => ∃ j : Nat, j ≤ 6 ∧ n = .int .i64 ((e / 2 ^ j : Nat) : Int) ∧ i = .int .i64 j ∧ OwnI wk w.heap.size o (digP e j) ∧ Below w.heap.size w wk) (fun n _ _ _ => (intOf n).toNat)
  case atStart => exact ⟨0, by omega, by simp, rfl, ownI_empty (Nat.le_refl _), (Below.refl _ _).alloc (Nat.le_refl _) _⟩
  case round =>
    obtain ⟨j, hj, rfl, rfl, hO, hb2⟩ := hrel
    obtain ⟨ya, yn, yc, rfl⟩ := own_shape hO
    have HO := Lib.hid hO; have HB2 := Lib.hid hb2
    have hsz2 := hb2.size
    have HD : Hid (digP e (j + 1) = if e.testBit j then digP e j ++ [(j : Int)] else digP e j) := rfl
    have hn64 : e / 2 ^ j ≤ 64 := Nat.le_trans (Nat.div_le_self _ _) (by omega)
    have hdd : e / 2 ^ (j + 1) = e / 2 ^ j / 2 := by rw [Nat.pow_succ, Nat.div_div_eq_div_mul]
    have hll : (digP e j).length ≤ 4398046511104 := by have := digP_len e j; omega
    have HLL := Lib.hid hll
    by_cases hz : e / 2 ^ j = 0
    · have hlt : e < 2 ^ j := by
        rcases Nat.lt_or_ge e (2 ^ j) with h | h
        · exact h
        · have := Nat.div_pos h (Nat.two_pow_pos j); omega
      have HE : Hid (digP e 6 = digP e j) := by
        show _ = _
        have := digP_end hlt (6 - j)
        rwa [show j + (6 - j) = 6 by omega] at this
      have u1 : decide ((0 : Int) < ((e / 2 ^ j : Nat) : Int)) = false := decide_eq_false (by omega)
      have u2 : decide (0 < e / 2 ^ j) = false := decide_eq_false (by omega)
      clear hO hb2 hll hdd hlt
      generalize e / 2 ^ j = q at *
      go_wp2_with fail
      go_ret
      exact ⟨_, rfl, by rw [HE.out]; exact HO.out, HB2.out⟩
    · have hj6 : j < 6 := by
        rcases Nat.lt_or_ge j 6 with h | h
        · exact h
        · obtain rfl : j = 6 := by omega
          exact absurd (Nat.div_eq_of_lt (show e < 2 ^ 6 from he)) hz
      have hbt : e.testBit j = decide (e / 2 ^ j % 2 = 1) := by rw [Nat.testBit_eq_decide_div_mod_eq]
      have HDD := Lib.hid hdd
      have hq0 : 0 < e / 2 ^ j := Nat.pos_of_ne_zero hz
      clear hO hb2 hll hdd hz
      obtain ⟨q, hq⟩ : ∃ q, e / 2 ^ j = q := ⟨_, rfl⟩
      rw [hq] at hbt hn64 hq0 HDD ⊢
      clear hq
      have hqi : (0 : Int) < (q : Int) := by omega
      by_cases ho : q % 2 = 1
      · rw [hbt, decide_eq_true ho] at HD
        have u3 := (eqB (show (q : Int) % 2 = 1 by omega)).1
        clear hbt
        go_wp2_with (at_builtin; refine append_int rfl _ _ rfl w.heap.size _ _ _ HO.out rfl HB2.out hsz2 _ rfl (by simp) HLL.out ?_; intro v' w3 hown' hbl' _ _; obtain ⟨qa2, qn2, qc2, rfl⟩ := own_shape hown')
        go_roundw
        case rel => exact ⟨j + 1, by omega, by rw [HDD.out]; simp, by go_num, by rw [HD.out]; exact hown', hbl'⟩
        case measure => simp [intOf]; omega
      · rw [hbt, decide_eq_false ho] at HD
        have u3 := (neB (show (q : Int) % 2 ≠ 1 by omega)).1
        clear hbt
        go_wp2_with fail
        go_roundw
        case rel => exact ⟨j + 1, by omega, by rw [HDD.out]; simp, by go_num, by rw [HD.out]; exact HO.out, HB2.out⟩
        case measure => simp [intOf]; omega
theorem sh_small : ∀ k : Nat, k < 8 → IntKind.i64.wrap (2 ^ min (IntKind.u64.wrap (k : Int)).toNat 64) = (2 : Int) ^ k := by decide +kernel
theorem heldC1' {x1 : Value} {g1 : Addr} {w0 W W' : World} (h : W.cell? g1 = some x1 ∧ Below w0.heap.size w0 W) (hb : Below W.heap.size W W') : W'.cell? g1 = some x1 ∧ Below w0.heap.size w0 W' :=
  ⟨(hb.cell (World.block_lt_of_cell? _ _ h.1)).trans h.1, h.2.trans (hb.mono h.2.size)⟩
theorem heldC1X' {x1 : Value} {g1 : Addr} {w0 W : World} (h : W.cell? g1 = some x1 ∧ Below w0.heap.size w0 W) : Below w0.heap.size w0 W := h.2
theorem odds_mrg (a b : List (List Int)) : mrg (oddL a) (oddL b) = oddL (a ++ b) := by
  rw [mrg_odd (asc_oddL a) (asc_oddL b), ← oddL_append', ← oddL_append]
theorem conjTab_succ {n : Nat} (hn : n < 6) : conjTab (n + 1) = conjTab n ++ [oddL (conjStep (conjTab 6) (n + 1) (n + 1))] := by
  rw [conjTab, conjStep_congr (conjTab n) (conjTab 6) (n + 1) (n + 1) fun i hi => conjTab_get (by omega) (by omega)]
set_option maxRecDepth 100000 in
set_option maxHeartbeats 1000000 in
theorem l06Conjugates_c (w : World) :
    Calls Tryz.prog 206 #[.int .i64 6] w fun e w' => ∃ r us, e = .returned r ∧ OwnRS w' w.heap.size r us (conjTab 6) ∧ Below w.heap.size w w' := by
  have hl0 := ownI_empty (w := w) (B := w.heap.size) (Nat.le_refl _)
  have hl1 := own_u_lit (B := w.heap.size) hl0 (by simp)
  rw [size_alloc_w] at hl1
  have hl3 := ownRS_one (w := (w.alloc (.cells #[] 2)).alloc (.cells #[.slice (some ⟨w.heap.size, 0, none⟩) 0 0] 56)) (B := w.heap.size) hl1 (by simp; omega)
  rw [size_alloc_w, size_alloc_w] at hl3
  have HL := Lib.hid hl3
  clear hl0 hl1 hl3
  go_enter Tryz.func206, Tryz.ntmps206
  go_wp2_with fail
  go_loopw [3, 4] (fun o k wr => ∃ (n : Nat) (us : List Value), n ≤ 6 ∧ k = .int .i64 ((n : Int) + 1) ∧ OwnRS wr w.heap.size o us (conjTab n) ∧ Below w.heap.size w wr) (fun _ k _ => 8 - (intOf k).toNat)
  case atStart => exact ⟨0, _, by omega, rfl, HL.out, (((Below.refl _ _).alloc (Nat.le_refl _) _).alloc (by simp) _).alloc (by simp; omega) _⟩
  case round =>
    obtain ⟨n, us, hn, rfl, hR, hbl⟩ := hrel
    obtain ⟨va, vn, vc, rfl⟩ := own_shape hR.row
    have HR := Lib.hid hR; have HBL := Lib.hid hbl
    have hszr := hbl.size
    by_cases hn6 : n < 6
    · have HTS := Lib.hid (conjTab_succ hn6)
      have HRI := Lib.hid hR.ints
      have hvn : vn = n + 1 := by
        obtain ⟨_, _, hv, _⟩ := HRI.out.len
        simp only [Value.slice.injEq, conjTab_length] at hv
        exact hv.2.1
      subst hvn
      have hni : (n : Int) + 1 ≤ 6 := by omega
      clear hR hbl
      rename World => WR
      go_wp2_with fail
      go_loopw [5, 6] (fun o i wk => ∃ (k : Nat) (us2 : List Value), k ≤ n + 1 ∧ i = .int .i64 k ∧ OwnU wk WR.heap.size o us2 (oddL (conjStep (conjTab 6) (n + 1) k)) ∧ Below WR.heap.size WR wk) (fun _ i _ => n + 1 - (intOf i).toNat)
      case atStart => exact ⟨0, [], Nat.zero_le _, rfl, ⟨World.ownsRow_made WR #[] 0 (Nat.le_refl _) (Nat.zero_le _) rfl, fun i u xs hu => by simp at hu, fun i j u u' _ hu => by simp at hu⟩, (Below.refl _ _).alloc (Nat.le_refl _) _⟩
      case round =>
        obtain ⟨k, us2, hk, rfl, hU, hb2⟩ := hrel
        obtain ⟨ya, yn, yc, rfl⟩ := own_shape hU.row
        have HU := Lib.hid hU; have HB2 := Lib.hid hb2
        have hsz2 := hb2.size
        by_cases hkn : k < n + 1
        · have hki : (k : Int) < (n : Int) + 1 := by omega
          obtain ⟨b1, o1, c1, u1, hv1, hc1, hu1, -⟩ := HRI.out.at k (by rw [conjTab_length]; omega)
          rw [conjTab_length] at hv1
          simp only [Value.slice.injEq, true_and] at hv1
          obtain ⟨rfl, rfl⟩ := hv1
          rw [show (conjTab n)[k]'(by rw [conjTab_length]; omega) = conjX k by rw [← conjTab_at n k (by omega)]; simp [conjTab_length, show k < n + 1 by omega]] at hu1
          have hcx := (hb2.cell (World.block_lt_of_cell? _ _ hc1)).trans hc1
          have HCX := Lib.hid (hu1.same hb2.block)
          obtain ⟨ca, cc, rfl, -⟩ := hu1.len
          obtain ⟨m, hm⟩ : ∃ m : Nat, n + 1 - k = m := ⟨_, rfl⟩
          have hm2 : (n : Int) + 1 - k = m := by omega
          have hm9 : m ≤ 1000 := by omega
          have HN : Hid (conjStep (conjTab 6) (n + 1) (k + 1) = conjStep (conjTab 6) (n + 1) k ++ joinsL [singL m (2 ^ k)] (conjX k)) := by show _ = _; rw [conjStep_next (n + 1) k (by omega), hm]
          have hcl := conjStep_ok (n + 1) (by omega) k (by omega)
          have hcs := conjStep_sm (n + 1) (by omega) k (by omega)
          have hxl := conjX_len (n := k) (by omega)
          have hxs := conjX_sm (n := k) (by omega)
          obtain ⟨hp1, hp2, hp3⟩ := pow2_le k (by omega)
          have hol : (oddL (joinsL [singL m (2 ^ k)] (conjX k))).length ≤ 32 := by
            have h1 := oddL_length (joinsL [singL m (2 ^ k)] (conjX k))
            rw [joinsL_length, List.length_singleton] at h1
            omega
          have hsA : SmS 1000000000000000 4398046511104 [singL m (2 ^ k)] := fun r hr => by
            rw [List.mem_singleton] at hr; subst hr
            exact ⟨singL_sm m _ (by omega) (by omega) (by omega), by rw [singL_length]; omega⟩
          have hsB : SmS 1000000000000000 4398046511104 (conjX k) := fun r hr => ⟨fun x hx => by have := (hxs r hr).1 x hx; omega, by have := (hxs r hr).2; omega⟩
          have hsJ := (hsA.joins hsB (by omega) (by omega)).odd
          have PG := Lib.hid (fun (W : World) => l06Power_c m (2 ^ k) W hm9 (by omega))
          have MD := Lib.hid (fun (v u : Value) (W : World) (h : IntSS W.heap v [singL m (2 ^ k)]) (hu : IntSS W.heap u (conjX k)) => l06Times_c v u _ _ W h hu hsA hsB (by rw [List.length_singleton]; omega))
          have SM := Lib.hid (fun (v u : Value) (W : World) (h : IntSS W.heap v (oddL (conjStep (conjTab 6) (n + 1) k))) (hu : IntSS W.heap u (oddL (joinsL [singL m (2 ^ k)] (conjX k)))) => l01Sum_c v u _ _ W h hu (by have := oddL_length (conjStep (conjTab 6) (n + 1) k); omega) (fun r hr => by have := List.all_eq_true.1 hcs r (mem_oddL_sub hr); simp at this; omega) (fun r hr => (hsJ r hr).2))
          simp only [odds_mrg, ← HN.out] at SM
          have hpw : wrap64 (2 ^ k) = (2 : Int) ^ k := by unfold wrap64; omega
          obtain ⟨E, hE⟩ : ∃ E : Int, (2 : Int) ^ k = E := ⟨_, rfl⟩
          have hpw2 := hpw.trans hE
          rw [hE] at PG MD SM
          have e3 := (sh_small k (by omega)).trans hE
          have e1 : IntKind.i64.wrap ((n : Int) + 1 - k) = m := by rw [hm2]; exact IntWalk.i64_in _ (by omega)
          have e2 : IntKind.i64.wrap (m : Int) = m := IntWalk.i64_in _ (by omega)
          clear hU hb2 hc1 hu1 hm hcl hcs hxl hxs hol hsA hsB hsJ hpw hE hp1 hp2 hp3 hkn
          generalize oddL (joinsL [singL m E] (conjX k)) = px at *
          generalize oddL (conjStep (conjTab 6) (n + 1) k) = py at *
          obtain ⟨pz, hpz⟩ : ∃ pz, oddL (conjStep (conjTab 6) (n + 1) (k + 1)) = pz := ⟨_, rfl⟩
          rw [hpz] at SM
          have HPZ := Lib.hid hpz
          clear hpz
          go_wp2_with fail
          go_region_held3 (fun W => W.cell? ⟨b1, o1 + k, none⟩ = some (.slice ca (conjX k).length cc) ∧ Below wr.heap.size wr W)
            (first | exact ⟨hcx, (Below.refl _ _).drew⟩ | exact heldC1' (by assumption) hx2 | exact heldC1' (by assumption) hx3 | exact heldC1' (by assumption) hx4 | exact heldC1' (by assumption) ((Below.refl _ _).alloc (Nat.le_refl _) _))
            (first | (go_at_call 242; (with_reducible refine (MD.out _ _ _ (by exact one_row hs2.ints) (HCX.out.same (heldC1X' (by assumption)).block)).mono ?_); rintro e W3 ⟨r3, us3, rfl, hU3, hx3⟩; obtain ⟨da, dn, dc, rfl⟩ := own_shape hU3.row) | (go_at_call 101; (with_reducible refine (SM.out _ _ _ (HU.out.ints.same (heldC1X' (by assumption)).block) hU3.ints).mono ?_); rintro e W4 ⟨r4, rfl, ⟨us4, hU4⟩, hx4⟩; obtain ⟨ea, en, ec, rfl⟩ := own_shape hU4.row) | (go_at_call 168; (with_reducible refine (PG.out _).mono ?_); rintro e W2 ⟨r2, rfl, hs2, hx2⟩; obtain ⟨ra, rn, rc, rfl⟩ := own_shape hs2))
          all_goals
            rename_i hh
            have hz2 : wr.heap.size ≤ W2.heap.size := hx2.size
            have hz3 : W2.heap.size + 1 ≤ W3.heap.size := by have := hx3.size; simpa using this
            have HB4 := Lib.hid (HB2.out.trans (hh.2.mono hsz2))
            have HU4 := Lib.hid (own_u_base (B' := WR.heap.size) hU4 (by omega))
            clear hh hx2 hx3 hx4 hU4 hU3 hs2 hcx e1 e2 e3 hpw2 hm2 hz2 hz3
            go_wp2_with fail
            go_roundw
            case rel => exact ⟨k + 1, us4, by omega, by go_num, by rw [HPZ.out]; exact HU4.out, HB4.out⟩
            case measure => simp [intOf]; omega
        · obtain rfl : k = n + 1 := by omega
          have HRW := Lib.hid (HR.out.same hb2.block)
          have HBW := Lib.hid (HBL.out.trans (hb2.mono hszr))
          have hszW := HBW.out.size
          have HUI := Lib.hid (own_u_base (B' := w.heap.size) HU.out hszr)
          clear hU hb2
          go_wp2_with (at_builtin; refine append_ownRS rfl _ _ rfl w.heap.size _ _ us _ _ _ HRW.out rfl HUI.out HBW.out hszW _ rfl rfl (by rw [conjTab_length]; omega) ?_; intro v5 us5 w5 hR5 hb5 _ _; obtain ⟨sa, sn, sc, rfl⟩ := own_shape hR5.row)
          go_roundw
          case rel => exact ⟨n + 1, us5, by omega, by go_num, by rw [HTS.out]; exact hR5, hb5⟩
          case measure => simp [intOf]; omega
    · obtain rfl : n = 6 := by omega
      clear hbl
      go_wp2_with fail
      go_ret
      exact ⟨_, us, rfl, HR.out, HBL.out⟩
end
section
open Go.RowKit Go.Sort

/-- Times the powers of x whose exponents have the places told. -/
def foldD (X D0 : List (List Int)) (ds : List Int) : List (List Int) := ds.foldl (fun out d => oddL (joinsL out (raiseL (2 ^ d.toNat) X))) D0
theorem foldD_digP (X D0 : List (List Int)) (e : Nat) : ∀ j : Nat, foldD X D0 (digP e j) = digL X e D0 j := by
  intro j
  induction j with
  | zero => rfl
  | succ j ih =>
    rw [digP, digL]
    cases e.testBit j
    · exact ih
    · simp only [if_true]
      rw [← ih]
      simp [foldD, List.foldl_append]
theorem digP_take (e : Nat) : ∀ J t : Nat, t ≤ (digP e J).length → ∃ j : Nat, j ≤ J ∧ (digP e J).take t = digP e j := by
  intro J
  induction J with
  | zero => intro t ht; exact ⟨0, Nat.le_refl _, by simp [digP]⟩
  | succ J ih =>
    intro t ht
    rw [digP] at ht ⊢
    cases hb : e.testBit J
    · rw [hb] at ht
      obtain ⟨j, h1, h2⟩ := ih t ht
      exact ⟨j, by omega, by simpa using h2⟩
    · rw [hb] at ht
      simp only [if_true] at ht ⊢
      by_cases h : t ≤ (digP e J).length
      · obtain ⟨j, h1, h2⟩ := ih t h
        exact ⟨j, by omega, by rw [List.take_append_of_le_length h]; exact h2⟩
      · rw [List.length_append, List.length_singleton] at ht
        refine ⟨J + 1, Nat.le_refl _, ?_⟩
        rw [List.take_of_length_le (by simp; omega), digP, hb]; rfl
theorem foldD_take (X D0 : List (List Int)) (ds : List Int) (t : Nat) (h : t < ds.length) : foldD X D0 (ds.take (t + 1)) = oddL (joinsL (foldD X D0 (ds.take t)) (raiseL (2 ^ ds[t].toNat) X)) := by
  unfold foldD
  rw [List.take_succ_eq_append_getElem h, List.foldl_append]; rfl
theorem heldC3T {x1 x2 x3 : Value} {g1 g2 g3 : Addr} {w0 W W' : World} {B : Nat} (h : W.cell? g1 = some x1 ∧ W.cell? g2 = some x2 ∧ W.cell? g3 = some x3 ∧ Below B w0 W) (hb : Below W.heap.size W W') (hB : B ≤ W.heap.size) : W'.cell? g1 = some x1 ∧ W'.cell? g2 = some x2 ∧ W'.cell? g3 = some x3 ∧ Below B w0 W' :=
  ⟨(hb.cell (World.block_lt_of_cell? _ _ h.1)).trans h.1, (hb.cell (World.block_lt_of_cell? _ _ h.2.1)).trans h.2.1, (hb.cell (World.block_lt_of_cell? _ _ h.2.2.1)).trans h.2.2.1, h.2.2.2.trans (hb.mono hB)⟩
theorem raiseL_take (c : Int) (X : List (List Int)) (j : Nat) (h : j < X.length) : raiseL c (X.take (j + 1)) = raiseL c (X.take j) ++ [scaleL c X[j]] := by
  unfold raiseL; rw [List.take_succ_eq_append_getElem h, List.map_append]; rfl
set_option maxRecDepth 100000 in
set_option maxHeartbeats 2000000 in
theorem l06Monomial_c (v u : Value) (r : List Int) (w : World) (h : IntSSS w.heap v (conjTab 6)) (hu : IntS w.heap u r) (hE : isExp r = true) (hd : deg r ≤ 40) :
    Calls Tryz.prog 207 #[v, u] w fun e w' => ∃ r', ∃ us, e = .returned r' ∧ OwnU w' w.heap.size r' us (dconL r) ∧ Below w.heap.size w w' := by
  have hl5 := exp_len5 hE hd
  have DA := Lib.hid (fun k (hk : k < r.length) => dig_all hE hd hk)
  obtain ⟨va, vc, rfl, -⟩ := h.len
  obtain ⟨ao, c, rfl, hm⟩ := hu.len
  have H := Lib.hid h; have HUR := Lib.hid hu
  have hl1 := own_u_lit (B := w.heap.size) (ownI_empty (w := w) (B := w.heap.size) (Nat.le_refl _)) (by simp)
  rw [size_alloc_w] at hl1
  have HL := Lib.hid hl1
  rw [conjTab_length]
  clear hl1 h hu hE hd
  unfold dconL
  go_enter Tryz.func207, Tryz.ntmps207
  go_wp2_with fail
  go_loopw [5, 6] (fun o i wr => ∃ (k : Nat) (us : List Value), k ≤ r.length ∧ i = .int .i64 k ∧ OwnU wr w.heap.size o us (dconN r k) ∧ Below w.heap.size w wr) (fun _ i _ => r.length - (intOf i).toNat)
  case atStart => exact ⟨0, _, Nat.zero_le _, rfl, HL.out, ((Below.refl _ _).alloc (Nat.le_refl _) _).alloc (by simp) _⟩
  case round =>
    obtain ⟨k, us, hk, rfl, hU, hbl⟩ := hrel
    obtain ⟨pa, pn, pc, rfl⟩ := own_shape hU.row
    have HU := Lib.hid hU; have HBL := Lib.hid hbl
    by_cases hkl : k < r.length
    · obtain ⟨e, he, he40, HJ⟩ := DA.out k hkl
      have HJ := Lib.hid HJ
      obtain ⟨b1, o1, c1, hv1, hc1, -⟩ := HUR.out.at k hkl
      simp only [Value.slice.injEq, true_and] at hv1
      obtain ⟨rfl, rfl⟩ := hv1
      have hcx := (hbl.cell (World.block_lt_of_cell? _ _ hc1)).trans hc1
      rw [← getD_at', he] at hcx
      have HSU := Lib.hid (dconN_succ r k e he)
      have hki : (k : Int) < r.length := by omega
      have DG := Lib.hid (fun W => l01Digits_c e W (by omega))
      obtain ⟨b2, o2, c2, u2, hv2, hc2, hu2, -⟩ := H.out.at (k + 1) (by rw [conjTab_length]; omega)
      rw [conjTab_length] at hv2
      simp only [Value.slice.injEq, true_and] at hv2
      obtain ⟨rfl, rfl⟩ := hv2
      rw [show (conjTab 6)[k + 1]'(by rw [conjTab_length]; omega) = conjX (k + 1) by rw [← conjTab_at 6 (k + 1) (by omega)]; simp [conjTab_length, show k + 1 < 7 by omega]] at hu2
      obtain ⟨xa, xc, rfl, -⟩ := hu2.len
      have HX := Lib.hid (hu2.same hbl.block)
      have HCX := Lib.hid ((hbl.cell (World.block_lt_of_cell? _ _ hc2)).trans hc2)
      have hxl := conjX_len (n := k + 1) (by omega)
      have hxs := Lib.hid (conjX_sm (n := k + 1) (by omega))
      have hk7 : (k : Int) + 1 < 7 := by omega
      have hk70 : (0 : Int) ≤ (k : Int) + 1 := by omega
      have hwk : IntKind.i64.wrap ((k : Int) + 1) = (k : Int) + 1 := IntWalk.i64_in _ (by omega)
      have hkt : ((k : Int) + 1).toNat = k + 1 := by omega
      clear hU hbl hc1 he hc2 hu2
      generalize conjX (k + 1) = X at *
      generalize dconN r k = D0 at *
      rename World => WR
      go_wp2_with (go_at_call 222; refine (DG.out _).mono ?_; rintro e w3 ⟨r3, rfl, hO3, hb3⟩; obtain ⟨da, dc, rfl, -⟩ := hO3.ints.len; have HD3 := Lib.hid hO3.ints; have HB3 := Lib.hid hb3; have HB30 := Lib.hid (HBL.out.trans (hb3.mono HBL.out.size)); have HU3 := Lib.hid (HU.out.same hb3.block); have HX3 := Lib.hid (HX.out.same hb3.block); have HCX3 := Lib.hid ((hb3.cell (World.block_lt_of_cell? _ _ HCX.out)).trans HCX.out); clear hO3 hb3)
      go_loopw [5, 8] (fun o i wk => ∃ (t : Nat) (us : List Value), t ≤ (digP e 6).length ∧ i = .int .i64 t ∧ OwnU wk w.heap.size o us (foldD X D0 ((digP e 6).take t)) ∧ Below w3.heap.size w3 wk) (fun _ i _ => (digP e 6).length - (intOf i).toNat)
      case atStart => exact ⟨0, us, Nat.zero_le _, rfl, HU3.out, Below.refl _ _⟩
      case round =>
        obtain ⟨t, us2, ht, rfl, hO, hb2⟩ := hrel
        obtain ⟨ya, yn, yc, rfl⟩ := own_shape hO.row
        have HO := Lib.hid hO; have HB2 := Lib.hid hb2
        have HBW := Lib.hid (HB30.out.trans (hb2.mono HB30.out.size))
        have hd6 := digP_len e 6
        by_cases htl : t < (digP e 6).length
        · obtain ⟨b3, o3, c3, hv3, hc3, -⟩ := HD3.out.at t htl
          simp only [Value.slice.injEq, true_and] at hv3
          obtain ⟨rfl, rfl⟩ := hv3
          have hcd := (hb2.cell (World.block_lt_of_cell? _ _ hc3)).trans hc3
          obtain ⟨i, hi, hi6⟩ := digP_mem e 6 _ (List.getElem_mem htl)
          have hft := foldD_take X D0 (digP e 6) t htl
          rw [hi, Int.toNat_natCast] at hft
          rw [hi] at hcd
          have HFT := Lib.hid hft
          have HXW := Lib.hid (HX3.out.same hb2.block)
          have hcw := (hb2.cell (World.block_lt_of_cell? _ _ HCX3.out)).trans HCX3.out
          obtain ⟨j0, hj0, he0⟩ := digP_take e 6 t (by omega)
          obtain ⟨hsm, hlen⟩ := HJ.out j0 hj0
          rw [← foldD_digP, ← he0] at hsm hlen
          obtain ⟨hp1, hp2, -⟩ := pow2_le i (by omega)
          have HRS := Lib.hid (raise_smS hxs.out (show (0 : Int) ≤ 2 ^ i by omega) hp2)
          have MD := Lib.hid (fun (v u : Value) (W : World) (h : IntSS W.heap v (foldD X D0 ((digP e 6).take t))) (hu : IntSS W.heap u (raiseL ((2 : Int) ^ i) X)) => l06Times_c v u _ _ W h hu hsm HRS.out (by
            have h1 : (raiseL ((2 : Int) ^ i) X).length ≤ 32 := by simp [raiseL]; exact hxl
            exact Nat.le_trans (Nat.mul_le_mul hlen h1) (by omega)))
          rw [← HFT.out] at MD
          have hti : (t : Int) < (digP e 6).length := by omega
          obtain ⟨P, hP⟩ : ∃ P : Int, (2 : Int) ^ i = P := ⟨_, rfl⟩
          have hsh := (sh_small i (by omega)).trans hP
          rw [hP] at hp1 hp2 MD
          have HPP := Lib.hid hP
          clear hO hb2 hc3 hi hft hj0 he0 hsm hlen hP HRS
          rename World => WK
          have hlt1 := World.block_lt_of_cell? _ _ hcw
          have hlt2 := World.block_lt_of_cell? _ _ hcd
          simp only at hlt1 hlt2
          go_wp2_with fail
          go_loopw [9, 10] (fun o i wm => ∃ (j : Nat) (us : List Value), j ≤ X.length ∧ i = .int .i64 j ∧ OwnU wm WK.heap.size o us (raiseL P (X.take j)) ∧ Below WK.heap.size WK wm) (fun _ i _ => X.length - (intOf i).toNat)
          case atStart => exact ⟨0, [], Nat.zero_le _, rfl, ⟨World.ownsRow_made WK #[] 0 (Nat.le_refl _) (Nat.zero_le _) rfl, fun i u xs hu => by simp at hu, fun i j u u' _ hu => by simp at hu⟩, (Below.refl _ _).alloc (Nat.le_refl _) _⟩
          case round =>
            obtain ⟨j, us4, hj, rfl, hQ, hb4⟩ := hrel
            obtain ⟨qa, qn, qc, rfl⟩ := own_shape hQ.row
            have HQ := Lib.hid hQ; have HB4 := Lib.hid hb4
            have hsz4 := hb4.size
            have m1 := (hb4.cell (World.block_lt_of_cell? _ _ hcw)).trans hcw
            have m2 := (hb4.cell (World.block_lt_of_cell? _ _ hcd)).trans hcd
            by_cases hjl : j < X.length
            · obtain ⟨b5, o5, c5, u5, hv5, hc5, hu5, -⟩ := HXW.out.at j hjl
              simp only [Value.slice.injEq, true_and] at hv5
              obtain ⟨rfl, rfl⟩ := hv5
              have m3 := (hb4.cell (World.block_lt_of_cell? _ _ hc5)).trans hc5
              have hlt3 := World.block_lt_of_cell? _ _ hc5
              simp only at hlt3
              have HRW := Lib.hid (hu5.same hb4.block)
              obtain ⟨za, zc, rfl, -⟩ := hu5.len
              have HRT := Lib.hid (raiseL_take P X j hjl)
              have hsx := hxs.out _ (List.getElem_mem hjl)
              have SC := Lib.hid (fun (W : World) (h : IntS W.heap (.slice za X[j].length zc) X[j]) => l06Scaled_c _ X[j] P W h hsx.1 (by omega) (by omega) (by have := hsx.2; omega))
              have hqn : (raiseL P (X.take j)).length < 4398046511104 := by simp [raiseL]; omega
              have HQN := Lib.hid hqn
              have hji : (j : Int) < X.length := by omega
              clear hQ hb4 hc5 hu5 hsx hqn
              generalize X[j] = y at *
              go_wp2_with fail
              go_region_held3 (fun W => W.cell? ⟨b2, o2 + (k + 1), none⟩ = some (.slice (some ⟨b5, o5, none⟩) X.length xc) ∧ W.cell? ⟨b5, o5 + j, none⟩ = some (.slice za y.length zc) ∧ W.cell? ⟨b3, o3 + t, none⟩ = some (.int .i64 i) ∧ Below WK.heap.size wr W)
                (first | exact ⟨m1, m3, m2, (Below.refl _ _).drew⟩ | exact heldC3T (by assumption) hx2 hsz4 | exact heldC3T (by assumption) ((Below.refl _ _).alloc (Nat.le_refl _) _) (Nat.le_trans hsz4 hx2.size) | exact ⟨(hb6.cell hlt1).trans m1, (hb6.cell hlt3).trans m3, (hb6.cell hlt2).trans m2, hb6⟩ | fail)
                (first | (go_at_call 223; refine (SC.out _ (by exact HRW.out)).mono ?_; rintro e W2 ⟨r2, rfl, hs2, hx2⟩; obtain ⟨ra, rn, rc, rfl⟩ := own_shape hs2) | (refine step_append_rowU (w0 := wr) (wE := wr) (by rfl) _ _ (by rfl) WK.heap.size _ (.slice ra rn rc) us4 _ _ HQ.out (by rfl) (by exact OwnI.same hs2 (alloc_old _ _)) (by exact ((Below.refl wr.heap.size wr).drew.trans hx2).alloc hx2.size _) (by exact Below.refl _ wr) (by exact hsz4) W2.heap.size (by rfl) (by exact heap_alloc_new _ _) HQN.out ?_; intro v6 w6 hU6 hb6 hs6 hk6; obtain ⟨sa, sn, sc, rfl⟩ := own_shape hU6.row) | fail)
              have HU6 := Lib.hid hU6
              have HB6 := Lib.hid (HB4.out.trans hb6)
              clear hU6 hb6 hs6 hk6 hx2 hs2 m1 m2 m3
              go_wp2_with fail
              go_roundw
              case rel => exact ⟨j + 1, _, by omega, by go_num, by rw [HRT.out]; exact HU6.out, HB6.out⟩
              case measure => simp [intOf]; omega
            · obtain rfl : j = X.length := by omega
              rw [List.take_length] at HQ
              have HOQ := Lib.hid (HO.out.ints.same hb4.block)
              have HBQ := Lib.hid (HB2.out.trans (hb4.mono HB2.out.size))
              have HBWQ := Lib.hid (HBW.out.trans (hb4.mono HBW.out.size))
              have HQI := Lib.hid HQ.out.ints
              clear hQ hb4 m2
              have MD1 := Lib.hid (fun (W : World) (h : IntSS W.heap (.slice ya yn yc) (foldD X D0 ((digP e 6).take t))) (hu : IntSS W.heap (.slice qa qn qc) (raiseL P X)) => MD.out _ _ W h hu)
              go_wp2_with (go_at_call 242; (with_reducible refine (MD1.out _ HOQ.out HQI.out).mono ?_); rintro e w8 ⟨r8, us8, rfl, hU8, hb8⟩; obtain ⟨ta, tn, tc, rfl⟩ := own_shape hU8.row)
              go_roundw
              case rel => exact ⟨t + 1, us8, by omega, by go_num, own_u_base hU8 HBWQ.out.size, HBQ.out.trans (hb8.mono HBQ.out.size)⟩
              case measure => simp [intOf]; omega
        · obtain rfl : t = (digP e 6).length := by omega
          rw [List.take_length, foldD_digP] at HO
          clear hO hb2
          go_wp2_with fail
          go_roundw
          case rel => exact ⟨k + 1, us2, by omega, by go_num, by rw [HSU.out]; exact HO.out, HBW.out⟩
          case measure => simp [intOf]; omega
    · obtain rfl : k = r.length := by omega
      clear hU hbl
      go_wp2_with fail
      go_ret
      exact ⟨_, us, rfl, HU.out, HBL.out⟩
end
end Go.Proofs.YtmnkccjddahcjaaGreat

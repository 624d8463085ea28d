/- What is proved: for every input the law FnExactDualCoproduct returns true and its arguments read behind the call as before: the program's DualCoproduct and the reference's agree, and the result is the call's own. No condition. -/
import Derived.Test.YtmnkccjddahcjaaLBound
import Derived.Test.YtmnkccjddahcjaaLCopy
import Derived.Test.YtmnkccjddahcjaaLOdd2
import Derived.Test.YtmnkccjddahcjaaBaseC
import Derived.Test.YtmnkccjddahcjaaLMulD
import Derived.Test.YtmnkccjddahcjaaLPrM
import Derived.Test.YtmnkccjddahcjaaLAdd4
import Derived.Test.YtmnkccjddahcjaaLPrT
import Derived.Test.YtmnkccjddahcjaaLSss
import Derived.Test.YtmnkccjddahcjaaLStep2
import Derived.Test.YtmnkccjddahcjaaBase2
import Derived.Test.YtmnkccjddahcjaaLMilArg
import Derived.Test.YtmnkccjddahcjaaRows
import Derived.Test.YtmnkccjddahcjaaLGen
import Derived.Test.YtmnkccjddahcjaaLHeld2
import Derived.Deep.DeepCutAuto
import Derived.Lib.SliceRun
import Derived.OpenShut
import Derived.ShutString
import Derived.ChangeOld
namespace Go.Proofs.Ytmnkccjddahcjaa
section
open Go.RowKit Go.Sort

theorem nodup_lt : ∀ (N : Nat) (l : List Nat), l.Nodup → (∀ x ∈ l, x < N) → l.length ≤ N := by
  intro N
  induction N with
  | zero =>
    intro l _ h
    cases l with
    | nil => exact Nat.le_refl _
    | cons x l => exact absurd (h x (List.mem_cons_self ..)) (by omega)
  | succ N ih =>
    intro l hn h
    by_cases hm : N ∈ l
    · have h1 := ih (l.erase N) (hn.sublist (List.erase_sublist ..)) fun x hx => by
        have h2 := h x (List.mem_of_mem_erase hx)
        have h3 : x ≠ N := fun e => by
          subst e
          exact (hn.not_mem_erase) hx
        omega
      have h2 := List.length_erase_of_mem hm
      have h3 := List.length_pos_of_mem hm
      omega
    · have h1 := ih l hn fun x hx => by
        have h2 := h x hx
        have h3 : x ≠ N := fun e => hm (e ▸ hx)
        omega
      omega
/-- A number for an exponent list: with its degree it tells the list. -/
def enc (r : List Int) : Nat := (r.getD 1 0).toNat + 14 * ((r.getD 2 0).toNat + 6 * ((r.getD 3 0).toNat + 3 * (r.getD 4 0).toNat))
theorem deg_five {r : List Int} (h : r.length ≤ 5) : deg r = r.getD 0 0 + r.getD 1 0 * 3 + r.getD 2 0 * 7 + r.getD 3 0 * 15 + r.getD 4 0 * 31 := by
  rw [deg_W' r 5 h]
  simp only [W]
  rw [show (2 : Int) ^ (0 + 1) - 1 = 1 from rfl, show (2 : Int) ^ (1 + 1) - 1 = 3 from rfl, show (2 : Int) ^ (2 + 1) - 1 = 7 from rfl, show (2 : Int) ^ (3 + 1) - 1 = 15 from rfl, show (2 : Int) ^ (4 + 1) - 1 = 31 from rfl]
  omega
theorem exp_le {r : List Int} (h : isExp r = true) (hd : deg r ≤ 40) (i : Nat) : 0 ≤ r.getD i 0 ∧ r.getD i 0 * (2 ^ (i + 1) - 1) ≤ 40 := by
  refine ⟨((isExp_sm h).at (by omega) i).1, ?_⟩
  by_cases hi : i < r.length
  · have := exp_at h i hi; omega
  · rw [show r.getD i 0 = 0 by simp [show r.length ≤ i by omega]]; omega
theorem exp_digits {r : List Int} (h : isExp r = true) (hd : deg r ≤ 40) : r.getD 0 0 ≤ 40 ∧ r.getD 1 0 ≤ 13 ∧ r.getD 2 0 ≤ 5 ∧ r.getD 3 0 ≤ 2 ∧ r.getD 4 0 ≤ 1 := by
  have h0 := (exp_le h hd 0).2; have h1 := (exp_le h hd 1).2; have h2 := (exp_le h hd 2).2; have h3 := (exp_le h hd 3).2; have h4 := (exp_le h hd 4).2
  rw [show (2 : Int) ^ (0 + 1) - 1 = 1 from rfl] at h0
  rw [show (2 : Int) ^ (1 + 1) - 1 = 3 from rfl] at h1
  rw [show (2 : Int) ^ (2 + 1) - 1 = 7 from rfl] at h2
  rw [show (2 : Int) ^ (3 + 1) - 1 = 15 from rfl] at h3
  rw [show (2 : Int) ^ (4 + 1) - 1 = 31 from rfl] at h4
  omega
theorem last_ext {r s : List Int} (hr : lastOk r = true) (hs : lastOk s = true) (h : ∀ i, r.getD i 0 = s.getD i 0) : r = s := by
  have key : ∀ {r s : List Int}, lastOk s = true → (∀ i, r.getD i 0 = s.getD i 0) → s.length ≤ r.length := by
    intro r s hs h
    unfold lastOk at hs
    simp only [Bool.or_eq_true, decide_eq_true_eq] at hs
    rcases hs with e | e
    · omega
    · rcases Nat.lt_or_ge r.length s.length with e2 | e2
      · have h1 := h (s.length - 1)
        rw [show r.getD (s.length - 1) 0 = 0 by simp [show r.length ≤ s.length - 1 by omega]] at h1
        rw [← h1] at e; simp at e
      · exact e2
  have hl : r.length = s.length := Nat.le_antisymm (key hr fun i => (h i).symm) (key hs h)
  apply List.ext_getElem hl
  intro i h1 h2
  have := h i
  simpa [h1, h2] using this
theorem isExp_last {r : List Int} (h : isExp r = true) : lastOk r = true := by
  unfold isExp at h
  simp only [Bool.and_eq_true] at h
  exact h.2
theorem digits_eq {a1 a2 a3 a4 b1 b2 b3 b4 : Nat} (h1 : a1 < 14) (h2 : a2 < 6) (h3 : a3 < 3) (k1 : b1 < 14) (k2 : b2 < 6) (k3 : b3 < 3) (h : a1 + 14 * (a2 + 6 * (a3 + 3 * a4)) = b1 + 14 * (b2 + 6 * (b3 + 3 * b4))) : a1 = b1 ∧ a2 = b2 ∧ a3 = b3 ∧ a4 = b4 := by
  obtain ⟨e1, h⟩ : a1 = b1 ∧ a2 + 6 * (a3 + 3 * a4) = b2 + 6 * (b3 + 3 * b4) := by
    generalize a2 + 6 * (a3 + 3 * a4) = x at *
    generalize b2 + 6 * (b3 + 3 * b4) = y at *
    omega
  obtain ⟨e2, h⟩ : a2 = b2 ∧ a3 + 3 * a4 = b3 + 3 * b4 := by
    generalize a3 + 3 * a4 = x at *
    generalize b3 + 3 * b4 = y at *
    omega
  omega
theorem enc_inj {r s : List Int} (hr : isExp r = true) (hs : isExp s = true) (dr : deg r ≤ 40) (ds : deg s ≤ 40) (hd : deg r = deg s) (h : enc r = enc s) : r = s := by
  have a := exp_digits hr dr; have b := exp_digits hs ds
  have l1 := exp_len5 hr dr; have l2 := exp_len5 hs ds
  have p0 := (exp_le hr dr 0).1; have p1 := (exp_le hr dr 1).1; have p2 := (exp_le hr dr 2).1; have p3 := (exp_le hr dr 3).1; have p4 := (exp_le hr dr 4).1
  have q0 := (exp_le hs ds 0).1; have q1 := (exp_le hs ds 1).1; have q2 := (exp_le hs ds 2).1; have q3 := (exp_le hs ds 3).1; have q4 := (exp_le hs ds 4).1
  have e1 := deg_five l1; have e2 := deg_five l2
  unfold enc at h
  obtain ⟨f1, f2, f3, f4⟩ := digits_eq (by omega) (by omega) (by omega) (by omega) (by omega) (by omega) h
  have g1 : r.getD 1 0 = s.getD 1 0 := by omega
  have g2 : r.getD 2 0 = s.getD 2 0 := by omega
  have g3 : r.getD 3 0 = s.getD 3 0 := by omega
  have g4 : r.getD 4 0 = s.getD 4 0 := by omega
  clear h f1 f2 f3 f4
  refine last_ext (isExp_last hr) (isExp_last hs) fun i => ?_
  match i with
  | 0 => omega
  | 1 => exact g1
  | 2 => exact g2
  | 3 => exact g3
  | 4 => exact g4
  | i + 5 => rw [show r.getD (i + 5) 0 = 0 by simp [show r.length ≤ i + 5 by omega], show s.getD (i + 5) 0 = 0 by simp [show s.length ≤ i + 5 by omega]]
theorem enc_lt {r : List Int} (hr : isExp r = true) (dr : deg r ≤ 40) : enc r < 504 := by
  have a := exp_digits hr dr
  unfold enc
  omega
theorem expD_length {d : Int} {l : List (List Int)} (ha : Asc l) (h : ExpD d l) (hd : d ≤ 40) : l.length ≤ 504 := by
  rw [← List.length_map (f := enc)]
  refine nodup_lt _ _ ?_ fun x hx => ?_
  · unfold List.Nodup
    rw [List.pairwise_map]
    refine List.Pairwise.imp_of_mem ?_ ha
    intro a b ha hb hab e
    exact ltL_ne hab (enc_inj (h a ha).1 (h b hb).1 (by have := (h a ha).2; omega) (by have := (h b hb).2; omega) (by rw [(h a ha).2, (h b hb).2]) e)
  · obtain ⟨r, hr, rfl⟩ := List.mem_map.1 hx
    exact enc_lt (h r hr).1 (by have := (h r hr).2; omega)
theorem ExpD.odd {d : Int} {l : List (List Int)} (h : ExpD d l) : ExpD d (oddL l) := fun r hr => h r (mem_oddL_sub hr)
/-- What a product of lists of degrees asks. -/
theorem prods_ok {a b : List (List Int)} {p q : Int} (ha : ExpD p a) (hb : ExpD q b) (hp : 0 ≤ p) (hq : 0 ≤ q) (h : p + q ≤ 40) (aa : Asc a) (bb : Asc b) : SmS 1000000000000 20 a ∧ SmS 1000000000000 20 b ∧ (prodsL a b).length ≤ 100000000 ∧ ∀ x ∈ prodsL a b, x.length ≤ 5 := by
  refine ⟨ha.sm (by omega), hb.sm (by omega), Nat.le_trans (prodsL_cnt ha hb hp hq h) ?_, fun x hx => ?_⟩
  · have l1 := expD_length aa ha (by omega); have l2 := expD_length bb hb (by omega)
    exact Nat.le_trans (Nat.mul_le_mul l1 (Nat.mul_le_mul_right 331 l2)) (by omega)
  · have := prodsL_exp ha hb hp hq h x hx
    exact exp_len5 this.1 (by omega)
/-- The powers of an element. -/
def powL (a : List (List Int)) : Nat → List (List Int)
  | 0 => [[]]
  | k + 1 => oddL (prodsL (powL a k) a)
theorem powL_asc (a : List (List Int)) (k : Nat) : Asc (powL a k) := by
  cases k with
  | zero => exact List.pairwise_singleton ..
  | succ k => exact asc_oddL _
theorem powL_exp {a : List (List Int)} {d : Int} (ha : ExpD d a) (hd : 0 ≤ d) : ∀ k : Nat, (k : Int) * d ≤ 40 → ExpD (k * d) (powL a k) := by
  intro k
  induction k with
  | zero =>
    intro _ r hr
    rw [powL, List.mem_singleton] at hr
    subst hr
    exact ⟨by decide, by simp [deg, degA]⟩
  | succ k ih =>
    intro h
    have e : ((k + 1 : Nat) : Int) * d = k * d + d := by rw [Int.natCast_add, Int.add_mul]; omega
    rw [e] at h ⊢
    have hk : 0 ≤ (k : Int) * d := Int.mul_nonneg (by omega) hd
    exact (prodsL_exp (ih (by omega)) ha hk hd h).odd
end
section
open Go.RowKit Go.Sort

/-- The monomial x(n)^e, and 1 for x(0). -/
def singL (n : Nat) (e : Int) : List Int := if n = 0 then [] else List.replicate (n - 1) 0 ++ [e]
/-- The lists whose sum is the conjugate of x(n), of those before. -/
def conjStep (t : List (List (List Int))) (n : Nat) : Nat → List (List Int)
  | 0 => []
  | i + 1 => conjStep t n i ++ joinsL [singL (n - i) (2 ^ i)] (t.getD i [])
/-- The conjugates of x(0) to x(n). -/
def conjTab : Nat → List (List (List Int))
  | 0 => [[[]]]
  | k + 1 => conjTab k ++ [oddL (conjStep (conjTab k) (k + 1) (k + 1))]
def conjX (n : Nat) : List (List Int) := (conjTab n).getD n []
theorem conjTab_length (n : Nat) : (conjTab n).length = n + 1 := by
  induction n with
  | zero => rfl
  | succ n ih => simp [conjTab, ih]
theorem conjTab_at (n i : Nat) (h : i ≤ n) : (conjTab n).getD i [] = conjX i := by
  induction n with
  | zero => rw [show i = 0 by omega]; rfl
  | succ n ih =>
    by_cases e : i = n + 1
    · subst e; rfl
    · rw [conjTab, List.getD_eq_getElem?_getD, List.getElem?_append_left (by rw [conjTab_length]; omega), ← List.getD_eq_getElem?_getD]
      exact ih (by omega)
theorem conjStep_congr (t t' : List (List (List Int))) (n : Nat) : ∀ k : Nat, (∀ i, i < k → t.getD i [] = t'.getD i []) → conjStep t n k = conjStep t' n k := by
  intro k
  induction k with
  | zero => intro _; rfl
  | succ k ih => intro h; rw [conjStep, conjStep, ih fun i hi => h i (by omega), h k (by omega)]
theorem conjX_succ (n : Nat) : conjX (n + 1) = oddL (conjStep (conjTab n) (n + 1) (n + 1)) := by
  unfold conjX
  rw [conjTab, List.getD_eq_getElem?_getD, List.getElem?_append_right (by rw [conjTab_length]; omega), conjTab_length]
  simp
/-- A list with all numbers c times. -/
def scaleL (c : Int) (r : List Int) : List Int := r.map fun x => x * c
def raiseL (c : Int) (a : List (List Int)) : List (List Int) := a.map (scaleL c)
/-- Times the powers of x whose exponents are the first j binary digits of e. -/
def digL (x : List (List Int)) (e : Nat) (out : List (List Int)) : Nat → List (List Int)
  | 0 => out
  | j + 1 => if e.testBit j then oddL (joinsL (digL x e out j) (raiseL (2 ^ j) x)) else digL x e out j
/-- The conjugate of the first k numbers of a monomial. -/
def dconN (r : List Int) : Nat → List (List Int)
  | 0 => [[]]
  | k + 1 => digL (conjX (k + 1)) (r.getD k 0).toNat (dconN r k) 6
def dconL (r : List Int) : List (List Int) := dconN r r.length
theorem deg_join {r s : List Int} : deg (joinL r s) = deg r + deg s := by
  rw [deg_W' (joinL r s) (max r.length s.length) (by rw [joinL_length]; omega), deg_W' r (max r.length s.length) (by omega), deg_W' s (max r.length s.length) (by omega), ← W_add]
  refine W_congr _ fun k hk => ?_
  simp [joinL, hk]
theorem deg_scale (c : Int) (r : List Int) : deg (scaleL c r) = deg r * c := by
  have : ∀ i, degA i (scaleL c r) = degA i r * c := by
    induction r with
    | nil => intro i; simp [scaleL, degA]
    | cons x r ih =>
      intro i
      have h := ih (i + 1)
      unfold scaleL at h ⊢
      rw [List.map_cons, degA, degA, h, Int.add_mul, Int.mul_assoc, Int.mul_assoc, Int.mul_comm c]
  exact this 0
theorem lastOk_at {r : List Int} (h : lastOk r = true) (h0 : 0 < r.length) : r.getD (r.length - 1) 0 ≠ 0 := by
  unfold lastOk at h
  simp only [Bool.or_eq_true, decide_eq_true_eq] at h
  rcases h with e | e
  · omega
  · simpa using e
theorem lastOk_of {r : List Int} (h : 0 < r.length → r.getD (r.length - 1) 0 ≠ 0) : lastOk r = true := by
  unfold lastOk
  by_cases e : r.length = 0
  · simp [e]
  · have := h (by omega)
    simp only [Bool.or_eq_true]; right; simpa using this
theorem lastOk_join {r s : List Int} (hr : ∀ x ∈ r, 0 ≤ x) (hs : ∀ x ∈ s, 0 ≤ x) (h : lastOk r = true) (k : lastOk s = true) : lastOk (joinL r s) = true := by
  refine lastOk_of fun h0 => ?_
  rw [joinL_length] at h0 ⊢
  have e : (joinL r s).getD (max r.length s.length - 1) 0 = r.getD (max r.length s.length - 1) 0 + s.getD (max r.length s.length - 1) 0 := by
    simp [joinL, show max r.length s.length - 1 < max r.length s.length by omega]
  rw [e]
  have nn : ∀ (l : List Int) (i : Nat), (∀ x ∈ l, 0 ≤ x) → 0 ≤ l.getD i 0 := fun l i hl => by
    by_cases hi : i < l.length
    · rw [show l.getD i 0 = l[i] by simp [hi]]; exact hl _ (List.getElem_mem hi)
    · rw [show l.getD i 0 = 0 by simp [show l.length ≤ i by omega]]; exact Int.le_refl _
  have p1 := nn r (max r.length s.length - 1) hr
  have p2 := nn s (max r.length s.length - 1) hs
  by_cases hl : s.length ≤ r.length
  · have := lastOk_at h (by omega)
    rw [show max r.length s.length = r.length by omega] at p1 p2 ⊢
    omega
  · have := lastOk_at k (by omega)
    rw [show max r.length s.length = s.length by omega] at p1 p2 ⊢
    omega
theorem exp_nn {r : List Int} (h : isExp r = true) : ∀ x ∈ r, 0 ≤ x := fun x hx => (exp_num h x hx).1
theorem exp_join {r s : List Int} {p q : Int} (hr : isExp r = true ∧ deg r = p) (hs : isExp s = true ∧ deg s = q) (h : p + q ≤ 40) (hp : 0 ≤ p) (hq : 0 ≤ q) : isExp (joinL r s) = true ∧ deg (joinL r s) = p + q := by
  have e : deg (joinL r s) = p + q := by rw [deg_join, hr.2, hs.2]
  have l1 := exp_len5 hr.1 (by omega); have l2 := exp_len5 hs.1 (by omega)
  refine ⟨isExp_of (fun x hx => ?_) (by rw [joinL_length]; omega) (by omega) (lastOk_join (exp_nn hr.1) (exp_nn hs.1) (isExp_last hr.1) (isExp_last hs.1)), e⟩
  exact (((isExp_sm hr.1).join (isExp_sm hs.1) (by omega) (by omega)) x hx).1
theorem ExpD.joins {a b : List (List Int)} {p q : Int} (ha : ExpD p a) (hb : ExpD q b) (hp : 0 ≤ p) (hq : 0 ≤ q) (h : p + q ≤ 40) : ExpD (p + q) (joinsL a b) := fun z hz => by
  obtain ⟨r, hr, s, hs, rfl⟩ := mem_joinsL hz
  exact exp_join (ha r hr) (hb s hs) h hp hq
theorem lastOk_scale {r : List Int} {c : Int} (hc : c ≠ 0) (h : lastOk r = true) : lastOk (scaleL c r) = true := by
  refine lastOk_of fun h0 => ?_
  have e : (scaleL c r).length = r.length := by simp [scaleL]
  rw [e] at h0 ⊢
  have := lastOk_at h h0
  rw [show (scaleL c r).getD (r.length - 1) 0 = r.getD (r.length - 1) 0 * c by simp [scaleL, show r.length - 1 < r.length by omega]]
  exact Int.mul_ne_zero this hc
theorem ExpD.raise {a : List (List Int)} {p : Int} (ha : ExpD p a) (hp : 0 ≤ p) (c : Int) (hc : 1 ≤ c) (h : p * c ≤ 40) : ExpD (p * c) (raiseL c a) := fun z hz => by
  simp only [raiseL, List.mem_map] at hz
  obtain ⟨r, hr, rfl⟩ := hz
  have e : deg (scaleL c r) = p * c := by rw [deg_scale, (ha r hr).2]
  have hpc : p * 1 ≤ p * c := Int.mul_le_mul_of_nonneg_left hc hp
  have l1 := exp_len5 (ha r hr).1 (by rw [(ha r hr).2]; omega)
  refine ⟨isExp_of (fun x hx => ?_) (by simp [scaleL]; omega) (by omega) (lastOk_scale (by omega) (isExp_last (ha r hr).1)), e⟩
  simp only [scaleL, List.mem_map] at hx
  obtain ⟨y, hy, rfl⟩ := hx
  exact Int.mul_nonneg (exp_nn (ha r hr).1 y hy) (by omega)
theorem conjX_ok : ∀ n : Nat, n < 7 → ((conjX n).all fun r => (isExp r && decide (deg r = 2 ^ n - 1)) && decide (r.length ≤ 6)) = true ∧ (conjX n).length ≤ 32 := by decide +kernel
theorem conjX_exp {n : Nat} (h : n < 7) : ExpD (2 ^ n - 1) (conjX n) := fun r hr => by
  have := List.all_eq_true.1 (conjX_ok n h).1 r hr
  simpa using (show (isExp r = true ∧ deg r = 2 ^ n - 1) ∧ r.length ≤ 6 by simpa using this).1
theorem conjX_sm {n : Nat} (h : n < 7) : SmS 1000000000000 6 (conjX n) := fun r hr => by
  have := List.all_eq_true.1 (conjX_ok n h).1 r hr
  have := (show (isExp r = true ∧ deg r = 2 ^ n - 1) ∧ r.length ≤ 6 by simpa using this)
  exact ⟨isExp_sm this.1.1, this.2⟩
/-- The number that the first j binary digits make. -/
theorem mod_succ (e j : Nat) : (e % 2 ^ (j + 1) : Nat) = e % 2 ^ j + (if e.testBit j then 2 ^ j else 0) := by
  rw [Nat.testBit_eq_decide_div_mod_eq]
  have h := Nat.mod_mul (a := 2 ^ j) (b := 2) (x := e)
  rw [Nat.pow_succ, h]
  have : e / 2 ^ j % 2 = 0 ∨ e / 2 ^ j % 2 = 1 := by omega
  rcases this with e1 | e1 <;> simp [e1]
/-- What a step along the digits asks. -/
structure DigOk (d p : Int) (e : Nat) (x out : List (List Int)) (j : Nat) : Prop where
  exp : ExpD (d + p * ((e % 2 ^ j : Nat) : Int)) (digL x e out j)
  asc : Asc (digL x e out j)
theorem dig_ok {d p : Int} {e : Nat} {x out : List (List Int)} (ho : ExpD d out) (ao : Asc out) (hx : ExpD p x) (hd : 0 ≤ d) (hp : 0 ≤ p) (h : d + p * (e : Int) ≤ 40) : ∀ j : Nat, DigOk d p e x out j := by
  intro j
  induction j with
  | zero =>
    refine ⟨?_, ao⟩
    rw [show e % 2 ^ 0 = 0 by simp [Nat.mod_one]]
    simpa [digL] using ho
  | succ j ih =>
    have hm := mod_succ e j
    have hle : e % 2 ^ (j + 1) ≤ e := Nat.mod_le _ _
    have hpe : p * ((e % 2 ^ (j + 1) : Nat) : Int) ≤ p * (e : Int) := Int.mul_le_mul_of_nonneg_left (by omega) hp
    cases hb : e.testBit j
    · rw [hb] at hm
      simp only [Bool.false_eq_true, if_false, Nat.add_zero] at hm
      exact ⟨by rw [hm, digL, hb]; exact ih.exp, by rw [digL, hb]; exact ih.asc⟩
    · rw [hb] at hm
      simp only [if_true] at hm
      have e1 : p * ((e % 2 ^ (j + 1) : Nat) : Int) = p * ((e % 2 ^ j : Nat) : Int) + p * 2 ^ j := by
        rw [hm, Int.natCast_add, Int.mul_add, Int.natCast_pow]; rfl
      have h1 : 0 ≤ p * ((e % 2 ^ j : Nat) : Int) := Int.mul_nonneg hp (by omega)
      have h2 : (1 : Int) ≤ 2 ^ j := by
        have := Nat.one_le_two_pow (n := j)
        have h3 : ((2 ^ j : Nat) : Int) = 2 ^ j := by rw [Int.natCast_pow]; rfl
        omega
      have h3 : 0 ≤ p * 2 ^ j := Int.mul_nonneg hp (by omega)
      refine ⟨?_, by rw [digL, hb]; exact asc_oddL _⟩
      rw [digL, hb, e1, ← Int.add_assoc]
      exact (ih.exp.joins (hx.raise hp _ h2 (by omega)) (by omega) h3 (by omega)).odd
theorem dig_bits {e : Nat} {x out : List (List Int)} {j : Nat} (h : e < 2 ^ j) : ∀ k : Nat, digL x e out (j + k) = digL x e out j := by
  intro k
  induction k with
  | zero => rfl
  | succ k ih =>
    rw [← Nat.add_assoc, digL, ih, Nat.testBit_lt_two_pow (Nat.lt_of_lt_of_le h (Nat.pow_le_pow_right (by omega) (by omega)))]; rfl
theorem deg_takeN {r : List Int} (h : isExp r = true) : ∀ k, k ≤ r.length → W (fun i => r.getD i 0) k ≤ deg r := by
  intro k hk
  rw [deg_W]
  have : ∀ n, W (fun i => r.getD i 0) k ≤ W (fun i => r.getD i 0) (k + n) := by
    intro n
    induction n with
    | zero => exact Int.le_refl _
    | succ n ih =>
      rw [← Nat.add_assoc, W]
      have h1 := ((isExp_sm h).at (by omega) (k + n)).1
      have := Int.mul_nonneg h1 (show (0 : Int) ≤ 2 ^ (k + n + 1) - 1 by have := pow_pos' (k + n); omega)
      omega
  have := this (r.length - k)
  rwa [show k + (r.length - k) = r.length by omega] at this
theorem dcon_ok {r : List Int} (h : isExp r = true) (hd : deg r ≤ 40) : ∀ k, k ≤ r.length → ExpD (W (fun i => r.getD i 0) k) (dconN r k) ∧ Asc (dconN r k) := by
  have hl := exp_len5 h hd
  intro k
  induction k with
  | zero =>
    intro _
    refine ⟨fun z hz => ?_, List.pairwise_singleton ..⟩
    rw [dconN, List.mem_singleton] at hz
    subst hz
    exact ⟨by decide, rfl⟩
  | succ k ih =>
    intro hk
    obtain ⟨i1, i2⟩ := ih (by omega)
    have hn := ((isExp_sm h).at (by omega) k).1
    have hw := deg_takeN h (k + 1) hk
    have hw0 := W_nonneg (f := fun i => r.getD i 0) k fun i _ => ((isExp_sm h).at (by omega) i).1
    rw [W] at hw ⊢
    obtain ⟨e, he⟩ : ∃ e : Nat, r.getD k 0 = e := ⟨(r.getD k 0).toNat, by omega⟩
    simp only [he] at hw ⊢
    rw [dconN, he, Int.toNat_natCast]
    have hp := pow_pos' k
    have hc : (e : Int) * (2 ^ (k + 1) - 1) = (2 ^ (k + 1) - 1) * (e : Int) := Int.mul_comm _ _
    rw [hc] at hw ⊢
    have h6 : e < 2 ^ 6 := by
      have := Int.mul_le_mul_of_nonneg_right hp (show (0 : Int) ≤ e by omega)
      omega
    have := dig_ok (e := e) i1 i2 (conjX_exp (n := k + 1) (by omega)) hw0 (by omega) (by omega) 6
    have hx := this.exp
    rw [show e % 2 ^ 6 = e from Nat.mod_eq_of_lt h6] at hx
    exact ⟨hx, this.asc⟩
theorem dconL_ok {r : List Int} (h : isExp r = true) (hd : deg r ≤ 40) : ExpD (deg r) (dconL r) ∧ Asc (dconL r) := by
  have := dcon_ok h hd r.length (Nat.le_refl _)
  rwa [← deg_W] at this
end
section
open Go.RowKit Go.Sort

/-- The weight of the number at place i. -/
def wtI (i : Nat) : Nat := 2 ^ (i + 1) - 1
theorem wtI_pos (i : Nat) : 1 ≤ wtI i := by
  unfold wtI
  have : 2 ^ 1 ≤ 2 ^ (i + 1) := Nat.pow_le_pow_right (by omega) (by omega)
  omega
theorem wtI_succ (i : Nat) : wtI (i + 1) = 2 * wtI i + 1 := by
  unfold wtI
  have : 1 ≤ 2 ^ (i + 1) := Nat.one_le_two_pow
  rw [Nat.pow_succ 2 (i + 1)]; omega
theorem wtI_int (i : Nat) : (wtI i : Int) = 2 ^ (i + 1) - 1 := by
  unfold wtI
  have : 1 ≤ 2 ^ (i + 1) := Nat.one_le_two_pow
  rw [Int.natCast_sub this, Int.natCast_pow]; rfl
/-- The ends, from place i on, of the exponent lists whose rest of the degree is d. -/
def partF : Nat → Nat → Nat → List (List Int)
  | 0, _, _ => []
  | f + 1, d, i => if d = 0 then [[]] else if d < wtI i then [] else (List.range (d / wtI i + 1)).flatMap fun n => (partF f (d - n * wtI i) (i + 1)).map fun x => (n : Int) :: x
def partL (d : Nat) : List (List Int) := partF 8 d 0
theorem asc_consMap {l : List (List Int)} (h : Asc l) (n : Int) : Asc (l.map fun x => n :: x) := by
  unfold Asc at *
  rw [List.pairwise_map]
  refine h.imp fun {a b} hab => ?_
  simp [ltL, hab]
theorem asc_flat {f : Nat → List (List Int)} (hf : ∀ n, Asc (f n)) : ∀ N : Nat, Asc ((List.range N).flatMap fun n => (f n).map fun x => (n : Int) :: x) := by
  intro N
  induction N with
  | zero => exact List.Pairwise.nil
  | succ N ih =>
    rw [List.range_succ, List.flatMap_append]
    unfold Asc
    rw [List.pairwise_append]
    refine ⟨ih, by have := asc_consMap (hf N) N; unfold Asc at this; simpa using this, fun a ha b hb => ?_⟩
    simp only [List.mem_flatMap, List.mem_range, List.mem_map, List.mem_singleton] at ha hb
    obtain ⟨n, hn, x, -, rfl⟩ := ha
    obtain ⟨m, rfl, y, -, rfl⟩ := hb
    have : (n : Int) < (m : Int) := by omega
    simp [ltL, this]
theorem asc_partF : ∀ f d i, Asc (partF f d i) := by
  intro f
  induction f with
  | zero => intro d i; exact List.Pairwise.nil
  | succ f ih =>
    intro d i
    rw [partF]
    split
    · exact List.pairwise_singleton ..
    · split
      · exact List.Pairwise.nil
      · exact asc_flat (fun n => ih _ _) _
theorem asc_partL (d : Nat) : Asc (partL d) := asc_partF _ _ _
/-- What is in it. -/
theorem mem_partF : ∀ (f d i : Nat) (x : List Int), x ∈ partF f d i → (∀ y ∈ x, 0 ≤ y) ∧ degA i x = d ∧ lastOk x = true ∧ x.length ≤ f - 1 ∧ (x = [] ↔ d = 0) := by
  intro f
  induction f with
  | zero => intro d i x h; simp [partF] at h
  | succ f ih =>
    intro d i x h
    rw [partF] at h
    split at h
    · rename_i h0
      rw [List.mem_singleton] at h
      subst h; subst h0
      exact ⟨by simp, by simp [degA], by decide, by simp, by simp⟩
    · rename_i h0
      split at h
      · simp at h
      · rename_i h1
        simp only [List.mem_flatMap, List.mem_range, List.mem_map] at h
        obtain ⟨n, hn, y, hy, rfl⟩ := h
        obtain ⟨e1, e2, e3, e4, e5⟩ := ih _ _ _ hy
        have hw := wtI_pos i
        have hnw : n * wtI i ≤ d := by
          have : n ≤ d / wtI i := by omega
          exact (Nat.le_div_iff_mul_le (by omega)).1 this
        refine ⟨?_, ?_, ?_, ?_, ?_⟩
        · intro z hz
          rcases List.mem_cons.1 hz with rfl | hz
          · omega
          · exact e1 z hz
        · rw [degA, e2, ← wtI_int, ← Int.natCast_mul, ← Int.natCast_add]
          congr 1; omega
        · unfold lastOk at e3 ⊢
          cases y with
          | nil =>
            have : d = n * wtI i := by have := e5.1 rfl; omega
            have hn0 : n ≠ 0 := by rintro rfl; omega
            simp; omega
          | cons z y =>
            simp only [List.length_cons, Bool.or_eq_true, decide_eq_true_eq] at e3 ⊢
            right
            rcases e3 with e | e
            · omega
            · simpa using e
        · have : f ≠ 0 := by rintro rfl; simp [partF] at hy
          simp; omega
        · simp; omega
theorem mem_partL {d : Nat} (hd : d ≤ 40) {x : List Int} (h : x ∈ partL d) : isExp x = true ∧ deg x = d := by
  obtain ⟨h1, h2, h3, h4, -⟩ := mem_partF 8 d 0 x h
  exact ⟨isExp_of h1 (by omega) (by unfold deg; omega) h3, h2⟩
/-- And all of it. -/
theorem partF_all : ∀ (f d i : Nat) (x : List Int), (∀ y ∈ x, 0 ≤ y) → degA i x = (d : Int) → lastOk x = true → x.length < f → x ∈ partF f d i := by
  intro f
  induction f with
  | zero => intro d i x _ _ _ h; omega
  | succ f ih =>
    intro d i x h1 h2 h3 h4
    have hw := wtI_pos i
    rw [partF]
    cases x with
    | nil =>
      rw [degA] at h2
      rw [if_pos (by omega)]; simp
    | cons y x =>
      have hy := h1 y (List.mem_cons_self ..)
      have hx : ∀ z ∈ x, 0 ≤ z := fun z hz => h1 z (List.mem_cons_of_mem _ hz)
      have hdx : ∀ (l : List Int) (j : Nat), (∀ z ∈ l, 0 ≤ z) → 0 ≤ degA j l := by
        intro l
        induction l with
        | nil => intro j _; simp [degA]
        | cons z l ihl =>
          intro j hz
          rw [degA, ← wtI_int]
          have := ihl (j + 1) fun u hu => hz u (List.mem_cons_of_mem _ hu)
          have := Int.mul_nonneg (hz z (List.mem_cons_self ..)) (show (0 : Int) ≤ wtI j by omega)
          omega
      have hr := hdx x (i + 1) hx
      obtain ⟨n, rfl⟩ : ∃ n : Nat, y = n := ⟨y.toNat, by omega⟩
      rw [degA, ← wtI_int, ← Int.natCast_mul] at h2
      have hle : n * wtI i ≤ d := by omega
      have hlx : lastOk x = true := by
        unfold lastOk at h3 ⊢
        cases x with
        | nil => simp
        | cons z x =>
          simp only [List.length_cons, Bool.or_eq_true, decide_eq_true_eq] at h3 ⊢
          right
          rcases h3 with e | e
          · omega
          · simpa using e
      have hpos : wtI i ≤ d := by
        cases x with
        | nil =>
          have hn0 : n ≠ 0 := by
            rintro rfl
            simp [lastOk] at h3
          have : 1 * wtI i ≤ n * wtI i := Nat.mul_le_mul_right _ (by omega)
          omega
        | cons z x =>
          have hlp : ∀ (l : List Int) (j : Nat), (∀ z ∈ l, 0 ≤ z) → lastOk l = true → l ≠ [] → (wtI j : Int) ≤ degA j l := by
            intro l
            induction l with
            | nil => intro j _ _ h; exact absurd rfl h
            | cons z l ihl =>
              intro j hz hl _
              have hz0 := hz z (List.mem_cons_self ..)
              have hzl := hdx l (j + 1) fun u hu => hz u (List.mem_cons_of_mem _ hu)
              rw [degA, ← wtI_int]
              cases l with
              | nil =>
                have : z ≠ 0 := by
                  rintro rfl
                  simp [lastOk] at hl
                have := Int.mul_le_mul_of_nonneg_right (show (1 : Int) ≤ z by omega) (show (0 : Int) ≤ wtI j by omega)
                omega
              | cons u l =>
                have h5 := ihl (j + 1) (fun u hu => hz u (List.mem_cons_of_mem _ hu)) (by
                  unfold lastOk at hl ⊢
                  simp only [List.length_cons, Bool.or_eq_true, decide_eq_true_eq] at hl ⊢
                  right
                  rcases hl with e | e
                  · omega
                  · simpa using e) (by simp)
                have := Int.mul_nonneg hz0 (show (0 : Int) ≤ wtI j by omega)
                have := wtI_succ j
                omega
          have h5 := hlp (z :: x) (i + 1) hx hlx (by simp)
          have := wtI_succ i
          omega
      rw [if_neg (by omega), if_neg (by omega)]
      simp only [List.mem_flatMap, List.mem_range, List.mem_map]
      refine ⟨n, ?_, x, ih _ _ x hx (by omega) hlx (by simp at h4; omega), rfl⟩
      have := (Nat.le_div_iff_mul_le (show 0 < wtI i by omega)).2 hle
      omega
theorem partL_all {d : Nat} (hd : d ≤ 40) {x : List Int} (h : isExp x = true) (he : deg x = d) : x ∈ partL d :=
  partF_all 8 d 0 x (fun y hy => (exp_num h y hy).1) he (by simp only [isExp, Bool.and_eq_true] at h; exact h.2) (by have := exp_len5 h (by omega); omega)
end
section
open Go.RowKit Go.Sort

/-- The lists of the first n numbers at a place, behind their beginning. -/
def partG (f d i : Nat) (xs : List Int) (n : Nat) : List (List Int) := (List.range n).flatMap fun m => (partF f (d - m * wtI i) (i + 1)).map fun x => xs ++ (m : Int) :: x
theorem partG_succ (f d i : Nat) (xs : List Int) (n : Nat) : partG f d i xs (n + 1) = partG f d i xs n ++ (partF f (d - n * wtI i) (i + 1)).map (xs ++ [(n : Int)] ++ ·) := by
  unfold partG
  rw [List.range_succ, List.flatMap_append]
  simp
theorem partG_all (f d i : Nat) (xs : List Int) (hd : 1 ≤ d) (hw : wtI i ≤ d) : (partF (f + 1) d i).map (xs ++ ·) = partG f d i xs (d / wtI i + 1) := by
  rw [partF, if_neg (by omega), if_neg (by omega)]
  unfold partG
  rw [List.map_flatMap]
  simp [List.map_map, Function.comp_def]
theorem partG_len (f d i : Nat) (xs : List Int) (n N : Nat) (h : n ≤ N) : (partG f d i xs n).length ≤ (partG f d i xs N).length := by
  obtain ⟨k, rfl⟩ : ∃ k, N = n + k := ⟨N - n, by omega⟩
  clear h
  induction k with
  | zero => exact Nat.le_refl _
  | succ k ih => rw [← Nat.add_assoc, partG_succ, List.length_append]; omega
theorem wtI_small {i d : Nat} (hi : i < 8) (hd : d ≤ 40) (h : wtI i ≤ d) : i ≤ 4 := by
  have : ∀ i, i < 8 → 4 < i → 63 ≤ wtI i := by decide
  rcases Nat.lt_or_ge 4 i with e | e
  · have := this i hi e; omega
  · exact e
theorem wtI_le {i : Nat} (hi : i < 8) : wtI i ≤ 255 := by
  have : ∀ i, i < 8 → wtI i ≤ 255 := by decide
  exact this i hi
set_option maxRecDepth 100000 in
set_option maxHeartbeats 1000000 in
theorem l01Partitions_c : ∀ (f d : Nat) (xs : List Int) (L : List (List Int)) (s l : Value) (us : List Value) (B : Nat) (w : World), xs.length + f = 8 → 2 ≤ f → 1 ≤ d → d ≤ 40 → IntS w.heap s xs → OwnU w B l us L → B ≤ w.heap.size → L.length + (partF f d xs.length).length < 4398046511104 →
    Calls Try.prog 143 #[.int .i64 d, s, l] w fun e w' => ∃ r us', e = .returned r ∧ OwnU w' B r us' (L ++ (partF f d xs.length).map (xs ++ ·)) ∧ Below B w w' ∧ KeepI w w' := by
  intro f
  induction f with
  | zero => intro d xs L s l us B w h1 h2; omega
  | succ f ih =>
    intro d xs L s l us B w hif hf hd hd2 hs hl hB hlen
    obtain ⟨sa, sc, rfl, -⟩ := hs.len
    obtain ⟨la, ln, lc, rfl⟩ := own_shape hl.row
    have hwp := wtI_pos xs.length
    have hw8 := wtI_le (i := xs.length) (by omega)
    have hW : wrap64 (2 ^ (xs.length + 1)) = (wtI xs.length : Int) + 1 := by
      have := wtI_int xs.length
      unfold wrap64; omega
    have hwi : IntKind.i64.wrap ((xs.length : Int) + 1) = xs.length + 1 := IntWalk.i64_in _ (by omega)
    have t0 := (neB (show (d : Int) ≠ 0 by omega)).1
    have t0' := (neB (show (d : Int) ≠ 0 by omega)).2
    by_cases hw : wtI xs.length ≤ d
    · have hi4 := wtI_small (by omega) hd2 hw
      have hG := partG_all f d xs.length xs hd hw
      rw [hG]
      have hGl : L.length + (partG f d xs.length xs (d / wtI xs.length + 1)).length < 4398046511104 := by rw [← hG, List.length_map]; exact hlen
      have HGL := Lib.hid hGl
      have t1 : decide ((d : Int) < (wtI xs.length : Int)) = false := decide_eq_false (by omega)
      have t2 : decide (d < wtI xs.length) = false := decide_eq_false (by omega)
      have HS := Lib.hid hs; have HL := Lib.hid hl
      have IH := Lib.hid ih
      have HSU := Lib.hid (partG_succ f d xs.length xs)
      have HLE := Lib.hid (partG_len f d xs.length xs)
      have HPF : Hid (∀ j, partF f 0 j = [[]]) := fun j => by
        obtain ⟨f', rfl⟩ : ∃ f', f = f' + 1 := ⟨f - 1, by omega⟩
        rw [partF, if_pos rfl]
      obtain ⟨W, hWW⟩ : ∃ W : Nat, wtI xs.length = W := ⟨_, rfl⟩
      have HWW := Lib.hid hWW
      rw [hWW] at hW t1 t2 hwp hw8 hw HGL HSU ⊢
      obtain ⟨q, hq⟩ : ∃ q : Nat, d / W = q := ⟨_, rfl⟩
      have hQ : ∀ n : Nat, n ≤ q ↔ n * W ≤ d := fun n => by rw [← hq]; exact Nat.le_div_iff_mul_le hwp
      have HQ := Lib.hid hQ
      clear hQ
      have hqd : q ≤ 40 := by
        have := (HQ.out q).1 (Nat.le_refl _)
        have := Nat.mul_le_mul_left q hwp
        omega
      rw [hq] at HGL ⊢
      have HIF := Lib.hid hif
      clear hG hGl hlen hs hl ih hq hWW hif
      go_enter Try.func143, Try.ntmps143
      go_wp2_with fail
      clear t1 t2 t0 t0' hW
      go_loopw [2, 8] (fun l r wr => ∃ (n : Nat) (us : List Value), n ≤ q + 1 ∧ r = .int .i64 n ∧ OwnU wr B l us (L ++ partG f d xs.length xs n) ∧ Below B w wr ∧ KeepI w wr) (fun _ r _ => 41 - (intOf r).toNat)
      case atStart => exact ⟨0, us, by omega, rfl, by simpa [partG] using HL.out, Below.refl _ _, KeepI.refl _⟩
      case round =>
        obtain ⟨n, us2, hn, rfl, hU, hbl, hke⟩ := hrel
        obtain ⟨va, vn, vc, rfl⟩ := own_shape hU.row
        have HU := Lib.hid hU; have HBL := Lib.hid hbl; have HKE := Lib.hid hke
        have hsz := hbl.size
        have HSW := Lib.hid (HS.out.keep hke)
        clear hU hbl hke
        have hnW : (0 : Int) ≤ (n : Int) * (W : Int) := Int.mul_nonneg (by omega) (by omega)
        have hnW2 : (n : Int) * (W : Int) ≤ 41 * 255 := Int.mul_le_mul (by omega) (by omega) (by omega) (by omega)
        by_cases hnq : n ≤ q
        · have hle := (HQ.out n).1 hnq
          have hle2 : (n : Int) * (W : Int) ≤ d := by have : ((n * W : Nat) : Int) ≤ (d : Int) := by omega
                                                      rwa [Int.natCast_mul] at this
          have u1 : decide ((n : Int) * (W : Int) ≤ (d : Int)) = true := decide_eq_true hle2
          have HGN := Lib.hid (HSU.out n)
          have HLN := Lib.hid (HLE.out (n + 1) (q + 1) (by omega))
          have HLN0 := Lib.hid (HLE.out n (q + 1) (by omega))
          have hll : (L ++ partG f d xs.length xs n).length ≤ 4398046511104 := by rw [List.length_append]; have := HLN0.out; have := HGL.out; omega
          have HLL := Lib.hid hll
          clear hll
          by_cases he : n * W = d
          · have he2 : (n : Int) * (W : Int) = d := by have : ((n * W : Nat) : Int) = (d : Int) := by omega
                                                       rwa [Int.natCast_mul] at this
            have u2 := (eqB he2).1
            have hqn : q = n := by
              have := (HQ.out (n + 1)).2
              have h2 : ¬ (n + 1) * W ≤ d := by rw [Nat.add_mul]; omega
              have h3 : ¬ n + 1 ≤ q := fun h => h2 ((HQ.out (n + 1)).1 h)
              omega
            have HF : Hid (L ++ partG f d xs.length xs (q + 1) = (L ++ partG f d xs.length xs n) ++ [xs ++ [(n : Int)]]) := by
              show _ = _
              rw [hqn, HGN.out, he, Nat.sub_self, HPF.out]; simp
            clear he he2 hqn hle hle2 hnq
            go_wp2_with (first | (go_at_call 131; refine (l01Own_c _ _ _ (by exact HSW.out) (by omega)).mono ?_; rintro e w2 ⟨rv, rfl, hR2, hb2⟩; obtain ⟨ra, rn, rc, rfl⟩ := own_shape hR2; have HR2 := Lib.hid hR2; have HB2 := Lib.hid hb2; clear hR2 hb2) | (at_builtin; refine append_int rfl _ _ rfl wr.heap.size _ _ _ HR2.out rfl HB2.out HB2.out.size _ rfl (by simp) (by omega) ?_; intro v' w3 hown' hbl' _ _; obtain ⟨qa, qn, qc, rfl⟩ := own_shape hown'; have HO3 := Lib.hid hown'; have HB3 := Lib.hid hbl'; clear hown' hbl') | (at_builtin; refine append_rowU rfl _ _ rfl B _ _ us2 _ _ HU.out rfl HO3.out HB3.out HBL.out (by omega) _ rfl rfl HLL.out ?_; intro v4 w4 hU4 hb4 hk4 _ _ _; obtain ⟨ta, tn, tc, rfl⟩ := own_shape hU4.row))
            go_ret
            exact ⟨_, _, rfl, by rw [HF.out]; exact hU4, hb4, (HKE.out.trans (KeepI.of_same HB3.out.block)).trans hk4⟩
          · have hne : (n : Int) * (W : Int) ≠ d := fun e => he (by have : ((n * W : Nat) : Int) = (d : Int) := by rw [Int.natCast_mul]; exact e
                                                                    omega)
            have u2 := (neB hne).1
            obtain ⟨D, hD⟩ : ∃ D : Nat, d - n * W = D := ⟨_, rfl⟩
            have hD1 : 1 ≤ D := by omega
            have hDd : D ≤ 40 := by omega
            have hsub : (d : Int) - (n : Int) * (W : Int) = D := by rw [← Int.natCast_mul]; omega
            have hDl : (L ++ partG f d xs.length xs n).length + (partF f D (xs ++ [(n : Int)]).length).length < 4398046511104 := by
              have h1 := HGN.out
              rw [hD] at h1
              have h2 := congrArg List.length h1
              rw [List.length_append, List.length_map] at h2
              have h3 := HLN.out; have h4 := HGL.out
              rw [List.length_append, List.length_append, List.length_singleton]; omega
            have HDL := Lib.hid hDl
            have HF : Hid ((L ++ partG f d xs.length xs n) ++ (partF f D (xs ++ [(n : Int)]).length).map (xs ++ [(n : Int)] ++ ·) = L ++ partG f d xs.length xs (n + 1)) := by
              show _ = _
              rw [HGN.out, hD, List.length_append, List.length_singleton, List.append_assoc]
            have hf2 : 2 ≤ f := by have := HIF.out; omega
            clear he hne hle hle2 hD hDl
            go_wp2_with (first | (go_at_call 131; refine (l01Own_c _ _ _ (by exact HSW.out) (by omega)).mono ?_; rintro e w2 ⟨rv, rfl, hR2, hb2⟩; obtain ⟨ra, rn, rc, rfl⟩ := own_shape hR2; have HR2 := Lib.hid hR2; have HB2 := Lib.hid hb2; clear hR2 hb2) | (at_builtin; refine append_int rfl _ _ rfl wr.heap.size _ _ _ HR2.out rfl HB2.out HB2.out.size _ rfl (by simp) (by omega) ?_; intro v' w3 hown' hbl' _ _; obtain ⟨qa, qn, qc, rfl⟩ := own_shape hown'; have HO3 := Lib.hid hown'; have HB3 := Lib.hid hbl'; clear hown' hbl') | (go_at_call 143; refine (IH.out D (xs ++ [(n : Int)]) (L ++ partG f d xs.length xs n) _ _ us2 B w3 (by rw [List.length_append, List.length_singleton]; have := HIF.out; omega) hf2 hD1 hDd HO3.out.ints (HU.out.same HB3.out.block) (Nat.le_trans hB (Nat.le_trans hsz HB3.out.size)) HDL.out).mono ?_; rintro e w4 ⟨r4, us4, rfl, hU4, hb4, hk4⟩; rw [HF.out] at hU4; obtain ⟨ta, tn, tc, rfl⟩ := own_shape hU4.row))
            go_roundw
            case rel => exact ⟨n + 1, us4, by omega, by go_num, hU4, (HBL.out.trans (HB3.out.mono (Nat.le_trans hB hsz))).trans hb4, (HKE.out.trans (KeepI.of_same HB3.out.block)).trans hk4⟩
            case measure => simp [intOf]; omega
        · have hgt : ¬ n * W ≤ d := fun h => hnq ((HQ.out _).2 h)
          have u1 : decide ((n : Int) * (W : Int) ≤ (d : Int)) = false := decide_eq_false (fun h => hgt (by
            have : ((n * W : Nat) : Int) ≤ (d : Int) := by rw [Int.natCast_mul]; exact h
            omega))
          have HN : Hid (n = q + 1) := by show _ = _; omega
          clear hgt hnq
          go_wp2_with fail
          go_ret
          exact ⟨_, us2, rfl, by rw [← HN.out]; exact HU.out, HBL.out, HKE.out⟩
    · have e1 : partF (f + 1) d xs.length = [] := by rw [partF, if_neg (by omega), if_pos (by omega)]
      rw [e1]
      have t1 : decide ((d : Int) < (wtI xs.length : Int)) = true := decide_eq_true (by omega)
      have t2 : decide (d < wtI xs.length) = true := decide_eq_true (by omega)
      have HL := Lib.hid hl
      clear e1 hlen hs hl ih hw
      go_enter Try.func143, Try.ntmps143
      go_wp2_with fail
      go_ret
      exact ⟨_, us, rfl, by simpa using HL.out, Below.refl _ _, KeepI.refl _⟩
theorem own_u_none (w : World) (B : Nat) : OwnU w B (.slice none 0 0) [] [] := ⟨World.ownsRow_nil _ _ _ _, fun i u xs hu => by simp at hu, fun i j u u' _ hu => by simp at hu⟩
theorem own_u_lit {w : World} {B : Nat} {u : Value} {xs : List Int} (hu : OwnI w B u xs) (hB : B ≤ w.heap.size) : OwnU (w.alloc (.cells #[u] 49)) B (.slice (some ⟨w.heap.size, 0, none⟩) 1 1) [u] [xs] := by
  refine ⟨World.ownsRow_lit (e := 49) (size := 1) w #[u] 1 hB (by unfold maxLen; omega) rfl, fun i x ys hx hy => ?_, fun i j x x' hij hx hx' => ?_⟩
  · match i, hx, hy with
    | 0, hx, hy =>
      simp at hx hy
      subst hx; subst hy; exact hu.same (alloc_old w _)
  · match j, hx' with
    | 0, _ => omega
    | j + 1, hx' => simp at hx'
set_option maxRecDepth 100000 in
theorem l01All_c (d : Nat) (w : World) (hd : d ≤ 40) :
    Calls Try.prog 93 #[.int .i64 d] w fun e w' => ∃ r us, e = .returned r ∧ OwnU w' w.heap.size r us (partL d) ∧ Below w.heap.size w w' := by
  have hE := ownI_empty (w := w) (B := w.heap.size) (Nat.le_refl _)
  have hbl : Below w.heap.size w (w.alloc (.cells #[] 2)) := (Below.refl _ _).alloc (Nat.le_refl _) _
  by_cases h0 : d = 0
  · subst h0
    have C : Calls Try.prog 143 #[.int .i64 0, .slice (some ⟨w.heap.size, 0, none⟩) 0 0, .slice none 0 0] (w.alloc (.cells #[] 2)) fun e w' => ∃ r us, e = .returned r ∧ OwnU w' w.heap.size r us (partL 0) ∧ Below w.heap.size w w' := by
      have HE := Lib.hid hE; have HB := Lib.hid hbl
      clear hE hbl
      go_enter Try.func143, Try.ntmps143
      go_wp2_with (at_builtin; refine append_rowU rfl _ _ rfl w.heap.size _ _ [] [] [] (own_u_none _ _) rfl HE.out HB.out (Below.refl _ _) (Nat.le_refl _) _ rfl (by simp) (Nat.zero_le _) ?_; intro v4 w4 hU4 hb4 hk4 _ _ _; obtain ⟨ta, tn, tc, rfl⟩ := own_shape hU4.row)
      go_ret
      exact ⟨_, _, rfl, hU4, hb4⟩
    have C := Lib.hid C
    clear hE hbl
    go_enter Try.func93, Try.ntmps93
    go_wp2_with (go_at_call 143; refine C.out.mono ?_; rintro e w1 ⟨r, us, rfl, hU, hb⟩; obtain ⟨ta, tn, tc, rfl⟩ := own_shape hU.row)
    go_ret
    exact ⟨_, _, rfl, hU, hb⟩
  · have hlen : (partL d).length ≤ 504 := expD_length (d := (d : Int)) (asc_partL d) (fun x hx => mem_partL hd hx) (by omega)
    have C := Lib.hid (l01Partitions_c 8 d [] [] (.slice (some ⟨w.heap.size, 0, none⟩) 0 0) (.slice none 0 0) [] w.heap.size (w.alloc (.cells #[] 2)) rfl (by omega) (by omega) hd hE.ints (own_u_none _ _) (by simp) (by show 0 + (partL d).length < _; omega))
    have HB := Lib.hid hbl
    have HE : Hid (([] : List (List Int)) ++ (partF 8 d ([] : List Int).length).map (([] : List Int) ++ ·) = partL d) := by show _ = _; simp [partL]
    rw [HE.out] at C
    clear hE hbl h0 hlen
    go_enter Try.func93, Try.ntmps93
    go_wp2_with (go_at_call 143; refine C.out.mono ?_; rintro e w1 ⟨r, us, rfl, hU, hb, hk⟩; obtain ⟨ta, tn, tc, rfl⟩ := own_shape hU.row)
    go_ret
    exact ⟨_, _, rfl, hU, HB.out.trans hb⟩
end
section
open Go.RowKit Go.Sort

theorem ref_keep {w w' : World} {B : Nat} {v : Value} {us : List Value} {xss : List (List Int)} (a : RefR w' B w.heap v us xss) (k : KeepI w w') : RefR w' B w'.heap v us xss := ⟨a.row, fun i u xs hu hx => (a.each i u xs hu hx).keep k⟩
theorem singL_length (n : Nat) (e : Int) : (singL n e).length = n := by
  unfold singL
  split
  · rename_i h; rw [h]; rfl
  · simp; omega
theorem singL_sm (n : Nat) (e : Int) {b : Int} (hb : 0 ≤ b) (h0 : 0 ≤ e) (h1 : e ≤ b) : Sm b (singL n e) := by
  unfold singL
  split
  · intro x hx; cases hx
  · intro x hx
    rw [List.mem_append, List.mem_replicate, List.mem_singleton] at hx
    rcases hx with ⟨-, rfl⟩ | rfl
    · exact ⟨Int.le_refl _, hb⟩
    · exact ⟨h0, h1⟩
theorem singL_set (n : Nat) (e : Int) : (List.replicate (n + 1) (0 : Int)).set n e = singL (n + 1) e := by
  unfold singL
  rw [if_neg (by omega), Nat.add_sub_cancel]
  apply List.ext_getElem?; intro i
  rw [List.getElem?_set]
  by_cases h : n = i
  · subst h; simp
  · rw [if_neg h]
    by_cases h2 : i < n
    · rw [List.getElem?_append_left (by simpa using h2)]; simp [h2, show i < n + 1 by omega]
    · rw [List.getElem?_eq_none (by simp; omega), List.getElem?_eq_none (by simp; omega)]
set_option maxRecDepth 100000 in
theorem single_c (n : Nat) (e : Int) (w : World) (hn : n ≤ 1000) :
    Calls Try.prog 157 #[.int .i64 n, .int .i64 e] w fun r w' => ∃ v, r = .returned v ∧ OwnI w' w.heap.size v (singL n e) ∧ Below w.heap.size w w' := by
  cases n with
  | zero =>
    go_enter Try.func157, Try.ntmps157
    go_wp2_with fail
    go_ret
    exact ⟨_, rfl, ownI_empty (Nat.le_refl _), (Below.refl _ _).alloc (Nat.le_refl _) _⟩
  | succ m =>
    have hmk := fun w => make_run (P := Try.prog) 49 2 _ 8 info_int64 Try.underlying49 rfl (by omega) (m + 1) (by omega) .i64 .i64 ((m : Int) + 1) ((m : Int) + 1) (by omega) (by omega) w
    have hmo := made_own w w.heap.size 2 (m + 1) (.int .i64 0) (Nat.le_refl _) (by omega)
    have hmo2 : (w.alloc (.cells (madeCells #[.int .i64 0] (m + 1)) 2)).ownsRow w.heap.size 2 1 (.slice (some ⟨w.heap.size, 0, none⟩) (m + 1) (m + 1)) (m + 1) ((List.replicate (m + 1) (0 : Int)).map (Value.int .i64)) := by simpa using hmo
    obtain ⟨W5, hW5⟩ : ∃ W5, W5 = w.alloc (.cells (madeCells #[.int .i64 0] (m + 1)) 2) := ⟨_, rfl⟩
    have hb5 : Below w.heap.size w W5 := by rw [hW5]; exact (Below.refl _ _).alloc (Nat.le_refl _) _
    rw [← hW5] at hmo2
    have q0 := own_int_at hmo2 m (by omega)
    rw [show (List.replicate (m + 1) (0 : Int)).getD m 0 = 0 by simp] at q0
    have f0 := hmo2.frozenAt m
    have hst := own_int_set hmo2 m e
    rw [singL_set] at hst
    have HST : Hid (OwnI (W5.setCell ⟨w.heap.size, m, none⟩ (.int .i64 e)) w.heap.size (.slice (some ⟨w.heap.size, 0, none⟩) (m + 1) (m + 1)) (singL (m + 1) e)) := by
      show OwnI _ _ _ _
      unfold OwnI
      rw [singL_length]; exact hst
    have HB5 := Lib.hid (hb5.setCell (p := ⟨w.heap.size, m, none⟩) (Nat.le_refl _) (.int .i64 e))
    have HW5 := Lib.hid hW5
    clear hmo hmo2 hst hb5 hW5
    have hs1 : (m : Int) + 1 - 1 = m := by omega
    have hi0 : (0 : Int) ≤ m := by omega
    have t0 := (neB (show (m : Int) + 1 ≠ 0 by omega)).1
    rw [show ((m + 1 : Nat) : Int) = (m : Int) + 1 by omega]
    go_enter Try.func157, Try.ntmps157
    go_upto_region 4 with fail
    rw [← HW5.out]
    clear hmk
    go_wp2_with fail
    go_ret
    exact ⟨_, rfl, HST.out, HB5.out⟩
theorem conjX_len {n : Nat} (h : n < 7) : (conjX n).length ≤ 32 := (conjX_ok n h).2
theorem conjStep_ok : ∀ n : Nat, n < 7 → ∀ k : Nat, k < 8 → (conjStep (conjTab 6) n k).length ≤ 200 := by decide +kernel
theorem conjStep_sm : ∀ n : Nat, n < 7 → ∀ k : Nat, k < 8 → ((conjStep (conjTab 6) n k).all fun r => (decide (r.length ≤ 6))) = true := by decide +kernel
theorem conjX_zero : conjX 0 = [[]] := rfl
theorem conjTab_get {n i : Nat} (h : i ≤ n) (h6 : n ≤ 6) : (conjTab n).getD i [] = (conjTab 6).getD i [] := by rw [conjTab_at n i h, conjTab_at 6 i (by omega)]
/-- A step towards the conjugate of x(n). -/
theorem conjStep_next (n i : Nat) (hi : i ≤ 6) : conjStep (conjTab 6) n (i + 1) = conjStep (conjTab 6) n i ++ joinsL [singL (n - i) (2 ^ i)] (conjX i) := by
  rw [conjStep, conjTab_at 6 i hi]
theorem conjX_step {n : Nat} (hn : n < 6) : conjX (n + 1) = oddL (conjStep (conjTab 6) (n + 1) (n + 1)) := by
  rw [conjX_succ, conjStep_congr (conjTab n) (conjTab 6) (n + 1) (n + 1) fun i hi => conjTab_get (by omega) (by omega)]
theorem oddL_skip (L M : List (List Int)) : oddL (L ++ oddL M) = oddL (L ++ M) := (oddL_append' L M).symm
/-- What the program has gathered. -/
def conjG (n : Nat) : Nat → List (List Int)
  | 0 => []
  | i + 1 => conjG n i ++ oddL (joinsL [singL (n - i) (2 ^ i)] (conjX i))
theorem conjG_odd (n : Nat) : ∀ i : Nat, i ≤ 7 → oddL (conjG n i) = oddL (conjStep (conjTab 6) n i) := by
  intro i
  induction i with
  | zero => intro _; rfl
  | succ i ih =>
    intro hi
    rw [conjG, conjStep_next n i (by omega), oddL_skip, oddL_append, ih (by omega), ← oddL_append]
theorem conjG_ok : ∀ n : Nat, n < 7 → ∀ k : Nat, k < 8 → (conjG n k).length ≤ 200 ∧ ((conjG n k).all fun r => (decide (r.length ≤ 6))) = true := by decide +kernel
theorem ExpD.smS {d : Int} {l : List (List Int)} (h : ExpD d l) (hd : d ≤ 40) : SmS 1000000000000000 4398046511104 l := fun r hr => by
  have := h.sm hd r hr
  exact ⟨fun x hx => by have := this.1 x hx; omega, by have := this.2; omega⟩
/-- What a step along the digits of a number of a monomial has. -/
theorem dig_all {r : List Int} (hE : isExp r = true) (hd : deg r ≤ 40) {k : Nat} (hk : k < r.length) : ∃ e : Nat, r.getD k 0 = e ∧ e ≤ 40 ∧ ∀ j : Nat, j ≤ 6 → SmS 1000000000000000 4398046511104 (digL (conjX (k + 1)) e (dconN r k) j) ∧ (digL (conjX (k + 1)) e (dconN r k) j).length ≤ 504 := by
  have hl := exp_len5 hE hd
  obtain ⟨i1, i2⟩ := dcon_ok hE hd k (by omega)
  have hn := ((isExp_sm hE).at (by omega) k).1
  have hw := deg_takeN hE (k + 1) hk
  have hw0 := W_nonneg (f := fun i => r.getD i 0) k fun i _ => ((isExp_sm hE).at (by omega) i).1
  rw [W] at hw
  obtain ⟨e, he⟩ : ∃ e : Nat, r.getD k 0 = e := ⟨(r.getD k 0).toNat, by omega⟩
  simp only [he] at hw
  have hp := pow_pos' k
  have hc : (e : Int) * (2 ^ (k + 1) - 1) = (2 ^ (k + 1) - 1) * (e : Int) := Int.mul_comm _ _
  have h6 : e ≤ 40 := by
    have := Int.mul_le_mul_of_nonneg_left hp (show (0 : Int) ≤ e by omega)
    omega
  rw [hc] at hw
  refine ⟨e, he, h6, fun j _ => ?_⟩
  have hx := dig_ok (e := e) i1 i2 (conjX_exp (n := k + 1) (by omega)) hw0 (by omega) (by omega) j
  have hm : ((2 : Int) ^ (k + 1) - 1) * ((e % 2 ^ j : Nat) : Int) ≤ (2 ^ (k + 1) - 1) * (e : Int) := Int.mul_le_mul_of_nonneg_left (by have := Nat.mod_le e (2 ^ j); omega) (by omega)
  have hb : W (fun i => r.getD i 0) k + (2 ^ (k + 1) - 1) * ((e % 2 ^ j : Nat) : Int) ≤ 40 := by omega
  exact ⟨hx.exp.smS hb, expD_length hx.asc hx.exp hb⟩
theorem and_bit : ∀ e : Nat, e < 41 → ∀ j : Nat, j < 6 → (bits BinOp.and IntKind.i64 (e : Int) ((2 : Int) ^ j) != 0) = e.testBit j := by decide +kernel
theorem dconN_succ (r : List Int) (k e : Nat) (he : r.getD k 0 = e) : dconN r (k + 1) = digL (conjX (k + 1)) e (dconN r k) 6 := by rw [dconN, he, Int.toNat_natCast]
theorem dig_end {e : Nat} {x out : List (List Int)} {j : Nat} (h : e < 2 ^ j) (hj : j ≤ 6) : digL x e out 6 = digL x e out j := by
  have := dig_bits (x := x) (out := out) h (6 - j)
  rwa [show j + (6 - j) = 6 by omega] at this
theorem raise_smS {X : List (List Int)} (h : SmS 1000000000000 6 X) {c : Int} (h0 : 0 ≤ c) (h1 : c ≤ 64) : SmS 1000000000000000 4398046511104 (raiseL c X) := fun z hz => by
  simp only [raiseL, List.mem_map] at hz
  obtain ⟨r, hr, rfl⟩ := hz
  have h2 := h r hr
  refine ⟨fun x hx => ?_, by simp [scaleL]; omega⟩
  simp only [scaleL, List.mem_map] at hx
  obtain ⟨y, hy, rfl⟩ := hx
  have h3 := h2.1 y hy
  exact ⟨Int.mul_nonneg h3.1 h0, Int.le_trans (Int.mul_le_mul h3.2 h1 h0 (by omega)) (by omega)⟩
theorem pow2_le : ∀ j : Nat, j ≤ 6 → (1 : Int) ≤ 2 ^ j ∧ (2 : Int) ^ j ≤ 64 ∧ ((2 : Int) ^ j) * 2 = 2 ^ (j + 1) := by decide
end
section

/-- The pairs of the coproduct of a power of 2 of x(n). -/
def partsP (n : Nat) (P : Int) : List (List (List Int)) := (List.range (n + 1)).map fun i => [singL (n - i) (P * 2 ^ i), singL i P]
theorem partsP_length (n : Nat) (P : Int) : (partsP n P).length = n + 1 := by simp [partsP]
def digC (n e : Nat) (out : List (List (List Int))) : Nat → List (List (List Int))
  | 0 => out
  | j + 1 => if e.testBit j then oddP (prodP (digC n e out j) (partsP n (2 ^ j))) else digC n e out j
def copN (r : List Int) : Nat → List (List (List Int))
  | 0 => [[[], []]]
  | k + 1 => digC (k + 1) (r.getD k 0).toNat (copN r k) 6
def copL (r : List Int) : List (List (List Int)) := copN r r.length
theorem digC_end {n e : Nat} {out : List (List (List Int))} {j : Nat} (h : e < 2 ^ j) : ∀ k : Nat, digC n e out (j + k) = digC n e out j := by
  intro k
  induction k with
  | zero => rfl
  | succ k ih =>
    rw [← Nat.add_assoc, digC, ih, Nat.testBit_lt_two_pow (Nat.lt_of_lt_of_le h (Nat.pow_le_pow_right (by omega) (by omega)))]; rfl
theorem digC_len {n e D : Nat} {out : List (List (List Int))} (h : e < 2 ^ D) : ∀ j : Nat, (digC n e out j).length ≤ out.length * (n + 1) ^ (min j D) := by
  intro j
  induction j with
  | zero => simp [digC]
  | succ j ih =>
    rcases Nat.lt_or_ge j D with hj | hj
    · have e1 : min (j + 1) D = min j D + 1 := by omega
      rw [e1, Nat.pow_succ, ← Nat.mul_assoc]
      rw [digC]
      split
      · refine Nat.le_trans (oddP_length _) ?_
        rw [prodP_length, partsP_length]
        exact Nat.mul_le_mul_right _ ih
      · exact Nat.le_trans ih (Nat.le_mul_of_pos_right _ (by omega))
    · rw [digC, Nat.testBit_lt_two_pow (Nat.lt_of_lt_of_le h (Nat.pow_le_pow_right (by omega) hj)), show min (j + 1) D = min j D by omega]
      exact ih
theorem PrS.join {b c : Int} {l : Nat} {p q : List (List Int)} (hp : PrS b l p) (hq : PrS c l q) (hb : 0 ≤ b) (hc : 0 ≤ c) : PrS (b + c) l (pjoin p q) := by
  obtain ⟨x, y, rfl, ⟨h1, h2⟩, h3, h4⟩ := hp
  obtain ⟨z, t, rfl, ⟨k1, k2⟩, k3, k4⟩ := hq
  refine ⟨_, _, rfl, ⟨fun n hn => ?_, by rw [joinL_length]; simp; omega⟩, fun n hn => ?_, by rw [joinL_length]; simp; omega⟩
  · obtain ⟨i, hi, rfl⟩ := List.mem_map.1 hn
    have a1 := h1.at hb i; have a2 := k1.at hc i
    show 0 ≤ x.getD i 0 + z.getD i 0 ∧ x.getD i 0 + z.getD i 0 ≤ b + c
    omega
  · obtain ⟨i, hi, rfl⟩ := List.mem_map.1 hn
    have a1 := h3.at hb i; have a2 := k3.at hc i
    show 0 ≤ y.getD i 0 + t.getD i 0 ∧ y.getD i 0 + t.getD i 0 ≤ b + c
    omega
theorem partsP_ok : ∀ n : Nat, n < 7 → ∀ j : Nat, j < 6 → ∀ q ∈ partsP n ((2 : Int) ^ j), PrS 4096 6 q := by
  intro n hn j hj q hq
  obtain ⟨i, hi, rfl⟩ := List.mem_map.1 hq
  rw [List.mem_range] at hi
  have hP : (1 : Int) ≤ 2 ^ j ∧ (2 : Int) ^ j ≤ 32 := by
    have : ∀ j : Nat, j < 6 → (1 : Int) ≤ 2 ^ j ∧ (2 : Int) ^ j ≤ 32 := by decide
    exact this j hj
  have hI : (1 : Int) ≤ 2 ^ i ∧ (2 : Int) ^ i ≤ 64 := by
    have : ∀ j : Nat, j < 7 → (1 : Int) ≤ 2 ^ j ∧ (2 : Int) ^ j ≤ 64 := by decide
    exact this i (by omega)
  have hm := Int.mul_le_mul hP.2 hI.2 (by omega) (by omega)
  have hm0 := Int.mul_nonneg (show (0 : Int) ≤ 2 ^ j by omega) (show (0 : Int) ≤ 2 ^ i by omega)
  exact ⟨_, _, rfl, ⟨singL_sm _ _ (by omega) hm0 (by omega), by rw [singL_length]; omega⟩, singL_sm _ _ (by omega) (by omega) (by omega), by rw [singL_length]; omega⟩
theorem digC_ok {n e : Nat} {b : Int} {out : List (List (List Int))} (hn : n < 7) (ho : ∀ q ∈ out, PrS b 6 q) (hb : 0 ≤ b) : ∀ j : Nat, j ≤ 6 → ∀ q ∈ digC n e out j, PrS (b + 4096 * j) 6 q := by
  intro j
  induction j with
  | zero => intro _ q hq; exact (ho q hq).mono (by omega) (Nat.le_refl _)
  | succ j ih =>
    intro hj q hq
    rw [digC] at hq
    split at hq
    · obtain ⟨p, hp, hx⟩ := List.mem_flatMap.1 (oddP_mem hq)
      obtain ⟨z, hz, rfl⟩ := List.mem_map.1 hx
      exact ((ih (by omega) p hp).join (partsP_ok n hn j (by omega) z hz) (by omega) (by omega)).mono (by omega) (Nat.le_refl _)
    · exact (ih (by omega) q hq).mono (by omega) (Nat.le_refl _)
theorem copN_ok (r : List Int) : ∀ k : Nat, k ≤ 6 → ∀ q ∈ copN r k, PrS (24576 * k) 6 q := by
  intro k
  induction k with
  | zero =>
    intro _ q hq
    rw [copN, List.mem_singleton] at hq
    subst hq
    exact ⟨[], [], rfl, ⟨(fun x h => absurd h (by simp)), Nat.zero_le _⟩, (fun x h => absurd h (by simp)), Nat.zero_le _⟩
  | succ k ih =>
    intro hk q hq
    rw [copN] at hq
    exact (digC_ok (by omega) (ih (by omega)) (by omega) 6 (Nat.le_refl _) q hq).mono (by omega) (Nat.le_refl _)
/-- Bounds of the numbers of digits and of pairs. -/
def digB (k : Nat) : Nat := [6, 4, 3, 2, 1].getD k 0
def lenB (k : Nat) : Nat := [1, 64, 5184, 331776, 8294400, 49766400].getD k 0
theorem lenB_step : ∀ k : Nat, k < 5 → lenB k * (k + 2) ^ digB k = lenB (k + 1) := by decide
theorem lenB_all : ∀ k : Nat, k < 6 → lenB k ≤ 49766400 := by decide
theorem copN_dig {r : List Int} (hE : isExp r = true) (hd : deg r ≤ 40) {k : Nat} (hk : k < r.length) : ∃ e : Nat, r.getD k 0 = e ∧ e ≤ 40 ∧ e < 2 ^ digB k := by
  have hl := exp_len5 hE hd
  have hn := ((isExp_sm hE).at (by omega) k).1
  have hw := deg_takeN hE (k + 1) hk
  have hw0 := W_nonneg (f := fun i => r.getD i 0) k fun i _ => ((isExp_sm hE).at (by omega) i).1
  rw [W] at hw
  obtain ⟨e, he⟩ : ∃ e : Nat, r.getD k 0 = e := ⟨(r.getD k 0).toNat, by omega⟩
  simp only [he] at hw
  refine ⟨e, he, ?_⟩
  generalize W (fun i => r.getD i 0) k = w0 at hw hw0
  match k, hk, hw with
  | 0, _, hw => simp at hw; exact ⟨by omega, by show e < 64; omega⟩
  | 1, _, hw => simp at hw; exact ⟨by omega, by show e < 16; omega⟩
  | 2, _, hw => simp at hw; exact ⟨by omega, by show e < 8; omega⟩
  | 3, _, hw => simp at hw; exact ⟨by omega, by show e < 4; omega⟩
  | 4, _, hw => simp at hw; exact ⟨by omega, by show e < 2; omega⟩
  | k + 5, hk, _ => omega
theorem copN_len {r : List Int} (hE : isExp r = true) (hd : deg r ≤ 40) : ∀ k : Nat, k ≤ r.length → (copN r k).length ≤ lenB k := by
  have hl := exp_len5 hE hd
  intro k
  induction k with
  | zero => intro _; simp [copN, lenB]
  | succ k ih =>
    intro hk
    obtain ⟨e, he, h40, hlt⟩ := copN_dig hE hd (show k < r.length by omega)
    rw [copN, he, Int.toNat_natCast]
    have h6 : digB k ≤ 6 := by
      have : ∀ k : Nat, k < 5 → digB k ≤ 6 := by decide
      exact this k (by omega)
    have := digC_len (n := k + 1) (out := copN r k) hlt 6
    rw [Nat.min_eq_right h6] at this
    refine Nat.le_trans this ?_
    rw [← lenB_step k (by omega)]
    exact Nat.mul_le_mul_right _ (ih (by omega))
/-- What each step of the walk asks. -/
theorem cop_all {r : List Int} (hE : isExp r = true) (hd : deg r ≤ 40) {k : Nat} (hk : k < r.length) : ∃ e : Nat, r.getD k 0 = e ∧ e ≤ 40 ∧ ∀ j : Nat, j ≤ 6 → (∀ q ∈ digC (k + 1) e (copN r k) j, PrS 1000000000000000 4398046511104 q) ∧ (digC (k + 1) e (copN r k) j).length ≤ 49766400 := by
  have hl := exp_len5 hE hd
  obtain ⟨e, he, h40, hlt⟩ := copN_dig hE hd hk
  refine ⟨e, he, h40, fun j hj => ⟨fun q hq => ?_, ?_⟩⟩
  · exact (digC_ok (by omega) (copN_ok r k (by omega)) (by omega) j hj q hq).mono (by omega) (by omega)
  · have h1 := digC_len (n := k + 1) (out := copN r k) hlt j
    have h2 := copN_len hE hd k (by omega)
    refine Nat.le_trans h1 (Nat.le_trans (Nat.mul_le_mul h2 (Nat.pow_le_pow_right (by omega) (Nat.min_le_right j (digB k)))) ?_)
    rw [lenB_step k (by omega)]
    exact lenB_all (k + 1) (by omega)
end
section
open Go.RowKit Go.Sort

theorem RefSS.base {w : World} {B B' : Nat} {h : Array Obj} {v : Value} {us : List Value} {xsss : List (List (List Int))} (a : RefSS w B h v us xsss) (k : B' ≤ B) : RefSS w B' h v us xsss := ⟨own_base a.row k, a.each⟩
theorem RefSS.step {w w' w2 : World} {B : Nat} {v : Value} {us : List Value} {xsss : List (List (List Int))} (a : RefSS w B w.heap v us xsss) (h : Below w.heap.size w w') (k : ∀ b, b < w'.heap.size → w2.heap[b]? = w'.heap[b]?) : RefSS w2 B w2.heap v us xsss :=
  have e : ∀ b, b < w.heap.size → w2.heap[b]? = w.heap[b]? := fun b hb => (k b (Nat.lt_of_lt_of_le hb h.size)).trans (h.block b hb)
  (a.same e).grow e
theorem below_then5 {B : Nat} {w w4 w5 w6 : World} {o : Obj} (h : Below B w w4) (hB : B ≤ w4.heap.size) (h5 : Below w4.heap.size w4 w5) (h6 : Below w5.heap.size w5 w6) : Below B w (w6.alloc o) :=
  ((h.trans (h5.mono hB)).trans (h6.mono (Nat.le_trans hB h5.size))).alloc (Nat.le_trans hB (Nat.le_trans h5.size h6.size)) _
theorem refSS_lit {W : World} {B : Nat} {u : Value} {xss : List (List Int)} (hu : IntSS W.heap u xss) (hB : B ≤ W.heap.size) : RefSS (W.alloc (.cells #[u] 22)) B (W.alloc (.cells #[u] 22)).heap (.slice (some ⟨W.heap.size, 0, none⟩) 1 1) [u] [xss] :=
  (refSS_one hu hB).grow (alloc_old _ _)
theorem copN_succ (r : List Int) (k e : Nat) (he : r.getD k 0 = e) : copN r (k + 1) = digC (k + 1) e (copN r k) 6 := by rw [copN, he, Int.toNat_natCast]
theorem digC_stop {n e : Nat} {out : List (List (List Int))} {j : Nat} (h : e < 2 ^ j) (hj : j ≤ 6) : digC n e out 6 = digC n e out j := by
  have := digC_end (n := n) (out := out) h (6 - j)
  rwa [show j + (6 - j) = 6 by omega] at this
theorem partsP_take (n : Nat) (P : Int) (t : Nat) (h : t < n + 1) : (partsP n P).take (t + 1) = (partsP n P).take t ++ [[singL (n - t) (P * 2 ^ t), singL t P]] := by
  have ht : t < (partsP n P).length := by rw [partsP_length]; exact h
  rw [List.take_succ_eq_append_getElem ht]
  congr 2
  simp [partsP]
theorem pow_shift : ∀ j : Nat, j < 6 → ∀ t : Nat, t < 7 → wrap64 ((2 : Int) ^ j * 2 ^ t) = 2 ^ j * 2 ^ t ∧ 1 ≤ (2 : Int) ^ j * 2 ^ t ∧ (2 : Int) ^ j * 2 ^ t ≤ 4096 := by decide +kernel
set_option maxRecDepth 100000 in
set_option maxHeartbeats 1000000 in
theorem coproduct_c (v : Value) (r : List Int) (w : World) (h : IntS w.heap v r) (hE : isExp r = true) (hd : deg r ≤ 40) :
    Calls Try.prog 124 #[v] w fun e w' => ∃ r', ∃ us, e = .returned r' ∧ RefSS w' w.heap.size w'.heap r' us (copL r) ∧ Below w.heap.size w w' := by
  have hl5 := exp_len5 hE hd
  have DA := Lib.hid (fun k (hk : k < r.length) => cop_all hE hd hk)
  obtain ⟨ao, c, rfl, hm⟩ := h.len
  have H := Lib.hid h
  have e1 := ownI_empty (w := w) (B := w.heap.size) (Nat.le_refl _)
  have e2 := ownI_empty (w := w.alloc (.cells #[] 2)) (B := w.heap.size) (by simp)
  have pr := two_row (e1.ints.same (alloc_old _ _)) e2.ints
  have hB3 : ∀ o1 o2 o3 : Obj, w.heap.size ≤ (((w.alloc o1).alloc o2).alloc o3).heap.size := fun _ _ _ => by rw [size_alloc_w, size_alloc_w, size_alloc_w]; omega
  have hB2 : ∀ o1 o2 : Obj, w.heap.size ≤ ((w.alloc o1).alloc o2).heap.size := fun _ _ => by rw [size_alloc_w, size_alloc_w]; omega
  have hB1 : ∀ o1 : Obj, w.heap.size ≤ (w.alloc o1).heap.size := fun _ => by rw [size_alloc_w]; omega
  have hl1 := refSS_lit (B := w.heap.size) pr (hB3 _ _ _)
  simp only [size_alloc_w] at hl1
  have HL := Lib.hid hl1
  clear hl1 h hE hd e1 e2 pr
  unfold copL
  go_enter Try.func124, Try.ntmps124
  go_wp2_with fail
  go_loopw [3, 16] (fun o i wr => ∃ (k : Nat) (us : List Value), k ≤ r.length ∧ i = .int .i64 k ∧ RefSS wr w.heap.size wr.heap o us (copN r k) ∧ Below w.heap.size w wr) (fun _ i _ => r.length - (intOf i).toNat)
  case atStart => exact ⟨0, _, Nat.zero_le _, rfl, HL.out, ((((Below.refl _ _).alloc (Nat.le_refl _) _).alloc (hB1 _) _).alloc (hB2 _ _) _).alloc (hB3 _ _ _) _⟩
  case round =>
    obtain ⟨k, us, hk, rfl, hU, hbl⟩ := hrel
    obtain ⟨va, vn, vc, rfl⟩ := own_shape hU.row
    have HU := Lib.hid hU; have HBL := Lib.hid hbl
    by_cases hkl : k < r.length
    · obtain ⟨e, he, he40, HJ⟩ := DA.out k hkl
      have HJ := Lib.hid HJ
      obtain ⟨b1, o1, c1, hv1, hc1, -⟩ := H.out.at k hkl
      simp only [Value.slice.injEq, true_and] at hv1
      obtain ⟨rfl, rfl⟩ := hv1
      have hcx := (hbl.cell (World.block_lt_of_cell? _ _ hc1)).trans hc1
      rw [← getD_at', he] at hcx
      have HSU := Lib.hid (copN_succ r k e he)
      have hki : (k : Int) < r.length := by omega
      clear hU hbl hc1 he
      generalize copN r k = D0 at *
      go_wp2_with fail
      go_loopw [3, 7] (fun o p wk => ∃ (j : Nat) (us : List Value), j ≤ 6 ∧ p = .int .i64 ((2 : Int) ^ j) ∧ RefSS wk w.heap.size wk.heap o us (digC (k + 1) e D0 j) ∧ Below w.heap.size w wk) (fun _ p _ => 65 - (intOf p).toNat)
      case atStart => exact ⟨0, us, by omega, rfl, HU.out, HBL.out⟩
      case round =>
        obtain ⟨j, us2, hj, rfl, hO, hb2⟩ := hrel
        obtain ⟨ya, yn, yc, rfl⟩ := own_shape hO.row
        have HO := Lib.hid hO; have HB2 := Lib.hid hb2
        obtain ⟨hp1, hp2, hp3⟩ := pow2_le j hj
        obtain ⟨hsm, hlen⟩ := HJ.out j hj
        have HSM := Lib.hid hsm
        clear hO hb2 hsm
        by_cases hle : (2 : Int) ^ j ≤ e
        · have hj6 : j < 6 := by
            rcases Nat.lt_or_ge j 6 with h | h
            · exact h
            · obtain rfl : j = 6 := by omega
              rw [show (2 : Int) ^ 6 = 64 by decide] at hle
              omega
          have hb := and_bit e (by omega) j hj6
          have HD : Hid (digC (k + 1) e D0 (j + 1) = if e.testBit j then oddP (prodP (digC (k + 1) e D0 j) (partsP (k + 1) (2 ^ j))) else digC (k + 1) e D0 j) := rfl
          cases hbt : e.testBit j
          · rw [hbt] at hb HD
            obtain ⟨P, hP⟩ : ∃ P : Int, (2 : Int) ^ j = P := ⟨_, rfl⟩
            have HP3 : Hid (P * 2 = (2 : Int) ^ (j + 1)) := by show _ = _; rw [← hP]; exact hp3
            rw [hP] at hp1 hp2 hle hb ⊢
            have hb1 : (bits BinOp.and IntKind.i64 (e : Int) P == 0) = true := by simpa using hb
            have u1 : decide (P ≤ (e : Int)) = true := decide_eq_true hle
            have HPP := Lib.hid hP
            clear hP hp3 hbt
            go_wp2_with fail
            go_roundw
            case rel => exact ⟨j + 1, us2, by omega, by rw [HP3.out], by rw [HD.out]; exact HO.out, HB2.out⟩
            case measure => simp [intOf]; omega
          · rw [hbt] at hb HD
            have HPS := Lib.hid (fun t (ht : t < 7) => pow_shift j hj6 t ht)
            have HPK := Lib.hid (partsP_ok (k + 1) (by omega) j hj6)
            obtain ⟨P, hP⟩ : ∃ P : Int, (2 : Int) ^ j = P := ⟨_, rfl⟩
            have HP3 : Hid (P * 2 = (2 : Int) ^ (j + 1)) := by show _ = _; rw [← hP]; exact hp3
            rw [hP] at hp1 hp2 hle hb HD HPS HPK ⊢
            have MP := Lib.hid (fun (v u : Value) (W : World) (h : IntSSS W.heap v (digC (k + 1) e D0 j)) (hu : IntSSS W.heap u (partsP (k + 1) P)) => multiplyPairs_c v u _ _ W h hu HSM.out (fun q hq => (HPK.out q hq).mono (by omega) (by omega)) (by
              rw [partsP_length]
              exact Nat.le_trans (Nat.mul_le_mul hlen (show k + 1 + 1 ≤ 6 by omega)) (by omega)))
            have hb1 : (bits BinOp.and IntKind.i64 (e : Int) P == 0) = false := by simpa using hb
            have u1 : decide (P ≤ (e : Int)) = true := decide_eq_true hle
            have HPP := Lib.hid hP
            have hk6 : (k : Int) + 1 < 7 := by omega
            have hkw : IntKind.i64.wrap ((k : Int) + 1) = (k : Int) + 1 := IntWalk.i64_in _ (by omega)
            clear hP hp3 hbt HSM
            rename World => WK
            go_wp2_with fail
            go_loopw [8, 9] (fun o i wm => ∃ (t : Nat) (us : List Value), t ≤ k + 2 ∧ i = .int .i64 t ∧ RefSS wm WK.heap.size wm.heap o us ((partsP (k + 1) P).take t) ∧ Below WK.heap.size WK wm) (fun _ i _ => k + 2 - (intOf i).toNat)
            case atStart => exact ⟨0, [], Nat.zero_le _, rfl, refSS_empty _ (Nat.le_refl _), (Below.refl _ _).alloc (Nat.le_refl _) _⟩
            case round =>
              obtain ⟨t, us4, ht, rfl, hQ, hb4⟩ := hrel
              obtain ⟨qa, qn, qc, rfl⟩ := own_shape hQ.row
              have HQ := Lib.hid hQ; have HB4 := Lib.hid hb4
              have hsz4 := hb4.size
              by_cases htl : t < k + 2
              · have HPT := Lib.hid (partsP_take (k + 1) P t (by omega))
                obtain ⟨hs1, hs2, hs3⟩ := HPS.out t (by omega)
                obtain ⟨m, hm⟩ : ∃ m : Nat, k + 1 - t = m := ⟨_, rfl⟩
                rw [hm] at HPT
                have hm2 : (k : Int) + 1 - t = m := by omega
                have hm9 : m ≤ 1000 := by omega
                have ht9 : t ≤ 1000 := by omega
                obtain ⟨Q2, hQ2⟩ : ∃ Q2 : Int, P * 2 ^ t = Q2 := ⟨_, rfl⟩
                rw [hQ2] at hs1 hs2 hs3 HPT
                have SG := Lib.hid (fun (W : World) => single_c m Q2 W hm9)
                have SG2 := Lib.hid (fun (W : World) => single_c t P W ht9)
                have hti : (t : Int) ≤ (k : Int) + 1 := by omega
                have hql : ((partsP (k + 1) P).take t).length ≤ 4398046511104 := by rw [List.length_take]; omega
                have HQL := Lib.hid hql
                have u3 : decide ((t : Int) ≤ (k : Int) + 1) = true := decide_eq_true hti
                clear hQ hb4 hm hql
                go_wp2_with (first | (go_at_call 157; first | ((with_reducible refine (SG.out _).mono ?_); rintro e w5 ⟨r5, rfl, hs5, hx5⟩; obtain ⟨ra, rn, rc, rfl⟩ := own_shape hs5) | ((with_reducible refine (SG2.out _).mono ?_); rintro e w6 ⟨r6, rfl, hs6, hx6⟩; obtain ⟨rb, rm, rd, rfl⟩ := own_shape hs6)) | (at_builtin; refine append_refSS rfl _ _ rfl WK.heap.size _ (.slice (some ⟨w6.heap.size, 0, none⟩) 2 2) us4 _ [singL m Q2, singL t P] (HQ.out.step (hx5.trans (hx6.mono hx5.size)) (alloc_old _ _)) rfl (two_row (hs5.ints.same hx6.block) hs6.ints) (below_then5 HB4.out hsz4 hx5 hx6) (by have := hx5.size; have := hx6.size; simp; omega) _ rfl (by simp) HQL.out ?_; intro v7 us7 w7 hU7 hb7 hs7 hk7; obtain ⟨sa, sn, sc, rfl⟩ := own_shape hU7.row))
                go_roundw
                case rel => exact ⟨t + 1, us7, by omega, by go_num, by rw [HPT.out]; exact hU7, hb7⟩
                case measure => simp [intOf]; omega
              · obtain rfl : t = k + 2 := by omega
                rw [List.take_of_length_le (by rw [partsP_length]; omega)] at HQ
                have HOQ := Lib.hid ((HO.out.ints (fun _ _ => rfl)).same hb4.block)
                have HQI := Lib.hid (HQ.out.ints (fun _ _ => rfl))
                have HBQ := Lib.hid (HB2.out.trans (hb4.mono HB2.out.size))
                have MP1 := Lib.hid (fun (W : World) (h : IntSSS W.heap (.slice ya yn yc) (digC (k + 1) e D0 j)) (hu : IntSSS W.heap (.slice qa qn qc) (partsP (k + 1) P)) => MP.out _ _ W h hu)
                have u3 : decide (((k + 2 : Nat) : Int) ≤ (k : Int) + 1) = false := decide_eq_false (by omega)
                clear hQ hb4
                go_wp2_with (go_at_call 158; (with_reducible refine (MP1.out _ HOQ.out HQI.out).mono ?_); rintro e w8 ⟨r8, us8, rfl, hU8, hb8⟩; obtain ⟨ta, tn, tc, rfl⟩ := own_shape hU8.row)
                go_roundw
                case rel => exact ⟨j + 1, us8, by omega, by rw [HP3.out], by rw [HD.out]; exact hU8.base HBQ.out.size, HBQ.out.trans (hb8.mono HBQ.out.size)⟩
                case measure => simp [intOf]; omega
        · have hlt : e < 2 ^ j := by
            have : ((2 ^ j : Nat) : Int) = (2 : Int) ^ j := by rw [Int.natCast_pow]; rfl
            omega
          have HE := Lib.hid (digC_stop (n := k + 1) (out := D0) hlt hj)
          have u1 : decide ((2 : Int) ^ j ≤ (e : Int)) = false := decide_eq_false hle
          obtain ⟨P, hP⟩ : ∃ P : Int, (2 : Int) ^ j = P := ⟨_, rfl⟩
          rw [hP] at hp1 hp2 hle u1 ⊢
          clear hP hp3 hlt hlen
          go_wp2_with fail
          go_roundw
          case rel => exact ⟨k + 1, us2, by omega, by go_num, by rw [HSU.out, HE.out]; exact HO.out, HB2.out⟩
          case measure => simp [intOf]; omega
    · obtain rfl : k = r.length := by omega
      clear hU hbl
      go_wp2_with fail
      go_ret
      exact ⟨_, us, rfl, HU.out, HBL.out⟩
end
section
open Go.RowKit Go.Sort

theorem flat_len2 {α β : Type} (f : α → List β) (l : List α) (N : Nat) (h : ∀ x ∈ l, (f x).length ≤ N) : (l.flatMap f).length ≤ l.length * N := by
  induction l with
  | nil => simp
  | cons x l ih =>
    rw [List.flatMap_cons, List.length_append, List.length_cons, Nat.add_mul]
    have h1 := h x (List.mem_cons_self ..)
    have h2 := ih fun y hy => h y (List.mem_cons_of_mem _ hy)
    omega
theorem copL_len {r : List Int} (hE : isExp r = true) (hd : deg r ≤ 40) : (copL r).length ≤ 49766400 := by
  have hl := exp_len5 hE hd
  exact Nat.le_trans (copN_len hE hd r.length (Nat.le_refl _)) (lenB_all _ (by omega))
theorem copL_ok {r : List Int} (hl : r.length ≤ 6) : ∀ q ∈ copL r, PrS 1000000 6 q := fun q hq => (copN_ok r r.length hl q hq).mono (by omega) (Nat.le_refl _)
def copsL (xss : List (List Int)) : List (List (List Int)) := xss.flatMap copL
theorem copsL_row {xss : List (List Int)} (hT : arT xss = true) {r : List Int} (hr : r ∈ xss) : isExp r = true ∧ deg r ≤ 40 := by
  have h1 := arT_expD hT r hr
  exact ⟨h1.1, by rw [h1.2]; exact (degT_in hT).2⟩
theorem copsL_ok {xss : List (List Int)} (hT : arT xss = true) : ∀ q ∈ copsL xss, PrS 1000000 6 q := fun q hq => by
  obtain ⟨r, hr, hq⟩ := List.mem_flatMap.1 hq
  obtain ⟨h1, h2⟩ := copsL_row hT hr
  exact copL_ok (by have := exp_len5 h1 h2; omega) q hq
theorem copsL_len {xss : List (List Int)} (hT : arT xss = true) (n : Nat) (hx : xss.length ≤ 504) : (copsL (xss.take n)).length ≤ 504 * 49766400 := by
  refine Nat.le_trans (flat_len2 copL (xss.take n) 49766400 fun r hr => ?_) (Nat.mul_le_mul_right _ (by rw [List.length_take]; omega))
  obtain ⟨h1, h2⟩ := copsL_row hT (List.mem_of_mem_take hr)
  exact copL_len h1 h2
theorem copsL_step (xss : List (List Int)) (k : Nat) (h : k < xss.length) : copsL (xss.take (k + 1)) = copsL (xss.take k) ++ copL xss[k] := by
  unfold copsL
  rw [List.take_succ_eq_append_getElem h, List.flatMap_append]; simp
section
variable {ops : Array Oper} {rest : List Oper} {o : Oper} {a : Act} {Q : Exit → Act → World → Prop}
/-- 'append(out, list...)', references to slices of slices. -/
theorem append_allSS {w w0 : World} (hg : o.guard = none) (s x : Operand)
    (ho : o.op = .call { callee := .builtin .append, args := #[s, x], argTypes := #[26, 26] })
    (B : Nat) (v vx : Value) (us : List Value) (xsss ysss : List (List (List Int))) (hR : RefSS w B w.heap v us xsss) (hs : a.eval s = v) (hX : IntSSS w.heap vx ysss) (hx : a.eval x = vx) (hbl : Below B w0 w) (hB : B ≤ w.heap.size)
    (hn : xsss.length + ysss.length ≤ 4398046511104)
    (hK : ∀ v' us' w', RefSS w' B w'.heap v' us' (xsss ++ ysss) → Below B w0 w' → w.heap.size ≤ w'.heap.size → (∀ b, b < w.heap.size → some b ≠ v.ownBlock → w'.heap[b]? = w.heap[b]?) → wpList Try.prog ops Q rest (a.put o.dst v') w') :
    wpList Try.prog ops Q (o :: rest) a w := by
  obtain ⟨i0, hi, hz0, hz1, hz2⟩ := info_parts info_slSS
  obtain ⟨vs, hS, hvl, hve⟩ := hX
  refine append_all hg s x _ ho B _ i0 _ 24 Try.underlying26 hi hz0 hz1 hz2 rfl (by omega) v vx _ us vs hR.row hs hS hx hbl hB (fun u hu => ?_) (by omega) ?_
  · obtain ⟨i, hi, rfl⟩ := List.getElem_of_mem hu
    exact intSS_oneCell (hve i _ _ (List.getElem?_eq_getElem hi) (List.getElem?_eq_getElem (show i < ysss.length by omega)))
  · intro v' w' h1 h2 h3 h4
    have hk := KeepT.grown hR.row h4
    have hl := hR.len
    refine hK v' _ w' ⟨by rw [List.length_append, ← hvl]; exact h1, fun i y ys hy hz => ?_⟩ h2 h3 h4
    by_cases hi : i < us.length
    · rw [List.getElem?_append_left hi] at hy
      rw [List.getElem?_append_left (by omega)] at hz
      exact (hR.each i y ys hy hz).keepT (by decide) (by decide) hk
    · rw [List.getElem?_append_right (by omega)] at hy hz
      rw [← hl] at hz
      exact (hve _ y ys hy hz).keepT (by decide) (by decide) hk
end
set_option maxRecDepth 100000 in
set_option maxHeartbeats 1000000 in
theorem coproducts_c (v : Value) (xss : List (List Int)) (w : World) (h : IntSS w.heap v xss) (hT : arT xss = true) (hx504 : xss.length ≤ 504) :
    Calls Try.prog 68 #[v] w fun e w' => ∃ r us, e = .returned r ∧ RefSS w' w.heap.size w'.heap r us (oddP (copsL xss)) ∧ Below w.heap.size w w' := by
  obtain ⟨ao, c, rfl, hm⟩ := h.len
  have H := Lib.hid h
  have HLN := Lib.hid (fun n => copsL_len hT n hx504)
  have HRW := Lib.hid (fun r (hr : r ∈ xss) => copsL_row hT hr)
  have hln := copsL_len hT xss.length hx504
  rw [List.take_length] at hln
  have OP := Lib.hid (fun (v : Value) (us : List Value) (B : Nat) (W : World) (hR : RefSS W B W.heap v us (copsL xss)) (hB : B ≤ W.heap.size) => oddPairs_c v us (copsL xss) B W hR hB (by omega) (fun q hq => (copsL_ok hT q hq).pr))
  clear h hT hln
  go_enter Try.func68, Try.ntmps68
  go_wp2_with fail
  go_loopw [3, 9] (fun o i wr => ∃ (k : Nat) (us : List Value), k ≤ xss.length ∧ i = .int .i64 k ∧ RefSS wr w.heap.size wr.heap o us (copsL (xss.take k)) ∧ Below w.heap.size w wr) (fun _ i _ => xss.length - (intOf i).toNat)
  case atStart => exact ⟨0, [], Nat.zero_le _, rfl, refSS_empty _ (Nat.le_refl _), (Below.refl _ _).alloc (Nat.le_refl _) _⟩
  case round =>
    obtain ⟨k, us, hk, rfl, hU, hbl⟩ := hrel
    obtain ⟨va, vn, vc, rfl⟩ := own_shape hU.row
    have HU := Lib.hid hU; have HBL := Lib.hid hbl
    have hsz := hbl.size
    by_cases hkl : k < xss.length
    · obtain ⟨b1, o1, c1, uk, hv1, hc1, huk, -⟩ := H.out.at k hkl
      simp only [Value.slice.injEq, true_and] at hv1
      obtain ⟨rfl, rfl⟩ := hv1
      have hcx := (hbl.cell (World.block_lt_of_cell? _ _ hc1)).trans hc1
      have HX := Lib.hid (huk.same hbl.block)
      have hrow := HRW.out _ (List.getElem_mem hkl)
      have HDS := Lib.hid (copsL_step xss k hkl)
      obtain ⟨qa, qc, rfl, -⟩ := huk.len
      have CO := Lib.hid (fun (W : World) (h : IntS W.heap (.slice qa xss[k].length qc) xss[k]) => coproduct_c _ xss[k] W h hrow.1 hrow.2)
      have hl1 := HLN.out k
      have hl2 := copL_len hrow.1 hrow.2
      have hki : (k : Int) < xss.length := by omega
      have HLL : Hid ((copsL (xss.take k)).length + (copL xss[k]).length ≤ 4398046511104) := by show _ ≤ _; omega
      clear hU hbl hc1 huk hrow hl1 hl2
      generalize xss[k] = r at *
      go_wp2_with (first | (go_at_call 124; refine (CO.out _ HX.out).mono ?_; rintro e w3 ⟨r3, us3, rfl, hU3, hb3⟩; obtain ⟨da, dn, dc, rfl⟩ := own_shape hU3.row) | (at_builtin; refine append_allSS rfl _ _ rfl w.heap.size _ _ us _ (copL r) (HU.out.step hb3 (fun _ _ => rfl)) rfl (hU3.ints (fun _ _ => rfl)) rfl (HBL.out.trans (hb3.mono hsz)) (Nat.le_trans hsz hb3.size) HLL.out ?_; intro v4 us4 w4 hU4 hb4 _ _; obtain ⟨ea, en, ec, rfl⟩ := own_shape hU4.row))
      go_roundw
      case rel => exact ⟨k + 1, us4, by omega, by go_num, by rw [HDS.out]; exact hU4, hb4⟩
      case measure => simp [intOf]; omega
    · obtain rfl : k = xss.length := by omega
      rw [List.take_length] at hU
      have OP1 := Lib.hid (OP.out _ _ _ wr hU hsz)
      clear hU HU
      go_wp2_with (go_at_call 125; refine OP1.out.mono ?_; rintro e w2 ⟨r, us3, rfl, hR3, hb3, hk3⟩; obtain ⟨qa, qn, qc, rfl⟩ := own_shape hR3.row)
      go_ret
      exact ⟨_, _, rfl, hR3.base hsz, HBL.out.trans hb3⟩
end
section
open Go.RowKit Go.Sort

theorem putP_split {x : List (List Int)} {l : List (List (List Int))} (hx : IsPr x) (hl : ∀ y ∈ l, IsPr y) (k : Nat) (hk : k ≤ l.length) (h1 : ∀ j, j < k → ltL (encP (l.getD j [])) (encP x) = true) (h2 : k < l.length → ltL (encP (l.getD k [])) (encP x) = false) :
    putP x l = l.take k ++ (if k < l.length ∧ l.getD k [] = x then l.drop (k + 1) else x :: l.drop k) := by
  have hg : ∀ j, j < l.length → (l.map encP).getD j [] = encP (l.getD j []) := fun j hj => getD_enc l j hj
  have hp := put_split (encP x) (l.map encP) k (by simpa using hk) (fun j hj => by rw [hg j (by omega)]; exact h1 j hj) (fun h => by rw [List.length_map] at h; rw [hg k h]; exact h2 h)
  refine enc_map_inj (fun y hy => ?_) (fun y hy => ?_) ?_
  · rcases putP_mem _ _ _ hy with h | h
    · exact hl y h
    · rw [h]; exact hx
  · rcases List.mem_append.1 hy with h | h
    · exact hl y (List.mem_of_mem_take h)
    · split at h
      · exact hl y (List.mem_of_mem_drop h)
      · rcases List.mem_cons.1 h with h | h
        · rw [h]; exact hx
        · exact hl y (List.mem_of_mem_drop h)
  · rw [putP_enc, hp, List.map_append, List.map_take, List.length_map]
    congr 1
    by_cases hkl : k < l.length
    · rw [hg k hkl]
      have hy : IsPr (l.getD k []) := by rw [show l.getD k [] = l[k] by simp [hkl]]; exact hl _ (List.getElem_mem hkl)
      by_cases e : l.getD k [] = x
      · rw [if_pos ⟨hkl, by rw [e]⟩, if_pos ⟨hkl, e⟩, List.map_drop]
      · rw [if_neg (fun h => e (encP_inj hy hx h.2)), if_neg (fun h => e h.2), List.map_cons, List.map_drop]
    · rw [if_neg (fun h => hkl h.1), if_neg (fun h => hkl h.1), List.map_cons, List.map_drop]
theorem RefSS.drewN {w : World} {B : Nat} {v : Value} {us : List Value} {xsss : List (List (List Int))} (n : Nat) (a : RefSS w B w.heap v us xsss) : RefSS (w.drewN n) B (w.drewN n).heap v us xsss := ⟨own_same a.row (fun _ _ => rfl), a.each⟩
theorem IntSSS.drop {h : Array Obj} {ao : Option Addr} {c : Nat} {yss : List (List (List Int))} (x : IntSSS h (.slice ao yss.length c) yss) (k : Nat) (hk : k ≤ yss.length) : IntSSS h (.slice (dropA ao c k) (yss.length - k) (c - k)) (yss.drop k) := by
  obtain ⟨vs, h1, h2, h3⟩ := x
  have := slAt_drop (k := k) (by rw [h2]; exact h1) (by omega)
  rw [h2] at this
  exact ⟨_, this, by simp [h2], fun i u ys hu hy => by
    rw [List.getElem?_drop] at hu hy
    exact h3 _ u ys hu hy⟩
theorem IntSSS.take {h : Array Obj} {ao : Option Addr} {c : Nat} {yss : List (List (List Int))} (x : IntSSS h (.slice ao yss.length c) yss) (k : Nat) (hk : k ≤ yss.length) : IntSSS h (.slice ao k c) (yss.take k) := by
  obtain ⟨vs, h1, h2, h3⟩ := x
  have := slAt_take (m := k) (by rw [h2]; exact h1) (by omega)
  refine ⟨_, this, by simp [h2], fun i u ys hu hy => ?_⟩
  rw [List.getElem?_take] at hu hy
  split at hu
  · rename_i hi
    rw [if_pos hi] at hy
    exact h3 _ u ys hu hy
  · cases hu
section
variable {ops : Array Oper} {o : Oper} {a : Act} {Q : Exit → Act → World → Prop} {K : Act → World → Prop} {E : Prop}
theorem step_append_allSS {w w0 : World} (hg : o.guard = none) (s x : Operand)
    (ho : o.op = .call { callee := .builtin .append, args := #[s, x], argTypes := #[26, 26] })
    (B : Nat) (v vx : Value) (us : List Value) (xsss ysss : List (List (List Int))) (hR : RefSS w B w.heap v us xsss) (hs : a.eval s = v) (hX : IntSSS w.heap vx ysss) (hx : a.eval x = vx) (hbl : Below B w0 w) (hB : B ≤ w.heap.size)
    (hn : xsss.length + ysss.length ≤ 4398046511104)
    (hK : ∀ v' us' w', RefSS w' B w'.heap v' us' (xsss ++ ysss) → Below B w0 w' → w.heap.size ≤ w'.heap.size → (∀ b, b < w.heap.size → some b ≠ v.ownBlock → w'.heap[b]? = w.heap[b]?) → K (a.put o.dst v') w') :
    if Region.wanted o (yielded ops a.tmps) = true then Oper.wp Try.prog o a w K Q else E := by
  obtain ⟨i0, hi, hz0, hz1, hz2⟩ := info_parts info_slSS
  obtain ⟨vs, hS, hvl, hve⟩ := hX
  refine step_append_all hg s x _ ho B _ i0 _ 24 Try.underlying26 hi hz0 hz1 hz2 rfl (by omega) v vx _ us vs hR.row hs hS hx hbl hB (fun u hu => ?_) (by omega) ?_
  · obtain ⟨i, hi, rfl⟩ := List.getElem_of_mem hu
    exact intSS_oneCell (hve i _ _ (List.getElem?_eq_getElem hi) (List.getElem?_eq_getElem (show i < ysss.length by omega)))
  · intro v' w' h1 h2 h3 h4
    have hk := KeepT.grown hR.row h4
    have hl := hR.len
    refine hK v' _ w' ⟨by rw [List.length_append, ← hvl]; exact h1, fun i y ys hy hz => ?_⟩ h2 h3 h4
    by_cases hi : i < us.length
    · rw [List.getElem?_append_left hi] at hy
      rw [List.getElem?_append_left (by omega)] at hz
      exact (hR.each i y ys hy hz).keepT (by decide) (by decide) hk
    · rw [List.getElem?_append_right (by omega)] at hy hz
      rw [← hl] at hz
      exact (hve _ y ys hy hz).keepT (by decide) (by decide) hk
end
set_option maxRecDepth 100000 in
set_option maxHeartbeats 1000000 in
theorem l06Toggle_c (v u : Value) (L : List (List (List Int))) (q : List (List Int)) (w : World) (h : IntSSS w.heap v L) (hu : IntSS w.heap u q) (hL : ∀ y ∈ L, IsPr y) (hq : IsPr q) (hl : L.length < 4398046511104) :
    Calls Try.prog 120 #[v, u] w fun e w' => ∃ r us, e = .returned r ∧ RefSS w' w.heap.size w'.heap r us (putP q L) ∧ Below w.heap.size w w' := by
  have BF := Lib.hid (fun (y : Value) (ys : List (List Int)) (W : World) (h1 : IntSS W.heap y ys) (h2 : IntSS W.heap u q) (hp : IsPr ys) => l06Before_c y u ys q W h1 h2 hp hq)
  have SM := Lib.hid (fun (y : Value) (ys : List (List Int)) (W : World) (h1 : IntSS W.heap y ys) (h2 : IntSS W.heap u q) => l01Same2_c y u ys q W h1 h2)
  obtain ⟨ao, c, rfl, hm⟩ := h.len
  obtain ⟨pa, pc, rfl, hm2⟩ := hu.len
  have hcap : L.length ≤ c := by
    obtain ⟨us, h1, h2, _⟩ := h
    obtain ⟨a', c', hv', h3, _⟩ := SlAt.len h1
    simp only [Value.slice.injEq] at hv'
    omega
  have H := Lib.hid h; have HQ := Lib.hid hu; have HL := Lib.hid hL
  have PS := Lib.hid (fun k => putP_split hq hL k)
  clear h hu hL hq
  go_enter Try.func120, Try.ntmps120
  go_wp2_with fail
  go_loopw [5] (fun i wr => ∃ k n : Nat, k ≤ L.length ∧ i = .int .i64 k ∧ wr = w.drewN n ∧ ∀ j, j < k → ltL (encP (L.getD j [])) (encP q) = true) (fun i _ => L.length - (intOf i).toNat)
  case atStart => exact ⟨0, 0, Nat.zero_le _, rfl, rfl, fun j hj => by omega⟩
  case round =>
    obtain ⟨k, n, hk, rfl, rfl, hpre⟩ := hrel
    have HP := Lib.hid hpre; clear hpre
    have b0 : (0 : Int) ≤ k := by omega
    have b1 : (k : Int) ≤ c := by omega
    have b6 : (k : Int) ≤ L.length := by omega
    by_cases hlt : k < L.length
    · obtain ⟨b1', o1, c1, uk, hv1, hc1, huk, -⟩ := H.out.at k hlt
      simp only [Value.slice.injEq, true_and] at hv1
      obtain ⟨rfl, rfl⟩ := hv1
      obtain ⟨qa0, qc0, rfl, -⟩ := huk.len
      rw [show L[k] = L.getD k [] by simp [hlt]] at huk hc1
      have HPK : Hid (IsPr (L.getD k [])) := by
        show IsPr _
        rw [show L.getD k [] = L[k] by simp [hlt]]; exact HL.out _ (List.getElem_mem hlt)
      have HUK := Lib.hid huk
      have hki : (k : Int) < L.length := by omega
      clear huk
      have B1 := Lib.hid (BF.out (.slice qa0 (L.getD k []).length qc0) _ (w.drewN n) HUK.out HQ.out HPK.out)
      cases hL : ltL (encP (L.getD k [])) (encP q)
      · rw [hL] at B1
        by_cases heq : L.getD k [] = q
        · have HS : Hid (putP q L = L.take k ++ L.drop (k + 1)) := by
            show _ = _
            rw [PS.out k hk HP.out (fun _ => hL), if_pos ⟨hlt, heq⟩]
          have M1 := Lib.hid (fun (W : World) (h : IntSS W.heap (.slice qa0 (L.getD k []).length qc0) (L.getD k [])) (h2 : IntSS W.heap (.slice pa q.length pc) q) => SM.out _ _ W h h2)
          rw [show decide (L.getD k [] = q) = true by simpa using heq] at M1
          have b2 : (0 : Int) ≤ (k : Int) + 1 := by omega
          have b3 : (k : Int) + 1 ≤ L.length := by omega
          have b4 : ((k : Int) + 1).toNat = k + 1 := by omega
          have b5 : IntKind.i64.wrap ((k : Int) + 1) = (k : Int) + 1 := IntWalk.i64_in _ (by omega)
          clear hL heq
          generalize L.getD k [] = ys at *
          by_cases hck : c = k + 1
          · obtain rfl : c = k + 1 := hck
            have HDR : Hid (IntSSS w.heap (.slice (some ⟨b1', o1, none⟩) (L.length - (k + 1)) 0) (L.drop (k + 1))) := by
              have := H.out.drop (k + 1) (by omega)
              rw [dropA, if_pos rfl, Nat.sub_self] at this
              exact this
            go_wp2_with (first | (go_at_call 153; refine B1.out.mono ?_; rintro e W2 ⟨rfl, n2, rfl⟩) | (at_builtin; refine append_allSS rfl _ _ rfl w.heap.size (.slice (some ⟨w.heap.size, 0, none⟩) 0 0) (.slice (some ⟨b1', o1, none⟩) k (k + 1)) [] [] (L.take k) (refSS_empty _ (Nat.le_refl _)) rfl ((H.out.take k hk).same (alloc_old _ _)) rfl ((below_drewN _ (Below.refl _ w)).alloc (Nat.le_refl _) _) (by simp) (by simp; omega) ?_; intro v1 us1 w1 hR1 hb1 hs1 hk1; obtain ⟨sa, sn, sc, rfl⟩ := own_shape hR1.row; have hcx1 := (hb1.cell (World.block_lt_of_cell? _ _ hc1)).trans hc1; have HR1 := Lib.hid hR1; have HB1 := Lib.hid hb1; clear hR1 hb1 hs1 hk1) | (go_at_call 154; refine (M1.out _ (HUK.out.same HB1.out.block) (HQ.out.same HB1.out.block)).mono ?_; rintro e W3 ⟨rfl, n3, rfl⟩) | (at_builtin; refine append_allSS rfl _ _ rfl w.heap.size _ (.slice (some ⟨b1', o1, none⟩) (L.length - (k + 1)) 0) us1 (L.take k) (L.drop (k + 1)) (HR1.out.drewN n3) rfl (HDR.out.same HB1.out.block) rfl (below_drewN _ HB1.out) HB1.out.size (by simp; omega) ?_; intro v4 us4 w4 hR4 hb4 _ _; obtain ⟨ta, tn, tc, rfl⟩ := own_shape hR4.row) | (at_builtin; refine append_allSS rfl _ _ rfl w.heap.size _ (.slice (some ⟨b1', o1, none⟩) (L.length - (k + 1)) (k + 1 - (k + 1))) us1 (L.take k) (L.drop (k + 1)) (HR1.out.drewN n3) rfl (by have := HDR.out.same HB1.out.block; rw [Nat.sub_self]; exact this) rfl (below_drewN _ HB1.out) HB1.out.size (by simp; omega) ?_; intro v4 us4 w4 hR4 hb4 _ _; obtain ⟨ta, tn, tc, rfl⟩ := own_shape hR4.row) | (at_builtin; refine append_allSS rfl _ _ rfl w.heap.size _ (.slice (some ⟨b1', o1, none⟩) 0 0) us1 (L.take k) (L.drop (k + 1)) (HR1.out.drewN n3) rfl (by have := HDR.out.same HB1.out.block; rw [show L.length - (k + 1) = 0 by omega] at this; exact this) rfl (below_drewN _ HB1.out) HB1.out.size (by simp; omega) ?_; intro v4 us4 w4 hR4 hb4 _ _; obtain ⟨ta, tn, tc, rfl⟩ := own_shape hR4.row))
            all_goals
              go_ret
              exact ⟨_, us4, rfl, by rw [HS.out]; exact hR4, hb4⟩
          · have HDR : Hid (IntSSS w.heap (.slice (some ⟨b1', o1 + (k + 1), none⟩) (L.length - (k + 1)) (c - (k + 1))) (L.drop (k + 1))) := by
              have := H.out.drop (k + 1) (by omega)
              rw [dropA, if_neg hck] at this
              exact this
            go_wp2_with (first | (go_at_call 153; refine B1.out.mono ?_; rintro e W2 ⟨rfl, n2, rfl⟩) | (at_builtin; refine append_allSS rfl _ _ rfl w.heap.size (.slice (some ⟨w.heap.size, 0, none⟩) 0 0) (.slice (some ⟨b1', o1, none⟩) k c) [] [] (L.take k) (refSS_empty _ (Nat.le_refl _)) rfl ((H.out.take k hk).same (alloc_old _ _)) rfl ((below_drewN _ (Below.refl _ w)).alloc (Nat.le_refl _) _) (by simp) (by simp; omega) ?_; intro v1 us1 w1 hR1 hb1 hs1 hk1; obtain ⟨sa, sn, sc, rfl⟩ := own_shape hR1.row; have hcx1 := (hb1.cell (World.block_lt_of_cell? _ _ hc1)).trans hc1; have HR1 := Lib.hid hR1; have HB1 := Lib.hid hb1; clear hR1 hb1 hs1 hk1) | (go_at_call 154; refine (M1.out _ (HUK.out.same HB1.out.block) (HQ.out.same HB1.out.block)).mono ?_; rintro e W3 ⟨rfl, n3, rfl⟩) | (at_builtin; refine append_allSS rfl _ _ rfl w.heap.size _ (.slice (some ⟨b1', o1 + (k + 1), none⟩) (L.length - (k + 1)) (c - (k + 1))) us1 (L.take k) (L.drop (k + 1)) (HR1.out.drewN n3) rfl (HDR.out.same HB1.out.block) rfl (below_drewN _ HB1.out) HB1.out.size (by simp; omega) ?_; intro v4 us4 w4 hR4 hb4 _ _; obtain ⟨ta, tn, tc, rfl⟩ := own_shape hR4.row))
            all_goals
              go_ret
              exact ⟨_, us4, rfl, by rw [HS.out]; exact hR4, hb4⟩
        · have HS : Hid (putP q L = L.take k ++ q :: L.drop k) := by
            show _ = _
            rw [PS.out k hk HP.out (fun _ => hL), if_neg (fun x => heq x.2)]
          have M1 := Lib.hid (fun (W : World) (h : IntSS W.heap (.slice qa0 (L.getD k []).length qc0) (L.getD k [])) (h2 : IntSS W.heap (.slice pa q.length pc) q) => SM.out _ _ W h h2)
          rw [show decide (L.getD k [] = q) = false by simpa using heq] at M1
          have hck : c ≠ k := by omega
          have HD : Hid (dropA (some ⟨b1', o1, none⟩) c k = some ⟨b1', o1 + k, none⟩) := by
            show _ = _
            have : c ≠ k := by omega
            simp [dropA, this, Addr.add]
          clear hL heq
          generalize L.getD k [] = ys at *
          go_wp2_with (first | (go_at_call 153; refine B1.out.mono ?_; rintro e W2 ⟨rfl, n2, rfl⟩) | (at_builtin; refine append_allSS rfl _ _ rfl w.heap.size (.slice (some ⟨w.heap.size, 0, none⟩) 0 0) (.slice (some ⟨b1', o1, none⟩) k c) [] [] (L.take k) (refSS_empty _ (Nat.le_refl _)) rfl ((H.out.take k hk).same (alloc_old _ _)) rfl ((below_drewN _ (Below.refl _ w)).alloc (Nat.le_refl _) _) (by simp) (by simp; omega) ?_; intro v1 us1 w1 hR1 hb1 hs1 hk1; obtain ⟨sa, sn, sc, rfl⟩ := own_shape hR1.row; have hcx1 := (hb1.cell (World.block_lt_of_cell? _ _ hc1)).trans hc1; have HR1 := Lib.hid hR1; have HB1 := Lib.hid hb1; clear hR1 hb1 hs1 hk1) | (go_at_call 154; refine (M1.out _ (HUK.out.same HB1.out.block) (HQ.out.same HB1.out.block)).mono ?_; rintro e W3 ⟨rfl, n3, rfl⟩))
          go_region_held3 (fun _ => True) (trivial)
            (first | (refine step_append_refSS (w0 := w) (wE := w1) (by rfl) _ _ (by rfl) w.heap.size _ (.slice pa q.length pc) us1 _ q HR1.out (by rfl) ((HQ.out.same HB1.out.block).same (alloc_old _ _)) (by first | exact (below_drewN _ (Below.refl _ w1)).alloc (Nat.le_refl _) _ | exact ((Below.refl _ w1).drew).alloc (Nat.le_refl _) _) HB1.out HB1.out.size w1.heap.size (by rfl) (by exact heap_alloc_new _ _) (by simp; omega) ?_; intro v2 us2 w2 hR2 hb2 hs2 hk2; obtain ⟨ta, tn, tc, rfl⟩ := own_shape hR2.row) | (refine step_append_allSS (w0 := w) (by rfl) _ _ (by rfl) w.heap.size _ (.slice (some ⟨b1', o1 + k, none⟩) (L.length - k) (c - k)) us2 _ (L.drop k) hR2 (by rfl) (by have := (H.out.drop k hk).same hb2.block; rw [HD.out ] at this; exact this) (by rfl) hb2 hb2.size (by simp; omega) ?_; intro v3 us3 w3 hR3 hb3 _ _; obtain ⟨qa, qn, qc, rfl⟩ := own_shape hR3.row) | fail)
          go_wp2_with fail
          all_goals
            go_ret
            exact ⟨_, us3, rfl, by rw [HS.out]; simpa using hR3, hb3⟩
      · rw [hL] at B1
        have HPS : Hid (∀ j, j < k + 1 → ltL (encP (L.getD j [])) (encP q) = true) := fun j hj => by
          by_cases e : j = k
          · rw [e]; exact hL
          · exact HP.out j (by omega)
        clear hL
        generalize L.getD k [] = ys at *
        go_wp2_with (go_at_call 153; refine B1.out.mono ?_; rintro e W2 ⟨rfl, n2, rfl⟩)
        go_roundw
        case rel => exact ⟨k + 1, _, by omega, by go_num, by first | rfl | (simp only [World.drewN_drewN]; rfl), HPS.out⟩
        case measure => simp [intOf]; omega
    · have HS : Hid (putP q L = L.take k ++ q :: L.drop k) := by
        show _ = _
        rw [PS.out k hk HP.out (fun h => absurd h hlt), if_neg (fun x => hlt x.1)]
      have hnlt : decide ((k : Int) < (L.length : Int)) = false := decide_eq_false (by omega)
      by_cases hck : c = k
      · obtain rfl : k = c := hck.symm
        have HD : Hid (dropA ao k k = ao) := by show _ = _; rw [dropA, if_pos rfl]
        go_wp2_with (at_builtin; refine append_allSS rfl _ _ rfl w.heap.size (.slice (some ⟨w.heap.size, 0, none⟩) 0 0) (.slice ao k k) [] [] (L.take k) (refSS_empty _ (Nat.le_refl _)) rfl ((H.out.take k hk).same (alloc_old _ _)) rfl ((below_drewN _ (Below.refl _ w)).alloc (Nat.le_refl _) _) (by simp) (by simp; omega) ?_; intro v1 us1 w1 hR1 hb1 hs1 hk1; obtain ⟨sa, sn, sc, rfl⟩ := own_shape hR1.row; have HR1 := Lib.hid hR1; have HB1 := Lib.hid hb1; clear hR1 hb1 hs1 hk1)
        go_region_held3 (fun _ => True) (trivial)
          (first | (refine step_append_refSS (w0 := w) (wE := w1) (by rfl) _ _ (by rfl) w.heap.size _ (.slice pa q.length pc) us1 _ q HR1.out (by rfl) ((HQ.out.same HB1.out.block).same (alloc_old _ _)) (by first | exact (below_drewN _ (Below.refl _ w1)).alloc (Nat.le_refl _) _ | exact ((Below.refl _ w1).drew).alloc (Nat.le_refl _) _) HB1.out HB1.out.size w1.heap.size (by rfl) (by exact heap_alloc_new _ _) (by simp; omega) ?_; intro v2 us2 w2 hR2 hb2 hs2 hk2; obtain ⟨ta, tn, tc, rfl⟩ := own_shape hR2.row) | (refine step_append_allSS (w0 := w) (by rfl) _ _ (by rfl) w.heap.size _ (.slice ao 0 0) us2 _ (L.drop k) hR2 (by rfl) (by have := (H.out.drop k hk).same hb2.block; rw [HD.out , Nat.sub_self, show L.length - k = 0 by omega] at this; exact this) (by rfl) hb2 hb2.size (by simp; omega) ?_; intro v3 us3 w3 hR3 hb3 _ _; obtain ⟨qa, qn, qc, rfl⟩ := own_shape hR3.row) | fail)
        go_wp2_with fail
        all_goals
          go_ret
          exact ⟨_, us3, rfl, by rw [HS.out]; simpa using hR3, hb3⟩
      · have HD : Hid (dropA ao c k = ao.map (·.add k)) := by show _ = _; rw [dropA, if_neg hck]
        go_wp2_with (at_builtin; refine append_allSS rfl _ _ rfl w.heap.size (.slice (some ⟨w.heap.size, 0, none⟩) 0 0) (.slice ao k c) [] [] (L.take k) (refSS_empty _ (Nat.le_refl _)) rfl ((H.out.take k hk).same (alloc_old _ _)) rfl ((below_drewN _ (Below.refl _ w)).alloc (Nat.le_refl _) _) (by simp) (by simp; omega) ?_; intro v1 us1 w1 hR1 hb1 hs1 hk1; obtain ⟨sa, sn, sc, rfl⟩ := own_shape hR1.row; have HR1 := Lib.hid hR1; have HB1 := Lib.hid hb1; clear hR1 hb1 hs1 hk1)
        go_region_held3 (fun _ => True) (trivial)
          (first | (refine step_append_refSS (w0 := w) (wE := w1) (by rfl) _ _ (by rfl) w.heap.size _ (.slice pa q.length pc) us1 _ q HR1.out (by rfl) ((HQ.out.same HB1.out.block).same (alloc_old _ _)) (by first | exact (below_drewN _ (Below.refl _ w1)).alloc (Nat.le_refl _) _ | exact ((Below.refl _ w1).drew).alloc (Nat.le_refl _) _) HB1.out HB1.out.size w1.heap.size (by rfl) (by exact heap_alloc_new _ _) (by simp; omega) ?_; intro v2 us2 w2 hR2 hb2 hs2 hk2; obtain ⟨ta, tn, tc, rfl⟩ := own_shape hR2.row) | (refine step_append_allSS (w0 := w) (by rfl) _ _ (by rfl) w.heap.size _ (.slice (ao.map (·.add k)) (L.length - k) (c - k)) us2 _ (L.drop k) hR2 (by rfl) (by have := (H.out.drop k hk).same hb2.block; rw [HD.out ] at this; exact this) (by rfl) hb2 hb2.size (by simp; omega) ?_; intro v3 us3 w3 hR3 hb3 _ _; obtain ⟨qa, qn, qc, rfl⟩ := own_shape hR3.row) | fail)
        go_wp2_with fail
        all_goals
          go_ret
          exact ⟨_, us3, rfl, by rw [HS.out]; simpa using hR3, hb3⟩
end
section
open Go.RowKit Go.Sort

def SplitOk : Prop := ∀ (v : Value) (r : List Int) (w : World), IntS w.heap v r → isExp r = true → deg r ≤ 40 →
    Calls Try.prog 119 #[v] w fun e w' => ∃ r' us, e = .returned r' ∧ RefSS w' w.heap.size w'.heap r' us (copL r) ∧ Below w.heap.size w w'
set_option maxRecDepth 100000 in
set_option maxHeartbeats 1000000 in
theorem l06Coproduct_of (SP : SplitOk) (v : Value) (xss : List (List Int)) (w : World) (h : IntSS w.heap v xss) (hT : arT xss = true) (hx504 : xss.length ≤ 504) :
    Calls Try.prog 64 #[v] w fun e w' => ∃ r us, e = .returned r ∧ RefSS w' w.heap.size w'.heap r us (oddP (copsL xss)) ∧ Below w.heap.size w w' := by
  obtain ⟨ao, c, rfl, hm⟩ := h.len
  have H := Lib.hid h; have SP' := Lib.hid SP
  have HLN := Lib.hid (fun n => copsL_len hT n hx504)
  have HRW := Lib.hid (fun r (hr : r ∈ xss) => copsL_row hT hr)
  have HPR := Lib.hid (fun q hq => (copsL_ok hT q hq).pr)
  clear h hT SP
  go_enter Try.func64, Try.ntmps64
  go_wp2_with fail
  go_loopw [3, 4] (fun o i wr => ∃ (k : Nat) (us : List Value), k ≤ xss.length ∧ i = .int .i64 k ∧ RefSS wr w.heap.size wr.heap o us (oddP (copsL (xss.take k))) ∧ Below w.heap.size w wr) (fun _ i _ => xss.length - (intOf i).toNat)
  case atStart => exact ⟨0, [], Nat.zero_le _, rfl, refSS_empty _ (Nat.le_refl _), (Below.refl _ _).alloc (Nat.le_refl _) _⟩
  case round =>
    obtain ⟨k, us, hk, rfl, hU, hbl⟩ := hrel
    obtain ⟨va, vn, vc, rfl⟩ := own_shape hU.row
    have HU := Lib.hid hU; have HBL := Lib.hid hbl
    have hsz := hbl.size
    by_cases hkl : k < xss.length
    · obtain ⟨b1, o1, c1, uk, hv1, hc1, huk, -⟩ := H.out.at k hkl
      simp only [Value.slice.injEq, true_and] at hv1
      obtain ⟨rfl, rfl⟩ := hv1
      have hcx := (hbl.cell (World.block_lt_of_cell? _ _ hc1)).trans hc1
      have HX := Lib.hid (huk.same hbl.block)
      have hrow := HRW.out _ (List.getElem_mem hkl)
      have HDS := Lib.hid (copsL_step xss k hkl)
      have HP1 : Hid (∀ q ∈ copsL (xss.take k), IsPr q) := fun q hq => by
        obtain ⟨r, hr, hq⟩ := List.mem_flatMap.1 hq
        exact HPR.out q (List.mem_flatMap.2 ⟨r, List.mem_of_mem_take hr, hq⟩)
      have HP2 : Hid (∀ q ∈ copL xss[k], IsPr q) := fun q hq => HPR.out q (List.mem_flatMap.2 ⟨_, List.getElem_mem hkl, hq⟩)
      obtain ⟨qa, qc, rfl, -⟩ := huk.len
      have CO := Lib.hid (fun (W : World) (h : IntS W.heap (.slice qa xss[k].length qc) xss[k]) => SP'.out _ xss[k] W h hrow.1 hrow.2)
      have hl1 := HLN.out k
      have hl2 := copL_len hrow.1 hrow.2
      have hki : (k : Int) < xss.length := by omega
      clear hU hbl hc1 huk hrow
      generalize xss[k] = r at *
      generalize copsL (xss.take k) = A at *
      generalize copL r = M at *
      go_wp2_with (go_at_call 119; refine (CO.out _ HX.out).mono ?_; rintro e w3 ⟨r3, us3, rfl, hU3, hb3⟩; obtain ⟨da, dc, rfl, -⟩ := (hU3.ints (fun _ _ => rfl)).len; have HM := Lib.hid (hU3.ints (fun _ _ => rfl)); have HU3 := Lib.hid (HU.out.step hb3 (fun _ _ => rfl)); have HB3 := Lib.hid (HBL.out.trans (hb3.mono hsz)); clear hU3 hb3)
      go_loopw [3, 6] (fun o j wk => ∃ (t : Nat) (us : List Value), t ≤ M.length ∧ j = .int .i64 t ∧ RefSS wk w.heap.size wk.heap o us (oddP (A ++ M.take t)) ∧ Below w3.heap.size w3 wk) (fun _ j _ => M.length - (intOf j).toNat)
      case atStart => exact ⟨0, us, Nat.zero_le _, rfl, by simpa using HU3.out, Below.refl _ _⟩
      case round =>
        obtain ⟨t, us2, ht, rfl, hO, hb2⟩ := hrel
        obtain ⟨ya, yc, rfl, -⟩ := (hO.ints (fun _ _ => rfl)).len
        have HO := Lib.hid (hO.ints (fun _ _ => rfl)); have HO0 := Lib.hid hO; have HB2 := Lib.hid hb2
        have HBW := Lib.hid (HB3.out.trans (hb2.mono HB3.out.size))
        by_cases htl : t < M.length
        · obtain ⟨b2, o2, c2, u2, hv2, hc2, hu2, -⟩ := HM.out.at t htl
          simp only [Value.slice.injEq, true_and] at hv2
          obtain ⟨rfl, rfl⟩ := hv2
          have hcy := (hb2.cell (World.block_lt_of_cell? _ _ hc2)).trans hc2
          have HY := Lib.hid (hu2.same hb2.block)
          obtain ⟨za, zc, rfl, -⟩ := hu2.len
          have HS : Hid (oddP (A ++ M.take (t + 1)) = putP M[t] (oddP (A ++ M.take t))) := by
            show _ = _
            rw [List.take_succ_eq_append_getElem htl, ← List.append_assoc, oddP_snoc]
          have hpq : ∀ y ∈ oddP (A ++ M.take t), IsPr y := fun y hy => by
            rcases List.mem_append.1 (oddP_mem hy) with h | h
            · exact HP1.out y h
            · exact HP2.out y (List.mem_of_mem_take h)
          have hpm := HP2.out _ (List.getElem_mem htl)
          have hll : (oddP (A ++ M.take t)).length < 4398046511104 := by
            have := oddP_length (A ++ M.take t)
            rw [List.length_append, List.length_take] at this
            omega
          have TG := Lib.hid (fun (W : World) (h : IntSSS W.heap (.slice ya (oddP (A ++ M.take t)).length yc) (oddP (A ++ M.take t))) (hu : IntSS W.heap (.slice za M[t].length zc) M[t]) => l06Toggle_c _ _ _ M[t] W h hu hpq hpm hll)
          have hti : (t : Int) < M.length := by omega
          clear hO hb2 hc2 hu2 hpq hpm hll
          generalize M[t] = z at *
          generalize oddP (A ++ M.take t) = R at *
          go_wp2_with (go_at_call 120; refine (TG.out _ HO.out HY.out).mono ?_; rintro e w8 ⟨r8, us8, rfl, hU8, hb8⟩; obtain ⟨ta, tn, tc, rfl⟩ := own_shape hU8.row)
          go_roundw
          case rel => exact ⟨t + 1, us8, by omega, by go_num, by rw [HS.out]; exact hU8.base HBW.out.size, HB2.out.trans (hb8.mono HB2.out.size)⟩
          case measure => simp [intOf]; omega
        · obtain rfl : t = M.length := by omega
          rw [List.take_length, ← HDS.out] at HO0 ⊢
          clear hO hb2
          go_wp2_with fail
          go_roundw
          case rel => exact ⟨k + 1, us2, by omega, by go_num, HO0.out, HBW.out⟩
          case measure => simp [intOf]; omega
    · obtain rfl : k = xss.length := by omega
      rw [List.take_length] at HU
      clear hU hbl
      go_wp2_with fail
      go_ret
      exact ⟨_, _, rfl, HU.out, HBL.out⟩
end
section

/-- The same products, the second factors outside. -/
def prodQ (A F : List (List (List Int))) : List (List (List Int)) := F.flatMap fun q => A.map fun p => pjoin p q
theorem prodP_cons (p : List (List Int)) (A F : List (List (List Int))) : prodP (p :: A) F = F.map (pjoin p) ++ prodP A F := rfl
theorem prodQ_cons (p : List (List Int)) (A : List (List (List Int))) : ∀ F : List (List (List Int)), (prodQ (p :: A) F).Perm (F.map (pjoin p) ++ prodQ A F)
  | [] => List.Perm.refl _
  | q :: F => by
    have ih := prodQ_cons p A F
    show (pjoin p q :: (A.map (fun p => pjoin p q) ++ prodQ (p :: A) F)).Perm (pjoin p q :: (F.map (pjoin p) ++ (A.map (fun p => pjoin p q) ++ prodQ A F)))
    refine List.Perm.cons _ ?_
    refine (List.Perm.append_left _ ih).trans ?_
    rw [← List.append_assoc, ← List.append_assoc]
    exact List.Perm.append_right _ List.perm_append_comm
theorem prodQ_perm (F : List (List (List Int))) : ∀ A : List (List (List Int)), (prodQ A F).Perm (prodP A F)
  | [] => by
    have : prodQ [] F = [] := by unfold prodQ; simp
    rw [this]; exact List.Perm.refl _
  | p :: A => (prodQ_cons p A F).trans (by rw [prodP_cons]; exact List.Perm.append_left _ (prodQ_perm F A))
theorem oddP_order {b c : Int} {l m : Nat} {A F : List (List (List Int))} (hA : ∀ p ∈ A, PrS b l p) (hF : ∀ q ∈ F, PrS c m q) : oddP (prodQ A F) = oddP (prodP A F) :=
  (oddP_perm (prodP_pr hA hF) (prodQ_perm F A).symm).symm
theorem scale_singL (n : Nat) (e c : Int) : scaleL c (singL n e) = singL n (e * c) := by
  unfold scaleL singL
  split
  · rfl
  · simp
end
section
open Go.RowKit Go.Sort

set_option maxRecDepth 100000 in
theorem l06Power_c (n : Nat) (e : Int) (w : World) (hn : n ≤ 1000) (he : 1 ≤ e) :
    Calls Try.prog 151 #[.int .i64 n, .int .i64 e] w fun r w' => ∃ v, r = .returned v ∧ OwnI w' w.heap.size v (singL n e) ∧ Below w.heap.size w w' := by
  have te := (neB (show e ≠ 0 by omega)).1
  cases n with
  | zero =>
    go_enter Try.func151, Try.ntmps151
    go_wp2_with fail
    go_ret
    exact ⟨_, rfl, ownI_empty (Nat.le_refl _), (Below.refl _ _).alloc (Nat.le_refl _) _⟩
  | succ m =>
    have hmk := fun w => make_run (P := Try.prog) 49 2 _ 8 info_int64 Try.underlying49 rfl (by omega) (m + 1) (by omega) .i64 .i64 ((m : Int) + 1) ((m : Int) + 1) (by omega) (by omega) w
    have hmo := made_own w w.heap.size 2 (m + 1) (.int .i64 0) (Nat.le_refl _) (by omega)
    have hmo2 : (w.alloc (.cells (madeCells #[.int .i64 0] (m + 1)) 2)).ownsRow w.heap.size 2 1 (.slice (some ⟨w.heap.size, 0, none⟩) (m + 1) (m + 1)) (m + 1) ((List.replicate (m + 1) (0 : Int)).map (Value.int .i64)) := by simpa using hmo
    obtain ⟨W5, hW5⟩ : ∃ W5, W5 = w.alloc (.cells (madeCells #[.int .i64 0] (m + 1)) 2) := ⟨_, rfl⟩
    have hb5 : Below w.heap.size w W5 := by rw [hW5]; exact (Below.refl _ _).alloc (Nat.le_refl _) _
    rw [← hW5] at hmo2
    have q0 := own_int_at hmo2 m (by omega)
    rw [show (List.replicate (m + 1) (0 : Int)).getD m 0 = 0 by simp] at q0
    have f0 := hmo2.frozenAt m
    have hst := own_int_set hmo2 m e
    rw [singL_set] at hst
    have HST : Hid (OwnI (W5.setCell ⟨w.heap.size, m, none⟩ (.int .i64 e)) w.heap.size (.slice (some ⟨w.heap.size, 0, none⟩) (m + 1) (m + 1)) (singL (m + 1) e)) := by
      show OwnI _ _ _ _
      unfold OwnI
      rw [singL_length]; exact hst
    have HB5 := Lib.hid (hb5.setCell (p := ⟨w.heap.size, m, none⟩) (Nat.le_refl _) (.int .i64 e))
    have HW5 := Lib.hid hW5
    clear hmo hmo2 hst hb5 hW5
    have hs1 : (m : Int) + 1 - 1 = m := by omega
    have hi0 : (0 : Int) ≤ m := by omega
    have t0 := (neB (show (m : Int) + 1 ≠ 0 by omega)).1
    rw [show ((m + 1 : Nat) : Int) = (m : Int) + 1 by omega]
    go_enter Try.func151, Try.ntmps151
    go_upto_region 4 with fail
    rw [← HW5.out]
    clear hmk
    go_wp2_with fail
    go_ret
    exact ⟨_, rfl, HST.out, HB5.out⟩
set_option maxRecDepth 100000 in
theorem l06Scaled_c (v : Value) (r : List Int) (c : Int) (w : World) (h : IntS w.heap v r) (hs : Sm 1000000000000 r) (hc0 : 0 ≤ c) (hc : c ≤ 1000) (hl : r.length ≤ 4398046511104) :
    Calls Try.prog 150 #[v, .int .i64 c] w fun e w' => ∃ r', e = .returned r' ∧ OwnI w' w.heap.size r' (scaleL c r) ∧ Below w.heap.size w w' := by
  obtain ⟨ao, cp, rfl, hm⟩ := h.len
  have HX := Lib.hid h; have HRX := Lib.hid hs; clear h hs
  go_enter Try.func150, Try.ntmps150
  go_wp2_with fail
  go_loopw [5, 6] (fun o i wk => ∃ j : Nat, j ≤ r.length ∧ i = .int .i64 j ∧ OwnI wk w.heap.size o (scaleL c (r.take j)) ∧ Below w.heap.size w wk) (fun _ i _ => r.length - (intOf i).toNat)
  case atStart => exact ⟨0, Nat.zero_le _, rfl, ownI_empty (Nat.le_refl _), (Below.refl _ _).alloc (Nat.le_refl _) _⟩
  case round =>
    obtain ⟨j, hj, rfl, hO, hb2⟩ := hrel
    obtain ⟨ya, yn, yc, rfl⟩ := own_shape hO
    have HO := Lib.hid hO; have HB2 := Lib.hid hb2
    have hsz2 := hb2.size
    by_cases hjl : j < r.length
    · obtain ⟨b2, o2, c2, hv2, hc2, -⟩ := HX.out.at j hjl
      simp only [Value.slice.injEq, true_and] at hv2
      obtain ⟨rfl, rfl⟩ := hv2
      have hcy := (hb2.cell (World.block_lt_of_cell? _ _ hc2)).trans hc2
      obtain ⟨hx0, hx1⟩ := HRX.out _ (List.getElem_mem hjl)
      have HT2 : Hid (scaleL c (r.take (j + 1)) = scaleL c (r.take j) ++ [r[j] * c]) := by
        show _ = _
        unfold scaleL; rw [List.take_succ_eq_append_getElem hjl, List.map_append]; rfl
      have hll : (scaleL c (r.take j)).length ≤ 4398046511104 := by simp [scaleL]; omega
      have HLL2 := Lib.hid hll
      have hji : (j : Int) < r.length := by omega
      clear hO hb2 hc2 hll
      generalize r[j] = x at *
      have hm0 : 0 ≤ x * c := Int.mul_nonneg hx0 hc0
      have hm1 : x * c ≤ 1000000000000000 := Int.le_trans (Int.mul_le_mul hx1 hc hc0 (by omega)) (by omega)
      go_wp2_with (at_builtin; refine append_int rfl _ _ rfl w.heap.size _ _ _ HO.out rfl HB2.out hsz2 _ rfl (by simp) HLL2.out ?_; intro v' w3 hown' hbl' _ _; obtain ⟨qa2, qn2, qc2, rfl⟩ := own_shape hown')
      go_roundw
      case rel => exact ⟨j + 1, by omega, by go_num, by rw [HT2.out]; exact hown', hbl'⟩
      case measure => simp [intOf]; omega
    · obtain rfl : j = r.length := by omega
      rw [List.take_length] at HO
      clear hO hb2
      go_wp2_with fail
      go_ret
      exact ⟨_, rfl, HO.out, HB2.out⟩
/-- The places of the first j binary digits of e that are 1. -/
def digP (e : Nat) : Nat → List Int
  | 0 => []
  | j + 1 => if e.testBit j then digP e j ++ [(j : Int)] else digP e j
theorem digP_len (e : Nat) : ∀ j : Nat, (digP e j).length ≤ j := by
  intro j
  induction j with
  | zero => exact Nat.le_refl _
  | succ j ih =>
    rw [digP]
    split
    · rw [List.length_append, List.length_singleton]; omega
    · omega
theorem digP_end {e j : Nat} (h : e < 2 ^ j) : ∀ k : Nat, digP e (j + k) = digP e j := by
  intro k
  induction k with
  | zero => rfl
  | succ k ih => rw [← Nat.add_assoc, digP, Nat.testBit_lt_two_pow (Nat.lt_of_lt_of_le h (Nat.pow_le_pow_right (by omega) (by omega)))]; exact ih
theorem digP_mem (e : Nat) : ∀ j : Nat, ∀ x ∈ digP e j, ∃ i : Nat, x = i ∧ i < j := by
  intro j
  induction j with
  | zero => intro x hx; cases hx
  | succ j ih =>
    intro x hx
    rw [digP] at hx
    split at hx
    · rcases List.mem_append.1 hx with h | h
      · obtain ⟨i, h1, h2⟩ := ih x h; exact ⟨i, h1, by omega⟩
      · rw [List.mem_singleton] at h; exact ⟨j, h, by omega⟩
    · obtain ⟨i, h1, h2⟩ := ih x hx; exact ⟨i, h1, by omega⟩
set_option maxRecDepth 100000 in
theorem l01Digits_c (e : Nat) (w : World) (he : e < 64) :
    Calls Try.prog 88 #[.int .i64 e] w fun r w' => ∃ v, r = .returned v ∧ OwnI w' w.heap.size v (digP e 6) ∧ Below w.heap.size w w' := by
  go_enter Try.func88, Try.ntmps88
  go_wp2_with fail
  go_loopw [0, 3, 4] (fun n o i wk => ∃ j : Nat, j ≤ 6 ∧ n = .int .i64 ((e / 2 ^ j : Nat) : Int) ∧ i = .int .i64 j ∧ OwnI wk w.heap.size o (digP e j) ∧ Below w.heap.size w wk) (fun n _ _ _ => (intOf n).toNat)
  case atStart => exact ⟨0, by omega, by simp, rfl, ownI_empty (Nat.le_refl _), (Below.refl _ _).alloc (Nat.le_refl _) _⟩
  case round =>
    obtain ⟨j, hj, rfl, rfl, hO, hb2⟩ := hrel
    obtain ⟨ya, yn, yc, rfl⟩ := own_shape hO
    have HO := Lib.hid hO; have HB2 := Lib.hid hb2
    have hsz2 := hb2.size
    have HD : Hid (digP e (j + 1) = if e.testBit j then digP e j ++ [(j : Int)] else digP e j) := rfl
    have hn64 : e / 2 ^ j ≤ 64 := Nat.le_trans (Nat.div_le_self _ _) (by omega)
    have hdd : e / 2 ^ (j + 1) = e / 2 ^ j / 2 := by rw [Nat.pow_succ, Nat.div_div_eq_div_mul]
    have hll : (digP e j).length ≤ 4398046511104 := by have := digP_len e j; omega
    have HLL := Lib.hid hll
    by_cases hz : e / 2 ^ j = 0
    · have hlt : e < 2 ^ j := by
        rcases Nat.lt_or_ge e (2 ^ j) with h | h
        · exact h
        · have := Nat.div_pos h (Nat.two_pow_pos j); omega
      have HE : Hid (digP e 6 = digP e j) := by
        show _ = _
        have := digP_end hlt (6 - j)
        rwa [show j + (6 - j) = 6 by omega] at this
      have u1 : decide ((0 : Int) < ((e / 2 ^ j : Nat) : Int)) = false := decide_eq_false (by omega)
      have u2 : decide (0 < e / 2 ^ j) = false := decide_eq_false (by omega)
      clear hO hb2 hll hdd hlt
      generalize e / 2 ^ j = q at *
      go_wp2_with fail
      go_ret
      exact ⟨_, rfl, by rw [HE.out]; exact HO.out, HB2.out⟩
    · have hj6 : j < 6 := by
        rcases Nat.lt_or_ge j 6 with h | h
        · exact h
        · obtain rfl : j = 6 := by omega
          exact absurd (Nat.div_eq_of_lt (show e < 2 ^ 6 from he)) hz
      have hbt : e.testBit j = decide (e / 2 ^ j % 2 = 1) := by rw [Nat.testBit_eq_decide_div_mod_eq]
      have HDD := Lib.hid hdd
      have hq0 : 0 < e / 2 ^ j := Nat.pos_of_ne_zero hz
      clear hO hb2 hll hdd hz
      obtain ⟨q, hq⟩ : ∃ q, e / 2 ^ j = q := ⟨_, rfl⟩
      rw [hq] at hbt hn64 hq0 HDD ⊢
      clear hq
      have hqi : (0 : Int) < (q : Int) := by omega
      by_cases ho : q % 2 = 1
      · rw [hbt, decide_eq_true ho] at HD
        have u3 := (eqB (show (q : Int) % 2 = 1 by omega)).1
        clear hbt
        go_wp2_with (at_builtin; refine append_int rfl _ _ rfl w.heap.size _ _ _ HO.out rfl HB2.out hsz2 _ rfl (by simp) HLL.out ?_; intro v' w3 hown' hbl' _ _; obtain ⟨qa2, qn2, qc2, rfl⟩ := own_shape hown')
        go_roundw
        case rel => exact ⟨j + 1, by omega, by rw [HDD.out]; simp, by go_num, by rw [HD.out]; exact hown', hbl'⟩
        case measure => simp [intOf]; omega
      · rw [hbt, decide_eq_false ho] at HD
        have u3 := (neB (show (q : Int) % 2 ≠ 1 by omega)).1
        clear hbt
        go_wp2_with fail
        go_roundw
        case rel => exact ⟨j + 1, by omega, by rw [HDD.out]; simp, by go_num, by rw [HD.out]; exact HO.out, HB2.out⟩
        case measure => simp [intOf]; omega
theorem sh_small : ∀ k : Nat, k < 8 → IntKind.i64.wrap (2 ^ min (IntKind.u64.wrap (k : Int)).toNat 64) = (2 : Int) ^ k := by decide +kernel
theorem heldC1' {x1 : Value} {g1 : Addr} {w0 W W' : World} (h : W.cell? g1 = some x1 ∧ Below w0.heap.size w0 W) (hb : Below W.heap.size W W') : W'.cell? g1 = some x1 ∧ Below w0.heap.size w0 W' :=
  ⟨(hb.cell (World.block_lt_of_cell? _ _ h.1)).trans h.1, h.2.trans (hb.mono h.2.size)⟩
theorem heldC1X' {x1 : Value} {g1 : Addr} {w0 W : World} (h : W.cell? g1 = some x1 ∧ Below w0.heap.size w0 W) : Below w0.heap.size w0 W := h.2
theorem odds_mrg (a b : List (List Int)) : mrg (oddL a) (oddL b) = oddL (a ++ b) := by
  rw [mrg_odd (asc_oddL a) (asc_oddL b), ← oddL_append', ← oddL_append]
theorem conjTab_succ {n : Nat} (hn : n < 6) : conjTab (n + 1) = conjTab n ++ [oddL (conjStep (conjTab 6) (n + 1) (n + 1))] := by
  rw [conjTab, conjStep_congr (conjTab n) (conjTab 6) (n + 1) (n + 1) fun i hi => conjTab_get (by omega) (by omega)]
end
section
open Go.RowKit Go.Sort

/-- Times the powers of x whose exponents have the places told. -/
def foldD (X D0 : List (List Int)) (ds : List Int) : List (List Int) := ds.foldl (fun out d => oddL (joinsL out (raiseL (2 ^ d.toNat) X))) D0
theorem foldD_digP (X D0 : List (List Int)) (e : Nat) : ∀ j : Nat, foldD X D0 (digP e j) = digL X e D0 j := by
  intro j
  induction j with
  | zero => rfl
  | succ j ih =>
    rw [digP, digL]
    cases e.testBit j
    · exact ih
    · simp only [if_true]
      rw [← ih]
      simp [foldD, List.foldl_append]
theorem digP_take (e : Nat) : ∀ J t : Nat, t ≤ (digP e J).length → ∃ j : Nat, j ≤ J ∧ (digP e J).take t = digP e j := by
  intro J
  induction J with
  | zero => intro t ht; exact ⟨0, Nat.le_refl _, by simp [digP]⟩
  | succ J ih =>
    intro t ht
    rw [digP] at ht ⊢
    cases hb : e.testBit J
    · rw [hb] at ht
      obtain ⟨j, h1, h2⟩ := ih t ht
      exact ⟨j, by omega, by simpa using h2⟩
    · rw [hb] at ht
      simp only [if_true] at ht ⊢
      by_cases h : t ≤ (digP e J).length
      · obtain ⟨j, h1, h2⟩ := ih t h
        exact ⟨j, by omega, by rw [List.take_append_of_le_length h]; exact h2⟩
      · rw [List.length_append, List.length_singleton] at ht
        refine ⟨J + 1, Nat.le_refl _, ?_⟩
        rw [List.take_of_length_le (by simp; omega), digP, hb]; rfl
theorem foldD_take (X D0 : List (List Int)) (ds : List Int) (t : Nat) (h : t < ds.length) : foldD X D0 (ds.take (t + 1)) = oddL (joinsL (foldD X D0 (ds.take t)) (raiseL (2 ^ ds[t].toNat) X)) := by
  unfold foldD
  rw [List.take_succ_eq_append_getElem h, List.foldl_append]; rfl
theorem heldC3T {x1 x2 x3 : Value} {g1 g2 g3 : Addr} {w0 W W' : World} {B : Nat} (h : W.cell? g1 = some x1 ∧ W.cell? g2 = some x2 ∧ W.cell? g3 = some x3 ∧ Below B w0 W) (hb : Below W.heap.size W W') (hB : B ≤ W.heap.size) : W'.cell? g1 = some x1 ∧ W'.cell? g2 = some x2 ∧ W'.cell? g3 = some x3 ∧ Below B w0 W' :=
  ⟨(hb.cell (World.block_lt_of_cell? _ _ h.1)).trans h.1, (hb.cell (World.block_lt_of_cell? _ _ h.2.1)).trans h.2.1, (hb.cell (World.block_lt_of_cell? _ _ h.2.2.1)).trans h.2.2.1, h.2.2.2.trans (hb.mono hB)⟩
theorem raiseL_take (c : Int) (X : List (List Int)) (j : Nat) (h : j < X.length) : raiseL c (X.take (j + 1)) = raiseL c (X.take j) ++ [scaleL c X[j]] := by
  unfold raiseL; rw [List.take_succ_eq_append_getElem h, List.map_append]; rfl
end
section
open Go.RowKit Go.Sort

/-- Times the parts of the powers whose exponents have the places told. -/
def foldC (n : Nat) (D0 : List (List (List Int))) (ds : List Int) : List (List (List Int)) := ds.foldl (fun out d => oddP (prodP out (partsP n (2 ^ d.toNat)))) D0
theorem foldC_digP (n e : Nat) (D0 : List (List (List Int))) : ∀ j : Nat, foldC n D0 (digP e j) = digC n e D0 j := by
  intro j
  induction j with
  | zero => rfl
  | succ j ih =>
    rw [digP, digC]
    cases e.testBit j
    · exact ih
    · simp only [if_true]
      rw [← ih]
      simp [foldC, List.foldl_append]
theorem foldC_take (n : Nat) (D0 : List (List (List Int))) (ds : List Int) (t : Nat) (h : t < ds.length) : foldC n D0 (ds.take (t + 1)) = oddP (prodP (foldC n D0 (ds.take t)) (partsP n (2 ^ ds[t].toNat))) := by
  unfold foldC
  rw [List.take_succ_eq_append_getElem h, List.foldl_append]; rfl
theorem prodQ_take (A F : List (List (List Int))) (q : Nat) (h : q < F.length) : prodQ A (F.take (q + 1)) = prodQ A (F.take q) ++ A.map fun p => pjoin p F[q] := by
  unfold prodQ
  rw [List.take_succ_eq_append_getElem h, List.flatMap_append]; simp
theorem prodQ_length (A F : List (List (List Int))) : (prodQ A F).length = A.length * F.length := by
  rw [(prodQ_perm F A).length_eq, prodP_length]
theorem prodQ_pr {b c : Int} {l m : Nat} {A F : List (List (List Int))} (hA : ∀ p ∈ A, PrS b l p) (hF : ∀ q ∈ F, PrS c m q) : ∀ x ∈ prodQ A F, IsPr x := fun x hx => prodP_pr hA hF x ((prodQ_perm F A).mem_iff.1 hx)
theorem heldC3U {x1 x2 x3 : Value} {g1 g2 g3 : Addr} {w0 W W' : World} {B : Nat} (h : W.cell? g1 = some x1 ∧ W.cell? g2 = some x2 ∧ W.cell? g3 = some x3 ∧ Below B w0 W) (hb : Below W.heap.size W W') (hB : B ≤ w0.heap.size) : W'.cell? g1 = some x1 ∧ W'.cell? g2 = some x2 ∧ W'.cell? g3 = some x3 ∧ Below B w0 W' :=
  heldC3T h hb (Nat.le_trans hB h.2.2.2.size)
theorem heldC3Y {x1 x2 x3 : Value} {g1 g2 g3 : Addr} {w0 W : World} {B : Nat} (h : W.cell? g1 = some x1 ∧ W.cell? g2 = some x2 ∧ W.cell? g3 = some x3 ∧ Below B w0 W) : Below B w0 W := h.2.2.2
theorem partsP_at (n : Nat) (P : Int) (t : Nat) (h : t < (partsP n P).length) : (partsP n P)[t] = [singL (n - t) (P * 2 ^ t), singL t P] := by simp [partsP]
set_option maxRecDepth 100000 in
set_option maxHeartbeats 2000000 in
theorem l06Split_c : SplitOk := fun v r w h hE hd => by
  have hl5 := exp_len5 hE hd
  have DA := Lib.hid (fun k (hk : k < r.length) => cop_all hE hd hk)
  obtain ⟨ao, c, rfl, hm⟩ := h.len
  have H := Lib.hid h
  have e1 := ownI_empty (w := w) (B := w.heap.size) (Nat.le_refl _)
  have e2 := ownI_empty (w := w.alloc (.cells #[] 2)) (B := w.heap.size) (by simp)
  have pr := two_row (e1.ints.same (alloc_old _ _)) e2.ints
  have hB3 : ∀ o1 o2 o3 : Obj, w.heap.size ≤ (((w.alloc o1).alloc o2).alloc o3).heap.size := fun _ _ _ => by rw [size_alloc_w, size_alloc_w, size_alloc_w]; omega
  have hB2 : ∀ o1 o2 : Obj, w.heap.size ≤ ((w.alloc o1).alloc o2).heap.size := fun _ _ => by rw [size_alloc_w, size_alloc_w]; omega
  have hB1 : ∀ o1 : Obj, w.heap.size ≤ (w.alloc o1).heap.size := fun _ => by rw [size_alloc_w]; omega
  have hl1 := refSS_lit (B := w.heap.size) pr (hB3 _ _ _)
  simp only [size_alloc_w] at hl1
  have HL := Lib.hid hl1
  clear hl1 h hE hd e1 e2 pr
  unfold copL
  go_enter Try.func119, Try.ntmps119
  go_wp2_with fail
  go_loopw [3, 4] (fun o n wr => ∃ (k : Nat) (us : List Value), k ≤ r.length ∧ n = .int .i64 ((k : Int) + 1) ∧ RefSS wr w.heap.size wr.heap o us (copN r k) ∧ Below w.heap.size w wr) (fun _ n _ => r.length + 2 - (intOf n).toNat)
  case atStart => exact ⟨0, _, Nat.zero_le _, rfl, HL.out, ((((Below.refl _ _).alloc (Nat.le_refl _) _).alloc (hB1 _) _).alloc (hB2 _ _) _).alloc (hB3 _ _ _) _⟩
  case round =>
    obtain ⟨k, us, hk, rfl, hU, hbl⟩ := hrel
    obtain ⟨va, vn, vc, rfl⟩ := own_shape hU.row
    have HU := Lib.hid hU; have HBL := Lib.hid hbl
    by_cases hkl : k < r.length
    · obtain ⟨e, he, he40, HJ⟩ := DA.out k hkl
      have HJ := Lib.hid HJ
      obtain ⟨b1, o1, c1, hv1, hc1, -⟩ := H.out.at k hkl
      simp only [Value.slice.injEq, true_and] at hv1
      obtain ⟨rfl, rfl⟩ := hv1
      have hcx := (hbl.cell (World.block_lt_of_cell? _ _ hc1)).trans hc1
      rw [← getD_at', he] at hcx
      have HSU := Lib.hid (copN_succ r k e he)
      have hki : (k : Int) < r.length := by omega
      have hki2 : (k : Int) + 1 ≤ r.length := by omega
      have hk10 : (k : Int) + 1 - 1 = k := by omega
      have DG := Lib.hid (fun W => l01Digits_c e W (by omega))
      clear hU hbl hc1 he
      generalize copN r k = D0 at *
      rename World => WR
      go_wp2_with (go_at_call 88; refine (DG.out _).mono ?_; rintro e w3 ⟨r3, rfl, hO3, hb3⟩; obtain ⟨da, dc, rfl, -⟩ := hO3.ints.len; have HD3 := Lib.hid hO3.ints; have HB30 := Lib.hid (HBL.out.trans (hb3.mono HBL.out.size)); have HU3 := Lib.hid (HU.out.step hb3 (fun _ _ => rfl)); clear hO3 hb3)
      go_loopw [3, 6] (fun o i wk => ∃ (t : Nat) (us : List Value), t ≤ (digP e 6).length ∧ i = .int .i64 t ∧ RefSS wk w.heap.size wk.heap o us (foldC (k + 1) D0 ((digP e 6).take t)) ∧ Below w3.heap.size w3 wk) (fun _ i _ => (digP e 6).length - (intOf i).toNat)
      case atStart => exact ⟨0, us, Nat.zero_le _, rfl, HU3.out, Below.refl _ _⟩
      case round =>
        obtain ⟨t, us2, ht, rfl, hO, hb2⟩ := hrel
        obtain ⟨ya, yc, rfl, -⟩ := (hO.ints (fun _ _ => rfl)).len
        have HO := Lib.hid hO; have HB2 := Lib.hid hb2
        have HBW := Lib.hid (HB30.out.trans (hb2.mono HB30.out.size))
        have hd6 := digP_len e 6
        by_cases htl : t < (digP e 6).length
        · obtain ⟨b3, o3, c3, hv3, hc3, -⟩ := HD3.out.at t htl
          simp only [Value.slice.injEq, true_and] at hv3
          obtain ⟨rfl, rfl⟩ := hv3
          have hcd := (hb2.cell (World.block_lt_of_cell? _ _ hc3)).trans hc3
          obtain ⟨i, hi, hi6⟩ := digP_mem e 6 _ (List.getElem_mem htl)
          have hft := foldC_take (k + 1) D0 (digP e 6) t htl
          rw [hi, Int.toNat_natCast] at hft
          rw [hi] at hcd
          obtain ⟨j0, hj0, he0⟩ := digP_take e 6 t (by omega)
          obtain ⟨hsm, hlen⟩ := HJ.out j0 hj0
          rw [← foldC_digP, ← he0] at hsm hlen
          have HPS := Lib.hid (fun t (ht : t < 7) => pow_shift i hi6 t ht)
          have hpk := partsP_ok (k + 1) (by omega) i hi6
          have HPK := Lib.hid hpk
          rw [← oddP_order hsm hpk] at hft
          have HFT := Lib.hid hft
          have HPQ := Lib.hid (prodQ_pr hsm hpk)
          have HSM := Lib.hid hsm
          obtain ⟨hp1, hp2, -⟩ := pow2_le i (by omega)
          obtain ⟨P, hP⟩ : ∃ P : Int, (2 : Int) ^ i = P := ⟨_, rfl⟩
          have HSH : Hid (wrap64 (2 ^ i) = P) := by show _ = _; rw [← hP]; unfold wrap64; omega
          rw [hP] at hp1 hp2 HPS HPK HFT HPQ
          have hti : (t : Int) < (digP e 6).length := by omega
          have HOI := Lib.hid (hO.ints (fun _ _ => rfl))
          clear hO hb2 hc3 hi hft hj0 he0 hsm hP hpk
          generalize foldC (k + 1) D0 ((digP e 6).take t) = D at *
          rename World => WK
          go_wp2_with fail
          rw [HSH.out]
          go_loopw [8, 9] (fun o i wm => ∃ (q : Nat) (us : List Value), q ≤ k + 2 ∧ i = .int .i64 q ∧ RefSS wm WK.heap.size wm.heap o us (oddP (prodQ D ((partsP (k + 1) P).take q))) ∧ Below WK.heap.size WK wm) (fun _ i _ => k + 2 - (intOf i).toNat)
          case atStart => exact ⟨0, [], Nat.zero_le _, rfl, refSS_empty _ (Nat.le_refl _), (Below.refl _ _).alloc (Nat.le_refl _) _⟩
          case round =>
            obtain ⟨q, us4, hq, rfl, hQ, hb4⟩ := hrel
            obtain ⟨qa, qn, qc, rfl⟩ := own_shape hQ.row
            have HQ := Lib.hid hQ; have HB4 := Lib.hid hb4
            have hsz4 := hb4.size
            by_cases hql : q < k + 2
            · have hqp : q < (partsP (k + 1) P).length := by rw [partsP_length]; omega
              have hqt := prodQ_take D (partsP (k + 1) P) q hqp
              rw [partsP_at] at hqt
              have hqk := HPK.out _ (List.getElem_mem hqp)
              rw [partsP_at] at hqk
              have hqm := List.getElem_mem hqp
              rw [partsP_at] at hqm
              obtain ⟨hs1, hs2, hs3⟩ := HPS.out q (by omega)
              obtain ⟨m, hm⟩ : ∃ m : Nat, k + 1 - q = m := ⟨_, rfl⟩
              rw [hm] at hqt hqk hqm
              have hm2 : (k : Int) + 1 - q = m := by omega
              have hm9 : m ≤ 1000 := by omega
              have hq9 : q ≤ 1000 := by omega
              obtain ⟨hq1, hq2, -⟩ := pow2_le q (by omega)
              obtain ⟨Q1, hQ1⟩ : ∃ Q1 : Int, (2 : Int) ^ q = Q1 := ⟨_, rfl⟩
              have HSQ : Hid (wrap64 (2 ^ q) = Q1) := by show _ = _; rw [← hQ1]; unfold wrap64; omega
              obtain ⟨Q2, hQ2⟩ : ∃ Q2 : Int, P * 2 ^ q = Q2 := ⟨_, rfl⟩
              have hQ12 : Q1 * P = Q2 := by rw [← hQ2, ← hQ1, Int.mul_comm]
              rw [hQ2] at hs2 hs3 hqt hqk hqm
              rw [hQ1] at hq1 hq2
              have HQK := Lib.hid hqk; have HQM := Lib.hid hqm
              have PW1 := Lib.hid (fun (W : World) => l06Power_c m Q1 W hm9 (by omega))
              have PW2 := Lib.hid (fun (W : World) => l06Power_c q 1 W hq9 (by omega))
              have SC1 := Lib.hid (fun (v : Value) (W : World) (h : IntS W.heap v (singL m Q1)) => l06Scaled_c v (singL m Q1) P W h (singL_sm m _ (by omega) (by omega) (by omega)) (by omega) (by omega) (by rw [singL_length]; omega))
              have SC2 := Lib.hid (fun (v : Value) (W : World) (h : IntS W.heap v (singL q 1)) => l06Scaled_c v (singL q 1) P W h (singL_sm q _ (by omega) (by omega) (by omega)) (by omega) (by omega) (by rw [singL_length]; omega))
              simp only [scale_singL, Int.one_mul, hQ12] at SC1 SC2
              have HQT := Lib.hid hqt
              have hqi : (q : Int) ≤ (k : Int) + 1 := by omega
              have u3 : decide ((q : Int) ≤ (k : Int) + 1) = true := decide_eq_true hqi
              clear hQ hb4 hm hqt hqk hqm hs1 hQ1 hQ2 hQ12
              have hsq := HSQ.out
              go_wp2_with (first | (go_at_call 151; first | ((with_reducible refine (PW1.out _).mono ?_); rintro e W5 ⟨r5, rfl, hs5, hx5⟩; obtain ⟨ra, rn, rc, rfl⟩ := own_shape hs5) | ((with_reducible refine (PW2.out _).mono ?_); rintro e W7 ⟨r7, rfl, hs7, hx7⟩; obtain ⟨rb, rm, rd, rfl⟩ := own_shape hs7)) | (go_at_call 150; first | ((with_reducible refine (SC1.out _ _ hs5.ints).mono ?_); rintro e W6 ⟨r6, rfl, hs6, hx6⟩; obtain ⟨rk, rl, ro, rfl⟩ := own_shape hs6) | ((with_reducible refine (SC2.out _ _ hs7.ints).mono ?_); rintro e W8 ⟨r8, rfl, hs8, hx8⟩; obtain ⟨rp, rq, rs, rfl⟩ := own_shape hs8)))
              have LB := Lib.hid (((hx5.trans (hx6.mono hx5.size)).trans (hx7.mono (hx5.trans (hx6.mono hx5.size)).size)).trans (hx8.mono ((hx5.trans (hx6.mono hx5.size)).trans (hx7.mono (hx5.trans (hx6.mono hx5.size)).size)).size))
              have HLF := Lib.hid ((hs6.ints.same hx7.block).same hx8.block)
              have HRT := Lib.hid hs8.ints
              have HQ8 := Lib.hid (HQ.out.step LB.out (fun _ _ => rfl))
              have HB8 := Lib.hid (HB4.out.trans (LB.out.mono HB4.out.size))
              have HD8 := Lib.hid (HOI.out.same HB8.out.block)
              have hsz8 := HB8.out.size
              clear hx5 hx6 hx7 hx8 hs5 hs6 hs7 hs8 hsq
              go_loopw [8, 12] (fun o j wn => ∃ (x : Nat) (us : List Value), x ≤ D.length ∧ j = .int .i64 x ∧ RefSS wn WK.heap.size wn.heap o us (oddP (prodQ D ((partsP (k + 1) P).take q) ++ (D.take x).map (fun p => pjoin p [singL m Q2, singL q P]))) ∧ Below W8.heap.size W8 wn) (fun _ j _ => D.length - (intOf j).toNat)
              case atStart => exact ⟨0, us4, Nat.zero_le _, rfl, by simpa using HQ8.out, Below.refl _ _⟩
              case round =>
                obtain ⟨x, us5, hx, rfl, hT, hb5⟩ := hrel
                obtain ⟨ta, tc, rfl, -⟩ := (hT.ints (fun _ _ => rfl)).len
                have HT := Lib.hid hT; have HB5 := Lib.hid hb5
                have HTI := Lib.hid (hT.ints (fun _ _ => rfl))
                by_cases hxl : x < D.length
                · obtain ⟨b5, o5, c5, u5, hv5, hc5, hu5, -⟩ := HD8.out.at x hxl
                  simp only [Value.slice.injEq, true_and] at hv5
                  obtain ⟨rfl, rfl⟩ := hv5
                  obtain ⟨p0, p1, hpe, hp0, hp1⟩ := HSM.out _ (List.getElem_mem hxl)
                  rw [hpe] at hu5
                  obtain ⟨g1, f1, d1, xa, xc, za, zc, rfl, k1, k2, hi1, hi2⟩ := hu5.two
                  have m0 := (hb5.cell (World.block_lt_of_cell? _ _ hc5)).trans hc5
                  have m1 := (hb5.cell (World.block_lt_of_cell? _ _ k1)).trans k1
                  have m2 := (hb5.cell (World.block_lt_of_cell? _ _ k2)).trans k2
                  have hsz5 := hb5.size
                  obtain ⟨l0, l1, hle, hl0, hl1⟩ := HQK.out
                  simp only [List.cons.injEq, and_true] at hle
                  obtain ⟨rfl, rfl⟩ := hle
                  have JN0 := Lib.hid (fun (W : World) (h : Below wr.heap.size wr W) => l06Join_c (.slice xa p0.length xc) (.slice rk rl ro) p0 (singL m Q2) W (hi1.same (hb5.trans (h.mono hsz5)).block) (HLF.out.same (hb5.trans (h.mono hsz5)).block) hp0.1 (fun z hz => by have := hl0.1 z hz; omega) hp0.2 (by have := hl0.2; omega))
                  have JN1 := Lib.hid (fun (W : World) (h : Below wr.heap.size wr W) => l06Join_c (.slice za p1.length zc) (.slice rp rq rs) p1 (singL q P) W (hi2.same (hb5.trans (h.mono hsz5)).block) (HRT.out.same (hb5.trans (h.mono hsz5)).block) hp1.1 (fun z hz => by have := hl1.1 z hz; omega) hp1.2 (by have := hl1.2; omega))
                  have HS5 : Hid (oddP (prodQ D ((partsP (k + 1) P).take q) ++ (D.take (x + 1)).map (fun p => pjoin p [singL m Q2, singL q P])) = putP [joinL p0 (singL m Q2), joinL p1 (singL q P)] (oddP (prodQ D ((partsP (k + 1) P).take q) ++ (D.take x).map (fun p => pjoin p [singL m Q2, singL q P])))) := by
                    show _ = _
                    rw [List.take_succ_eq_append_getElem hxl, hpe, List.map_append, ← List.append_assoc]
                    exact oddP_snoc _ _
                  have hpq : ∀ y ∈ oddP (prodQ D ((partsP (k + 1) P).take q) ++ (D.take x).map (fun p => pjoin p [singL m Q2, singL q P])), IsPr y := fun y hy => by
                    have hy2 := oddP_mem hy
                    refine HPQ.out y ?_
                    rcases List.mem_append.1 hy2 with h | h
                    · obtain ⟨z, hz, h⟩ := List.mem_flatMap.1 h
                      exact List.mem_flatMap.2 ⟨z, List.mem_of_mem_take hz, h⟩
                    · obtain ⟨z, hz, rfl⟩ := List.mem_map.1 h
                      have hm3 : [singL m Q2, singL q P] ∈ partsP (k + 1) P := HQM.out
                      exact List.mem_flatMap.2 ⟨_, hm3, List.mem_map.2 ⟨z, List.mem_of_mem_take hz, rfl⟩⟩
                  have hpm : IsPr [joinL p0 (singL m Q2), joinL p1 (singL q P)] := pjoin_pr (p := [p0, p1]) (q := [singL m Q2, singL q P]) ⟨_, _, rfl, hp0, hp1⟩ ⟨_, _, rfl, hl0, hl1⟩
                  have hll : (oddP (prodQ D ((partsP (k + 1) P).take q) ++ (D.take x).map (fun p => pjoin p [singL m Q2, singL q P]))).length < 4398046511104 := by
                    refine Nat.lt_of_le_of_lt (oddP_length _) ?_
                    rw [List.length_append, prodQ_length, List.length_map, List.length_take, List.length_take, partsP_length]
                    have h1 : D.length * min q (k + 1 + 1) ≤ 49766400 * 7 := Nat.mul_le_mul hlen (by omega)
                    omega
                  have TG := Lib.hid (fun (W : World) (vx : Value) (h : IntSSS W.heap (.slice ta (oddP (prodQ D ((partsP (k + 1) P).take q) ++ (D.take x).map (fun p => pjoin p [singL m Q2, singL q P]))).length tc) _) (hu : IntSS W.heap vx [joinL p0 (singL m Q2), joinL p1 (singL q P)]) => l06Toggle_c _ vx _ _ W h hu hpq hpm hll)
                  have hxi : (x : Int) < D.length := by omega
                  clear hT hb5 hc5 hu5 k1 k2 hi1 hi2 hp0 hp1 hpe hl0 hl1 hpq hpm hll
                  generalize oddP (prodQ D ((partsP (k + 1) P).take q) ++ (D.take x).map (fun p => pjoin p [singL m Q2, singL q P])) = R at *
                  go_wp2_with fail
                  go_region_held3 (fun W => W.cell? ⟨b5, o5 + x, none⟩ = some (.slice (some ⟨g1, f1, none⟩) 2 d1) ∧ W.cell? ⟨g1, f1, none⟩ = some (.slice xa p0.length xc) ∧ W.cell? ⟨g1, f1 + 1, none⟩ = some (.slice za p1.length zc) ∧ Below wr.heap.size wr W)
                    (first | exact ⟨m0, m1, m2, (Below.refl _ _).drew⟩ | exact heldC3U (by assumption) hx0 (Nat.le_refl _) | exact heldC3U (by assumption) hx1 (Nat.le_refl _) | exact heldC3U (by assumption) hx9 (Nat.le_refl _) | exact heldC3U (by assumption) ((Below.refl _ _).alloc (Nat.le_refl _) _) (Nat.le_refl _) | fail)
                    (first | (go_at_call 152; (with_reducible refine (JN0.out _ (heldC3Y (by assumption))).mono ?_); rintro e W2 ⟨r0, rfl, hs0, hx0⟩; obtain ⟨sa, sn, sc, rfl⟩ := own_shape hs0) | (go_at_call 152; (with_reducible refine (JN1.out _ (heldC3Y (by assumption))).mono ?_); rintro e W3 ⟨r1, rfl, hs1, hx1⟩; obtain ⟨sb, sm, sd, rfl⟩ := own_shape hs1) | (go_at_call 120; refine (TG.out _ _ (HTI.out.same (heldC3Y (by assumption)).block) (two_row (hs0.ints.same hx1.block) hs1.ints)).mono ?_; rintro e W9 ⟨r9, us9, rfl, hU9, hx9⟩; obtain ⟨ua, un, uc, rfl⟩ := own_shape hU9.row) | fail)
                  all_goals
                    rename_i hh
                    have HBN := Lib.hid (HB8.out.trans ((HB5.out.trans (heldC3Y hh |>.mono hsz5)).mono HB8.out.size))
                    have HB9 := Lib.hid (HB5.out.trans (heldC3Y hh |>.mono hsz5))
                    have HU9 := Lib.hid (hU9.base (B' := WK.heap.size) (by
                      have h1 := HB8.out.size; have h2 := HB5.out.size; have h3 := hx0.size; have h4 := hx1.size
                      simp at h3 ⊢; omega))
                    clear hh hU9 hx0 hx1 hx9 hs0 hs1 m0 m1 m2
                    go_wp2_with fail
                    go_roundw
                    case rel => exact ⟨x + 1, us9, by omega, by go_num, by rw [HS5.out]; exact HU9.out, HB9.out⟩
                    case measure => simp [intOf]; omega
                · obtain rfl : x = D.length := by omega
                  rw [List.take_length, ← HQT.out] at HT ⊢
                  have HBQ := Lib.hid (HB8.out.trans (hb5.mono HB8.out.size))
                  clear hT hb5
                  go_wp2_with fail
                  go_roundw
                  case rel => exact ⟨q + 1, us5, by omega, by go_num, HT.out, HBQ.out⟩
                  case measure => simp [intOf]; omega
            · obtain rfl : q = k + 2 := by omega
              rw [List.take_of_length_le (by rw [partsP_length]; omega), ← HFT.out] at HQ
              have HBQ := Lib.hid (HB2.out.trans (hb4.mono HB2.out.size))
              have u3 : decide (((k + 2 : Nat) : Int) ≤ (k : Int) + 1) = false := decide_eq_false (by omega)
              clear hQ hb4
              go_wp2_with fail
              go_roundw
              case rel => exact ⟨t + 1, us4, by omega, by go_num, HQ.out.base HBW.out.size, HBQ.out⟩
              case measure => simp [intOf]; omega
        · obtain rfl : t = (digP e 6).length := by omega
          rw [List.take_length, foldC_digP, ← HSU.out] at HO ⊢
          clear hO hb2
          go_wp2_with fail
          go_roundw
          case rel => exact ⟨k + 1, us2, by omega, by go_num, HO.out, HBW.out⟩
          case measure => simp [intOf]; omega
    · obtain rfl : k = r.length := by omega
      have u4 : decide ((r.length : Int) + 1 ≤ r.length) = false := decide_eq_false (by omega)
      clear hU hbl
      go_wp2_with fail
      go_ret
      exact ⟨_, us, rfl, HU.out, HBL.out⟩
end
section
open Go.RowKit Go.Sort

/-- All of it the call's own; no two rows of numbers share memory. qs: the rows' values. -/
structure OwnQ (w : World) (B : Nat) (v : Value) (us : List Value) (qs : List (List Value)) (xsss : List (List (List Int))) : Prop where
  row : w.ownsRow B 22 1 v xsss.length us
  qlen : qs.length = xsss.length
  each : ∀ (i : Nat) u q xss, us[i]? = some u → qs[i]? = some q → xsss[i]? = some xss → OwnU w B u q xss
  apart : ∀ (i j : Nat) q q', i < j → qs[i]? = some q → qs[j]? = some q' → ∀ u ∈ q, ∀ u' ∈ q', u.ownBlock = none ∨ u.ownBlock ≠ u'.ownBlock
theorem OwnQ.len {w : World} {B : Nat} {v : Value} {us : List Value} {qs : List (List Value)} {xsss : List (List (List Int))} (a : OwnQ w B v us qs xsss) : us.length = xsss.length := by simpa using a.row.1
theorem OwnQ.ints {w : World} {B : Nat} {v : Value} {us : List Value} {qs : List (List Value)} {xsss : List (List (List Int))} (a : OwnQ w B v us qs xsss) : IntSSS w.heap v xsss :=
  ⟨us, slAt_of_own a.row, a.len, fun i u xss hu hx => by
    have hi : i < xsss.length := (List.getElem?_eq_some_iff.1 hx).1
    exact (a.each i u _ xss hu (List.getElem?_eq_getElem (show i < qs.length by rw [a.qlen]; exact hi)) hx).ints⟩
theorem OwnQ.same {w w' : World} {B : Nat} {v : Value} {us : List Value} {qs : List (List Value)} {xsss : List (List (List Int))} (a : OwnQ w B v us qs xsss) (k : ∀ b, b < w.heap.size → w'.heap[b]? = w.heap[b]?) : OwnQ w' B v us qs xsss :=
  ⟨own_same a.row k, a.qlen, fun i u q xss hu hq hx => (a.each i u q xss hu hq hx).same k, a.apart⟩
theorem OwnQ.base {w : World} {B B' : Nat} {v : Value} {us : List Value} {qs : List (List Value)} {xsss : List (List (List Int))} (a : OwnQ w B v us qs xsss) (k : B' ≤ B) : OwnQ w B' v us qs xsss :=
  ⟨own_base a.row k, a.qlen, fun i u q xss hu hq hx => by
    have h := a.each i u q xss hu hq hx
    exact ⟨own_base h.row k, fun i u xs hu hx => own_base (h.each i u xs hu hx) k, h.apart⟩, a.apart⟩
theorem OwnQ.nil (w : World) (B : Nat) : OwnQ w B (.slice none 0 0) [] [] [] := ⟨World.ownsRow_nil _ _ _ _, rfl, fun i u q xss hu => by simp at hu, fun i j q q' _ hq => by simp at hq⟩
theorem ownQ_empty {w : World} {B : Nat} (hB : B ≤ w.heap.size) : OwnQ (w.alloc (.cells #[] 22)) B (.slice (some ⟨w.heap.size, 0, none⟩) 0 0) [] [] [] :=
  ⟨World.ownsRow_made w #[] 0 hB (Nat.zero_le _) rfl, rfl, fun i u q xss hu => by simp at hu, fun i j q q' _ hq => by simp at hq⟩
/-- The blocks of all of it. -/
theorem OwnU.mem {w : World} {B : Nat} {v u : Value} {us : List Value} {xss : List (List Int)} (h : OwnU w B v us xss) (hu : u ∈ us) : ∃ xs, OwnI w B u xs := by
  obtain ⟨i, hi, rfl⟩ := List.getElem_of_mem hu
  have hl := h.len
  exact ⟨_, h.each i _ _ (List.getElem?_eq_getElem hi) (List.getElem?_eq_getElem (show i < xss.length by omega))⟩
theorem OwnU.mem_lt {w : World} {B : Nat} {v u : Value} {us : List Value} {xss : List (List Int)} (h : OwnU w B v us xss) (hu : u ∈ us) (b : Nat) (hb : u.ownBlock = some b) : B ≤ b ∧ b < w.heap.size := by
  obtain ⟨xs, ho⟩ := h.mem hu
  exact World.ownsRow.lt ho b hb
theorem OwnU.kept {w w' : World} {B : Nat} {v : Value} {us : List Value} {xss : List (List Int)} (h : OwnU w B v us xss) (k1 : ∀ b, v.ownBlock = some b → w'.heap[b]? = w.heap[b]?) (k2 : ∀ u ∈ us, ∀ b, u.ownBlock = some b → w'.heap[b]? = w.heap[b]?) : OwnU w' B v us xss :=
  ⟨own_kept h.row k1, fun i u xs hu hx => own_kept (h.each i u xs hu hx) (k2 u (List.mem_of_getElem? hu)), h.apart⟩
theorem OwnQ.append {wE W w' : World} {B : Nat} {v v' u : Value} {us q : List Value} {qs : List (List Value)} {xsss : List (List (List Int))} {xss : List (List Int)} (h : OwnQ wE B v us qs xsss) (hE : Below wE.heap.size wE W) (hB : B ≤ wE.heap.size) (hu : OwnU W wE.heap.size u q xss)
    (hrow : w'.ownsRow B 22 1 v' (xsss.length + 1) (us ++ [u])) (hk : ∀ b, b < W.heap.size → some b ≠ v.ownBlock → w'.heap[b]? = W.heap[b]?) : OwnQ w' B v' (us ++ [u]) (qs ++ [q]) (xsss ++ [xss]) := by
  have hW := h.same hE.block
  have hl := h.len
  have hql := h.qlen
  have kt := KeepT.grown hW.row hk
  refine ⟨by simpa using hrow, by simp [hql], fun i x y ys hx hy hz => ?_, fun i j y y' hij hy hy' x hx x' hx' => ?_⟩
  · by_cases hi : i < us.length
    · rw [List.getElem?_append_left hi] at hx
      rw [List.getElem?_append_left (by omega)] at hy hz
      exact (hW.each i x y ys hx hy hz).keepT (by decide) (by decide) kt
    · rw [List.getElem?_append_right (by omega)] at hx hy hz
      rw [show i - qs.length = i - us.length by omega] at hy
      rw [show i - xsss.length = i - us.length by omega] at hz
      obtain ⟨m, hm⟩ : ∃ m, i - us.length = m := ⟨_, rfl⟩
      rw [hm] at hx hy hz
      match m, hx, hy, hz with
      | 0, hx, hy, hz =>
        simp at hx hy hz
        subst hx; subst hy; subst hz
        have hu' : OwnU W B u q xss := ⟨own_base hu.row hB, fun i u xs hu' hx => own_base (hu.each i u xs hu' hx) hB, hu.apart⟩
        exact hu'.keepT (by decide) (by decide) kt
  · by_cases hj : j < qs.length
    · rw [List.getElem?_append_left hj] at hy'
      rw [List.getElem?_append_left (by omega)] at hy
      exact h.apart i j y y' hij hy hy' x hx x' hx'
    · rw [List.getElem?_append_right (by omega)] at hy'
      obtain ⟨m, hm⟩ : ∃ m, j - qs.length = m := ⟨_, rfl⟩
      rw [hm] at hy'
      match m, hy', hm with
      | 0, hy', hm =>
        simp at hy'
        subst hy'
        rw [List.getElem?_append_left (by omega)] at hy
        have hi : i < qs.length := by omega
        have ho := h.each i _ y _ (List.getElem?_eq_getElem (show i < us.length by omega)) hy (List.getElem?_eq_getElem (show i < xsss.length by omega))
        cases hb : x.ownBlock with
        | none => exact .inl rfl
        | some b =>
          right
          intro e
          have h1 := (ho.mem_lt hx b hb).2
          have h2 := (hu.mem_lt hx' b e.symm).1
          omega
/-- One element's numbers have been written. -/
theorem OwnQ.set {w w' : World} {B : Nat} {v u : Value} {us q : List Value} {qs : List (List Value)} {xsss : List (List (List Int))} {yss : List (List Int)} {j : Nat} (h : OwnQ w B v us qs xsss) (hj : us[j]? = some u) (hq : qs[j]? = some q)
    (hg : ∀ b, b < w.heap.size → (∀ x, x ∈ q → x.ownBlock ≠ some b) → w'.heap[b]? = w.heap[b]?) (ho : OwnU w' B u q yss) : OwnQ w' B v us qs (xsss.set j yss) := by
  have hl := h.len
  have hql := h.qlen
  have hjl : j < us.length := (List.getElem?_eq_some_iff.1 hj).1
  have hJ := h.each j u q _ hj hq (List.getElem?_eq_getElem (show j < xsss.length by omega))
  refine ⟨?_, by simpa using hql, fun i x y xss hx hy hz => ?_, h.apart⟩
  · rw [List.length_set]
    refine own_kept h.row fun b hb => hg b (World.ownsRow.lt h.row b hb).2 fun x hx e => ?_
    obtain ⟨xs, hxo⟩ := hJ.mem hx
    rcases own_ne_types hxo h.row (by decide) with e1 | e1
    · rw [e1] at e; cases e
    · exact e1 (e.trans hb.symm)
  · rw [List.getElem?_set] at hz
    by_cases e : j = i
    · subst e
      rw [if_pos rfl, if_pos (by omega)] at hz
      rw [hj] at hx; rw [hq] at hy
      cases hz; cases hx; cases hy
      exact ho
    · rw [if_neg e] at hz
      have hI := h.each i x y xss hx hy hz
      refine hI.kept (fun b hb => hg b (World.ownsRow.lt hI.row b hb).2 fun z hzq e1 => ?_) (fun z hzy b hb => hg b (hI.mem_lt hzy b hb).2 fun z' hzq e1 => ?_)
      · obtain ⟨xs, hxo⟩ := hJ.mem hzq
        rcases own_ne_types hxo hI.row (by decide) with e2 | e2
        · rw [e2] at e1; cases e1
        · exact e2 (e1.trans hb.symm)
      · rcases Nat.lt_or_ge i j with hij | hij
        · rcases h.apart i j y q hij hy hq z hzy z' hzq with e2 | e2
          · rw [e2] at hb; cases hb
          · exact e2 (hb.trans e1.symm)
        · rcases h.apart j i q y (by omega) hq hy z' hzq z hzy with e2 | e2
          · rw [e2] at e1; cases e1
          · exact e2 (e1.trans hb.symm)
theorem OwnQ.far {w w' : World} {B : Nat} {v : Value} {us : List Value} {qs : List (List Value)} {xsss : List (List (List Int))} (a : OwnQ w B v us qs xsss) (k : ∀ b, B ≤ b → b < w.heap.size → w'.heap[b]? = w.heap[b]?) : OwnQ w' B v us qs xsss :=
  ⟨own_far a.row k, a.qlen, fun i u q xss hu hq hx => (a.each i u q xss hu hq hx).kept (fun b hb => k b (World.ownsRow.lt (a.each i u q xss hu hq hx).row b hb).1 (World.ownsRow.lt (a.each i u q xss hu hq hx).row b hb).2) (fun _ hx2 b hb => k b ((a.each i u q xss hu hq hx).mem_lt hx2 b hb).1 ((a.each i u q xss hu hq hx).mem_lt hx2 b hb).2), a.apart⟩
theorem OwnQ.range {w : World} {B : Nat} {v : Value} {us : List Value} {qs : List (List Value)} {xsss : List (List (List Int))} (a : OwnQ w B v us qs xsss) : ∀ q ∈ qs, ∀ u ∈ q, ∀ b, u.ownBlock = some b → B ≤ b ∧ b < w.heap.size := fun q hq u hu b hb => by
  obtain ⟨i, hi, rfl⟩ := List.getElem_of_mem hq
  have hl := a.len
  have hql := a.qlen
  exact (a.each i _ _ _ (List.getElem?_eq_getElem (show i < us.length by omega)) (List.getElem?_eq_getElem hi) (List.getElem?_eq_getElem (show i < xsss.length by omega))).mem_lt hu b hb
section
variable {ops : Array Oper} {rest : List Oper} {o : Oper} {a : Act} {Q : Exit → Act → World → Prop}
/-- 'append(out, x)', all of it the call's own, x made since the world wE. -/
theorem append_ownQ {w w0 wE : World} (hg : o.guard = none) (s x : Operand)
    (ho : o.op = .call { callee := .builtin .append, args := #[s, x], argTypes := #[26, 26] })
    (B : Nat) (v u : Value) (us q : List Value) (qs : List (List Value)) (xsss : List (List (List Int))) (xss : List (List Int)) (hR : OwnQ wE B v us qs xsss) (hs : a.eval s = v) (hu : OwnU w wE.heap.size u q xss) (hE : Below wE.heap.size wE w) (hbl : Below B w0 wE) (hB : B ≤ wE.heap.size)
    (b : Nat) (hx : a.eval x = .slice (some ⟨b, 0, none⟩) 1 1) (hb : b = w.heap.size) (hn : xsss.length ≤ 4398046511104)
    (hK : ∀ v' us' w', OwnQ w' B v' us' (qs ++ [q]) (xsss ++ [xss]) → Below B w0 w' → w.heap.size ≤ w'.heap.size → wpList Try.prog ops Q rest (a.put o.dst v') w') :
    wpList Try.prog ops Q (o :: rest) a (w.alloc (.cells #[u] 22)) := by
  obtain ⟨i0, hi, hz0, hz1, hz2⟩ := info_parts info_slSS
  have hW := hR.same hE.block
  refine append_one hg s x _ ho B _ i0 _ 24 Try.underlying26 hi hz0 hz1 hz2 rfl (by omega) v _ us u hW.row hs (hbl.trans (hE.mono hB)) (Nat.le_trans hB hE.size) b hx hb (intSS_oneCell hu.ints) hn ?_
  intro v' w' h1 h2 h3 h4
  exact hK v' _ w' (hR.append hE hB hu h1 h4) h2 h3
end
/-- How many numbers there are. -/
def cntQ (xsss : List (List (List Int))) : Nat := (xsss.map cnt).sum
theorem cntQ_cons (xs : List (List Int)) (xss : List (List (List Int))) : cntQ (xs :: xss) = cnt xs + cntQ xss := by simp [cntQ]
theorem cntQ_append (a b : List (List (List Int))) : cntQ (a ++ b) = cntQ a + cntQ b := by simp [cntQ]
theorem cntQ_take_succ (xss : List (List (List Int))) (j : Nat) (h : j < xss.length) : cntQ (xss.take (j + 1)) = cntQ (xss.take j) + cnt xss[j] := by
  rw [List.take_succ_eq_append_getElem h, cntQ_append, cntQ_cons]; simp [cntQ]
theorem cntQ_take_le (xss : List (List (List Int))) (j : Nat) : cntQ (xss.take j) ≤ cntQ xss := by
  have h := cntQ_append (xss.take j) (xss.drop j)
  rw [List.take_append_drop] at h
  omega
def marksQ (k : Int) : List (List (List Int)) → List (List (List Int))
  | [] => []
  | xs :: r => marksS k xs :: marksQ (k + cnt xs) r
theorem marksQ_length (k : Int) (xss : List (List (List Int))) : (marksQ k xss).length = xss.length := by
  induction xss generalizing k with
  | nil => rfl
  | cons x r ih => simp [marksQ, ih]
theorem marksQ_at (xss : List (List (List Int))) : ∀ (k : Int) (j : Nat) (h : j < xss.length), (marksQ k xss)[j]? = some (marksS (k + cntQ (xss.take j)) xss[j]) := by
  induction xss with
  | nil => intro k j h; simp at h
  | cons x r ih =>
    intro k j h
    cases j with
    | zero => simp [marksQ, cntQ]
    | succ j =>
      simp only [marksQ, List.getElem?_cons_succ, List.take_succ_cons, List.getElem_cons_succ]
      rw [ih _ j (by simpa using h), cntQ_cons]
      simp only [Int.natCast_add, Int.add_assoc]
def markedQ (k : Int) (xss : List (List (List Int))) (j : Nat) : List (List (List Int)) := (marksQ k xss).take j ++ xss.drop j
theorem markedQ_length (k : Int) (xss : List (List (List Int))) (j : Nat) : (markedQ k xss j).length = xss.length := by
  simp [markedQ, marksQ_length]; omega
theorem markedQ_at (k : Int) (xss : List (List (List Int))) (j i : Nat) (hi : i < xss.length) : (markedQ k xss j)[i]? = if i < j then (marksQ k xss)[i]? else xss[i]? := by
  unfold markedQ
  by_cases h : i < j
  · rw [if_pos h, List.getElem?_append_left (by simp [marksQ_length]; omega), List.getElem?_take, if_pos h]
  · rw [if_neg h, List.getElem?_append_right (by simp; omega)]
    simp only [List.length_take, marksQ_length, List.getElem?_drop]
    by_cases hj : j ≤ xss.length
    · rw [Nat.min_eq_left hj, Nat.add_sub_cancel' (by omega)]
    · omega
theorem markedQ_set (k : Int) (xss : List (List (List Int))) (j : Nat) (h : j < xss.length) : (markedQ k xss j).set j (marksS (k + cntQ (xss.take j)) xss[j]) = markedQ k xss (j + 1) := by
  apply List.ext_getElem?
  intro i
  rw [List.getElem?_set]
  by_cases hi : i < xss.length
  · rw [markedQ_at _ _ _ _ hi, markedQ_at _ _ _ _ hi]
    by_cases e : j = i
    · subst e
      rw [if_pos rfl, markedQ_length, if_pos h, if_pos (by omega), marksQ_at _ _ _ h]
    · rw [if_neg e]
      by_cases h2 : i < j
      · rw [if_pos h2, if_pos (by omega)]
      · rw [if_neg h2, if_neg (by omega)]
  · rw [if_neg (by omega), List.getElem?_eq_none (by rw [markedQ_length]; omega), List.getElem?_eq_none (by rw [markedQ_length]; omega)]
theorem markedQ_all (k : Int) (xss : List (List (List Int))) : markedQ k xss xss.length = marksQ k xss := by
  rw [markedQ, List.drop_length, List.append_nil, ← marksQ_length k xss, List.take_length]
theorem markInt64SSS_c (v : Value) (us : List Value) (qs : List (List Value)) (xss : List (List (List Int))) (k : Int) (B : Nat) (w : World) (h : OwnQ w B v us qs xss) (hsB : B ≤ w.heap.size) (hk : 0 ≤ k) (hx : k + cntQ xss ≤ 4611686018427387904) :
    Calls Try.prog 14 #[v, .int .i64 k] w fun e w' => e = .returned (.int .i64 (k + cntQ xss)) ∧ OwnQ w' B v us qs (marksQ k xss) ∧ w.heap.size ≤ w'.heap.size ∧ Below B w w' ∧ (∀ b, b < w.heap.size → (∀ q, q ∈ qs → ∀ u, u ∈ q → u.ownBlock ≠ some b) → w'.heap[b]? = w.heap[b]?) := by
  obtain ⟨ao, c, rfl, hm⟩ := h.ints.len
  have hl := h.len
  have hql := h.qlen
  have HSB := Lib.hid hsB; clear hsB
  have HL := Lib.hid hl; have HQL := Lib.hid hql; have H := Lib.hid h; clear h hl hql
  go_enter Try.func14, Try.ntmps14
  go_wp2
  go_loopw [1, 5] (fun s i wr => ∃ j : Nat, j ≤ xss.length ∧ i = .int .i64 j ∧ s = .int .i64 (k + cntQ (xss.take j)) ∧ OwnQ wr B (.slice ao xss.length c) us qs (markedQ k xss j) ∧ w.heap.size ≤ wr.heap.size ∧ Below B w wr ∧ (∀ b, b < w.heap.size → (∀ q, q ∈ qs → ∀ u, u ∈ q → u.ownBlock ≠ some b) → wr.heap[b]? = w.heap[b]?)) (fun _ i _ => xss.length - (intOf i).toNat)
  case atStart => exact ⟨0, Nat.zero_le _, rfl, by simp [cntQ], by simpa [markedQ] using H.out, Nat.le_refl _, Below.refl _ _, fun _ _ _ => rfl⟩
  case round =>
    obtain ⟨j, hj, rfl, rfl, hown, hsz, hbl, hkb⟩ := hrel
    by_cases hlt : j < xss.length
    · have hm1 : (markedQ k xss j)[j]? = some xss[j] := by rw [markedQ_at _ _ _ _ hlt, if_neg (by omega)]; simp [hlt]
      have hju : j < us.length := by have := HL.out; omega
      have hjq : j < qs.length := by have := HQL.out; omega
      have hO := hown.each j us[j] qs[j] _ (List.getElem?_eq_getElem hju) (List.getElem?_eq_getElem hjq) hm1
      obtain ⟨b, off, cap, cur, hv, hb, _, _, _, h5⟩ := SlAt.at (slAt_of_own hown.row) j hju
      simp only [Value.slice.injEq] at hv
      obtain ⟨rfl, -, rfl⟩ := hv
      have hc : wr.cell? ⟨b, off + j, none⟩ = some us[j] := by rw [World.cell?]; simp only [hb]; simpa [hju] using h5
      have hcnt := cntQ_take_succ xss j hlt
      have hle := cntQ_take_le xss (j + 1)
      have hx2 : (k + cntQ (xss.take j)) + cnt xss[j] ≤ 4611686018427387904 := by omega
      have HO := Lib.hid hown; have HO2 := Lib.hid hO; have HK := Lib.hid hkb; have HBL := Lib.hid hbl; have HC := Lib.hid hcnt
      have HMQ := Lib.hid (List.getElem_mem hjq)
      have HJU := Lib.hid (List.getElem?_eq_getElem hju)
      have HJQ := Lib.hid (List.getElem?_eq_getElem hjq)
      have HST := Lib.hid (markedQ_set k xss j hlt)
      obtain ⟨pa, pc, hpe, -⟩ := hO.ints.len
      clear hown hO hkb hbl hb h5 hcnt hle hm1
      generalize xss[j] = y at *
      generalize us[j] = u at *
      generalize qs[j] = q at *
      subst hpe
      go_wp2_with fail
      refine (markInt64SS_c (.slice pa y.length pc) q y (k + cntQ (xss.take j)) B wr HO2.out (by have := HSB.out; omega) (by omega) hx2).mono ?_
      rintro e w1 ⟨rfl, ho1, hs1, hb1, hg1⟩
      have HO1 := Lib.hid ho1; have HB1 := Lib.hid hb1; have HG1 := Lib.hid hg1
      clear ho1 hb1 hg1
      go_wp2_with fail
      go_roundw
      case rel =>
        refine ⟨j + 1, by omega, by go_num, by rw [HC.out]; simp only [Int.natCast_add, Int.add_assoc], ?_, Nat.le_trans hsz hs1, HBL.out.trans HB1.out, ?_⟩
        · rw [← HST.out]
          exact HO.out.set HJU.out HJQ.out HG1.out HO1.out
        · intro x hx hne
          rw [HG1.out x (by omega) (fun z hz => hne _ HMQ.out z hz)]
          exact HK.out x hx hne
      case measure => simp [intOf]; omega
    · obtain rfl : j = xss.length := by omega
      go_wp2_with fail
      go_ret
      rw [markedQ_all] at hown
      exact ⟨by simp, hown, hsz, hbl, hkb⟩
theorem heldInt64SSS_c (v : Value) (xss : List (List (List Int))) (k : Int) (w : World) (h : IntSSS w.heap v (marksQ k xss)) (hk : 0 ≤ k) (hx : k + cntQ xss ≤ 4611686018427387904) :
    Calls Try.prog 15 #[v, .int .i64 k] w fun e w' => e = .returned (.int .i64 (k + cntQ xss)) ∧ w = w' := by
  obtain ⟨ao, c, rfl, hm⟩ := h.len
  rw [marksQ_length] at hm ⊢
  have H := Lib.hid h; clear h
  go_enter Try.func15, Try.ntmps15
  go_wp2
  go_loop [1, 5] (fun s i => ∃ j : Nat, j ≤ xss.length ∧ i = .int .i64 j ∧ s = .int .i64 (k + cntQ (xss.take j))) (fun _ i => xss.length - (intOf i).toNat)
  case atStart => exact ⟨0, Nat.zero_le _, rfl, by simp [cntQ]⟩
  case round =>
    obtain ⟨j, hj, rfl, rfl⟩ := hrel
    by_cases hlt : j < xss.length
    · obtain ⟨b, off, cap, r, hv, hc, hr, _⟩ := (H.out).at j (by rw [marksQ_length]; exact hlt)
      simp only [Value.slice.injEq, marksQ_length, true_and] at hv
      obtain ⟨rfl, rfl⟩ := hv
      have e : (marksQ k xss)[j]'(by rw [marksQ_length]; exact hlt) = marksS (k + cntQ (xss.take j)) xss[j] := by
        have := marksQ_at xss k j hlt
        rw [List.getElem?_eq_getElem (by rw [marksQ_length]; exact hlt)] at this
        exact Option.some.inj this
      rw [e] at hr
      clear e
      have hcnt := cntQ_take_succ xss j hlt
      have hle := cntQ_take_le xss (j + 1)
      have hx2 : (k + cntQ (xss.take j)) + cnt xss[j] ≤ 4611686018427387904 := by omega
      have HR := Lib.hid hr; have HC := Lib.hid hcnt
      obtain ⟨pa, pc, hpe, -⟩ := hr.len
      subst hpe
      clear hr hcnt hle
      generalize xss[j] = y at *
      go_wp2_with fail
      refine (heldInt64SS_c _ y (k + cntQ (xss.take j)) w HR.out (by omega) hx2).mono ?_
      rintro e w1 ⟨rfl, rfl⟩
      go_wp2_with fail
      go_round
      case rel => exact ⟨j + 1, by omega, by go_num, by rw [HC.out]; simp only [Int.natCast_add, Int.add_assoc]⟩
      case measure => simp [intOf]; omega
    · obtain rfl : j = xss.length := by omega
      go_wp2_with fail
      go_ret
      exact ⟨by simp, rfl⟩
end
section
open Go.RowKit Go.Sort

set_option maxRecDepth 100000 in
theorem copyPairs_c (v : Value) (L : List (List (List Int))) (w : World) (h : IntSSS w.heap v L) (hl : L.length ≤ 4398046511104) (hr : ∀ p ∈ L, p.length ≤ 4398046511104 ∧ ∀ x ∈ p, x.length ≤ 4398046511104) :
    Calls Try.prog 67 #[v] w fun e w' => ∃ r us qs, e = .returned r ∧ OwnQ w' w.heap.size r us qs L ∧ Below w.heap.size w w' := by
  obtain ⟨ao, c, rfl, hm⟩ := h.len
  have H := Lib.hid h; have HR := Lib.hid hr; clear h hr
  go_enter Try.func67, Try.ntmps67
  go_wp2_with fail
  go_loopw [3, 9] (fun o i wr => ∃ (k : Nat) (us : List Value) (qs : List (List Value)), k ≤ L.length ∧ i = .int .i64 k ∧ OwnQ wr w.heap.size o us qs (L.take k) ∧ Below w.heap.size w wr) (fun _ i _ => L.length - (intOf i).toNat)
  case atStart => exact ⟨0, [], [], Nat.zero_le _, rfl, ownQ_empty (Nat.le_refl _), (Below.refl _ _).alloc (Nat.le_refl _) _⟩
  case round =>
    obtain ⟨k, us, qs, hk, rfl, hU, hbl⟩ := hrel
    obtain ⟨va, vn, vc, rfl⟩ := own_shape hU.row
    have HU := Lib.hid hU; have HB := Lib.hid hbl; have hsz := hbl.size
    by_cases hlt : k < L.length
    · obtain ⟨b1, o1, c1, u, hv1, hc1, hu, -⟩ := H.out.at k hlt
      simp only [Value.slice.injEq, true_and] at hv1
      obtain ⟨rfl, rfl⟩ := hv1
      have hc := (hbl.cell (World.block_lt_of_cell? _ _ hc1)).trans hc1
      clear hc1
      have HV := Lib.hid (hu.same hbl.block)
      have HRL := Lib.hid (HR.out _ (List.getElem_mem hlt))
      have HS := Lib.hid (List.take_succ_eq_append_getElem hlt)
      obtain ⟨ua, uc, rfl, -⟩ := hu.len
      have HLN : Hid ((L.take k).length ≤ 4398046511104) := by show _ ≤ _; rw [List.length_take]; omega
      clear hu hU hbl
      generalize L[k] = x at *
      go_wp2_with (first | (go_at_call 123; refine (copyLists_c _ _ _ (by exact HV.out) HRL.out.1 HRL.out.2).mono ?_; rintro e w2 ⟨rv, u2, rfl, hR2, hb2⟩; obtain ⟨ra, rn, rc, rfl⟩ := own_shape hR2.row) | (at_builtin; refine append_ownQ rfl _ _ rfl w.heap.size _ _ us u2 qs _ _ HU.out rfl hR2 hb2 HB.out hsz _ rfl rfl HLN.out ?_; intro v3 us3 w3 hU3 hb3 _; obtain ⟨sa, sn, sc, rfl⟩ := own_shape hU3.row))
      go_roundw
      case rel => exact ⟨k + 1, _, _, by omega, by go_num, by rw [HS.out]; exact hU3, hb3⟩
      case measure => simp [intOf]; omega
    · obtain rfl : k = L.length := by omega
      rw [List.take_length] at HU
      go_wp2_with fail
      go_ret
      exact ⟨_, _, _, rfl, HU.out, HB.out⟩
end
section
open Go.RowKit Go.Sort

theorem eqInt64SSS_same (v1 v2 : Value) (xss : List (List (List Int))) (w : World) (h1 : IntSSS w.heap v1 xss) (h2 : IntSSS w.heap v2 xss) :
    Calls Try.prog 11 #[v1, v2] w fun e w' => e = .returned (.bool true) ∧ ∃ n, w' = w.drewN n := by
  obtain ⟨a1, c1, rfl, m1⟩ := h1.len
  obtain ⟨a2, c2, rfl, m2⟩ := h2.len
  have H1 := Lib.hid h1; clear h1
  have H2 := Lib.hid h2; clear h2
  have hb := (eqB (a := (xss.length : Int)) (b := xss.length) rfl).2
  go_enter Try.func11, Try.ntmps11
  go_wp2
  clear hb
  go_loopw [5] (fun i wr => ∃ k n : Nat, k ≤ xss.length ∧ i = .int .i64 k ∧ wr = w.drewN n) (fun i _ => xss.length - (intOf i).toNat)
  case atStart => exact ⟨0, 0, Nat.zero_le _, rfl, rfl⟩
  case round =>
    obtain ⟨k, n, hk, rfl, rfl⟩ := hrel
    by_cases hlt : k < xss.length
    · obtain ⟨b1, o1, c1', r1, hv1, hc1, hr1, _⟩ := (H1.out).at k hlt
      obtain ⟨b2, o2, c2', r2, hv2, hc2, hr2, _⟩ := (H2.out).at k hlt
      simp only [Value.slice.injEq, true_and] at hv1 hv2
      obtain ⟨rfl, rfl⟩ := hv1
      obtain ⟨rfl, rfl⟩ := hv2
      have HR1 := Lib.hid hr1; have HR2 := Lib.hid hr2; clear hr1 hr2
      go_wp2_with fail
      go_quiet ((go_at_call 69; exact quiet_behind (eqInt64SS_same _ _ _ _ (by exact HR1.out) (by exact HR2.out))))
      go_wp2_with fail
      go_roundw
      case rel => exact ⟨k + 1, _, by omega, by go_num, rfl⟩
      case measure => simp [intOf]; omega
    · go_wp2
      go_ret
      exact ⟨rfl, _, rfl⟩
end
section
open Go.RowKit Go.Sort

def dcpC (xss : List (List Int)) : Int := if arT xss then 0 else 1
def dcpR (xss : List (List Int)) : List (List (List Int)) := if arT xss then oddP (copsL xss) else []
theorem arT_504 {xss : List (List Int)} (hT : arT xss = true) : xss.length ≤ 504 := expD_length (d := degT xss) (arT_asc hT) (arT_expD hT) (degT_in hT).2
theorem cntQ_le {l : List (List (List Int))} {k : Nat} (h : ∀ r ∈ l, cnt r ≤ k) : cntQ l ≤ l.length * k := by
  induction l with
  | nil => simp [cntQ]
  | cons x l ih =>
    rw [cntQ_cons, List.length_cons, Nat.add_mul]
    have h1 := h x (List.mem_cons_self ..)
    have h2 := ih fun y hy => h y (List.mem_cons_of_mem _ hy)
    omega
theorem prS_cnt {b : Int} {l : Nat} {q : List (List Int)} (h : PrS b l q) : cnt q ≤ 2 * l := by
  obtain ⟨x, y, rfl, h1, h2⟩ := h
  simp [cnt]
  omega
theorem dcpR_len (xss : List (List Int)) : (dcpR xss).length ≤ 504 * 49766400 := by
  unfold dcpR
  cases hT : arT xss
  · simp
  · have h1 := copsL_len hT xss.length (arT_504 hT)
    rw [List.take_length] at h1
    have h2 := oddP_length (copsL xss)
    simp only [if_true]
    omega
theorem dcpR_pr (xss : List (List Int)) : ∀ q ∈ dcpR xss, PrS 1000000 6 q := by
  unfold dcpR
  cases hT : arT xss
  · simp
  · simp only [if_true]
    exact fun q hq => copsL_ok hT q (oddP_mem hq)
theorem dcpR_cnt (xss : List (List Int)) : 1 + (cntQ (dcpR xss) : Int) ≤ 4611686018427387904 := by
  have h1 := cntQ_le (k := 12) fun q hq => prS_cnt (dcpR_pr xss q hq)
  have h2 := dcpR_len xss
  omega
set_option maxRecDepth 100000 in
theorem specDualCoproduct_c (v : Value) (xss : List (List Int)) (w : World) (h : IntSS w.heap v xss) :
    Calls Try.prog 8 #[.agg #[v]] w fun e w' => ∃ r, e = .returned (.tuple #[r, .int .i64 (dcpC xss)]) ∧ IntSSS w'.heap r (dcpR xss) ∧ Below w.heap.size w w' := by
  have hb : Below w.heap.size w (w.alloc (.cells #[v] 29)) := (Below.refl _ _).alloc (Nat.le_refl _) _
  have k0 := Cell1.new w v 29
  have C := Lib.hid (l06Is_c v xss _ (h.same hb.block))
  obtain ⟨ao, c, rfl, hm⟩ := h.len
  have H := Lib.hid (h.same hb.block); clear h
  have q0 := k0.c0
  have HB0 := Lib.hid hb; have K0 := Lib.hid k0
  clear hb k0
  cases hT : arT xss
  · have e1 : dcpC xss = 1 := by simp [dcpC, hT]
    have e2 : dcpR xss = [] := by simp [dcpR, hT]
    rw [e1, e2]
    rw [hT] at C
    clear e1 e2 hT
    go_enter Try.func8, Try.ntmps8
    go_wp2_with (go_at_call 63; refine C.out.mono ?_; rintro e w1 ⟨rfl, hb1⟩; have HB1 := Lib.hid (HB0.out.trans (hb1.mono HB0.out.size)); clear hb1)
    go_ret2
    exact ⟨_, rfl, ⟨[], .inl ⟨rfl, rfl⟩, rfl, fun i u xss hu => by simp at hu⟩, HB1.out⟩
  · have e1 : dcpC xss = 0 := by simp [dcpC, hT]
    have e2 : dcpR xss = oddP (copsL xss) := by simp [dcpR, hT]
    rw [e1, e2]
    rw [hT] at C
    have CO := Lib.hid (fun (W : World) (h : IntSS W.heap (.slice ao xss.length c) xss) => l06Coproduct_of l06Split_c _ xss W h hT (arT_504 hT))
    clear e1 e2 hT
    generalize oddP (copsL xss) = rx at *
    go_enter Try.func8, Try.ntmps8
    go_wp2_with (first | (go_at_call 63; refine C.out.mono ?_; rintro e w1 ⟨rfl, hb1⟩; have HB1 := Lib.hid (HB0.out.trans (hb1.mono HB0.out.size)); have q1 := (K0.out.kept hb1.block).c0; have H1 := Lib.hid (H.out.same hb1.block); clear hb1) | (go_at_call 64; refine (CO.out _ H1.out).mono ?_; rintro e w2 ⟨r2, us2, rfl, hU2, hb2⟩; obtain ⟨sa, sn, sc, rfl⟩ := own_shape hU2.row))
    go_ret2
    exact ⟨_, rfl, hU2.ints (fun _ _ => rfl), HB1.out.trans (hb2.mono HB1.out.size)⟩
set_option maxRecDepth 100000 in
theorem implDualCoproduct_c (v : Value) (xss : List (List Int)) (w : World) (h : IntSS w.heap v xss) :
    Calls Try.prog 10 #[.agg #[v]] w fun e w' => ∃ r us qs, e = .returned (.tuple #[r, .int .i64 (dcpC xss)]) ∧ OwnQ w' w.heap.size r us qs (dcpR xss) ∧ Below w.heap.size w w' := by
  have hb : Below w.heap.size w (w.alloc (.cells #[v] 29)) := (Below.refl _ _).alloc (Nat.le_refl _) _
  have k0 := Cell1.new w v 29
  have C := Lib.hid (isDual_c v xss _ (h.same hb.block))
  obtain ⟨ao, c, rfl, hm⟩ := h.len
  have H := Lib.hid (h.same hb.block); clear h
  have q0 := k0.c0
  have HB0 := Lib.hid hb; have K0 := Lib.hid k0
  clear hb k0
  have hrl := dcpR_len xss
  have HRP := Lib.hid (dcpR_pr xss)
  cases hT : arT xss
  · have e1 : dcpC xss = 1 := by simp [dcpC, hT]
    have e2 : dcpR xss = [] := by simp [dcpR, hT]
    rw [e1, e2]
    rw [hT] at C
    clear e1 e2 hT hrl HRP
    go_enter Try.func10, Try.ntmps10
    go_wp2_with (go_at_call 66; refine C.out.mono ?_; rintro e w1 ⟨rfl, hb1⟩; have HB1 := Lib.hid (HB0.out.trans (hb1.mono HB0.out.size)); clear hb1)
    go_ret2
    exact ⟨_, [], [], rfl, OwnQ.nil _ _, HB1.out⟩
  · have e1 : dcpC xss = 0 := by simp [dcpC, hT]
    have e2 : dcpR xss = oddP (copsL xss) := by simp [dcpR, hT]
    rw [e1]
    rw [hT] at C
    rw [e2] at hrl HRP ⊢
    have CO := Lib.hid (fun (W : World) (h : IntSS W.heap (.slice ao xss.length c) xss) => coproducts_c _ xss W h hT (arT_504 hT))
    clear e1 e2 hT
    generalize oddP (copsL xss) = rx at *
    have CP := Lib.hid (fun (v : Value) (W : World) (h : IntSSS W.heap v rx) => copyPairs_c v rx W h (by omega) (fun p hp => by
      obtain ⟨x, y, rfl, ⟨h1, h2⟩, h3, h4⟩ := HRP.out p hp
      refine ⟨by simp, fun z hz => ?_⟩
      simp at hz
      rcases hz with rfl | rfl <;> omega))
    clear hrl HRP
    go_enter Try.func10, Try.ntmps10
    go_wp2_with (first | (go_at_call 66; refine C.out.mono ?_; rintro e w1 ⟨rfl, hb1⟩; have HB1 := Lib.hid (HB0.out.trans (hb1.mono HB0.out.size)); have q1 := (K0.out.kept hb1.block).c0; have H1 := Lib.hid (H.out.same hb1.block); clear hb1) | (go_at_call 68; refine (CO.out _ H1.out).mono ?_; rintro e w2 ⟨r2, us2, rfl, hU2, hb2⟩; obtain ⟨sa, sn, sc, rfl⟩ := own_shape hU2.row) | (go_at_call 67; refine (CP.out _ _ (hU2.ints (fun _ _ => rfl))).mono ?_; rintro e w3 ⟨r3, us3, qs3, rfl, hU3, hb3⟩; obtain ⟨ta, tn, tc, rfl⟩ := own_shape hU3.row))
    go_ret2
    exact ⟨_, us3, qs3, rfl, hU3.base (Nat.le_trans HB1.out.size hb2.size), (HB1.out.trans (hb2.mono HB1.out.size)).trans (hb3.mono (Nat.le_trans HB1.out.size hb2.size))⟩
end
section
open Go.RowKit Go.Sort

theorem markDual_c (v : Value) (us : List Value) (xss : List (List Int)) (k : Int) (B : Nat) (w : World) (h : OwnU w B v us xss) (hB : B ≤ w.heap.size) (hk : 0 ≤ k) (hx : k + cnt xss ≤ 4611686018427387904) :
    Calls Try.prog 13 #[.agg #[v], .int .i64 k] w fun e w' => e = .returned (.int .i64 (k + cnt xss)) ∧ OwnU w' B v us (marksS k xss) ∧ Below B w w' ∧ (∀ b, b < w.heap.size → (∀ u, u ∈ us → u.ownBlock ≠ some b) → w'.heap[b]? = w.heap[b]?) := by
  have hb : Below B w (w.alloc (.cells #[v] 29)) := (Below.refl _ _).alloc hB _
  have C := Lib.hid (markInt64SS_c v us xss k B _ (h.same (alloc_old w (.cells #[v] 29))) (by simp; omega) hk hx)
  obtain ⟨a1, c1, rfl, m1⟩ := h.ints.len
  have HB := Lib.hid hb; clear hb h
  go_enter Try.func13, Try.ntmps13
  go_wp2_with (go_at_call 70; refine C.out.mono ?_; rintro e w1 ⟨rfl, h1, z1, b1, k1⟩; have K1 := Lib.hid k1; clear k1)
  go_ret
  exact ⟨rfl, h1, HB.out.trans b1, fun b hb hne => (K1.out b (by simp; omega) hne).trans (alloc_old _ _ _ hb)⟩
end
open Go.ChangeShapes Go.WideShapes Go.ChangeAt Go.RowKit
open Go.ChangeMaps (open_string shut_string)

set_option maxRecDepth 100000 in
set_option maxHeartbeats 4000000 in
theorem fnExactDualCoproduct_walk (w : World) (a1 : Option Addr) (l1 p1 : Nat) (t1 : List (List Int)) (h1 : IsRows w a1 l1 t1) :
    Calls Try.prog 3 #[.agg #[.slice a1 l1 p1]] w fun e w' => e = .returned (.bool true) ∧ Below w.heap.size w w' := by
  have S := Lib.hid (fun (v : Value) (W : World) (h : IntSS W.heap v t1) => specDualCoproduct_c v t1 W h)
  have I := Lib.hid (fun (v : Value) (W : World) (h : IntSS W.heap v t1) => implDualCoproduct_c v t1 W h)
  have HXL := Lib.hid (dcpR_cnt t1)
  generalize dcpR t1 = rp at *
  generalize dcpC t1 = pc at *
  have u1 : (pc != pc) = false := by simp
  obtain ⟨W0, hW0⟩ : ∃ W, W = (w.alloc (.cells #[.slice a1 l1 p1] 24)) := ⟨_, rfl⟩
  have hx : Below w.heap.size w W0 := by rw [hW0]; exact ((Below.refl _ _).alloc (by exact Nat.le_refl _) _)
  have hsz : w.heap.size + 1 ≤ W0.heap.size := by rw [hW0]; simp
  have k1 := (Cell1.new w (.slice a1 l1 p1) 24).c0
  rw [← hW0] at k1
  have BW0 := Lib.hid hx
  have Z2 := Lib.hid (hsz)
  have HW0 := Lib.hid hW0
  clear hW0 hx hsz
  have SM1 := Lib.hid (fun (left : Nat) (hl : left ≤ 1048576) (W : World) (hb : Below w.heap.size w W) => szDual_c a1 l1 p1 t1 left W (h1.same hb.block hb.size) hl)
  have TM10 := fun (W : World) (hb : Below w.heap.size w W) => toDual_c a1 l1 p1 t1 W (h1.same hb.block hb.size)
  clear h1
  go_enter Try.func3, Try.ntmps3
  go_wp2_with fail
  rw [← HW0.out]
  clear HW0
  have S0 := SM1.out 1048576 (Nat.le_refl _) _ BW0.out
  by_cases hz1 : t1.length + cnt t1 ≤ 1048576
  rotate_left
  · have e9 : szR t1 1048576 = -1 := by unfold szR; rw [if_neg hz1]
    rw [e9] at S0
    have S1 := Lib.hid S0
    clear S0 e9
    refine (S1.out).mono ?_
    rintro e W ⟨rfl, hx⟩
    have BE := Lib.hid (BW0.out.trans (hx.mono BW0.out.size))
    clear hx
    go_wp2_with fail
    go_ret
    exact ⟨rfl, BE.out⟩
  obtain ⟨left1, hl9⟩ : ∃ left : Nat, szR t1 1048576 = left := ⟨1048576 - (t1.length + cnt t1), by unfold szR; rw [if_pos hz1]; omega⟩
  have HLN : Hid (left1 ≤ 1048576) := by show _ ≤ _; unfold szR at hl9; rw [if_pos hz1] at hl9; have := Nat.le_refl 1048576; omega
  rw [hl9] at S0
  have S1 := Lib.hid S0
  clear S0 hl9
  have TM1 := Lib.hid (fun (W : World) (hb : Below w.heap.size w W) => TM10 W hb (by have := Nat.le_refl 1048576; omega))
  have HSZ1 : Hid (cnt t1 ≤ 1048576) := by show _ ≤ _; have := Nat.le_refl 1048576; omega
  clear TM10 hz1 SM1
  have HLF := HLN
  clear HLN
  refine (S1.out).mono ?_
  rintro e W3 ⟨rfl, hx⟩
  clear S1
  have Z4 := Lib.hid (hx.size)
  have k5 := (hx.cell (World.block_lt_of_cell? _ _ k1)).trans k1
  clear k1
  have B6 := Lib.hid (BW0.out.trans (hx.mono BW0.out.size))
  clear BW0
  clear hx
  go_wp2_with fail
  refine (TM1.out _ B6.out).mono ?_
  rintro e W9 ⟨v7, rfl, ⟨u8, hm⟩, hx⟩
  obtain ⟨q10, q11, q12, rfl⟩ := own_shape hm.row
  have O13 := Lib.hid hm
  have R14 := Lib.hid hm.range
  clear hm
  have Z15 := Lib.hid (hx.size)
  have k16 := (hx.cell (World.block_lt_of_cell? _ _ k5)).trans k5
  clear k5
  have B17 := Lib.hid (B6.out.trans (hx.mono B6.out.size))
  clear B6
  clear hx
  go_wp2_with fail
  refine (S.out (.slice q10 q11 q12) _ O13.out.ints).mono ?_
  rintro e W18 ⟨r1, rfl, hm, hx⟩
  have RW := Lib.hid hm
  clear hm
  have Z19 := Lib.hid (hx.size)
  have k20 := (hx.cell (World.block_lt_of_cell? _ _ k16)).trans k16
  clear k16
  have O21 := Lib.hid (O13.out.same hx.block)
  clear O13
  have B22 := Lib.hid (B17.out.trans (hx.mono B17.out.size))
  clear B17
  clear hx
  have B23 := Lib.hid (Below.refl W18.heap.size W18)
  clear O21
  go_wp2_with fail
  refine (TM1.out _ B22.out).mono ?_
  rintro e W26 ⟨v24, rfl, ⟨u25, hm⟩, hx⟩
  obtain ⟨q27, q28, q29, rfl⟩ := own_shape hm.row
  have O30 := Lib.hid hm
  have R31 := Lib.hid hm.range
  clear hm
  have Z32 := Lib.hid (hx.size)
  have k33 := (hx.cell (World.block_lt_of_cell? _ _ k20)).trans k20
  clear k20
  have B34 := Lib.hid (B22.out.trans (hx.mono B22.out.size))
  clear B22
  have B35 := Lib.hid (B23.out.trans (hx.mono B23.out.size))
  clear B23
  clear hx
  obtain ⟨W36, E370⟩ : ∃ W, W = W26.alloc (.cells #[.slice q27 q28 q29] 29) := ⟨_, rfl⟩
  have hx : Below W26.heap.size W26 W36 := by rw [E370]; exact (Below.refl _ _).alloc (Nat.le_refl _) _
  have k38 : W36.cell? ⟨W26.heap.size, 0, none⟩ = some (.slice q27 q28 q29) := by rw [E370, World.cell?]; simp only [heap_alloc_new]; rfl
  have kx0 := Go.Lib.cell?_alloc_some (.cells #[.slice q27 q28 q29] 29) k33
  have Z39 := Lib.hid (World.block_lt_of_cell? _ _ k38)
  simp only at Z39
  have Z40 := Lib.hid (hx.size)
  have k41 := (hx.cell (World.block_lt_of_cell? _ _ k33)).trans k33
  clear k33
  have O42 := Lib.hid (O30.out.same hx.block)
  clear O30
  have B43 := Lib.hid (B34.out.trans (hx.mono B34.out.size))
  clear B34
  have B44 := Lib.hid (B35.out.trans (hx.mono B35.out.size))
  clear B35
  clear hx
  have E37 := Lib.hid E370
  clear E370
  go_wp2_with fail
  rw [← E37.out]
  clear E37 kx0
  go_wp2_with fail
  refine (I.out (.slice q27 q28 q29) _ O42.out.ints).mono ?_
  rintro e W48 ⟨v45, u46, p47, rfl, hm, hx⟩
  obtain ⟨q49, q50, q51, rfl⟩ := own_shape hm.row
  have O52 := Lib.hid hm
  have R53 := Lib.hid hm.range
  clear hm
  have Z54 := Lib.hid (hx.size)
  have k55 := (hx.cell (World.block_lt_of_cell? _ _ k41)).trans k41
  clear k41
  have k56 := (hx.cell (World.block_lt_of_cell? _ _ k38)).trans k38
  clear k38
  have O57 := Lib.hid (O42.out.same hx.block)
  clear O42
  have B58 := Lib.hid (B43.out.trans (hx.mono B43.out.size))
  clear B43
  have B59 := Lib.hid (B44.out.trans (hx.mono B44.out.size))
  clear B44
  clear hx
  go_wp2_with fail
  refine (eqInt64SSS_same _ _ rp _ O52.out.ints (RW.out.same B59.out.block)).mono ?_
  rintro e W60x ⟨rfl, n61, hWn⟩
  obtain ⟨W60, hWe⟩ : ∃ W, W = W60x := ⟨_, rfl⟩
  have hx : Below W48.heap.size W48 W60 := by rw [hWe, hWn]; exact below_drewN _ (Below.refl _ _)
  rw [← hWe]
  clear hWn hWe
  have Z62 := Lib.hid (hx.size)
  have k63 := (hx.cell (World.block_lt_of_cell? _ _ k55)).trans k55
  clear k55
  have k64 := (hx.cell (World.block_lt_of_cell? _ _ k56)).trans k56
  clear k56
  have O65 := Lib.hid (O57.out.same hx.block)
  clear O57
  have O66 := Lib.hid (O52.out.same hx.block)
  clear O52
  have B67 := Lib.hid (B58.out.trans (hx.mono B58.out.size))
  clear B58
  have B68 := Lib.hid (B59.out.trans (hx.mono B59.out.size))
  clear B59
  clear hx
  go_wp2_with fail
  go_region_held3 (fun W => W.cell? ⟨W26.heap.size, 0, none⟩ = some (.slice q27 q28 q29) ∧ W.cell? ⟨w.heap.size, 0, none⟩ = some (.slice a1 l1 p1) ∧ Below W60.heap.size W60 W)
    (first | exact ⟨k64, k63, (Below.refl _ _).drew⟩ | exact heldC2 (by assumption) hx8 | exact heldC2 (by assumption) hx9)
    (first | (go_at_call 9; refine (TM1.out _ (heldC2B B67.out (by assumption) B67.out.size)).mono ?_; rintro e W9 ⟨v9, rfl, ⟨u9, hm9⟩, hx9⟩; obtain ⟨e1, e2, e3, rfl⟩ := own_shape hm9.row) | (go_at_call 12; refine (eqDual_same _ _ t1 _ (O65.out.ints.same (heldC2X (by assumption)).block) hm9.ints).mono ?_; rintro e W8 ⟨rfl, hx8⟩))
  all_goals
    rename_i hh
    obtain ⟨W69, hWe⟩ : ∃ W, W = W8 := ⟨_, rfl⟩
    have hx : Below W60.heap.size W60 W69 := by rw [hWe]; exact heldC2X hh
    rw [← hWe]
    clear hWe hh hx8 hx9 hm9
    have Z70 := Lib.hid (hx.size)
    have k71 := (hx.cell (World.block_lt_of_cell? _ _ k63)).trans k63
    clear k63
    have k72 := (hx.cell (World.block_lt_of_cell? _ _ k64)).trans k64
    clear k64
    have O73 := Lib.hid (O65.out.same hx.block)
    clear O65
    have O74 := Lib.hid (O66.out.same hx.block)
    clear O66
    have B75 := Lib.hid (B67.out.trans (hx.mono B67.out.size))
    clear B67
    have B76 := Lib.hid (B68.out.trans (hx.mono B68.out.size))
    clear B68
    clear hx
    go_wp2_with fail
    refine (markDual_c (.slice q27 q28 q29) u25 t1 1 W18.heap.size W69 O73.out (by have := Z2.out; have := Z4.out; have := Z15.out; have := Z19.out; have := Z32.out; have := Z39.out; have := Z40.out; have := Z54.out; have := Z62.out; have := Z70.out; omega) (by omega) (by have := HXL.out; have := HSZ1.out; omega)).mono ?_
    rintro e W77 ⟨rfl, hm, hlow, hfr⟩
    have RRR := R31.out
    have hhi : ∀ b, W26.heap.size ≤ b → b < W69.heap.size → W77.heap[b]? = W69.heap[b]? := fun b h1 h2 => hfr b h2 (fun u hu e => by have := RRR.2 u hu b e; omega)
    clear RRR
    have O78 := Lib.hid hm
    clear hm
    have Z79 := Lib.hid (hlow.size)
    have k80 := (hlow.cell (p := ⟨w.heap.size, 0, none⟩) (by show w.heap.size < W18.heap.size; exact (by have := Z2.out; have := Z4.out; have := Z15.out; have := Z19.out; have := Z32.out; have := Z39.out; have := Z40.out; have := Z54.out; have := Z62.out; have := Z70.out; have := Z79.out; omega))).trans k71
    clear k71
    have k81 := (World.cell?_of_block (hhi W26.heap.size (by have := Z2.out; have := Z4.out; have := Z15.out; have := Z19.out; have := Z32.out; have := Z39.out; have := Z40.out; have := Z54.out; have := Z62.out; have := Z70.out; have := Z79.out; omega) (World.block_lt_of_cell? _ _ k72))).trans k72
    clear k72
    have O82 := Lib.hid (O74.out.far fun b h1 h2 => hhi b (Nat.le_trans (by have := Z2.out; have := Z4.out; have := Z15.out; have := Z19.out; have := Z32.out; have := Z39.out; have := Z40.out; have := Z54.out; have := Z62.out; have := Z70.out; have := Z79.out; omega) h1) h2)
    clear O74
    have B83 := Lib.hid (B75.out.trans (hlow.mono (by have := Z2.out; have := Z4.out; have := Z15.out; have := Z19.out; have := Z32.out; have := Z39.out; have := Z40.out; have := Z54.out; have := Z62.out; have := Z70.out; have := Z79.out; omega)))
    clear B75
    have B84 := Lib.hid (B76.out.trans (hlow.mono (by have := Z2.out; have := Z4.out; have := Z15.out; have := Z19.out; have := Z32.out; have := Z39.out; have := Z40.out; have := Z54.out; have := Z62.out; have := Z70.out; have := Z79.out; omega)))
    clear B76
    clear hlow hhi hfr
    have t9 : decide ((1 + (cnt t1 : Int)) < 0) = false := by simp; omega
    clear O78
    clear k81
    go_wp2_with fail
    refine (eqInt64SSS_same _ _ rp _ O82.out.ints (RW.out.same B84.out.block)).mono ?_
    rintro e W85x ⟨rfl, n86, hWn⟩
    obtain ⟨W85, hWe⟩ : ∃ W, W = W85x := ⟨_, rfl⟩
    have hx : Below W77.heap.size W77 W85 := by rw [hWe, hWn]; exact below_drewN _ (Below.refl _ _)
    rw [← hWe]
    clear hWn hWe
    have Z87 := Lib.hid (hx.size)
    have k88 := (hx.cell (World.block_lt_of_cell? _ _ k80)).trans k80
    clear k80
    have O89 := Lib.hid (O82.out.same hx.block)
    clear O82
    have B90 := Lib.hid (B83.out.trans (hx.mono B83.out.size))
    clear B83
    have B91 := Lib.hid (B84.out.trans (hx.mono B84.out.size))
    clear B84
    clear hx
    go_wp2_with fail
    refine (markInt64SSS_c (.slice q49 q50 q51) u46 p47 rp 1 W36.heap.size W85 O89.out (by have := Z2.out; have := Z4.out; have := Z15.out; have := Z19.out; have := Z32.out; have := Z39.out; have := Z40.out; have := Z54.out; have := Z62.out; have := Z70.out; have := Z79.out; have := Z87.out; omega) (by omega) (by have := HXL.out; have := HSZ1.out; omega)).mono ?_
    rintro e W92 ⟨rfl, hm, -, hlow, hfr⟩
    have RRR := R53.out
    have hhi : ∀ b, W48.heap.size ≤ b → b < W85.heap.size → W92.heap[b]? = W85.heap[b]? := fun b h1 h2 => hfr b h2 (fun q hq u hu e => by have := RRR q hq u hu b e; omega)
    clear RRR
    have O93 := Lib.hid hm
    clear hm
    have Z94 := Lib.hid (hlow.size)
    have k95 := (hlow.cell (p := ⟨w.heap.size, 0, none⟩) (by show w.heap.size < W36.heap.size; exact (by have := Z2.out; have := Z4.out; have := Z15.out; have := Z19.out; have := Z32.out; have := Z39.out; have := Z40.out; have := Z54.out; have := Z62.out; have := Z70.out; have := Z79.out; have := Z87.out; have := Z94.out; omega))).trans k88
    clear k88
    have B96 := Lib.hid (B90.out.trans (hlow.mono (by have := Z2.out; have := Z4.out; have := Z15.out; have := Z19.out; have := Z32.out; have := Z39.out; have := Z40.out; have := Z54.out; have := Z62.out; have := Z70.out; have := Z79.out; have := Z87.out; have := Z94.out; omega)))
    clear B90
    have B97 := Lib.hid (B91.out.trans (hlow.mono (by have := Z2.out; have := Z4.out; have := Z15.out; have := Z19.out; have := Z32.out; have := Z39.out; have := Z40.out; have := Z54.out; have := Z62.out; have := Z70.out; have := Z79.out; have := Z87.out; have := Z94.out; omega)))
    clear B91
    clear hlow hhi hfr
    go_wp2_with fail
    refine (heldInt64SSS_c (.slice q49 q50 q51) rp 1 _ O93.out.ints (by omega) (by have := HXL.out; have := HSZ1.out; omega)).mono ?_
    rintro e W98 ⟨rfl, rfl⟩
    go_wp2_with fail
    refine (TM1.out _ B96.out).mono ?_
    rintro e W101 ⟨v99, rfl, ⟨u100, hm⟩, hx⟩
    obtain ⟨q102, q103, q104, rfl⟩ := own_shape hm.row
    have O105 := Lib.hid hm
    have R106 := Lib.hid hm.range
    clear hm
    have Z107 := Lib.hid (hx.size)
    have k108 := (hx.cell (World.block_lt_of_cell? _ _ k95)).trans k95
    clear k95
    have O109 := Lib.hid (O93.out.same hx.block)
    clear O93
    have B110 := Lib.hid (B96.out.trans (hx.mono B96.out.size))
    clear B96
    have B111 := Lib.hid (B97.out.trans (hx.mono B97.out.size))
    clear B97
    clear hx
    go_wp2_with fail
    refine (I.out (.slice q102 q103 q104) _ O105.out.ints).mono ?_
    rintro e W115 ⟨v112, u113, p114, rfl, hm, hx⟩
    obtain ⟨q116, q117, q118, rfl⟩ := own_shape hm.row
    have O119 := Lib.hid hm
    have R120 := Lib.hid hm.range
    clear hm
    have Z121 := Lib.hid (hx.size)
    have k122 := (hx.cell (World.block_lt_of_cell? _ _ k108)).trans k108
    clear k108
    have O123 := Lib.hid (O109.out.same hx.block)
    clear O109
    have O124 := Lib.hid (O105.out.same hx.block)
    clear O105
    have B125 := Lib.hid (B110.out.trans (hx.mono B110.out.size))
    clear B110
    have B126 := Lib.hid (B111.out.trans (hx.mono B111.out.size))
    clear B111
    clear hx
    clear O124
    go_wp2_with fail
    refine (eqInt64SSS_same _ _ rp _ O119.out.ints (RW.out.same B126.out.block)).mono ?_
    rintro e W127x ⟨rfl, n128, hWn⟩
    obtain ⟨W127, hWe⟩ : ∃ W, W = W127x := ⟨_, rfl⟩
    have hx : Below W115.heap.size W115 W127 := by rw [hWe, hWn]; exact below_drewN _ (Below.refl _ _)
    rw [← hWe]
    clear hWn hWe
    have Z129 := Lib.hid (hx.size)
    have k130 := (hx.cell (World.block_lt_of_cell? _ _ k122)).trans k122
    clear k122
    have O131 := Lib.hid (O123.out.same hx.block)
    clear O123
    have O132 := Lib.hid (O119.out.same hx.block)
    clear O119
    have B133 := Lib.hid (B125.out.trans (hx.mono B125.out.size))
    clear B125
    have B134 := Lib.hid (B126.out.trans (hx.mono B126.out.size))
    clear B126
    clear hx
    go_wp2_with fail
    refine (heldInt64SSS_c (.slice q49 q50 q51) rp 1 _ O131.out.ints (by omega) (by have := HXL.out; have := HSZ1.out; omega)).mono ?_
    rintro e W135 ⟨rfl, rfl⟩
    go_wp2_with fail
    go_ret
    exact ⟨rfl, B133.out⟩

namespace fnExactDualCoproduct_row
theorem own : ownKnob Try.prog.godebug = none := by kernel_rfl
theorem laidOut : laidOutB Try.prog = true := by kernel_rfl
set_option linter.unusedVariables false in
set_option maxRecDepth 100000 in
theorem lifted (os : Os) (started : os.Started) (H : Type) (enc : TypeId × Value → H) :
    ReturnsInHanded {} Try.checked os 3 .any (Rows.fnExactDualCoproductSpec.pre6 enc Try.prog Try.f3 Rows.fnExactDualCoproductRow.domain false) (Rows.fnExactDualCoproductSpec.post enc Try.prog Try.f3 false true false false) := by
  refine returnsInHanded_of_change (C := Try.checked) own started (by kernel_rfl) Try.func3
    (ChangeSpec.witness6 (enc := enc) (C := Try.checked) false ⟨#[], #[.agg #[.slice none 0 0]], []⟩ 8 (by kernel_rfl) (by kernel_rfl) (by kernel_rfl) (by kernel_rfl)) ?_
  intro W base args ds gs before hval0 hW hcnd _
  have hval : ∀ (j : Nat) t v, Try.f3.params[j]? = some t → args[j]? = some v → Value.okWide Try.prog W .any base t v := hval0
  have hW' := hW
  obtain ⟨p, q, hA0, hV, rfl, hfz, hnd⟩ := hW
  have hA : DataW.TrodAll enc Try.prog W 0 (fun _ => true) true Try.f3.params.toList args.toList ds p := hA0
  rw [Try.params3] at hA hval
  obtain ⟨v0, vs0, d0, ds0, p0, q0, hargs, rfl, rfl, h0, r0⟩ := trodAll_cons hA
  obtain ⟨rfl, rfl, rfl⟩ := trodAll_nil r0
  obtain rfl : args = #[v0] := by cases args; simp_all
  obtain ⟨rfl, rfl⟩ := trodVars_none hV
  have k0 := h0
  have lt0 : ∀ x ∈ p0, x.block < W.heap.size := by obtain ⟨m, hm⟩ := k0; exact DataW.trod_lt m _ _ _ hm
  obtain ⟨x0, y0, n0, rfl, f0⟩ := open_agg1 Try.underlying24 (by kernel_rfl) (by kernel_rfl) (hval 0 24 v0 rfl rfl) h0
  obtain ⟨a0, len0, cap0, z0, e0, w0⟩ := isRows_of Try.underlying22 Try.underlying49 Try.underlying2 (by kernel_rfl) (by kernel_rfl) f0
  obtain rfl : x0 = .slice a0 len0 cap0 := by simpa using e0
  clear hA0 hval0
  refine (fnExactDualCoproduct_walk W a0 len0 cap0 z0 w0).mono fun e W' ⟨he, bel⟩ => ?_
  subst he
  exact ⟨_, rfl, _, _, _, [], _, [], hW', trodAll_mk1 (shut_bool Try.underlying4 _), (trodAll_cons_mk (Below.trod laidOut (by kernel_rfl) (of_decide_eq_true (by kernel_rfl)) k0 bel lt0) trodAll_mk0), rfl, bel.frame _, fun h => by cases h⟩
theorem over : Rows.fnExactDualCoproductRow.holds Try.pinned (OpenSpec.ofChange Rows.fnExactDualCoproductSpec) :=
  OpenClaim.holds_of_wide 3 Try.f3 rfl rfl rfl rfl rfl rfl rfl ⟨rfl, rfl, rfl, rfl, rfl⟩ rfl rfl rfl rfl rfl (by kernel_rfl) Try.func3 (by kernel_rfl)
    (of_decide_eq_true (by kernel_rfl)) (by unfold Func.isWrapper; first | (rw [if_pos (by decide +kernel)]; kernel_rfl) | (rw [if_neg (by decide +kernel)]; exact ⟨rfl, rfl⟩))
    (fun os started H enc _ => lifted os started H enc)
end fnExactDualCoproduct_row
/-- The statement. -/
theorem fnExactDualCoproduct_proved : Rows.FnExactDualCoproductSaid := fnExactDualCoproduct_row.over
#print axioms fnExactDualCoproduct_proved
end Go.Proofs.Ytmnkccjddahcjaa

/- How many exponent lists there are of a degree; powers of elements: plain. -/
import Derived.Test.YtalbbjhonkcbgaaGreatLBound
namespace Go.Proofs.YtalbbjhonkcbgaaGreat
open Go.RowKit Go.Sort

theorem nodup_lt : ∀ (N : Nat) (l : List Nat), l.Nodup → (∀ x ∈ l, x < N) → l.length ≤ N := by
  intro N
  induction N with
  | zero =>
    intro l _ h
    cases l with
    | nil => exact Nat.le_refl _
    | cons x l => exact absurd (h x (List.mem_cons_self ..)) (by omega)
  | succ N ih =>
    intro l hn h
    by_cases hm : N ∈ l
    · have h1 := ih (l.erase N) (hn.sublist (List.erase_sublist ..)) fun x hx => by
        have h2 := h x (List.mem_of_mem_erase hx)
        have h3 : x ≠ N := fun e => by
          subst e
          exact (hn.not_mem_erase) hx
        omega
      have h2 := List.length_erase_of_mem hm
      have h3 := List.length_pos_of_mem hm
      omega
    · have h1 := ih l hn fun x hx => by
        have h2 := h x hx
        have h3 : x ≠ N := fun e => hm (e ▸ hx)
        omega
      omega
/-- A number for an exponent list: with its degree it tells the list. -/
def enc (r : List Int) : Nat := (r.getD 1 0).toNat + 14 * ((r.getD 2 0).toNat + 6 * ((r.getD 3 0).toNat + 3 * (r.getD 4 0).toNat))
theorem deg_five {r : List Int} (h : r.length ≤ 5) : deg r = r.getD 0 0 + r.getD 1 0 * 3 + r.getD 2 0 * 7 + r.getD 3 0 * 15 + r.getD 4 0 * 31 := by
  rw [deg_W' r 5 h]
  simp only [W]
  rw [show (2 : Int) ^ (0 + 1) - 1 = 1 from rfl, show (2 : Int) ^ (1 + 1) - 1 = 3 from rfl, show (2 : Int) ^ (2 + 1) - 1 = 7 from rfl, show (2 : Int) ^ (3 + 1) - 1 = 15 from rfl, show (2 : Int) ^ (4 + 1) - 1 = 31 from rfl]
  omega
theorem exp_le {r : List Int} (h : isExp r = true) (hd : deg r ≤ 40) (i : Nat) : 0 ≤ r.getD i 0 ∧ r.getD i 0 * (2 ^ (i + 1) - 1) ≤ 40 := by
  refine ⟨((isExp_sm h).at (by omega) i).1, ?_⟩
  by_cases hi : i < r.length
  · have := exp_at h i hi; omega
  · rw [show r.getD i 0 = 0 by simp [show r.length ≤ i by omega]]; omega
theorem exp_digits {r : List Int} (h : isExp r = true) (hd : deg r ≤ 40) : r.getD 0 0 ≤ 40 ∧ r.getD 1 0 ≤ 13 ∧ r.getD 2 0 ≤ 5 ∧ r.getD 3 0 ≤ 2 ∧ r.getD 4 0 ≤ 1 := by
  have h0 := (exp_le h hd 0).2; have h1 := (exp_le h hd 1).2; have h2 := (exp_le h hd 2).2; have h3 := (exp_le h hd 3).2; have h4 := (exp_le h hd 4).2
  rw [show (2 : Int) ^ (0 + 1) - 1 = 1 from rfl] at h0
  rw [show (2 : Int) ^ (1 + 1) - 1 = 3 from rfl] at h1
  rw [show (2 : Int) ^ (2 + 1) - 1 = 7 from rfl] at h2
  rw [show (2 : Int) ^ (3 + 1) - 1 = 15 from rfl] at h3
  rw [show (2 : Int) ^ (4 + 1) - 1 = 31 from rfl] at h4
  omega
theorem last_ext {r s : List Int} (hr : lastOk r = true) (hs : lastOk s = true) (h : ∀ i, r.getD i 0 = s.getD i 0) : r = s := by
  have key : ∀ {r s : List Int}, lastOk s = true → (∀ i, r.getD i 0 = s.getD i 0) → s.length ≤ r.length := by
    intro r s hs h
    unfold lastOk at hs
    simp only [Bool.or_eq_true, decide_eq_true_eq] at hs
    rcases hs with e | e
    · omega
    · rcases Nat.lt_or_ge r.length s.length with e2 | e2
      · have h1 := h (s.length - 1)
        rw [show r.getD (s.length - 1) 0 = 0 by simp [show r.length ≤ s.length - 1 by omega]] at h1
        rw [← h1] at e; simp at e
      · exact e2
  have hl : r.length = s.length := Nat.le_antisymm (key hr fun i => (h i).symm) (key hs h)
  apply List.ext_getElem hl
  intro i h1 h2
  have := h i
  simpa [h1, h2] using this
theorem isExp_last {r : List Int} (h : isExp r = true) : lastOk r = true := by
  unfold isExp at h
  simp only [Bool.and_eq_true] at h
  exact h.2
theorem digits_eq {a1 a2 a3 a4 b1 b2 b3 b4 : Nat} (h1 : a1 < 14) (h2 : a2 < 6) (h3 : a3 < 3) (k1 : b1 < 14) (k2 : b2 < 6) (k3 : b3 < 3) (h : a1 + 14 * (a2 + 6 * (a3 + 3 * a4)) = b1 + 14 * (b2 + 6 * (b3 + 3 * b4))) : a1 = b1 ∧ a2 = b2 ∧ a3 = b3 ∧ a4 = b4 := by
  obtain ⟨e1, h⟩ : a1 = b1 ∧ a2 + 6 * (a3 + 3 * a4) = b2 + 6 * (b3 + 3 * b4) := by
    generalize a2 + 6 * (a3 + 3 * a4) = x at *
    generalize b2 + 6 * (b3 + 3 * b4) = y at *
    omega
  obtain ⟨e2, h⟩ : a2 = b2 ∧ a3 + 3 * a4 = b3 + 3 * b4 := by
    generalize a3 + 3 * a4 = x at *
    generalize b3 + 3 * b4 = y at *
    omega
  omega
theorem enc_inj {r s : List Int} (hr : isExp r = true) (hs : isExp s = true) (dr : deg r ≤ 40) (ds : deg s ≤ 40) (hd : deg r = deg s) (h : enc r = enc s) : r = s := by
  have a := exp_digits hr dr; have b := exp_digits hs ds
  have l1 := exp_len5 hr dr; have l2 := exp_len5 hs ds
  have p0 := (exp_le hr dr 0).1; have p1 := (exp_le hr dr 1).1; have p2 := (exp_le hr dr 2).1; have p3 := (exp_le hr dr 3).1; have p4 := (exp_le hr dr 4).1
  have q0 := (exp_le hs ds 0).1; have q1 := (exp_le hs ds 1).1; have q2 := (exp_le hs ds 2).1; have q3 := (exp_le hs ds 3).1; have q4 := (exp_le hs ds 4).1
  have e1 := deg_five l1; have e2 := deg_five l2
  unfold enc at h
  obtain ⟨f1, f2, f3, f4⟩ := digits_eq (by omega) (by omega) (by omega) (by omega) (by omega) (by omega) h
  have g1 : r.getD 1 0 = s.getD 1 0 := by omega
  have g2 : r.getD 2 0 = s.getD 2 0 := by omega
  have g3 : r.getD 3 0 = s.getD 3 0 := by omega
  have g4 : r.getD 4 0 = s.getD 4 0 := by omega
  clear h f1 f2 f3 f4
  refine last_ext (isExp_last hr) (isExp_last hs) fun i => ?_
  match i with
  | 0 => omega
  | 1 => exact g1
  | 2 => exact g2
  | 3 => exact g3
  | 4 => exact g4
  | i + 5 => rw [show r.getD (i + 5) 0 = 0 by simp [show r.length ≤ i + 5 by omega], show s.getD (i + 5) 0 = 0 by simp [show s.length ≤ i + 5 by omega]]
theorem enc_lt {r : List Int} (hr : isExp r = true) (dr : deg r ≤ 40) : enc r < 504 := by
  have a := exp_digits hr dr
  unfold enc
  omega
theorem expD_length {d : Int} {l : List (List Int)} (ha : Asc l) (h : ExpD d l) (hd : d ≤ 40) : l.length ≤ 504 := by
  rw [← List.length_map (f := enc)]
  refine nodup_lt _ _ ?_ fun x hx => ?_
  · unfold List.Nodup
    rw [List.pairwise_map]
    refine List.Pairwise.imp_of_mem ?_ ha
    intro a b ha hb hab e
    exact ltL_ne hab (enc_inj (h a ha).1 (h b hb).1 (by have := (h a ha).2; omega) (by have := (h b hb).2; omega) (by rw [(h a ha).2, (h b hb).2]) e)
  · obtain ⟨r, hr, rfl⟩ := List.mem_map.1 hx
    exact enc_lt (h r hr).1 (by have := (h r hr).2; omega)
theorem ExpD.odd {d : Int} {l : List (List Int)} (h : ExpD d l) : ExpD d (oddL l) := fun r hr => h r (mem_oddL_sub hr)
/-- What a product of lists of degrees asks. -/
theorem prods_ok {a b : List (List Int)} {p q : Int} (ha : ExpD p a) (hb : ExpD q b) (hp : 0 ≤ p) (hq : 0 ≤ q) (h : p + q ≤ 40) (aa : Asc a) (bb : Asc b) : SmS 1000000000000 20 a ∧ SmS 1000000000000 20 b ∧ (prodsL a b).length ≤ 100000000 ∧ ∀ x ∈ prodsL a b, x.length ≤ 5 := by
  refine ⟨ha.sm (by omega), hb.sm (by omega), Nat.le_trans (prodsL_cnt ha hb hp hq h) ?_, fun x hx => ?_⟩
  · have l1 := expD_length aa ha (by omega); have l2 := expD_length bb hb (by omega)
    exact Nat.le_trans (Nat.mul_le_mul l1 (Nat.mul_le_mul_right 331 l2)) (by omega)
  · have := prodsL_exp ha hb hp hq h x hx
    exact exp_len5 this.1 (by omega)
/-- The powers of an element. -/
def powL (a : List (List Int)) : Nat → List (List Int)
  | 0 => [[]]
  | k + 1 => oddL (prodsL (powL a k) a)
theorem powL_asc (a : List (List Int)) (k : Nat) : Asc (powL a k) := by
  cases k with
  | zero => exact List.pairwise_singleton ..
  | succ k => exact asc_oddL _
theorem powL_exp {a : List (List Int)} {d : Int} (ha : ExpD d a) (hd : 0 ≤ d) : ∀ k : Nat, (k : Int) * d ≤ 40 → ExpD (k * d) (powL a k) := by
  intro k
  induction k with
  | zero =>
    intro _ r hr
    rw [powL, List.mem_singleton] at hr
    subst hr
    exact ⟨by decide, by simp [deg, degA]⟩
  | succ k ih =>
    intro h
    have e : ((k + 1 : Nat) : Int) * d = k * d + d := by rw [Int.natCast_add, Int.add_mul]; omega
    rw [e] at h ⊢
    have hk : 0 ≤ (k : Int) * d := Int.mul_nonneg (by omega) hd
    exact (prodsL_exp (ih (by omega)) ha hk hd h).odd
end Go.Proofs.YtalbbjhonkcbgaaGreat

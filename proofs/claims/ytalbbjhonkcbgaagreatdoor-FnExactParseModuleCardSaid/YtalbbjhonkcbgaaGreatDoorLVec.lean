/- Masks, vectors and tables of modules. Plain Lean; no program. -/
import Derived.Test.YtalbbjhonkcbgaaGreatDoorLCmp
namespace Go.Proofs.YtalbbjhonkcbgaaGreatDoor

/-- What one row of an action gives for a vector. -/
def hitM (n : Int) (v : Nat) (x : List Int) : Nat := if x.getD 0 0 = n ∧ v.testBit (x.getD 1 0).toNat = true then 2 ^ (x.getD 2 0).toNat else 0
/-- Sq^n of a mask by an action, n at least 1. -/
def actM (n : Int) (v : Nat) : List (List Int) → Nat
  | [] => 0
  | x :: a => hitM n v x ^^^ actM n v a
/-- Sq^n of a mask. -/
def actZ (act : List (List Int)) (n : Int) (v : Nat) : Nat := if n = 0 then v else actM n v act
/-- The mask of Sq^n of a basis element. -/
def rowM (n : Int) (i : Nat) : List (List Int) → Nat
  | [] => 0
  | x :: a => (if x.getD 0 0 = n ∧ x.getD 1 0 = i then 2 ^ (x.getD 2 0).toNat else 0) ^^^ rowM n i a
/-- A mask times rows. -/
def timM (v : Nat) (rows : Nat → Nat) : Nat → Nat
  | 0 => 0
  | k + 1 => timM v rows k ^^^ (if v.testBit k then rows k else 0)
theorem actM_append (n : Int) (v : Nat) (a b : List (List Int)) : actM n v (a ++ b) = actM n v a ^^^ actM n v b := by
  induction a with
  | nil => simp [actM]
  | cons x a ih => simp only [List.cons_append, actM, ih, Nat.xor_assoc]
theorem rowM_append (n : Int) (i : Nat) (a b : List (List Int)) : rowM n i (a ++ b) = rowM n i a ^^^ rowM n i b := by
  induction a with
  | nil => simp [rowM]
  | cons x a ih => simp only [List.cons_append, rowM, ih, Nat.xor_assoc]
theorem actM_take (n : Int) (v : Nat) (act : List (List Int)) (k : Nat) (h : k < act.length) : actM n v (act.take (k + 1)) = actM n v (act.take k) ^^^ hitM n v act[k] := by
  rw [List.take_succ_eq_append_getElem h, actM_append]; simp [actM]
theorem rowM_take (n : Int) (i : Nat) (act : List (List Int)) (k : Nat) (h : k < act.length) : rowM n i (act.take (k + 1)) = rowM n i (act.take k) ^^^ (if act[k].getD 0 0 = n ∧ act[k].getD 1 0 = i then 2 ^ (act[k].getD 2 0).toNat else 0) := by
  rw [List.take_succ_eq_append_getElem h, rowM_append]; simp [rowM]
theorem xor4 (a b c d : Nat) : (a ^^^ b) ^^^ (c ^^^ d) = (a ^^^ c) ^^^ (b ^^^ d) := by
  rw [Nat.xor_assoc, Nat.xor_assoc, ← Nat.xor_assoc b c d, Nat.xor_comm b c, Nat.xor_assoc c b d]
theorem timM_xor (v : Nat) (f g : Nat → Nat) (k : Nat) : timM v (fun i => f i ^^^ g i) k = timM v f k ^^^ timM v g k := by
  induction k with
  | zero => simp [timM]
  | succ k ih =>
    simp only [timM, ih]
    cases v.testBit k
    · simp
    · simp only [if_true]; exact xor4 _ _ _ _
theorem timM_one (v j c k : Nat) : timM v (fun i => if i = j then c else 0) k = if j < k ∧ v.testBit j = true then c else 0 := by
  induction k with
  | zero => simp [timM]
  | succ k ih =>
    simp only [timM, ih]
    by_cases e : k = j
    · subst e; simp
    · have : (j < k + 1) ↔ (j < k) := by omega
      simp [e, this]
theorem timM_congr (v : Nat) (f g : Nat → Nat) (k : Nat) (h : ∀ i, i < k → f i = g i) : timM v f k = timM v g k := by
  induction k with
  | zero => rfl
  | succ k ih => simp only [timM, ih fun i hi => h i (by omega), h k (by omega)]
theorem timM_act (n : Int) (v size : Nat) : ∀ (act : List (List Int)), (∀ x ∈ act, 0 ≤ x.getD 1 0 ∧ x.getD 1 0 < size) → timM v (fun i => rowM n i act) size = actM n v act
  | [], _ => by
    simp only [rowM, actM]
    have := timM_one v 0 0 size
    simpa using this
  | x :: a, h => by
    have hx := h x (List.mem_cons_self ..)
    simp only [rowM, actM]
    rw [timM_xor, timM_act n v size a fun y hy => h y (List.mem_cons_of_mem _ hy)]
    congr 1
    unfold hitM
    by_cases e : x.getD 0 0 = n
    · rw [timM_congr v _ (fun i => if i = (x.getD 1 0).toNat then 2 ^ (x.getD 2 0).toNat else 0) size fun i _ => by
        by_cases e2 : x.getD 1 0 = i
        · rw [if_pos ⟨e, e2⟩, if_pos (by omega)]
        · rw [if_neg (fun z => e2 z.2), if_neg (by omega)]]
      rw [timM_one]
      by_cases e3 : v.testBit (x.getD 1 0).toNat = true
      · rw [if_pos ⟨by omega, e3⟩, if_pos ⟨e, e3⟩]
      · rw [if_neg (fun z => e3 z.2), if_neg (fun z => e3 z.2)]
    · rw [timM_congr v _ (fun i => if i = 0 then 0 else 0) size fun i _ => by rw [if_neg (fun z => e z.1)]; simp, timM_one, ite_self, if_neg (fun z => e z.1)]
theorem timM_self (v : Nat) : ∀ k, v < 2 ^ k → timM v (fun i => 2 ^ i) k = v := by
  have key : ∀ k, timM v (fun i => 2 ^ i) k = v % 2 ^ k := by
    intro k
    induction k with
    | zero => simp [timM, Nat.mod_one]
    | succ k ih =>
      rw [timM, ih]
      apply Nat.eq_of_testBit_eq
      intro i
      rw [Nat.testBit_xor, Nat.testBit_mod_two_pow, Nat.testBit_mod_two_pow]
      by_cases hi : i < k
      · have : i ≠ k := by omega
        by_cases e : v.testBit k = true
        · simp [e, hi, show i < k + 1 by omega, show k ≠ i by omega]
        · simp [e, hi, show i < k + 1 by omega]
      · by_cases e2 : i = k
        · subst e2
          by_cases e : v.testBit i = true
          · simp [e]
          · simp [e]
        · by_cases e : v.testBit k = true
          · simp [e, hi, show ¬ i < k + 1 by omega, show k ≠ i by omega]
          · simp [e, hi, show ¬ i < k + 1 by omega]
  intro k h; rw [key, Nat.mod_eq_of_lt h]
theorem timM_bound (v : Nat) (f : Nat → Nat) (m : Nat) (h : ∀ i, f i < 2 ^ m) : ∀ k, timM v f k < 2 ^ m
  | 0 => Nat.two_pow_pos m
  | k + 1 => by
    rw [timM]
    exact Nat.xor_lt_two_pow (timM_bound v f m h k) (by split; exact h k; exact Nat.two_pow_pos m)

theorem hitM_bit (n : Int) (v : Nat) (x : List Int) (c : Nat) (h : (hitM n v x).testBit c = true) : x.getD 0 0 = n ∧ v.testBit (x.getD 1 0).toNat = true ∧ (x.getD 2 0).toNat = c := by
  unfold hitM at h
  by_cases e : x.getD 0 0 = n ∧ v.testBit (x.getD 1 0).toNat = true
  · rw [if_pos e, Nat.testBit_two_pow] at h
    exact ⟨e.1, e.2, by simpa using h⟩
  · rw [if_neg e] at h; simp at h
theorem actM_bit (n : Int) (v c : Nat) : ∀ (act : List (List Int)), (actM n v act).testBit c = true → ∃ x ∈ act, x.getD 0 0 = n ∧ v.testBit (x.getD 1 0).toNat = true ∧ (x.getD 2 0).toNat = c
  | [], h => by simp [actM] at h
  | x :: a, h => by
    rw [actM, Nat.testBit_xor] at h
    by_cases e : (hitM n v x).testBit c = true
    · exact ⟨x, List.mem_cons_self .., hitM_bit n v x c e⟩
    · have h2 : (actM n v a).testBit c = true := by
        cases h3 : (hitM n v x).testBit c
        · rw [h3] at h; simpa using h
        · exact absurd h3 e
      obtain ⟨y, hy, r⟩ := actM_bit n v c a h2
      exact ⟨y, List.mem_cons_of_mem _ hy, r⟩
/-- A table of an action, but for Adem's relations. -/
def sortB (ds : List Int) : Bool := (List.range (ds.length - 1)).all fun i => decide (ds.getD i 0 ≤ ds.getD (i + 1) 0)
def stemB (d : Int) : Bool := decide (0 ≤ d) && decide (d ≤ 20)
def cellB (ds x : List Int) : Bool := decide (x.length = 3) && decide (1 ≤ x.getD 0 0) && decide (0 ≤ x.getD 1 0) && decide (x.getD 1 0 < ds.length) && decide (0 ≤ x.getD 2 0) && decide (x.getD 2 0 < ds.length) && decide (ds.getD (x.getD 2 0).toNat 0 = ds.getD (x.getD 1 0).toNat 0 + x.getD 0 0)
def modT (ds : List Int) (act : List (List Int)) : Bool := decide (ds.length ≤ 16) && ds.all stemB && sortB ds && ascB act && act.all (cellB ds)
theorem modT_len {ds : List Int} {act : List (List Int)} (h : modT ds act = true) : ds.length ≤ 16 := by
  simp only [modT, Bool.and_eq_true, decide_eq_true_eq] at h; exact h.1.1.1.1
theorem modT_stem {ds : List Int} {act : List (List Int)} (h : modT ds act = true) (i : Nat) : 0 ≤ ds.getD i 0 ∧ ds.getD i 0 ≤ 20 := by
  simp only [modT, Bool.and_eq_true, List.all_eq_true, stemB, decide_eq_true_eq] at h
  by_cases hi : i < ds.length
  · have := h.1.1.1.2 ds[i] (List.getElem_mem hi)
    rw [show ds.getD i 0 = ds[i] by simp [hi]]; exact this
  · rw [show ds.getD i 0 = 0 by simp [show ds.length ≤ i by omega]]; omega
theorem modT_asc {ds : List Int} {act : List (List Int)} (h : modT ds act = true) : Asc act := by
  simp only [modT, Bool.and_eq_true] at h; exact ascB_asc _ h.1.2
theorem modT_cell {ds : List Int} {act : List (List Int)} (h : modT ds act = true) (x : List Int) (hx : x ∈ act) :
    x.length = 3 ∧ 1 ≤ x.getD 0 0 ∧ 0 ≤ x.getD 1 0 ∧ x.getD 1 0 < ds.length ∧ 0 ≤ x.getD 2 0 ∧ x.getD 2 0 < ds.length ∧ ds.getD (x.getD 2 0).toNat 0 = ds.getD (x.getD 1 0).toNat 0 + x.getD 0 0 := by
  simp only [modT, Bool.and_eq_true, List.all_eq_true, cellB, decide_eq_true_eq] at h
  obtain ⟨⟨⟨⟨⟨⟨a, b⟩, c⟩, d⟩, e⟩, f⟩, g⟩ := h.2 x hx
  exact ⟨a, b, c, d, e, f, g⟩
theorem modT_sorted {ds : List Int} {act : List (List Int)} (h : modT ds act = true) : ∀ (j i : Nat), i ≤ j → j < ds.length → ds.getD i 0 ≤ ds.getD j 0 := by
  simp only [modT, Bool.and_eq_true, sortB, List.all_eq_true, decide_eq_true_eq, List.mem_range] at h
  intro j
  induction j with
  | zero => intro i hi _; rw [show i = 0 by omega]; exact Int.le_refl _
  | succ j ih =>
    intro i hi hj
    by_cases e : i = j + 1
    · rw [e]; exact Int.le_refl _
    · exact Int.le_trans (ih i (by omega) (by omega)) (h.1.1.2 j (by omega))
theorem modT_top {ds : List Int} {act : List (List Int)} (h : modT ds act = true) (x : List Int) (hx : x ∈ act) : x.getD 0 0 ≤ 20 := by
  have h1 := modT_cell h x hx
  have h2 := modT_stem h (x.getD 2 0).toNat
  have h3 := modT_stem h (x.getD 1 0).toNat
  omega
theorem actM_lt {ds : List Int} {act : List (List Int)} (h : modT ds act = true) (n : Int) (v : Nat) : actM n v act < 2 ^ ds.length := by
  apply Nat.lt_pow_two_of_testBit
  intro i hi
  cases e : (actM n v act).testBit i
  · rfl
  · obtain ⟨x, hx, _, _, h2⟩ := actM_bit n v i act e
    have := modT_cell h x hx
    omega
theorem actZ_lt {ds : List Int} {act : List (List Int)} (h : modT ds act = true) (n : Int) (v : Nat) (hv : v < 2 ^ ds.length) : actZ act n v < 2 ^ ds.length := by
  unfold actZ; split
  · exact hv
  · exact actM_lt h n v
/-- The degree of what a square makes. -/
theorem actZ_deg {ds : List Int} {act : List (List Int)} (h : modT ds act = true) (n : Int) (v c : Nat) (hb : (actZ act n v).testBit c = true) : ∃ i, v.testBit i = true ∧ ds.getD c 0 = ds.getD i 0 + n := by
  unfold actZ at hb
  split at hb
  · exact ⟨c, hb, by omega⟩
  · obtain ⟨x, hx, h0, h1, h2⟩ := actM_bit n v c act hb
    have := modT_cell h x hx
    exact ⟨_, h1, by rw [← h2, this.2.2.2.2.2.2, h0]⟩
theorem actZ_two {ds : List Int} {act : List (List Int)} (h : modT ds act = true) (p q : Int) (v : Nat) (hv : v < ds.length) (hpq : ds.getD (ds.length - 1) 0 - ds.getD 0 0 < p + q) : actZ act p (actZ act q (2 ^ v)) = 0 := by
  apply Nat.eq_of_testBit_eq
  intro c
  rw [Nat.zero_testBit]
  cases e : (actZ act p (actZ act q (2 ^ v))).testBit c
  · rfl
  · have hc : c < ds.length := by
      have hlt : actZ act p (actZ act q (2 ^ v)) < 2 ^ ds.length := actZ_lt h _ _ (actZ_lt h _ _ (Nat.pow_lt_pow_right (by omega) hv))
      by_cases e2 : c < ds.length
      · exact e2
      · rw [Nat.testBit_lt_two_pow (Nat.lt_of_lt_of_le hlt (Nat.pow_le_pow_right (by omega) (by omega)))] at e; cases e
    obtain ⟨i, h1, h2⟩ := actZ_deg h p _ c e
    obtain ⟨j, h3, h4⟩ := actZ_deg h q _ i h1
    rw [Nat.testBit_two_pow] at h3
    obtain rfl : v = j := by simpa using h3
    have := modT_sorted h (ds.length - 1) c (by omega) (by omega)
    have := modT_sorted h v 0 (by omega) hv
    omega
/-- Whether j occurs in Adem's relation for a and b. -/
def relB (a b j : Nat) : Bool := decide (2 * j ≤ a) && decide ((b - j - 1) &&& (a - 2 * j) = a - 2 * j)
def relL (a b : Nat) : List Nat := (List.range (a + 1)).filter (relB a b)
def fltS (act : List (List Int)) (a b v : Nat) : List Nat → Nat
  | [] => 0
  | j :: l => actZ act ((a + b - j : Nat) : Int) (actZ act (j : Int) (2 ^ v)) ^^^ fltS act a b v l
/-- What shows a fault. -/
def flt (act : List (List Int)) (a b v : Nat) : Nat := actZ act a (actZ act b (2 ^ v)) ^^^ fltS act a b v (relL a b)
theorem fltS_append (act : List (List Int)) (a b v : Nat) (l m : List Nat) : fltS act a b v (l ++ m) = fltS act a b v l ^^^ fltS act a b v m := by
  induction l with
  | nil => simp [fltS]
  | cons x l ih => simp only [List.cons_append, fltS, ih, Nat.xor_assoc]
theorem flt_far {ds : List Int} {act : List (List Int)} (h : modT ds act = true) (a b v : Nat) (hv : v < ds.length) (hab : ds.getD (ds.length - 1) 0 - ds.getD 0 0 < a + b) : flt act a b v = 0 := by
  have key : ∀ l : List Nat, (∀ j ∈ l, j ≤ a) → fltS act a b v l = 0 := by
    intro l
    induction l with
    | nil => intro _; rfl
    | cons j l ih =>
      intro hj
      have := hj j (List.mem_cons_self ..)
      rw [fltS, ih fun x hx => hj x (List.mem_cons_of_mem _ hx), actZ_two h _ _ v hv (by omega)]
      rfl
  rw [flt, actZ_two h _ _ v hv (by omega), key]
  · rfl
  · intro j hj
    simp only [relL, List.mem_filter, List.mem_range] at hj
    omega
def fV (ds : List Int) (act : List (List Int)) (a b : Nat) : Option (List Int) := (List.range ds.length).findSome? fun v => if flt act a b v = 0 then none else some [(a : Int), (b : Int), (v : Int)]
def fB (ds : List Int) (act : List (List Int)) (a : Nat) : Option (List Int) := (List.range 21).findSome? fun b => if a / 2 + 1 ≤ b ∧ a + b ≤ 20 then fV ds act a b else none
def fA (ds : List Int) (act : List (List Int)) : Option (List Int) := (List.range 21).findSome? fun a => if 1 ≤ a then fB ds act a else none
/-- The first fault of Adem's relations. -/
def fltL (ds : List Int) (act : List (List Int)) : List Int := (fA ds act).getD []
theorem find_none {α : Type} (f : Nat → Option α) (n : Nat) (h : ∀ i, i < n → f i = none) : (List.range n).findSome? f = none := by
  rw [List.findSome?_eq_none_iff]; intro x hx; exact h x (List.mem_range.1 hx)
theorem find_some {α : Type} (f : Nat → Option α) (n k : Nat) (y : α) (hk : k < n) (h : ∀ i, i < k → f i = none) (hy : f k = some y) : (List.range n).findSome? f = some y := by
  obtain ⟨m, rfl⟩ : ∃ m, n = k + 1 + m := ⟨n - (k + 1), by omega⟩
  rw [List.range_add, List.range_succ, List.append_assoc, List.findSome?_append, find_none f k h]
  simp [hy]
theorem fV_shape {ds : List Int} {act : List (List Int)} {a b : Nat} {l : List Int} (h : fV ds act a b = some l) : ∃ v, v < ds.length ∧ l = [(a : Int), (b : Int), (v : Int)] := by
  obtain ⟨v, hv, h⟩ := List.exists_of_findSome?_eq_some h
  refine ⟨v, List.mem_range.1 hv, ?_⟩
  split at h
  · cases h
  · exact (Option.some.inj h).symm
theorem fA_shape {ds : List Int} {act : List (List Int)} {l : List Int} (h : fA ds act = some l) : ∃ a b v : Nat, v < ds.length ∧ a ≤ 20 ∧ b ≤ 20 ∧ l = [(a : Int), (b : Int), (v : Int)] := by
  obtain ⟨a, ha, h⟩ := List.exists_of_findSome?_eq_some h
  split at h
  · obtain ⟨b, hb, h⟩ := List.exists_of_findSome?_eq_some h
    split at h
    · obtain ⟨v, hv, h⟩ := fV_shape h
      have := List.mem_range.1 ha; have := List.mem_range.1 hb
      exact ⟨a, b, v, hv, by omega, by omega, h⟩
    · cases h
  · cases h
theorem fltL_len (ds : List Int) (act : List (List Int)) : (fltL ds act).length ≤ 3 := by
  unfold fltL
  cases h : fA ds act with
  | none => simp
  | some l => obtain ⟨a, b, v, _, _, _, rfl⟩ := fA_shape h; simp
theorem fltL_nil (ds : List Int) (act : List (List Int)) : fltL ds act = [] ↔ fA ds act = none := by
  unfold fltL
  cases h : fA ds act with
  | none => simp
  | some l => obtain ⟨a, b, v, _, _, _, rfl⟩ := fA_shape h; simp
/-- Whether a table is a module. -/
def isMod (ds : List Int) (act : List (List Int)) : Bool := modT ds act && decide (fltL ds act = [])
/-- The digits of a mask. -/
def bitsL (size m : Nat) : List Int := (List.range size).map fun i => if m.testBit i then 1 else 0
theorem bitsL_length (size m : Nat) : (bitsL size m).length = size := by simp [bitsL]
theorem bitsL_at (size m i : Nat) (h : i < size) : (bitsL size m).getD i 0 = if m.testBit i then 1 else 0 := by simp [bitsL, h]
theorem bitsL_ext {l : List Int} {size m : Nat} (hl : l.length = size) (h : ∀ i, i < size → l.getD i 0 = if m.testBit i then 1 else 0) : l = bitsL size m := by
  apply List.ext_getElem
  · rw [hl, bitsL_length]
  · intro i h1 h2
    have h3 := h i (by omega)
    have h4 := bitsL_at size m i (by omega)
    rw [show l[i] = l.getD i 0 by simp [h1], show (bitsL size m)[i] = (bitsL size m).getD i 0 by simp [h2], h3, h4]
theorem bitsL_zero (size : Nat) : bitsL size 0 = List.replicate size 0 := by
  symm; exact bitsL_ext (by simp) fun i hi => by simp [hi]
theorem bitsL_inj {size m m' : Nat} (h1 : m < 2 ^ size) (h2 : m' < 2 ^ size) (h : bitsL size m = bitsL size m') : m = m' := by
  apply Nat.eq_of_testBit_eq
  intro i
  by_cases hi : i < size
  · have := congrArg (fun l : List Int => l.getD i 0) h
    simp only [bitsL_at _ _ _ hi] at this
    cases e1 : m.testBit i <;> cases e2 : m'.testBit i <;> simp_all
  · rw [Nat.testBit_lt_two_pow (Nat.lt_of_lt_of_le h1 (Nat.pow_le_pow_right (by omega) (by omega))), Nat.testBit_lt_two_pow (Nat.lt_of_lt_of_le h2 (Nat.pow_le_pow_right (by omega) (by omega)))]
theorem bitsL_toggle (size m c : Nat) (hc : c < size) : (bitsL size m).set c (1 - (bitsL size m).getD c 0) = bitsL size (m ^^^ 2 ^ c) := by
  refine bitsL_ext (by simp [bitsL_length]) fun i hi => ?_
  rw [bitsL_at _ _ _ hc, Nat.testBit_xor, Nat.testBit_two_pow]
  by_cases e : c = i
  · subst e
    rw [show ((bitsL size m).set c (1 - if m.testBit c then 1 else 0)).getD c 0 = 1 - if m.testBit c then 1 else 0 by simp [bitsL_length, hi]]
    cases m.testBit c <;> simp
  · rw [show ((bitsL size m).set c (1 - if m.testBit c then 1 else 0)).getD i 0 = (bitsL size m).getD i 0 by simp [List.getElem?_set_ne e], bitsL_at _ _ _ hi]
    simp [e]
/-- The sum of two vectors. -/
def plusL (a b : List Int) (k : Nat) : List Int := (List.range k).map fun i => (a.getD i 0 + b.getD i 0) % 2
theorem plusL_bits (size m n : Nat) : plusL (bitsL size m) (bitsL size n) size = bitsL size (m ^^^ n) := by
  refine bitsL_ext (by simp [plusL]) fun i hi => ?_
  rw [show (plusL (bitsL size m) (bitsL size n) size).getD i 0 = ((bitsL size m).getD i 0 + (bitsL size n).getD i 0) % 2 by simp [plusL, hi], bitsL_at _ _ _ hi, bitsL_at _ _ _ hi, Nat.testBit_xor]
  cases m.testBit i <;> cases n.testBit i <;> rfl
theorem plusL_succ (a b : List Int) (k : Nat) : plusL a b (k + 1) = plusL a b k ++ [(a.getD k 0 + b.getD k 0) % 2] := by simp [plusL, List.range_succ]
theorem bitsL_unit (size v : Nat) (hv : v < size) : (List.replicate size (0 : Int)).set v 1 = bitsL size (2 ^ v) := by
  refine bitsL_ext (by simp) fun i hi => ?_
  rw [Nat.testBit_two_pow]
  by_cases e : v = i
  · subst e; simp [hv]
  · simp [e, hi]
/-- The words of the relation for a and b, in order. -/
def relW (a b : Nat) : List Nat → List (List Int)
  | [] => []
  | j :: l => relW a b l ++ [if j = 0 then [((a + b : Nat) : Int)] else [((a + b - j : Nat) : Int), (j : Int)]]
end Go.Proofs.YtalbbjhonkcbgaaGreatDoor

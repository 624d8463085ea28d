/- Lists of integers in lexicographic order; strictly ascending lists of such lists; those that are there an odd number of times. Plain Lean. -/
import Derived.Lib.Hide
namespace Go.Proofs.YtalbbjhonkcbgaaGreatDoor

/-- x comes before y. -/
def ltL : List Int → List Int → Bool
  | [], [] => false
  | [], _ :: _ => true
  | _ :: _, [] => false
  | a :: x, b :: y => if a < b then true else if b < a then false else ltL x y
theorem ltL_irrefl (x : List Int) : ltL x x = false := by
  induction x with
  | nil => rfl
  | cons a x ih => simp [ltL, ih]
theorem ltL_asymm : ∀ (x y : List Int), ltL x y = true → ltL y x = false
  | [], [], h => by simp [ltL] at h
  | [], _ :: _, _ => rfl
  | _ :: _, [], h => by simp [ltL] at h
  | a :: x, b :: y, h => by
    unfold ltL at h ⊢
    by_cases h1 : a < b
    · rw [if_neg (by omega), if_pos h1]
    · rw [if_neg h1] at h
      by_cases h2 : b < a
      · rw [if_pos h2] at h; cases h
      · rw [if_neg h2] at h
        rw [if_neg h2, if_neg h1]; exact ltL_asymm x y h
theorem ltL_trans : ∀ (x y z : List Int), ltL x y = true → ltL y z = true → ltL x z = true
  | [], [], _, h, _ => by simp [ltL] at h
  | [], _ :: _, [], _, h => by simp [ltL] at h
  | [], _ :: _, _ :: _, _, _ => rfl
  | _ :: _, [], _, h, _ => by simp [ltL] at h
  | _ :: _, _ :: _, [], _, h => by simp [ltL] at h
  | a :: x, b :: y, c :: z, h, k => by
    unfold ltL at h k ⊢
    by_cases h1 : a < b
    · by_cases k1 : b < c
      · rw [if_pos (by omega)]
      · rw [if_neg k1] at k
        by_cases k2 : c < b
        · rw [if_pos k2] at k; cases k
        · rw [if_pos (by omega)]
    · rw [if_neg h1] at h
      by_cases h2 : b < a
      · rw [if_pos h2] at h; cases h
      · rw [if_neg h2] at h
        by_cases k1 : b < c
        · rw [if_pos (by omega)]
        · rw [if_neg k1] at k
          by_cases k2 : c < b
          · rw [if_pos k2] at k; cases k
          · rw [if_neg k2] at k
            rw [if_neg (by omega), if_neg (by omega)]
            exact ltL_trans x y z h k
theorem ltL_total : ∀ (x y : List Int), ltL x y = false → ltL y x = false → x = y
  | [], [], _, _ => rfl
  | [], _ :: _, h, _ => by simp [ltL] at h
  | _ :: _, [], _, h => by simp [ltL] at h
  | a :: x, b :: y, h, k => by
    unfold ltL at h k
    by_cases h1 : a < b
    · rw [if_pos h1] at h; cases h
    · rw [if_neg h1] at h
      by_cases h2 : b < a
      · rw [if_pos h2] at k; cases k
      · rw [if_neg h2] at h
        rw [if_neg h2, if_neg h1] at k
        rw [show a = b by omega, ltL_total x y h k]
theorem ltL_ne {x y : List Int} (h : ltL x y = true) : x ≠ y := fun e => by rw [e, ltL_irrefl] at h; cases h
/-- What a comparison gives. -/
def cmpL (x y : List Int) : Int := if ltL x y then -1 else if ltL y x then 1 else 0
theorem cmpL_neg (x y : List Int) : (decide (cmpL x y < 0)) = ltL x y := by
  unfold cmpL
  cases h : ltL x y
  · cases k : ltL y x <;> simp
  · simp
theorem cmpL_zero (x y : List Int) : cmpL x y = 0 ↔ x = y := by
  unfold cmpL
  constructor
  · intro h
    cases h1 : ltL x y
    · cases k : ltL y x
      · exact ltL_total x y h1 k
      · simp [h1, k] at h
    · simp [h1] at h
  · rintro rfl; simp [ltL_irrefl]
theorem ltL_ntrans (x y z : List Int) (h : ltL x y = false) (k : ltL y z = false) : ltL x z = false := by
  cases e : ltL x z
  · rfl
  · cases h2 : ltL y x
    · have := ltL_total x y h h2; subst this; rw [k] at e; cases e
    · have := ltL_trans y x z h2 e; rw [k] at this; cases this

/-- Strictly ascending. -/
def Asc (l : List (List Int)) : Prop := l.Pairwise fun a b => ltL a b = true
theorem Asc.nil : Asc [] := List.Pairwise.nil
theorem Asc.tail {x : List Int} {l : List (List Int)} (h : Asc (x :: l)) : Asc l := (List.pairwise_cons.1 h).2
theorem Asc.head {x : List Int} {l : List (List Int)} (h : Asc (x :: l)) : ∀ y ∈ l, ltL x y = true := (List.pairwise_cons.1 h).1
theorem Asc.cons {x : List Int} {l : List (List Int)} (h : Asc l) (k : ∀ y ∈ l, ltL x y = true) : Asc (x :: l) := List.pairwise_cons.2 ⟨k, h⟩
theorem Asc.notin {x : List Int} {l : List (List Int)} (h : Asc (x :: l)) : x ∉ l := fun hm => ltL_ne (h.head x hm) rfl
theorem Asc.ext : ∀ {a b : List (List Int)}, Asc a → Asc b → (∀ x, x ∈ a ↔ x ∈ b) → a = b
  | [], [], _, _, _ => rfl
  | [], y :: b, _, _, h => absurd ((h y).2 (List.mem_cons_self ..)) (by simp)
  | x :: a, [], _, _, h => absurd ((h x).1 (List.mem_cons_self ..)) (by simp)
  | x :: a, y :: b, ha, hb, h => by
    have e : x = y := by
      rcases List.mem_cons.1 ((h x).1 (List.mem_cons_self ..)) with e | e
      · exact e
      · rcases List.mem_cons.1 ((h y).2 (List.mem_cons_self ..)) with e2 | e2
        · exact e2.symm
        · have h1 := hb.head x e
          rw [ltL_asymm _ _ (ha.head y e2)] at h1
          cases h1
    subst e
    rw [Asc.ext ha.tail hb.tail fun z => ?_]
    constructor
    · intro hz
      rcases List.mem_cons.1 ((h z).1 (List.mem_cons_of_mem _ hz)) with e | e
      · subst e; exact absurd hz ha.notin
      · exact e
    · intro hz
      rcases List.mem_cons.1 ((h z).2 (List.mem_cons_of_mem _ hz)) with e | e
      · subst e; exact absurd hz hb.notin
      · exact e

/-- x is put in, or taken out if it was there. -/
def put (x : List Int) : List (List Int) → List (List Int)
  | [] => [x]
  | y :: l => if ltL x y then x :: y :: l else if ltL y x then y :: put x l else l
theorem mem_put_sub (x z : List Int) (l : List (List Int)) (h : z ∈ put x l) : z ∈ l ∨ z = x := by
  induction l with
  | nil => simp [put] at h; exact .inr h
  | cons y l ih =>
    unfold put at h
    split at h
    · rcases List.mem_cons.1 h with e | e
      · exact .inr e
      · exact .inl e
    · split at h
      · rcases List.mem_cons.1 h with e | e
        · exact .inl (by rw [e]; exact List.mem_cons_self ..)
        · exact (ih e).imp (List.mem_cons_of_mem _) id
      · exact .inl (List.mem_cons_of_mem _ h)
theorem Asc.putIn {l : List (List Int)} (h : Asc l) (x : List Int) : Asc (put x l) := by
  induction l with
  | nil => exact List.pairwise_singleton ..
  | cons y l ih =>
    unfold put
    split
    · rename_i hxy
      refine h.cons fun z hz => ?_
      rcases List.mem_cons.1 hz with e | e
      · rw [e]; exact hxy
      · exact ltL_trans _ _ _ hxy (h.head z e)
    · split
      · rename_i hyx
        refine (ih h.tail).cons fun z hz => ?_
        rcases mem_put_sub _ _ _ hz with e | e
        · exact h.head z e
        · rw [e]; exact hyx
      · exact h.tail
theorem mem_put {l : List (List Int)} (h : Asc l) (x z : List Int) : z ∈ put x l ↔ if z = x then z ∉ l else z ∈ l := by
  induction l with
  | nil => simp [put]
  | cons y l ih =>
    unfold put
    split
    · rename_i hxy
      have hx : x ∉ y :: l := fun hm => by
        rcases List.mem_cons.1 hm with e | e
        · exact ltL_ne hxy e
        · exact ltL_ne (ltL_trans _ _ _ hxy (h.head x e)) rfl
      by_cases e : z = x
      · subst e; rw [if_pos rfl]; simp only [List.mem_cons_self, true_iff]; exact hx
      · rw [if_neg e, List.mem_cons]; simp [e]
    · split
      · rename_i hxy hyx
        rw [List.mem_cons, ih h.tail]
        by_cases e : z = x
        · subst e; rw [if_pos rfl, if_pos rfl, List.mem_cons]; simp [(ltL_ne hyx).symm]
        · rw [if_neg e, if_neg e, List.mem_cons]
      · rename_i hxy hyx
        have e0 := ltL_total x y (by simpa using hxy) (by simpa using hyx)
        subst e0
        by_cases e : z = x
        · subst e; rw [if_pos rfl]; simp only [List.mem_cons_self, not_true_eq_false, iff_false]; exact h.notin
        · rw [if_neg e, List.mem_cons]; simp [e]

/-- Those that are there an odd number of times. -/
def oddL (l : List (List Int)) : List (List Int) := l.foldl (fun a x => put x a) []
theorem asc_foldPut (l : List (List Int)) : ∀ {a : List (List Int)}, Asc a → Asc (l.foldl (fun a x => put x a) a) := by
  induction l with
  | nil => intro a h; exact h
  | cons x l ih => intro a h; exact ih (h.putIn x)
theorem asc_oddL (l : List (List Int)) : Asc (oddL l) := asc_foldPut l Asc.nil
theorem mem_foldPut (z : List Int) (l : List (List Int)) : ∀ {a : List (List Int)}, Asc a → (z ∈ l.foldl (fun a x => put x a) a ↔ (l.count z + (if z ∈ a then 1 else 0)) % 2 = 1) := by
  induction l with
  | nil => intro a _; by_cases e : z ∈ a <;> simp [e]
  | cons x l ih =>
    intro a h
    rw [List.foldl_cons, ih (h.putIn x), List.count_cons]
    have hm := mem_put h x z
    by_cases e : z = x
    · subst e
      rw [if_pos rfl] at hm
      simp only [beq_self_eq_true, if_true]
      by_cases k : z ∈ a
      · rw [if_pos k, if_neg (fun hh => hm.1 hh k)]; omega
      · rw [if_neg k, if_pos (hm.2 k)]
    · have e2 : (x == z) = false := by simpa using fun h => e h.symm
      rw [if_neg e] at hm
      simp only [e2, Bool.false_eq_true, if_false, Nat.add_zero]
      by_cases k : z ∈ a
      · rw [if_pos k, if_pos (hm.2 k)]
      · rw [if_neg k, if_neg (fun hh => k (hm.1 hh))]
theorem mem_oddL (z : List Int) (l : List (List Int)) : z ∈ oddL l ↔ l.count z % 2 = 1 := by
  have := mem_foldPut z l Asc.nil
  simpa [oddL] using this
theorem oddL_congr {a b : List (List Int)} (h : ∀ z, a.count z % 2 = b.count z % 2) : oddL a = oddL b :=
  Asc.ext (asc_oddL a) (asc_oddL b) fun z => by rw [mem_oddL, mem_oddL, h z]
theorem oddL_perm {a b : List (List Int)} (h : a.Perm b) : oddL a = oddL b := oddL_congr fun z => by rw [h.count_eq]
theorem Asc.count {l : List (List Int)} (h : Asc l) (z : List Int) : l.count z = if z ∈ l then 1 else 0 := by
  induction l with
  | nil => simp
  | cons x l ih =>
    rw [List.count_cons, ih h.tail]
    by_cases e : x = z
    · subst e; simp [h.notin]
    · have e2 : (x == z) = false := by simpa using e
      by_cases k : z ∈ l <;> simp [e2, k, Ne.symm e]
theorem Asc.odd {l : List (List Int)} (h : Asc l) : oddL l = l := Asc.ext (asc_oddL l) h fun z => by
  rw [mem_oddL, h.count]; by_cases e : z ∈ l <;> simp [e]
theorem oddL_append (a b : List (List Int)) : oddL (a ++ b) = oddL (oddL a ++ b) := oddL_congr fun z => by
  rw [List.count_append, List.count_append, (asc_oddL a).count]
  by_cases e : z ∈ oddL a
  · rw [if_pos e]; rw [mem_oddL] at e; omega
  · rw [if_neg e]; rw [mem_oddL] at e; omega
theorem oddL_append' (a b : List (List Int)) : oddL (a ++ b) = oddL (a ++ oddL b) := oddL_congr fun z => by
  rw [List.count_append, List.count_append, (asc_oddL b).count]
  by_cases e : z ∈ oddL b
  · rw [if_pos e]; rw [mem_oddL] at e; omega
  · rw [if_neg e]; rw [mem_oddL] at e; omega
theorem oddL_snoc (l : List (List Int)) (x : List Int) : oddL (l ++ [x]) = put x (oddL l) := by simp [oddL, List.foldl_append]
theorem oddL_length (l : List (List Int)) : (oddL l).length ≤ l.length := by
  have : ∀ (l a : List (List Int)), (l.foldl (fun a x => put x a) a).length ≤ a.length + l.length := by
    intro l
    induction l with
    | nil => intro a; simp
    | cons x l ih =>
      intro a
      have hp : (put x a).length ≤ a.length + 1 := by
        clear ih
        induction a with
        | nil => simp [put]
        | cons y a ih => unfold put; split
                         · simp
                         · split
                           · simp only [List.length_cons]; omega
                           · simp only [List.length_cons]; omega
      have := ih (put x a)
      simp only [List.foldl_cons, List.length_cons]; omega
  simpa [oddL] using this l []

/-- Two ascending lists laid together; what is in both goes. -/
def mrg : List (List Int) → List (List Int) → List (List Int)
  | [], b => b
  | x :: a, [] => x :: a
  | x :: a, y :: b => if ltL x y then x :: mrg a (y :: b) else if ltL y x then y :: mrg (x :: a) b else mrg a b
termination_by a b => a.length + b.length
theorem mrg_nil (a : List (List Int)) : mrg a [] = a := by cases a <;> simp [mrg]
theorem mem_mrg_sub (z : List Int) : ∀ (a b : List (List Int)), z ∈ mrg a b → z ∈ a ∨ z ∈ b
  | [], b, h => by rw [mrg] at h; exact .inr h
  | x :: a, [], h => by rw [mrg] at h; exact .inl h
  | x :: a, y :: b, h => by
    rw [mrg] at h
    split at h
    · rcases List.mem_cons.1 h with e | e
      · exact .inl (by rw [e]; exact List.mem_cons_self ..)
      · exact (mem_mrg_sub z a (y :: b) e).imp (List.mem_cons_of_mem _) id
    · split at h
      · rcases List.mem_cons.1 h with e | e
        · exact .inr (by rw [e]; exact List.mem_cons_self ..)
        · exact (mem_mrg_sub z (x :: a) b e).imp id (List.mem_cons_of_mem _)
      · exact (mem_mrg_sub z a b h).imp (List.mem_cons_of_mem _) (List.mem_cons_of_mem _)
termination_by a b => a.length + b.length
theorem asc_mrg : ∀ (a b : List (List Int)), Asc a → Asc b → Asc (mrg a b)
  | [], b, _, h => by rw [mrg]; exact h
  | x :: a, [], h, _ => by rw [mrg]; exact h
  | x :: a, y :: b, ha, hb => by
    rw [mrg]
    split
    · rename_i hxy
      refine (asc_mrg a (y :: b) ha.tail hb).cons fun z hz => ?_
      rcases mem_mrg_sub z _ _ hz with e | e
      · exact ha.head z e
      · rcases List.mem_cons.1 e with e | e
        · rw [e]; exact hxy
        · exact ltL_trans _ _ _ hxy (hb.head z e)
    · split
      · rename_i hyx
        refine (asc_mrg (x :: a) b ha hb.tail).cons fun z hz => ?_
        rcases mem_mrg_sub z _ _ hz with e | e
        · rcases List.mem_cons.1 e with e | e
          · rw [e]; exact hyx
          · exact ltL_trans _ _ _ hyx (ha.head z e)
        · exact hb.head z e
      · exact asc_mrg a b ha.tail hb.tail
termination_by a b => a.length + b.length
theorem count_mrg (z : List Int) : ∀ (a b : List (List Int)), (mrg a b).count z % 2 = (a ++ b).count z % 2
  | [], b => by rw [mrg]; rfl
  | x :: a, [] => by rw [mrg, List.append_nil]
  | x :: a, y :: b => by
    rw [mrg]
    have e1 : (x :: a ++ y :: b).count z = (if x == z then 1 else 0) + a.count z + (if y == z then 1 else 0) + b.count z := by
      simp only [List.cons_append, List.count_cons, List.count_append]; omega
    rw [e1]
    split
    · rw [List.count_cons, Nat.add_mod, count_mrg z a (y :: b), ← Nat.add_mod]
      simp only [List.count_append, List.count_cons]; congr 1; omega
    · split
      · rw [List.count_cons, Nat.add_mod, count_mrg z (x :: a) b, ← Nat.add_mod]
        simp only [List.count_append, List.count_cons]; congr 1; omega
      · rename_i h1 h2
        have e := ltL_total x y (by simpa using h1) (by simpa using h2)
        subst e
        rw [count_mrg z a b]
        simp only [List.count_append]
        cases x == z <;> simp <;> omega
termination_by a b => a.length + b.length
theorem mrg_odd {a b : List (List Int)} (ha : Asc a) (hb : Asc b) : mrg a b = oddL (a ++ b) := by
  rw [← (asc_mrg a b ha hb).odd]
  exact oddL_congr (count_mrg · a b)
theorem mrg_length : ∀ (a b : List (List Int)), (mrg a b).length ≤ a.length + b.length
  | [], b => by rw [mrg]; simp
  | x :: a, [] => by rw [mrg]; simp
  | x :: a, y :: b => by
    rw [mrg]
    split
    · have := mrg_length a (y :: b); simp only [List.length_cons] at *; omega
    · split
      · have := mrg_length (x :: a) b; simp only [List.length_cons] at *; omega
      · have := mrg_length a b; simp only [List.length_cons] at *; omega
termination_by a b => a.length + b.length
end Go.Proofs.YtalbbjhonkcbgaaGreatDoor

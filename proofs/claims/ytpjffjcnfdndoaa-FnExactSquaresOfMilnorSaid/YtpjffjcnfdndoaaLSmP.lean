/- The product of one square and a basis element; the greatest term from the right. Plain Lean; no program. -/
import Derived.Test.YtpjffjcnfdndoaaLCount
import Derived.Test.YtpjffjcnfdndoaaLMsu6
namespace Go.Proofs.Ytpjffjcnfdndoaa

theorem trim_at (l : List Int) (i : Nat) : (trim l).getD i 0 = l.getD i 0 := by
  by_cases h : i < l.length
  · exact trim_getD l i h
  · have h1 : (trim l).length ≤ l.length := by rw [trim_length]; exact trimN_le _ _
    rw [List.getD_eq_getElem?_getD, List.getD_eq_getElem?_getD, List.getElem?_eq_none (by omega), List.getElem?_eq_none (by omega)]
theorem list_at {a b : List Int} (hl : a.length = b.length) (h : ∀ i, a.getD i 0 = b.getD i 0) : a = b := by
  apply List.ext_getElem hl
  intro i h1 h2
  have := h i
  rwa [show a.getD i 0 = a[i] by simp [h1], show b.getD i 0 = b[i] by simp [h2]] at this
theorem last_at {a b : List Int} (ha : lastOk a = true) (hb : lastOk b = true) (h : ∀ i, a.getD i 0 = b.getD i 0) : a = b := by
  have key : ∀ {a b : List Int}, lastOk b = true → (∀ i, a.getD i 0 = b.getD i 0) → ¬ a.length < b.length := fun {a b} hb h hlt => by
    simp only [lastOk, Bool.or_eq_true, decide_eq_true_eq, bne_iff_ne, ne_eq] at hb
    rcases hb with hb | hb
    · omega
    · refine hb ?_
      rw [← h, List.getD_eq_getElem?_getD, List.getElem?_eq_none (by omega)]; rfl
  refine list_at ?_ h
  have h1 := key hb h
  have h2 := key ha fun i => (h i).symm
  omega
theorem sum_zero : ∀ (l : List Int), (∀ x ∈ l, x = 0) → l.sum = 0
  | [], _ => rfl
  | x :: l, h => by rw [List.sum_cons, h x (List.mem_cons_self ..), sum_zero l fun y hy => h y (List.mem_cons_of_mem _ hy)]; rfl
theorem apart_zeros : ∀ (l : List Int) (s : Nat), (∀ x ∈ l, x = 0) → apartL s l = true
  | [], _, _ => rfl
  | x :: l, s, h => by rw [h x (List.mem_cons_self ..), apartL_zero]; exact apart_zeros l s fun y hy => h y (List.mem_cons_of_mem _ hy)
/-- A diagonal of a table with one row. -/
theorem diag1 (R : Int) (S C : List Int) (k : Nat) : ∃ l : List Int, diagL [R] S [C] (k + 1) = S.getD k 0 :: (if k = 0 then R else C.getD (k - 1) 0) :: l ∧ ∀ x ∈ l, x = 0 := by
  refine ⟨(List.range k).map fun i => tabAt [R] S [C] (i + 2) (k + 1 - (i + 2)), ?_, fun x hx => ?_⟩
  · unfold diagL
    rw [show k + 1 + 1 = (k + 1) + 1 from rfl, List.range_succ_eq_map, List.range_succ_eq_map]
    simp only [List.map_cons, List.map_map]
    congr 1
  · obtain ⟨i, hi, rfl⟩ := List.mem_map.1 hx
    rw [List.mem_range] at hi
    unfold tabAt
    rw [if_neg (by omega)]
    split
    · simp
    · simp
theorem finT1 (n : Nat) (R : Int) (S C : List Int) (k : Nat) : (finT 1 n [R] S [C]).getD k 0 = if k < 1 + n then S.getD k 0 + (if k = 0 then R else C.getD (k - 1) 0) else 0 := by
  unfold finT
  by_cases h : k < 1 + n
  · rw [if_pos h]
    obtain ⟨l, e, hz⟩ := diag1 R S C k
    rw [List.getD_eq_getElem?_getD, List.getElem?_map, List.getElem?_range h]
    simp only [Option.map_some, Option.getD_some]
    rw [e, List.sum_cons, List.sum_cons, sum_zero l hz]; omega
  · rw [if_neg h, List.getD_eq_getElem?_getD, List.getElem?_eq_none (by simp; omega)]; rfl
theorem fill1_succ (n k : Nat) (hk : k + 1 ≤ n) (R : Int) (S C : List Int) : fillT 1 n (k + 1) [R] S [C] =
    (List.range ((min (R / 2 ^ (n - (k + 1) + 1)) (S.getD (n - (k + 1)) 0)).toNat + 1)).flatMap fun x : Nat => fillT 1 n k [R - 2 ^ (n - (k + 1) + 1) * (x : Int)] (S.set (n - (k + 1)) (S.getD (n - (k + 1)) 0 - x)) [C.set (n - (k + 1)) x] := by
  rw [fillT]
  have e1 : (1 * n - (k + 1)) / n = 0 := Nat.div_eq_of_lt (by omega)
  have e2 : (1 * n - (k + 1)) % n = n - (k + 1) := by rw [Nat.one_mul]; exact Nat.mod_eq_of_lt (by omega)
  rw [e1, e2]
  rfl
/-- A table that fillT reaches. -/
structure Row1 (n k : Nat) (S C S' C' : List Int) : Prop where
  ls : S'.length = n
  lc : C'.length = n
  old : ∀ j, j < n - k → S'.getD j 0 = S.getD j 0 ∧ C'.getD j 0 = C.getD j 0
  new : ∀ j, n - k ≤ j → j < n → 0 ≤ C'.getD j 0 ∧ C'.getD j 0 + S'.getD j 0 = S.getD j 0 ∧ 0 ≤ S'.getD j 0
theorem getD_set_at (l : List Int) (p : Nat) (x : Int) (h : p < l.length) : (l.set p x).getD p 0 = x := by simp [h]
theorem getD_set_far (l : List Int) (p j : Nat) (x : Int) (h : p ≠ j) : (l.set p x).getD j 0 = l.getD j 0 := by
  rw [List.getD_eq_getElem?_getD, List.getElem?_set_ne h, ← List.getD_eq_getElem?_getD]
theorem fill1_mem (n : Nat) (z : List Int) : ∀ (k : Nat), k ≤ n → ∀ (R : Int) (S C : List Int), S.length = n → C.length = n → (∀ j, j < n → 0 ≤ S.getD j 0) → z ∈ fillT 1 n k [R] S [C] →
    ∃ R' S' C', z = trim (finT 1 n [R'] S' [C']) ∧ Row1 n k S C S' C'
  | 0, _, R, S, C, hs, hc, h0, h => by
    rw [fillT] at h
    unfold finL at h
    split at h
    · exact ⟨R, S, C, by simpa using h, hs, hc, fun j _ => ⟨rfl, rfl⟩, fun j h1 h2 => by omega⟩
    · simp at h
  | k + 1, hk, R, S, C, hs, hc, h0, h => by
    rw [fill1_succ n k hk] at h
    obtain ⟨x, hx, h⟩ := List.mem_flatMap.1 h
    rw [List.mem_range] at hx
    obtain ⟨p, hp⟩ : ∃ p, p = n - (k + 1) := ⟨_, rfl⟩
    rw [← hp] at h hx
    have hpn : p < n := by omega
    have hx2 : (x : Int) ≤ S.getD p 0 := by
      have := h0 p hpn; omega
    obtain ⟨R', S', C', e, r⟩ := fill1_mem n z k (by omega) _ _ _ (by rw [List.length_set]; exact hs) (by rw [List.length_set]; exact hc) (fun j hj => by
      by_cases e : p = j
      · subst e; rw [getD_set_at _ _ _ (by omega)]; omega
      · rw [getD_set_far _ _ _ _ e]; exact h0 j hj) h
    refine ⟨R', S', C', e, r.ls, r.lc, fun j hj => ?_, fun j h1 h2 => ?_⟩
    · have := r.old j (by omega)
      rw [getD_set_far _ _ _ _ (by omega), getD_set_far _ _ _ _ (by omega)] at this
      exact this
    · by_cases e : j = p
      · subst e
        have := r.old j (by omega)
        rw [getD_set_at _ _ _ (by omega), getD_set_at _ _ _ (by omega)] at this
        rw [this.1, this.2]; omega
      · have := r.new j (by omega) h2
        rw [getD_set_far _ _ _ _ (by omega)] at this
        exact this
theorem fill1_nodup (n : Nat) : ∀ (k : Nat), k ≤ n → ∀ (R : Int) (S C : List Int), S.length = n → C.length = n → (∀ j, j < n → 0 ≤ S.getD j 0) → (fillT 1 n k [R] S [C]).Nodup
  | 0, _, R, S, C, _, _, _ => by
    rw [fillT]; unfold finL; split <;> simp
  | k + 1, hk, R, S, C, hs, hc, h0 => by
    rw [fill1_succ n k hk]
    obtain ⟨p, hp⟩ : ∃ p, p = n - (k + 1) := ⟨_, rfl⟩
    rw [← hp]
    have hpn : p < n := by omega
    rw [List.Nodup, List.pairwise_flatMap]
    have nn : ∀ x : Nat, x < (min (R / 2 ^ (p + 1)) (S.getD p 0)).toNat + 1 → ∀ j, j < n → 0 ≤ (S.set p (S.getD p 0 - (x : Int))).getD j 0 := fun x hx j hj => by
      have := h0 p hpn
      by_cases e : p = j
      · subst e; rw [getD_set_at _ _ _ (by omega)]; omega
      · rw [getD_set_far _ _ _ _ e]; exact h0 j hj
    refine ⟨fun x hx => fill1_nodup n k (by omega) _ _ _ (by rw [List.length_set]; exact hs) (by rw [List.length_set]; exact hc) (nn x (List.mem_range.1 hx)), ?_⟩
    refine List.Pairwise.imp_of_mem (fun {x x'} hx hx' hlt z hz z' hz' e => ?_) (List.pairwise_lt_range (n := (min (R / 2 ^ (p + 1)) (S.getD p 0)).toNat + 1))
    subst e
    obtain ⟨R1, S1, C1, e1, r1⟩ := fill1_mem n z k (by omega) _ _ _ (by rw [List.length_set]; exact hs) (by rw [List.length_set]; exact hc) (nn x (List.mem_range.1 hx)) hz
    obtain ⟨R2, S2, C2, e2, r2⟩ := fill1_mem n z k (by omega) _ _ _ (by rw [List.length_set]; exact hs) (by rw [List.length_set]; exact hc) (nn x' (List.mem_range.1 hx')) hz'
    have hz1 : ∀ j, (finT 1 n [R1] S1 [C1]).getD j 0 = (finT 1 n [R2] S2 [C2]).getD j 0 := fun j => by rw [← trim_at, ← e1, e2, trim_at]
    have key : ∀ i, i < n - p → C1.getD (n - 1 - i) 0 = C2.getD (n - 1 - i) 0 := by
      intro i
      induction i with
      | zero =>
        intro _
        have := hz1 n
        rw [finT1, finT1, if_pos (show n < 1 + n by omega), if_pos (show n < 1 + n by omega), if_neg (show ¬ n = 0 by omega), if_neg (show ¬ n = 0 by omega)] at this
        rw [show S1.getD n 0 = 0 by rw [List.getD_eq_getElem?_getD, List.getElem?_eq_none (by rw [r1.ls]; omega)]; rfl, show S2.getD n 0 = 0 by rw [List.getD_eq_getElem?_getD, List.getElem?_eq_none (by rw [r2.ls]; omega)]; rfl] at this
        rw [Nat.sub_zero]; omega
      | succ i ih =>
        intro hi
        have h1 := ih (by omega)
        have := hz1 (n - 1 - i)
        rw [finT1, finT1, if_pos (show n - 1 - i < 1 + n by omega), if_pos (show n - 1 - i < 1 + n by omega), if_neg (show ¬ n - 1 - i = 0 by omega), if_neg (show ¬ n - 1 - i = 0 by omega)] at this
        have q1 := (r1.new (n - 1 - i) (by omega) (by omega)).2.1
        have q2 := (r2.new (n - 1 - i) (by omega) (by omega)).2.1
        rw [getD_set_far _ _ _ _ (by omega)] at q1 q2
        rw [show n - 1 - (i + 1) = n - 1 - i - 1 by omega]; omega
    have h1 := key (n - 1 - p) (by omega)
    rw [show n - 1 - (n - 1 - p) = p by omega] at h1
    have q1 := (r1.old p (by omega)).2
    have q2 := (r2.old p (by omega)).2
    rw [getD_set_at _ _ _ (by omega)] at q1 q2
    omega
/-- Twice the number of the last k entries' halves: what the row can hold of them. -/
def rowW (S : List Int) (n : Nat) : Nat → Int
  | 0 => 0
  | k + 1 => 2 ^ (n - (k + 1) + 1) * S.getD (n - (k + 1)) 0 + rowW S n k
theorem rowW_set (S : List Int) (n p : Nat) (x : Int) : ∀ k, p < n - k → rowW (S.set p x) n k = rowW S n k
  | 0, _ => rfl
  | k + 1, h => by rw [rowW, rowW, rowW_set S n p x k (by omega), getD_set_far _ _ _ _ (by omega)]
theorem rowW_nn (S : List Int) (n : Nat) (h : ∀ j, j < n → 0 ≤ S.getD j 0) : ∀ k, k ≤ n → 0 ≤ rowW S n k
  | 0, _ => Int.le_refl _
  | k + 1, hk => by
    have h1 := rowW_nn S n h k (by omega)
    have h2 := h (n - (k + 1)) (by omega)
    have h3 : (0 : Int) ≤ 2 ^ (n - (k + 1) + 1) * S.getD (n - (k + 1)) 0 := Int.mul_nonneg (Int.le_of_lt (Int.pow_pos (by decide))) h2
    rw [rowW]; omega
/-- The table whose row takes all. -/
theorem fill1_top (n : Nat) : ∀ (k : Nat), k ≤ n → ∀ (R : Int) (S C : List Int), S.length = n → C.length = n → (∀ j, n - k ≤ j → j < n → 0 ≤ S.getD j 0) → (∀ j, j < n - k → S.getD j 0 = 0) → 0 ≤ R - rowW S n k →
    ∃ S' C', trim (finT 1 n [R - rowW S n k] S' [C']) ∈ fillT 1 n k [R] S [C] ∧ S'.length = n ∧ C'.length = n ∧ (∀ j, S'.getD j 0 = 0) ∧ (∀ j, j < n - k → C'.getD j 0 = C.getD j 0) ∧ ∀ j, n - k ≤ j → j < n → C'.getD j 0 = S.getD j 0
  | 0, _, R, S, C, hs, hc, _, hz, _ => by
    have hz2 : ∀ j, S.getD j 0 = 0 := fun j => by
      by_cases hj : j < n
      · exact hz j (by omega)
      · rw [List.getD_eq_getElem?_getD, List.getElem?_eq_none (by omega)]; rfl
    refine ⟨S, C, ?_, hs, hc, hz2, fun j _ => rfl, fun j h1 h2 => by omega⟩
    rw [fillT]
    unfold finL
    rw [if_pos ?_, rowW, Int.sub_zero]
    · exact List.mem_singleton.2 rfl
    · unfold finOk
      rw [List.all_eq_true]
      intro i _
      obtain ⟨l, e, hl⟩ := diag1 R S C i
      rw [e, hz2 i, apartL_zero, apartL]
      rw [apart_zeros l _ hl]; simp
  | k + 1, hk, R, S, C, hs, hc, h0, hz, hR => by
    obtain ⟨p, hp⟩ : ∃ p, p = n - (k + 1) := ⟨_, rfl⟩
    have hpn : p < n := by omega
    have hsp := h0 p (by omega) hpn
    obtain ⟨x, hx⟩ : ∃ x : Nat, S.getD p 0 = (x : Int) := ⟨(S.getD p 0).toNat, by omega⟩
    have hw : rowW S n (k + 1) = 2 ^ (p + 1) * (x : Int) + rowW S n k := by rw [rowW, ← hp, hx]
    have hset : rowW (S.set p (S.getD p 0 - x)) n k = rowW S n k := rowW_set S n p _ k (by omega)
    have hnn : 0 ≤ rowW (S.set p (S.getD p 0 - x)) n k := rowW_nn _ n (fun j hj => by
      by_cases e : p = j
      · subst e; rw [getD_set_at _ _ _ (by omega)]; omega
      · rw [getD_set_far _ _ _ _ e]
        by_cases hj2 : j < p
        · rw [hz j (by omega)]; exact Int.le_refl _
        · exact h0 j (by omega) hj) k (by omega)
    obtain ⟨S', C', hm, h1, h2, h3, h4, h5⟩ := fill1_top n k (by omega) (R - 2 ^ (p + 1) * (x : Int)) (S.set p (S.getD p 0 - x)) (C.set p x) (by rw [List.length_set]; exact hs) (by rw [List.length_set]; exact hc)
      (fun j a b => by rw [getD_set_far _ _ _ _ (by omega)]; exact h0 j (by omega) b)
      (fun j a => by
        by_cases e : p = j
        · subst e; rw [getD_set_at _ _ _ (by omega)]; omega
        · rw [getD_set_far _ _ _ _ e]; exact hz j (by omega))
      (by rw [hset]; omega)
    refine ⟨S', C', ?_, h1, h2, h3, fun j hj => ?_, fun j a b => ?_⟩
    · rw [fill1_succ n k hk, List.mem_flatMap]
      refine ⟨x, ?_, ?_⟩
      · rw [List.mem_range, ← hp]
        have : (x : Int) ≤ R / 2 ^ (p + 1) := by
          rw [Int.le_ediv_iff_mul_le (Int.pow_pos (by decide)), Int.mul_comm]
          rw [hset] at hnn; omega
        omega
      · rw [← hp]
        rw [hset] at hm
        rw [hw, show R - (2 ^ (p + 1) * (x : Int) + rowW S n k) = R - 2 ^ (p + 1) * (x : Int) - rowW S n k by omega]
        exact hm
    · rw [h4 j (by omega), getD_set_far _ _ _ _ (by omega)]
    · by_cases e : p = j
      · subst e; rw [h4 p (by omega), getD_set_at _ _ _ (by omega), hx]
      · rw [h5 j (by omega) b, getD_set_far _ _ _ _ e]
end Go.Proofs.Ytpjffjcnfdndoaa

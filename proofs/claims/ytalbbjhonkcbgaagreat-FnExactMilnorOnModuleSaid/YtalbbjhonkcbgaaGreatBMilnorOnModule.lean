/- Texts that lie in one file here: LSmP LSmQ LSmR LSmK LPart LSmE LBas LBas2 LRes LPut LFillS LProdT LSmV LSmI LSmL LSss. -/
import Derived.Test.YtalbbjhonkcbgaaGreatLCount
import Derived.Test.YtalbbjhonkcbgaaGreatLMsu6
import Derived.Test.YtalbbjhonkcbgaaGreatLCmp
import Derived.Test.YtalbbjhonkcbgaaGreatLBound
import Derived.Test.YtalbbjhonkcbgaaGreatLFill
import Derived.Test.YtalbbjhonkcbgaaGreatLMulD
import Derived.Test.YtalbbjhonkcbgaaGreatLAdd2
import Derived.Test.YtalbbjhonkcbgaaGreatLFill0
import Derived.Test.YtalbbjhonkcbgaaGreatLRef
import Derived.Test.YtalbbjhonkcbgaaGreatLCopy
import Derived.Test.YtalbbjhonkcbgaaGreatLOdd2
import Derived.Deep.DeepCutAuto
import Derived.Test.YtalbbjhonkcbgaaGreatLSmRv
import Derived.Test.YtalbbjhonkcbgaaGreatBaseC
import Derived.Test.YtalbbjhonkcbgaaGreatLib4
namespace Go.Proofs.YtalbbjhonkcbgaaGreat
section

theorem trim_at (l : List Int) (i : Nat) : (trim l).getD i 0 = l.getD i 0 := by
  by_cases h : i < l.length
  · exact trim_getD l i h
  · have h1 : (trim l).length ≤ l.length := by rw [trim_length]; exact trimN_le _ _
    rw [List.getD_eq_getElem?_getD, List.getD_eq_getElem?_getD, List.getElem?_eq_none (by omega), List.getElem?_eq_none (by omega)]
theorem list_at {a b : List Int} (hl : a.length = b.length) (h : ∀ i, a.getD i 0 = b.getD i 0) : a = b := by
  apply List.ext_getElem hl
  intro i h1 h2
  have := h i
  rwa [show a.getD i 0 = a[i] by simp [h1], show b.getD i 0 = b[i] by simp [h2]] at this
theorem last_at {a b : List Int} (ha : lastOk a = true) (hb : lastOk b = true) (h : ∀ i, a.getD i 0 = b.getD i 0) : a = b := by
  have key : ∀ {a b : List Int}, lastOk b = true → (∀ i, a.getD i 0 = b.getD i 0) → ¬ a.length < b.length := fun {a b} hb h hlt => by
    simp only [lastOk, Bool.or_eq_true, decide_eq_true_eq, bne_iff_ne, ne_eq] at hb
    rcases hb with hb | hb
    · omega
    · refine hb ?_
      rw [← h, List.getD_eq_getElem?_getD, List.getElem?_eq_none (by omega)]; rfl
  refine list_at ?_ h
  have h1 := key hb h
  have h2 := key ha fun i => (h i).symm
  omega
theorem sum_zero : ∀ (l : List Int), (∀ x ∈ l, x = 0) → l.sum = 0
  | [], _ => rfl
  | x :: l, h => by rw [List.sum_cons, h x (List.mem_cons_self ..), sum_zero l fun y hy => h y (List.mem_cons_of_mem _ hy)]; rfl
theorem apart_zeros : ∀ (l : List Int) (s : Nat), (∀ x ∈ l, x = 0) → apartL s l = true
  | [], _, _ => rfl
  | x :: l, s, h => by rw [h x (List.mem_cons_self ..), apartL_zero]; exact apart_zeros l s fun y hy => h y (List.mem_cons_of_mem _ hy)
/-- A diagonal of a table with one row. -/
theorem diag1 (R : Int) (S C : List Int) (k : Nat) : ∃ l : List Int, diagL [R] S [C] (k + 1) = S.getD k 0 :: (if k = 0 then R else C.getD (k - 1) 0) :: l ∧ ∀ x ∈ l, x = 0 := by
  refine ⟨(List.range k).map fun i => tabAt [R] S [C] (i + 2) (k + 1 - (i + 2)), ?_, fun x hx => ?_⟩
  · unfold diagL
    rw [show k + 1 + 1 = (k + 1) + 1 from rfl, List.range_succ_eq_map, List.range_succ_eq_map]
    simp only [List.map_cons, List.map_map]
    congr 1
  · obtain ⟨i, hi, rfl⟩ := List.mem_map.1 hx
    rw [List.mem_range] at hi
    unfold tabAt
    rw [if_neg (by omega)]
    split
    · simp
    · simp
theorem finT1 (n : Nat) (R : Int) (S C : List Int) (k : Nat) : (finT 1 n [R] S [C]).getD k 0 = if k < 1 + n then S.getD k 0 + (if k = 0 then R else C.getD (k - 1) 0) else 0 := by
  unfold finT
  by_cases h : k < 1 + n
  · rw [if_pos h]
    obtain ⟨l, e, hz⟩ := diag1 R S C k
    rw [List.getD_eq_getElem?_getD, List.getElem?_map, List.getElem?_range h]
    simp only [Option.map_some, Option.getD_some]
    rw [e, List.sum_cons, List.sum_cons, sum_zero l hz]; omega
  · rw [if_neg h, List.getD_eq_getElem?_getD, List.getElem?_eq_none (by simp; omega)]; rfl
theorem fill1_succ (n k : Nat) (hk : k + 1 ≤ n) (R : Int) (S C : List Int) : fillT 1 n (k + 1) [R] S [C] =
    (List.range ((min (R / 2 ^ (n - (k + 1) + 1)) (S.getD (n - (k + 1)) 0)).toNat + 1)).flatMap fun x : Nat => fillT 1 n k [R - 2 ^ (n - (k + 1) + 1) * (x : Int)] (S.set (n - (k + 1)) (S.getD (n - (k + 1)) 0 - x)) [C.set (n - (k + 1)) x] := by
  rw [fillT]
  have e1 : (1 * n - (k + 1)) / n = 0 := Nat.div_eq_of_lt (by omega)
  have e2 : (1 * n - (k + 1)) % n = n - (k + 1) := by rw [Nat.one_mul]; exact Nat.mod_eq_of_lt (by omega)
  rw [e1, e2]
  rfl
/-- A table that fillT reaches. -/
structure Row1 (n k : Nat) (S C S' C' : List Int) : Prop where
  ls : S'.length = n
  lc : C'.length = n
  old : ∀ j, j < n - k → S'.getD j 0 = S.getD j 0 ∧ C'.getD j 0 = C.getD j 0
  new : ∀ j, n - k ≤ j → j < n → 0 ≤ C'.getD j 0 ∧ C'.getD j 0 + S'.getD j 0 = S.getD j 0 ∧ 0 ≤ S'.getD j 0
theorem getD_set_at (l : List Int) (p : Nat) (x : Int) (h : p < l.length) : (l.set p x).getD p 0 = x := by simp [h]
theorem getD_set_far (l : List Int) (p j : Nat) (x : Int) (h : p ≠ j) : (l.set p x).getD j 0 = l.getD j 0 := by
  rw [List.getD_eq_getElem?_getD, List.getElem?_set_ne h, ← List.getD_eq_getElem?_getD]
theorem fill1_mem (n : Nat) (z : List Int) : ∀ (k : Nat), k ≤ n → ∀ (R : Int) (S C : List Int), S.length = n → C.length = n → (∀ j, j < n → 0 ≤ S.getD j 0) → z ∈ fillT 1 n k [R] S [C] →
    ∃ R' S' C', z = trim (finT 1 n [R'] S' [C']) ∧ Row1 n k S C S' C'
  | 0, _, R, S, C, hs, hc, h0, h => by
    rw [fillT] at h
    unfold finL at h
    split at h
    · exact ⟨R, S, C, by simpa using h, hs, hc, fun j _ => ⟨rfl, rfl⟩, fun j h1 h2 => by omega⟩
    · simp at h
  | k + 1, hk, R, S, C, hs, hc, h0, h => by
    rw [fill1_succ n k hk] at h
    obtain ⟨x, hx, h⟩ := List.mem_flatMap.1 h
    rw [List.mem_range] at hx
    obtain ⟨p, hp⟩ : ∃ p, p = n - (k + 1) := ⟨_, rfl⟩
    rw [← hp] at h hx
    have hpn : p < n := by omega
    have hx2 : (x : Int) ≤ S.getD p 0 := by
      have := h0 p hpn; omega
    obtain ⟨R', S', C', e, r⟩ := fill1_mem n z k (by omega) _ _ _ (by rw [List.length_set]; exact hs) (by rw [List.length_set]; exact hc) (fun j hj => by
      by_cases e : p = j
      · subst e; rw [getD_set_at _ _ _ (by omega)]; omega
      · rw [getD_set_far _ _ _ _ e]; exact h0 j hj) h
    refine ⟨R', S', C', e, r.ls, r.lc, fun j hj => ?_, fun j h1 h2 => ?_⟩
    · have := r.old j (by omega)
      rw [getD_set_far _ _ _ _ (by omega), getD_set_far _ _ _ _ (by omega)] at this
      exact this
    · by_cases e : j = p
      · subst e
        have := r.old j (by omega)
        rw [getD_set_at _ _ _ (by omega), getD_set_at _ _ _ (by omega)] at this
        rw [this.1, this.2]; omega
      · have := r.new j (by omega) h2
        rw [getD_set_far _ _ _ _ (by omega)] at this
        exact this
theorem fill1_nodup (n : Nat) : ∀ (k : Nat), k ≤ n → ∀ (R : Int) (S C : List Int), S.length = n → C.length = n → (∀ j, j < n → 0 ≤ S.getD j 0) → (fillT 1 n k [R] S [C]).Nodup
  | 0, _, R, S, C, _, _, _ => by
    rw [fillT]; unfold finL; split <;> simp
  | k + 1, hk, R, S, C, hs, hc, h0 => by
    rw [fill1_succ n k hk]
    obtain ⟨p, hp⟩ : ∃ p, p = n - (k + 1) := ⟨_, rfl⟩
    rw [← hp]
    have hpn : p < n := by omega
    rw [List.Nodup, List.pairwise_flatMap]
    have nn : ∀ x : Nat, x < (min (R / 2 ^ (p + 1)) (S.getD p 0)).toNat + 1 → ∀ j, j < n → 0 ≤ (S.set p (S.getD p 0 - (x : Int))).getD j 0 := fun x hx j hj => by
      have := h0 p hpn
      by_cases e : p = j
      · subst e; rw [getD_set_at _ _ _ (by omega)]; omega
      · rw [getD_set_far _ _ _ _ e]; exact h0 j hj
    refine ⟨fun x hx => fill1_nodup n k (by omega) _ _ _ (by rw [List.length_set]; exact hs) (by rw [List.length_set]; exact hc) (nn x (List.mem_range.1 hx)), ?_⟩
    refine List.Pairwise.imp_of_mem (fun {x x'} hx hx' hlt z hz z' hz' e => ?_) (List.pairwise_lt_range (n := (min (R / 2 ^ (p + 1)) (S.getD p 0)).toNat + 1))
    subst e
    obtain ⟨R1, S1, C1, e1, r1⟩ := fill1_mem n z k (by omega) _ _ _ (by rw [List.length_set]; exact hs) (by rw [List.length_set]; exact hc) (nn x (List.mem_range.1 hx)) hz
    obtain ⟨R2, S2, C2, e2, r2⟩ := fill1_mem n z k (by omega) _ _ _ (by rw [List.length_set]; exact hs) (by rw [List.length_set]; exact hc) (nn x' (List.mem_range.1 hx')) hz'
    have hz1 : ∀ j, (finT 1 n [R1] S1 [C1]).getD j 0 = (finT 1 n [R2] S2 [C2]).getD j 0 := fun j => by rw [← trim_at, ← e1, e2, trim_at]
    have key : ∀ i, i < n - p → C1.getD (n - 1 - i) 0 = C2.getD (n - 1 - i) 0 := by
      intro i
      induction i with
      | zero =>
        intro _
        have := hz1 n
        rw [finT1, finT1, if_pos (show n < 1 + n by omega), if_pos (show n < 1 + n by omega), if_neg (show ¬ n = 0 by omega), if_neg (show ¬ n = 0 by omega)] at this
        rw [show S1.getD n 0 = 0 by rw [List.getD_eq_getElem?_getD, List.getElem?_eq_none (by rw [r1.ls]; omega)]; rfl, show S2.getD n 0 = 0 by rw [List.getD_eq_getElem?_getD, List.getElem?_eq_none (by rw [r2.ls]; omega)]; rfl] at this
        rw [Nat.sub_zero]; omega
      | succ i ih =>
        intro hi
        have h1 := ih (by omega)
        have := hz1 (n - 1 - i)
        rw [finT1, finT1, if_pos (show n - 1 - i < 1 + n by omega), if_pos (show n - 1 - i < 1 + n by omega), if_neg (show ¬ n - 1 - i = 0 by omega), if_neg (show ¬ n - 1 - i = 0 by omega)] at this
        have q1 := (r1.new (n - 1 - i) (by omega) (by omega)).2.1
        have q2 := (r2.new (n - 1 - i) (by omega) (by omega)).2.1
        rw [getD_set_far _ _ _ _ (by omega)] at q1 q2
        rw [show n - 1 - (i + 1) = n - 1 - i - 1 by omega]; omega
    have h1 := key (n - 1 - p) (by omega)
    rw [show n - 1 - (n - 1 - p) = p by omega] at h1
    have q1 := (r1.old p (by omega)).2
    have q2 := (r2.old p (by omega)).2
    rw [getD_set_at _ _ _ (by omega)] at q1 q2
    omega
/-- Twice the number of the last k entries' halves: what the row can hold of them. -/
def rowW (S : List Int) (n : Nat) : Nat → Int
  | 0 => 0
  | k + 1 => 2 ^ (n - (k + 1) + 1) * S.getD (n - (k + 1)) 0 + rowW S n k
theorem rowW_set (S : List Int) (n p : Nat) (x : Int) : ∀ k, p < n - k → rowW (S.set p x) n k = rowW S n k
  | 0, _ => rfl
  | k + 1, h => by rw [rowW, rowW, rowW_set S n p x k (by omega), getD_set_far _ _ _ _ (by omega)]
theorem rowW_nn (S : List Int) (n : Nat) (h : ∀ j, j < n → 0 ≤ S.getD j 0) : ∀ k, k ≤ n → 0 ≤ rowW S n k
  | 0, _ => Int.le_refl _
  | k + 1, hk => by
    have h1 := rowW_nn S n h k (by omega)
    have h2 := h (n - (k + 1)) (by omega)
    have h3 : (0 : Int) ≤ 2 ^ (n - (k + 1) + 1) * S.getD (n - (k + 1)) 0 := Int.mul_nonneg (Int.le_of_lt (Int.pow_pos (by decide))) h2
    rw [rowW]; omega
/-- The table whose row takes all. -/
theorem fill1_top (n : Nat) : ∀ (k : Nat), k ≤ n → ∀ (R : Int) (S C : List Int), S.length = n → C.length = n → (∀ j, n - k ≤ j → j < n → 0 ≤ S.getD j 0) → (∀ j, j < n - k → S.getD j 0 = 0) → 0 ≤ R - rowW S n k →
    ∃ S' C', trim (finT 1 n [R - rowW S n k] S' [C']) ∈ fillT 1 n k [R] S [C] ∧ S'.length = n ∧ C'.length = n ∧ (∀ j, S'.getD j 0 = 0) ∧ (∀ j, j < n - k → C'.getD j 0 = C.getD j 0) ∧ ∀ j, n - k ≤ j → j < n → C'.getD j 0 = S.getD j 0
  | 0, _, R, S, C, hs, hc, _, hz, _ => by
    have hz2 : ∀ j, S.getD j 0 = 0 := fun j => by
      by_cases hj : j < n
      · exact hz j (by omega)
      · rw [List.getD_eq_getElem?_getD, List.getElem?_eq_none (by omega)]; rfl
    refine ⟨S, C, ?_, hs, hc, hz2, fun j _ => rfl, fun j h1 h2 => by omega⟩
    rw [fillT]
    unfold finL
    rw [if_pos ?_, rowW, Int.sub_zero]
    · exact List.mem_singleton.2 rfl
    · unfold finOk
      rw [List.all_eq_true]
      intro i _
      obtain ⟨l, e, hl⟩ := diag1 R S C i
      rw [e, hz2 i, apartL_zero, apartL]
      rw [apart_zeros l _ hl]; simp
  | k + 1, hk, R, S, C, hs, hc, h0, hz, hR => by
    obtain ⟨p, hp⟩ : ∃ p, p = n - (k + 1) := ⟨_, rfl⟩
    have hpn : p < n := by omega
    have hsp := h0 p (by omega) hpn
    obtain ⟨x, hx⟩ : ∃ x : Nat, S.getD p 0 = (x : Int) := ⟨(S.getD p 0).toNat, by omega⟩
    have hw : rowW S n (k + 1) = 2 ^ (p + 1) * (x : Int) + rowW S n k := by rw [rowW, ← hp, hx]
    have hset : rowW (S.set p (S.getD p 0 - x)) n k = rowW S n k := rowW_set S n p _ k (by omega)
    have hnn : 0 ≤ rowW (S.set p (S.getD p 0 - x)) n k := rowW_nn _ n (fun j hj => by
      by_cases e : p = j
      · subst e; rw [getD_set_at _ _ _ (by omega)]; omega
      · rw [getD_set_far _ _ _ _ e]
        by_cases hj2 : j < p
        · rw [hz j (by omega)]; exact Int.le_refl _
        · exact h0 j (by omega) hj) k (by omega)
    obtain ⟨S', C', hm, h1, h2, h3, h4, h5⟩ := fill1_top n k (by omega) (R - 2 ^ (p + 1) * (x : Int)) (S.set p (S.getD p 0 - x)) (C.set p x) (by rw [List.length_set]; exact hs) (by rw [List.length_set]; exact hc)
      (fun j a b => by rw [getD_set_far _ _ _ _ (by omega)]; exact h0 j (by omega) b)
      (fun j a => by
        by_cases e : p = j
        · subst e; rw [getD_set_at _ _ _ (by omega)]; omega
        · rw [getD_set_far _ _ _ _ e]; exact hz j (by omega))
      (by rw [hset]; omega)
    refine ⟨S', C', ?_, h1, h2, h3, fun j hj => ?_, fun j a b => ?_⟩
    · rw [fill1_succ n k hk, List.mem_flatMap]
      refine ⟨x, ?_, ?_⟩
      · rw [List.mem_range, ← hp]
        have : (x : Int) ≤ R / 2 ^ (p + 1) := by
          rw [Int.le_ediv_iff_mul_le (Int.pow_pos (by decide)), Int.mul_comm]
          rw [hset] at hnn; omega
        omega
      · rw [← hp]
        rw [hset] at hm
        rw [hw, show R - (2 ^ (p + 1) * (x : Int) + rowW S n k) = R - 2 ^ (p + 1) * (x : Int) - rowW S n k by omega]
        exact hm
    · rw [h4 j (by omega), getD_set_far _ _ _ _ (by omega)]
    · by_cases e : p = j
      · subst e; rw [h4 p (by omega), getD_set_at _ _ _ (by omega), hx]
      · rw [h5 j (by omega) b, getD_set_far _ _ _ _ e]
end
section

/-- The first letter of the admissible word of a basis element. -/
def wtR : List Int → Int
  | [] => 0
  | x :: r => x + 2 * wtR r
def leadL : List Int → List Int
  | [] => []
  | x :: r => wtR (x :: r) :: leadL r
/-- The element of a word. -/
def wordA : List Int → List (List Int)
  | [] => [[]]
  | n :: w => oddL (prodsL [[n]] (wordA w))
def KK (r : List Int) : Int := r.getD 0 0 + 64 * r.getD 1 0 + 4096 * r.getD 2 0 + 262144 * r.getD 3 0 + 16777216 * r.getD 4 0
theorem getD_big {l : List Int} {n i : Nat} (h : l.length ≤ n) (hi : n ≤ i) : l.getD i 0 = 0 := by
  rw [List.getD_eq_getElem?_getD, List.getElem?_eq_none (by omega)]; rfl
theorem rowW_wt (S : List Int) (n : Nat) (hn : S.length = n) : ∀ k, k ≤ n → rowW S n k = 2 ^ (n - k + 1) * wtR (S.drop (n - k))
  | 0, _ => by rw [Nat.sub_zero, ← hn, List.drop_length]; simp [rowW, wtR]
  | k + 1, hk => by
    have hp : n - (k + 1) < S.length := by omega
    have e1 : n - (k + 1) + 1 = n - k := by omega
    rw [rowW, rowW_wt S n hn k (by omega), List.drop_eq_getElem_cons hp, wtR, e1, show S.getD (n - (k + 1)) 0 = S[n - (k + 1)] by simp [hp], Int.mul_add, Int.pow_succ]
    congr 1
    rw [Int.mul_assoc]
theorem degA_up (r : List Int) : ∀ i, degA (i + 1) r = degA i r + 2 ^ (i + 1) * wtR r := by
  induction r with
  | nil => intro i; simp [degA, wtR]
  | cons n r ih =>
    intro i
    rw [degA, degA, ih (i + 1), wtR]
    have e : (2 : Int) ^ (i + 1 + 1) = 2 * 2 ^ (i + 1) := by rw [Int.pow_succ, Int.mul_comm]
    rw [e]
    generalize (2 : Int) ^ (i + 1) = p
    rw [Int.mul_sub, Int.mul_sub, Int.mul_add, Int.mul_one, Int.mul_left_comm n 2 p, Int.mul_assoc, Int.mul_left_comm p 2, Int.mul_comm p n]
    omega
theorem deg_cons (x : Int) (r : List Int) : deg (x :: r) = wtR (x :: r) + deg r := by
  unfold deg
  rw [degA, degA_up, wtR]
  simp
  omega
theorem isExp_tail {x : Int} {r : List Int} (h : isExp (x :: r) = true) : isExp r = true := by
  simp only [isExp, Bool.and_eq_true, decide_eq_true_eq, List.all_eq_true] at h ⊢
  refine ⟨⟨by have := h.1.1; simp at this; omega, fun y hy => h.1.2 y (List.mem_cons_of_mem _ hy)⟩, ?_⟩
  have h3 := h.2
  simp only [lastOk, Bool.or_eq_true, decide_eq_true_eq, bne_iff_ne, ne_eq, List.length_cons] at h3 ⊢
  rcases h3 with h3 | h3
  · omega
  · by_cases e : r.length = 0
    · exact .inl e
    · right
      rw [show r.length + 1 - 1 = (r.length - 1) + 1 by omega, List.getD_cons_succ] at h3
      exact h3
theorem exp_nnS {r : List Int} (h : isExp r = true) : ∀ x ∈ r, 0 ≤ x := fun x hx => (isExp_sm h x hx).1
theorem exp_getD {r : List Int} (h : isExp r = true) (i : Nat) : 0 ≤ r.getD i 0 := by
  by_cases hi : i < r.length
  · rw [show r.getD i 0 = r[i] by simp [hi]]; exact exp_nnS h _ (List.getElem_mem hi)
  · rw [List.getD_eq_getElem?_getD, List.getElem?_eq_none (by omega)]; simp
theorem wt_pos : ∀ (r : List Int), isExp r = true → r ≠ [] → 1 ≤ wtR r
  | [], _, h => absurd rfl h
  | [x], h, _ => by
    have h1 := exp_nnS h x (List.mem_cons_self ..)
    have h2 := isExp_last h
    simp [lastOk] at h2
    simp [wtR]; omega
  | x :: y :: r, h, _ => by
    have h1 := exp_nnS h x (List.mem_cons_self ..)
    have h2 := wt_pos (y :: r) (isExp_tail h) (by simp)
    rw [wtR]; omega
theorem isExp_one {n : Int} (h : 1 ≤ n) (h' : n ≤ 40) : isExp [n] = true ∧ deg [n] = n := by
  refine ⟨?_, by simp [deg, degA]⟩
  simp only [isExp, numB, lastOk, List.length_cons, List.length_nil, List.all_cons, List.all_nil, Bool.and_eq_true, decide_eq_true_eq, Bool.or_eq_true, bne_iff_ne, ne_eq, Bool.and_true]
  refine ⟨⟨by omega, by omega, by omega⟩, .inr (by simp; omega)⟩
theorem deg_nn {r : List Int} (h : isExp r = true) : 0 ≤ deg r := by
  have key : ∀ (r : List Int), (∀ x ∈ r, 0 ≤ x) → 0 ≤ wtR r ∧ 0 ≤ deg r := by
    intro r
    induction r with
    | nil => intro _; exact ⟨Int.le_refl _, Int.le_refl _⟩
    | cons x r ih =>
      intro h
      have h1 := h x (List.mem_cons_self ..)
      have h2 := ih fun y hy => h y (List.mem_cons_of_mem _ hy)
      have h3 : 0 ≤ wtR (x :: r) := by rw [wtR]; omega
      exact ⟨h3, by rw [deg_cons]; omega⟩
  exact (key r (exp_nnS h)).2
/-- What a product of a square and a basis element is made of. -/
theorem basL_parts {n : Int} {S z : List Int} (hS : isExp S = true) (hd : deg S ≤ 40) (hz : z ∈ basL [n] S) (hz5 : z.length ≤ 5) :
    (z.getD 1 0 + 64 * z.getD 2 0 + 4096 * z.getD 3 0 + 262144 * z.getD 4 0 ≤ KK S) ∧
    (z.getD 1 0 + 64 * z.getD 2 0 + 4096 * z.getD 3 0 + 262144 * z.getD 4 0 = KK S → ∀ j, z.getD (j + 1) 0 = S.getD j 0) := by
  have hl5 := exp_len5 hS hd
  unfold basL at hz
  rw [show ([n] : List Int).length = 1 from rfl, Nat.one_mul] at hz
  obtain ⟨R', S', C', e, r⟩ := fill1_mem S.length z S.length (Nat.le_refl _) n S (List.replicate S.length 0) rfl (by simp) (fun j _ => exp_getD hS j) hz
  have hzk : ∀ k, z.getD k 0 = if k < 1 + S.length then S'.getD k 0 + (if k = 0 then R' else C'.getD (k - 1) 0) else 0 := fun k => by rw [e, trim_at, finT1]
  have hz1 : ∀ j, z.getD (j + 1) 0 = S'.getD (j + 1) 0 + C'.getD j 0 := fun j => by
    rw [hzk]
    by_cases h : j + 1 < 1 + S.length
    · rw [if_pos h, if_neg (by omega), Nat.add_sub_cancel]
    · rw [if_neg h, getD_big (n := S.length) (by rw [r.ls]; exact Nat.le_refl _) (show S.length ≤ j + 1 by omega), getD_big (n := S.length) (by rw [r.lc]; exact Nat.le_refl _) (show S.length ≤ j by omega)]; rfl
  have hse : ∀ j, 0 ≤ C'.getD j 0 ∧ C'.getD j 0 + S'.getD j 0 = S.getD j 0 ∧ 0 ≤ S'.getD j 0 := fun j => by
    by_cases h : j < S.length
    · exact r.new j (by omega) h
    · rw [getD_big (l := S') (n := S.length) (by rw [r.ls]; exact Nat.le_refl _) (show S.length ≤ j by omega), getD_big (l := C') (n := S.length) (by rw [r.lc]; exact Nat.le_refl _) (show S.length ≤ j by omega), getD_big (l := S) (n := S.length) (Nat.le_refl _) (show S.length ≤ j by omega)]
      exact ⟨by omega, by omega, by omega⟩
  have z5 : z.getD 5 0 = 0 := getD_big hz5 (Nat.le_refl _)
  have q0 := hz1 0; have q1 := hz1 1; have q2 := hz1 2; have q3 := hz1 3; have q4 := hz1 4
  have s0 := hse 0; have s1 := hse 1; have s2 := hse 2; have s3 := hse 3; have s4 := hse 4; have s5 := hse 5
  simp only [Nat.zero_add, Nat.reduceAdd] at q0 q1 q2 q3 q4
  unfold KK
  refine ⟨by omega, fun hk => ?_⟩
  have hz' : S'.getD 0 0 = 0 ∧ S'.getD 1 0 = 0 ∧ S'.getD 2 0 = 0 ∧ S'.getD 3 0 = 0 ∧ S'.getD 4 0 = 0 := by omega
  intro j
  by_cases hj : j < 5
  · have : j = 0 ∨ j = 1 ∨ j = 2 ∨ j = 3 ∨ j = 4 := by omega
    rcases this with rfl | rfl | rfl | rfl | rfl <;> simp only [Nat.zero_add, Nat.reduceAdd] <;> omega
  · rw [getD_big hz5 (show 5 ≤ j + 1 by omega), getD_big hl5 (show 5 ≤ j by omega)]
theorem basL_nodup {n : Int} {S : List Int} (hS : isExp S = true) : (basL [n] S).Nodup := by
  unfold basL
  rw [show ([n] : List Int).length = 1 from rfl, Nat.one_mul]
  exact fill1_nodup S.length S.length (Nat.le_refl _) n S _ rfl (by simp) (fun j _ => exp_getD hS j)
theorem basL_top {x : Int} {S : List Int} (hS : isExp S = true) (hx : isExp (x :: S) = true) : (x :: S) ∈ basL [wtR (x :: S)] S := by
  have hw : rowW S S.length S.length = 2 * wtR S := by
    rw [rowW_wt S S.length rfl S.length (Nat.le_refl _), Nat.sub_self]; simp
  have h0 := exp_nnS hx x (List.mem_cons_self ..)
  obtain ⟨S', C', hm, h1, h2, h3, -, h5⟩ := fill1_top S.length S.length (Nat.le_refl _) (wtR (x :: S)) S (List.replicate S.length 0) rfl (by simp) (fun j _ _ => exp_getD hS j) (fun j hj => by omega) (by rw [hw, wtR]; omega)
  unfold basL
  rw [show ([wtR (x :: S)] : List Int).length = 1 from rfl, Nat.one_mul]
  have e : trim (finT 1 S.length [wtR (x :: S) - rowW S S.length S.length] S' [C']) = x :: S := by
    refine last_at (lastOk_trim _) (isExp_last hx) fun k => ?_
    rw [trim_at, finT1, h3 k, hw]
    cases k with
    | zero => rw [if_pos (by omega), if_pos rfl, List.getD_cons_zero, wtR]; omega
    | succ k =>
      rw [List.getD_cons_succ]
      by_cases h : k + 1 < 1 + S.length
      · rw [if_pos h, if_neg (by omega), Nat.add_sub_cancel, h5 k (by omega) (by omega)]; omega
      · rw [if_neg h, getD_big (Nat.le_refl _) (show S.length ≤ k by omega)]
  rw [e] at hm
  exact hm
theorem count_flat_one {α : Type} (f : α → List (List Int)) (z : List Int) (a : α) : ∀ (L : List α), L.Nodup → a ∈ L → (∀ b ∈ L, b ≠ a → z ∉ f b) → (L.flatMap f).count z = (f a).count z
  | [], _, h, _ => by simp at h
  | b :: L, hn, ha, hz => by
    rw [List.nodup_cons] at hn
    rw [List.flatMap_cons, List.count_append]
    rcases List.mem_cons.1 ha with rfl | ha'
    · rw [show (L.flatMap f).count z = 0 from ?_, Nat.add_zero]
      rw [List.count_eq_zero]
      intro hm
      obtain ⟨c, hc, hm⟩ := List.mem_flatMap.1 hm
      exact hz c (List.mem_cons_of_mem _ hc) (fun e => hn.1 (e ▸ hc)) hm
    · rw [count_flat_one f z a L hn.2 ha' fun c hc => hz c (List.mem_cons_of_mem _ hc), List.count_eq_zero.2 (hz b (List.mem_cons_self ..) fun e => hn.1 (e ▸ ha')), Nat.zero_add]
theorem exp_le40S {r : List Int} (h : isExp r = true) (hd : deg r ≤ 40) : r.getD 0 0 ≤ 40 := by
  have h5 := deg_five (exp_len5 h hd)
  have n0 := exp_getD h 0; have n1 := exp_getD h 1; have n2 := exp_getD h 2; have n3 := exp_getD h 3; have n4 := exp_getD h 4
  omega
theorem prods_one (n : Int) (B : List (List Int)) : prodsL [[n]] B = B.flatMap (basL [n]) := by simp [prodsL]
/-- The element of the word of r has r as its greatest term. -/
theorem lead_main : ∀ (r : List Int), isExp r = true → deg r ≤ 40 → ExpD (deg r) (wordA (leadL r)) ∧ Asc (wordA (leadL r)) ∧ r ∈ wordA (leadL r) ∧ ∀ z ∈ wordA (leadL r), KK z ≤ KK r ∧ (KK z = KK r → z = r)
  | [], _, _ => by
    refine ⟨fun z hz => ?_, List.pairwise_singleton .., List.mem_singleton.2 rfl, fun z hz => ?_⟩
    · rw [List.mem_singleton.1 hz]; exact ⟨by decide, rfl⟩
    · rw [List.mem_singleton.1 hz]; exact ⟨Int.le_refl _, fun _ => rfl⟩
  | x :: r, hx, hd => by
    have hr := isExp_tail hx
    have hdc := deg_cons x r
    have hw1 := wt_pos (x :: r) hx (by simp)
    have hrn := deg_nn hr
    obtain ⟨i1, i2, i3, i4⟩ := lead_main r hr (by omega)
    have h1 := isExp_one hw1 (by omega)
    have e1 : ExpD (wtR (x :: r)) [[wtR (x :: r)]] := fun s hs => by rw [List.mem_singleton.1 hs]; exact h1
    have hE : ExpD (deg (x :: r)) (prodsL [[wtR (x :: r)]] (wordA (leadL r))) := by
      rw [hdc]; exact prodsL_exp e1 i1 (by omega) hrn (by omega)
    have e2 : wordA (leadL (x :: r)) = oddL (prodsL [[wtR (x :: r)]] (wordA (leadL r))) := rfl
    have hl5 := exp_len5 hx hd
    have r4 : r.getD 4 0 = 0 := getD_big (n := 4) (by simp at hl5; omega) (Nat.le_refl _)
    have hKr : KK (x :: r) = x + 64 * KK r := by
      unfold KK
      simp only [List.getD_cons_zero, List.getD_cons_succ]
      omega
    have hx0 := exp_nnS hx x (List.mem_cons_self ..)
    -- every term
    have hterm : ∀ S ∈ wordA (leadL r), ∀ z ∈ basL [wtR (x :: r)] S, isExp z = true → deg z = deg (x :: r) → (KK z ≤ KK (x :: r) ∧ (KK z = KK (x :: r) → z = x :: r)) ∧ (z = x :: r → S = r) := by
      intro S hS z hz hze hzd
      have hSe := i1 S hS
      have hz5 := exp_len5 hze (by omega)
      obtain ⟨p1, p2⟩ := basL_parts hSe.1 (by omega) hz hz5
      obtain ⟨k1, k2⟩ := i4 S hS
      have hKz : KK z = z.getD 0 0 + 64 * (z.getD 1 0 + 64 * z.getD 2 0 + 4096 * z.getD 3 0 + 262144 * z.getD 4 0) := by unfold KK; omega
      have z40 := exp_le40S hze (by omega)
      have all : z.getD 1 0 + 64 * z.getD 2 0 + 4096 * z.getD 3 0 + 262144 * z.getD 4 0 = KK r → S = r ∧ z = x :: r := fun h => by
        have hKS : KK S = KK r := by omega
        have hS := k2 hKS
        have hj := p2 (by omega)
        rw [hS] at hj
        have d1 := deg_five hz5
        have d2 := deg_five hl5
        simp only [List.getD_cons_zero, List.getD_cons_succ] at d2
        have j0 := hj 0; have j1 := hj 1; have j2 := hj 2; have j3 := hj 3
        simp only [Nat.zero_add, Nat.reduceAdd] at j0 j1 j2 j3
        refine ⟨hS, last_at (isExp_last hze) (isExp_last hx) fun k => ?_⟩
        cases k with
        | zero => rw [List.getD_cons_zero]; omega
        | succ k => rw [List.getD_cons_succ]; exact hj k
      have z0 := exp_getD hze 0
      refine ⟨?_, fun e => ?_⟩
      · by_cases h : z.getD 1 0 + 64 * z.getD 2 0 + 4096 * z.getD 3 0 + 262144 * z.getD 4 0 = KK r
        · have := (all h).2
          exact ⟨by rw [this]; exact Int.le_refl _, fun _ => this⟩
        · exact ⟨by omega, fun e => by omega⟩
      · have : z.getD 1 0 + 64 * z.getD 2 0 + 4096 * z.getD 3 0 + 262144 * z.getD 4 0 = KK r := by
          rw [e]; unfold KK; simp only [List.getD_cons_succ]; omega
        exact (all this).1
    rw [e2]
    refine ⟨hE.odd, asc_oddL _, ?_, fun z hz => ?_⟩
    · rw [mem_oddL, prods_one]
      rw [count_flat_one (basL [wtR (x :: r)]) (x :: r) r (wordA (leadL r)) (List.Pairwise.imp (fun h => ltL_ne h) i2) i3 (fun S hS hne hz => hne ?_)]
      · have c1 := List.nodup_iff_count.1 (basL_nodup (n := wtR (x :: r)) hr) (x :: r)
        have c2 := List.count_pos_iff.2 (basL_top hr hx)
        omega
      · exact (hterm S hS _ hz hx rfl).2 rfl
    · have hm := mem_oddL_sub hz
      have hze := hE z hm
      rw [prods_one] at hm
      obtain ⟨S, hS, hzS⟩ := List.mem_flatMap.1 hm
      exact (hterm S hS z hzS hze.1 hze.2).1
end
section

/-- The basis element of an admissible word. -/
def unL : List Int → List Int
  | [] => []
  | n :: w => (n - 2 * w.headD 0) :: unL w
theorem lead_head (r : List Int) : (leadL r).headD 0 = wtR r := by cases r <;> rfl
theorem unL_lead : ∀ r : List Int, unL (leadL r) = r
  | [] => rfl
  | x :: r => by rw [leadL, unL, unL_lead r, lead_head, wtR]; congr 1; omega
theorem KK_inj {a b : List Int} (ha : isExp a = true) (hb : isExp b = true) (da : deg a ≤ 40) (db : deg b ≤ 40) (h : KK a = KK b) : a = b := by
  have la := exp_len5 ha da; have lb := exp_len5 hb db
  have d1 := deg_five la; have d2 := deg_five lb
  have a0 := exp_getD ha 0; have a1 := exp_getD ha 1; have a2 := exp_getD ha 2; have a3 := exp_getD ha 3; have a4 := exp_getD ha 4
  have b0 := exp_getD hb 0; have b1 := exp_getD hb 1; have b2 := exp_getD hb 2; have b3 := exp_getD hb 3; have b4 := exp_getD hb 4
  unfold KK at h
  rw [d1] at da; rw [d2] at db
  have u0 : a.getD 0 0 ≤ 40 ∧ b.getD 0 0 ≤ 40 := by omega
  have u1 : a.getD 1 0 ≤ 40 ∧ b.getD 1 0 ≤ 40 := by omega
  have u2 : a.getD 2 0 ≤ 40 ∧ b.getD 2 0 ≤ 40 := by omega
  have u3 : a.getD 3 0 ≤ 40 ∧ b.getD 3 0 ≤ 40 := by omega
  clear da db d1 d2
  have e0 : a.getD 0 0 = b.getD 0 0 := by omega
  have e1 : a.getD 1 0 = b.getD 1 0 := by omega
  have e2 : a.getD 2 0 = b.getD 2 0 := by omega
  have e3 : a.getD 3 0 = b.getD 3 0 := by omega
  have hz : a.getD 0 0 = b.getD 0 0 ∧ a.getD 1 0 = b.getD 1 0 ∧ a.getD 2 0 = b.getD 2 0 ∧ a.getD 3 0 = b.getD 3 0 ∧ a.getD 4 0 = b.getD 4 0 := by omega
  refine last_at (isExp_last ha) (isExp_last hb) fun i => ?_
  by_cases hi : i < 5
  · have : i = 0 ∨ i = 1 ∨ i = 2 ∨ i = 3 ∨ i = 4 := by omega
    rcases this with rfl | rfl | rfl | rfl | rfl
    · exact hz.1
    · exact hz.2.1
    · exact hz.2.2.1
    · exact hz.2.2.2.1
    · exact hz.2.2.2.2
  · rw [getD_big la (show 5 ≤ i by omega), getD_big lb (show 5 ≤ i by omega)]
theorem exists_max (f : List Int → Int) : ∀ (l : List (List Int)), l ≠ [] → ∃ m ∈ l, ∀ x ∈ l, f x ≤ f m
  | [], h => absurd rfl h
  | [a], _ => ⟨a, List.mem_cons_self .., fun x hx => by rw [List.mem_singleton.1 hx]; exact Int.le_refl _⟩
  | a :: b :: l, _ => by
    obtain ⟨m, hm, h⟩ := exists_max f (b :: l) (by simp)
    by_cases e : f a ≤ f m
    · exact ⟨m, List.mem_cons_of_mem _ hm, fun x hx => by
        rcases List.mem_cons.1 hx with rfl | hx
        · exact e
        · exact h x hx⟩
    · exact ⟨a, List.mem_cons_self .., fun x hx => by
        rcases List.mem_cons.1 hx with rfl | hx
        · exact Int.le_refl _
        · have := h x hx; omega⟩
/-- Different admissible words are independent. -/
theorem lead_indep {d : Int} (h40 : d ≤ 40) (R : List (List Int)) (hR : ExpD d R) (hn : R.Nodup) (h : oddL (R.flatMap fun r => wordA (leadL r)) = []) : R = [] := by
  by_cases hne : R = []
  · exact hne
  · exfalso
    obtain ⟨m, hm, hmax⟩ := exists_max KK R hne
    have hme := hR m hm
    have h0 := lead_main m hme.1 (by omega)
    have hc : (R.flatMap fun r => wordA (leadL r)).count m = 1 := by
      rw [count_flat_one (fun r => wordA (leadL r)) m m R hn hm fun r hr hne' hmem => ?_]
      · have c1 := h0.2.1.count m
        rw [if_pos h0.2.2.1] at c1; exact c1
      · have hre := hR r hr
        have h1 := (lead_main r hre.1 (by omega)).2.2.2 m hmem
        have h2 := hmax r hr
        exact hne' (h1.2 (by omega)).symm
    have : m ∈ oddL (R.flatMap fun r => wordA (leadL r)) := by rw [mem_oddL, hc]
    rw [h] at this; cases this
/-- An admissible sum. -/
structure SqOk (d : Int) (xs S : List (List Int)) : Prop where
  asc : Asc S
  lead : ∀ w ∈ S, ∃ r, isExp r = true ∧ deg r = d ∧ w = leadL r
  sum : oddL (S.flatMap wordA) = xs
theorem lead_pre {d : Int} {S : List (List Int)} (h : ∀ w ∈ S, ∃ r, isExp r = true ∧ deg r = d ∧ w = leadL r) : ExpD d (S.map unL) ∧ (S.map unL).map leadL = S := by
  refine ⟨fun r hr => ?_, ?_⟩
  · obtain ⟨w, hw, rfl⟩ := List.mem_map.1 hr
    obtain ⟨r, h1, h2, rfl⟩ := h w hw
    rw [unL_lead]; exact ⟨h1, h2⟩
  · rw [List.map_map]
    conv => rhs; rw [← List.map_id S]
    apply List.map_congr_left
    intro w hw
    obtain ⟨r, h1, h2, rfl⟩ := h w hw
    simp [unL_lead]
theorem flat_map_eq (f : List Int → List (List Int)) (g : List Int → List Int) (L : List (List Int)) : (L.map g).flatMap f = L.flatMap fun r => f (g r) := by rw [List.flatMap_map]
theorem lead_zero {d : Int} (h40 : d ≤ 40) {T : List (List Int)} (hn : T.Nodup) (h : ∀ w ∈ T, ∃ r, isExp r = true ∧ deg r = d ∧ w = leadL r) (h0 : oddL (T.flatMap wordA) = []) : T = [] := by
  obtain ⟨h1, h2⟩ := lead_pre h
  have h3 : T.map unL = [] := by
    refine lead_indep h40 _ h1 ?_ ?_
    · rw [List.Nodup, List.pairwise_map]
      refine List.Pairwise.imp_of_mem (fun {a b} ha hb hne e => hne ?_) hn
      obtain ⟨r, _, _, rfl⟩ := h a ha
      obtain ⟨s, _, _, rfl⟩ := h b hb
      rw [unL_lead, unL_lead] at e
      rw [e]
    · rw [← flat_map_eq, h2]; exact h0
  rw [h3] at h2; exact h2.symm
theorem sq_unique {d : Int} (h40 : d ≤ 40) {xs S S' : List (List Int)} (h : SqOk d xs S) (h' : SqOk d xs S') : S = S' := by
  have h0 : oddL (S ++ S') = [] := by
    refine lead_zero h40 (List.Pairwise.imp (fun h => ltL_ne h) (asc_oddL _)) (fun w hw => ?_) ?_
    · rcases List.mem_append.1 (mem_oddL_sub hw) with h1 | h1
      · exact h.lead w h1
      · exact h'.lead w h1
    · rw [oddL_flatMap, List.flatMap_append]
      suffices hs : oddL (S.flatMap wordA ++ S'.flatMap wordA) = oddL [] by rw [hs]; rfl
      refine oddL_congr fun z => ?_
      have e1 : (S.flatMap wordA).count z % 2 = (S'.flatMap wordA).count z % 2 := by
        have a1 := mem_oddL z (S.flatMap wordA); have a2 := mem_oddL z (S'.flatMap wordA)
        rw [h.sum] at a1; rw [h'.sum] at a2
        have : (S.flatMap wordA).count z % 2 = 1 ↔ (S'.flatMap wordA).count z % 2 = 1 := a1.symm.trans a2
        omega
      rw [List.count_append]; simp; omega
  have := oddL_twice (b := S') h.asc
  rw [h0, List.nil_append, h'.asc.odd] at this
  exact this.symm
/-- One step: the word of the greatest term goes. -/
theorem sq_step {d : Int} (h40 : d ≤ 40) {T : List (List Int)} (hT : ExpD d T) (ha : Asc T) {m : List Int} (hm : m ∈ T) (hmax : ∀ z ∈ T, KK z ≤ KK m) :
    ExpD d (oddL (T ++ wordA (leadL m))) ∧ ∀ z ∈ oddL (T ++ wordA (leadL m)), KK z < KK m := by
  have hme := hT m hm
  obtain ⟨h1, h2, h3, h4⟩ := lead_main m hme.1 (by omega)
  rw [hme.2] at h1
  refine ⟨(hT.append h1).odd, fun z hz => ?_⟩
  have hle : KK z ≤ KK m := by
    rcases List.mem_append.1 (mem_oddL_sub hz) with h | h
    · exact hmax z h
    · exact (h4 z h).1
  by_cases e : KK z = KK m
  · exfalso
    have hze := (hT.append h1) z (mem_oddL_sub hz)
    have := KK_inj hze.1 hme.1 (by omega) (by omega) e
    subst this
    rw [mem_oddL, List.count_append, ha.count, h2.count, if_pos hm, if_pos h3] at hz
    omega
  · omega
theorem expD_nodup_len {d : Int} (h40 : d ≤ 40) {R : List (List Int)} (h : ExpD d R) (hn : R.Nodup) : R.length ≤ 504 := by
  have h1 := expD_length (asc_oddL R) h.odd h40
  have hp : (oddL R).length = R.length := by
    have hperm : (oddL R).Perm R := by
      rw [List.perm_iff_count]
      intro z
      rw [(asc_oddL R).count]
      have c1 := List.nodup_iff_count.1 hn z
      by_cases hz : z ∈ R
      · have c2 := List.count_pos_iff.2 hz
        rw [if_pos ((mem_oddL z R).2 (by omega))]; omega
      · have c2 := List.count_eq_zero.2 hz
        rw [if_neg (fun h => by have := (mem_oddL z R).1 h; omega)]; omega
    exact hperm.length_eq
  omega
/-- There is an admissible sum. -/
theorem sq_exists {d : Int} (h40 : d ≤ 40) : ∀ (n : Nat) (T : List (List Int)), ExpD d T → Asc T → (∀ z ∈ T, KK z < n) → ∃ S, SqOk d T S
  | 0, T, hT, ha, h => by
    have : T = [] := by
      cases T with
      | nil => rfl
      | cons t T =>
        have h1 := h t (List.mem_cons_self ..)
        have h2 := hT t (List.mem_cons_self ..)
        have a0 := exp_getD h2.1 0; have a1 := exp_getD h2.1 1; have a2 := exp_getD h2.1 2; have a3 := exp_getD h2.1 3; have a4 := exp_getD h2.1 4
        unfold KK at h1; omega
    subst this
    exact ⟨[], Asc.nil, fun w hw => by simp at hw, rfl⟩
  | n + 1, T, hT, ha, h => by
    by_cases hne : T = []
    · subst hne; exact ⟨[], Asc.nil, fun w hw => by simp at hw, rfl⟩
    · obtain ⟨m, hm, hmax⟩ := exists_max KK T hne
      obtain ⟨h1, h2⟩ := sq_step h40 hT ha hm hmax
      obtain ⟨S, hS⟩ := sq_exists h40 n _ h1 (asc_oddL _) fun z hz => by have := h2 z hz; have := h m hm; omega
      refine ⟨oddL (S ++ [leadL m]), asc_oddL _, fun w hw => ?_, ?_⟩
      · rcases List.mem_append.1 (mem_oddL_sub hw) with h3 | h3
        · exact hS.lead w h3
        · rw [List.mem_singleton.1 h3]; exact ⟨m, (hT m hm).1, (hT m hm).2, rfl⟩
      · rw [oddL_flatMap, List.flatMap_append, oddL_append, hS.sum]
        simp only [List.flatMap_cons, List.flatMap_nil, List.append_nil]
        exact oddL_twice ha
theorem sq_some {xs : List (List Int)} (h : arT xs = true) : ∃ S, SqOk (degT xs) xs S := by
  have hd := degT_in h
  refine sq_exists hd.2 1000000000000 xs (arT_expD h) (arT_asc h) fun z hz => ?_
  have h1 := arT_expD h z hz
  have hl := exp_len5 h1.1 (by omega)
  have d1 := deg_five hl
  have a0 := exp_getD h1.1 0; have a1 := exp_getD h1.1 1; have a2 := exp_getD h1.1 2; have a3 := exp_getD h1.1 3; have a4 := exp_getD h1.1 4
  unfold KK; omega
end
section

/-- What the program's comparison from the right says. -/
def frV (r s : List Int) : Int := if r.length ≠ s.length then (r.length : Int) - (s.length : Int) else cmpL r.reverse s.reverse
structure Five (r : List Int) (a b c d e : Int) : Prop where
  kk : KK r = a + 64 * b + 4096 * c + 262144 * d + 16777216 * e
  lo : 0 ≤ a ∧ 0 ≤ b ∧ 0 ≤ c ∧ 0 ≤ d ∧ 0 ≤ e
  hi : a ≤ 40 ∧ b ≤ 40 ∧ c ≤ 40 ∧ d ≤ 40 ∧ e ≤ 40
theorem exp_hi {r : List Int} (h : isExp r = true) (hd : deg r ≤ 40) : r.getD 0 0 ≤ 40 ∧ r.getD 1 0 ≤ 40 ∧ r.getD 2 0 ≤ 40 ∧ r.getD 3 0 ≤ 40 ∧ r.getD 4 0 ≤ 40 := by
  have la := exp_len5 h hd
  have d1 := deg_five la
  have a0 := exp_getD h 0; have a1 := exp_getD h 1; have a2 := exp_getD h 2; have a3 := exp_getD h 3; have a4 := exp_getD h 4
  omega
theorem exp_lo {r : List Int} (h : isExp r = true) : 0 ≤ r.getD 0 0 ∧ 0 ≤ r.getD 1 0 ∧ 0 ≤ r.getD 2 0 ∧ 0 ≤ r.getD 3 0 ∧ 0 ≤ r.getD 4 0 :=
  ⟨exp_getD h 0, exp_getD h 1, exp_getD h 2, exp_getD h 3, exp_getD h 4⟩
theorem exp_top {r : List Int} (h : isExp r = true) (k : Nat) (hk : r.length = k + 1) : 1 ≤ r.getD k 0 := by
  have h1 := isExp_last h
  have h2 := exp_getD h k
  simp only [lastOk, Bool.or_eq_true, decide_eq_true_eq, bne_iff_ne, ne_eq] at h1
  rcases h1 with h1 | h1
  · omega
  · rw [hk, Nat.add_sub_cancel] at h1; omega
theorem fr_longer {r s : List Int} (hr : isExp r = true) (hs : isExp s = true) (dr : deg r ≤ 40) (ds : deg s ≤ 40) (hl : s.length < r.length) : KK s < KK r := by
  have lr := exp_len5 hr dr
  have z0 := fun i (hi : s.length ≤ i) => getD_big (l := s) (Nat.le_refl _) hi
  have hh := exp_hi hs ds
  have hl2 := exp_lo hr
  unfold KK
  obtain ⟨k, hk⟩ : ∃ k, r.length = k + 1 := ⟨r.length - 1, by omega⟩
  have ht := exp_top hr k hk
  have zk := z0 k (by omega)
  have z1 := fun (_ : k ≤ 0) => z0 1 (by omega)
  have z2 := fun (_ : k ≤ 2) => z0 2 (by omega)
  have z3 := fun (_ : k ≤ 3) => z0 3 (by omega)
  have z4 := z0 4 (by omega)
  have hk5 : k = 0 ∨ k = 1 ∨ k = 2 ∨ k = 3 ∨ k = 4 := by omega
  rcases hk5 with rfl | rfl | rfl | rfl | rfl
  · have z1 := z0 1 (by omega); have z2 := z0 2 (by omega); have z3 := z0 3 (by omega); omega
  · have z2 := z0 2 (by omega); have z3 := z0 3 (by omega); omega
  · have z3 := z0 3 (by omega); omega
  · omega
  · omega
theorem cmpL_one {a b : Int} : cmpL [a] [b] = if a < b then -1 else if b < a then 1 else 0 := by
  rw [cmpL_cons]; rfl
theorem fr_same {r s : List Int} (hr : isExp r = true) (hs : isExp s = true) (dr : deg r ≤ 40) (ds : deg s ≤ 40) (hl : r.length = s.length) : 0 < cmpL r.reverse s.reverse ↔ KK s < KK r := by
  have lr := exp_len5 hr dr
  have h1 := exp_hi hr dr; have h2 := exp_hi hs ds
  have h3 := exp_lo hr; have h4 := exp_lo hs
  unfold KK
  have e0 : cmpL [] [] = 0 := rfl
  rcases r with _ | ⟨a, _ | ⟨b, _ | ⟨c, _ | ⟨d, _ | ⟨e, _ | ⟨f, r⟩⟩⟩⟩⟩⟩ <;> rcases s with _ | ⟨a', _ | ⟨b', _ | ⟨c', _ | ⟨d', _ | ⟨e', _ | ⟨f', s⟩⟩⟩⟩⟩⟩ <;>
    first
    | (exfalso; simp at hl; done)
    | (exfalso; simp at lr; done)
    | (exfalso; simp at hl lr; omega)
    | (simp only [List.reverse_cons, List.reverse_nil, List.nil_append, List.cons_append, cmpL_cons, e0, List.getD_cons_zero, List.getD_cons_succ, List.getD_nil] at *
       clear hr hs dr ds hl lr
       first
       | omega
       | (repeat' split
          all_goals omega))
theorem fr_law {r s : List Int} (hr : isExp r = true) (hs : isExp s = true) (dr : deg r ≤ 40) (ds : deg s ≤ 40) : 0 < frV r s ↔ KK s < KK r := by
  unfold frV
  by_cases h : r.length = s.length
  · rw [if_neg (by simp [h])]; exact fr_same hr hs dr ds h
  · rw [if_pos h]
    by_cases h2 : s.length < r.length
    · have := fr_longer hr hs dr ds h2
      constructor
      · intro _; exact this
      · intro _; omega
    · have := fr_longer hs hr ds dr (by omega)
      constructor
      · intro h3; omega
      · intro h3; omega
end
section
open Go.RowKit Go.Sort

/-- The weight of the number at place i. -/
def wtI (i : Nat) : Nat := 2 ^ (i + 1) - 1
theorem wtI_pos (i : Nat) : 1 ≤ wtI i := by
  unfold wtI
  have : 2 ^ 1 ≤ 2 ^ (i + 1) := Nat.pow_le_pow_right (by omega) (by omega)
  omega
theorem wtI_succ (i : Nat) : wtI (i + 1) = 2 * wtI i + 1 := by
  unfold wtI
  have : 1 ≤ 2 ^ (i + 1) := Nat.one_le_two_pow
  rw [Nat.pow_succ 2 (i + 1)]; omega
theorem wtI_int (i : Nat) : (wtI i : Int) = 2 ^ (i + 1) - 1 := by
  unfold wtI
  have : 1 ≤ 2 ^ (i + 1) := Nat.one_le_two_pow
  rw [Int.natCast_sub this, Int.natCast_pow]; rfl
/-- The ends, from place i on, of the exponent lists whose rest of the degree is d. -/
def partF : Nat → Nat → Nat → List (List Int)
  | 0, _, _ => []
  | f + 1, d, i => if d = 0 then [[]] else if d < wtI i then [] else (List.range (d / wtI i + 1)).flatMap fun n => (partF f (d - n * wtI i) (i + 1)).map fun x => (n : Int) :: x
def partL (d : Nat) : List (List Int) := partF 8 d 0
theorem asc_consMap {l : List (List Int)} (h : Asc l) (n : Int) : Asc (l.map fun x => n :: x) := by
  unfold Asc at *
  rw [List.pairwise_map]
  refine h.imp fun {a b} hab => ?_
  simp [ltL, hab]
theorem asc_flat {f : Nat → List (List Int)} (hf : ∀ n, Asc (f n)) : ∀ N : Nat, Asc ((List.range N).flatMap fun n => (f n).map fun x => (n : Int) :: x) := by
  intro N
  induction N with
  | zero => exact List.Pairwise.nil
  | succ N ih =>
    rw [List.range_succ, List.flatMap_append]
    unfold Asc
    rw [List.pairwise_append]
    refine ⟨ih, by have := asc_consMap (hf N) N; unfold Asc at this; simpa using this, fun a ha b hb => ?_⟩
    simp only [List.mem_flatMap, List.mem_range, List.mem_map, List.mem_singleton] at ha hb
    obtain ⟨n, hn, x, -, rfl⟩ := ha
    obtain ⟨m, rfl, y, -, rfl⟩ := hb
    have : (n : Int) < (m : Int) := by omega
    simp [ltL, this]
theorem asc_partF : ∀ f d i, Asc (partF f d i) := by
  intro f
  induction f with
  | zero => intro d i; exact List.Pairwise.nil
  | succ f ih =>
    intro d i
    rw [partF]
    split
    · exact List.pairwise_singleton ..
    · split
      · exact List.Pairwise.nil
      · exact asc_flat (fun n => ih _ _) _
theorem asc_partL (d : Nat) : Asc (partL d) := asc_partF _ _ _
/-- What is in it. -/
theorem mem_partF : ∀ (f d i : Nat) (x : List Int), x ∈ partF f d i → (∀ y ∈ x, 0 ≤ y) ∧ degA i x = d ∧ lastOk x = true ∧ x.length ≤ f - 1 ∧ (x = [] ↔ d = 0) := by
  intro f
  induction f with
  | zero => intro d i x h; simp [partF] at h
  | succ f ih =>
    intro d i x h
    rw [partF] at h
    split at h
    · rename_i h0
      rw [List.mem_singleton] at h
      subst h; subst h0
      exact ⟨by simp, by simp [degA], by decide, by simp, by simp⟩
    · rename_i h0
      split at h
      · simp at h
      · rename_i h1
        simp only [List.mem_flatMap, List.mem_range, List.mem_map] at h
        obtain ⟨n, hn, y, hy, rfl⟩ := h
        obtain ⟨e1, e2, e3, e4, e5⟩ := ih _ _ _ hy
        have hw := wtI_pos i
        have hnw : n * wtI i ≤ d := by
          have : n ≤ d / wtI i := by omega
          exact (Nat.le_div_iff_mul_le (by omega)).1 this
        refine ⟨?_, ?_, ?_, ?_, ?_⟩
        · intro z hz
          rcases List.mem_cons.1 hz with rfl | hz
          · omega
          · exact e1 z hz
        · rw [degA, e2, ← wtI_int, ← Int.natCast_mul, ← Int.natCast_add]
          congr 1; omega
        · unfold lastOk at e3 ⊢
          cases y with
          | nil =>
            have : d = n * wtI i := by have := e5.1 rfl; omega
            have hn0 : n ≠ 0 := by rintro rfl; omega
            simp; omega
          | cons z y =>
            simp only [List.length_cons, Bool.or_eq_true, decide_eq_true_eq] at e3 ⊢
            right
            rcases e3 with e | e
            · omega
            · simpa using e
        · have : f ≠ 0 := by rintro rfl; simp [partF] at hy
          simp; omega
        · simp; omega
theorem mem_partL {d : Nat} (hd : d ≤ 40) {x : List Int} (h : x ∈ partL d) : isExp x = true ∧ deg x = d := by
  obtain ⟨h1, h2, h3, h4, -⟩ := mem_partF 8 d 0 x h
  exact ⟨isExp_of h1 (by omega) (by unfold deg; omega) h3, h2⟩
/-- And all of it. -/
theorem partF_all : ∀ (f d i : Nat) (x : List Int), (∀ y ∈ x, 0 ≤ y) → degA i x = (d : Int) → lastOk x = true → x.length < f → x ∈ partF f d i := by
  intro f
  induction f with
  | zero => intro d i x _ _ _ h; omega
  | succ f ih =>
    intro d i x h1 h2 h3 h4
    have hw := wtI_pos i
    rw [partF]
    cases x with
    | nil =>
      rw [degA] at h2
      rw [if_pos (by omega)]; simp
    | cons y x =>
      have hy := h1 y (List.mem_cons_self ..)
      have hx : ∀ z ∈ x, 0 ≤ z := fun z hz => h1 z (List.mem_cons_of_mem _ hz)
      have hdx : ∀ (l : List Int) (j : Nat), (∀ z ∈ l, 0 ≤ z) → 0 ≤ degA j l := by
        intro l
        induction l with
        | nil => intro j _; simp [degA]
        | cons z l ihl =>
          intro j hz
          rw [degA, ← wtI_int]
          have := ihl (j + 1) fun u hu => hz u (List.mem_cons_of_mem _ hu)
          have := Int.mul_nonneg (hz z (List.mem_cons_self ..)) (show (0 : Int) ≤ wtI j by omega)
          omega
      have hr := hdx x (i + 1) hx
      obtain ⟨n, rfl⟩ : ∃ n : Nat, y = n := ⟨y.toNat, by omega⟩
      rw [degA, ← wtI_int, ← Int.natCast_mul] at h2
      have hle : n * wtI i ≤ d := by omega
      have hlx : lastOk x = true := by
        unfold lastOk at h3 ⊢
        cases x with
        | nil => simp
        | cons z x =>
          simp only [List.length_cons, Bool.or_eq_true, decide_eq_true_eq] at h3 ⊢
          right
          rcases h3 with e | e
          · omega
          · simpa using e
      have hpos : wtI i ≤ d := by
        cases x with
        | nil =>
          have hn0 : n ≠ 0 := by
            rintro rfl
            simp [lastOk] at h3
          have : 1 * wtI i ≤ n * wtI i := Nat.mul_le_mul_right _ (by omega)
          omega
        | cons z x =>
          have hlp : ∀ (l : List Int) (j : Nat), (∀ z ∈ l, 0 ≤ z) → lastOk l = true → l ≠ [] → (wtI j : Int) ≤ degA j l := by
            intro l
            induction l with
            | nil => intro j _ _ h; exact absurd rfl h
            | cons z l ihl =>
              intro j hz hl _
              have hz0 := hz z (List.mem_cons_self ..)
              have hzl := hdx l (j + 1) fun u hu => hz u (List.mem_cons_of_mem _ hu)
              rw [degA, ← wtI_int]
              cases l with
              | nil =>
                have : z ≠ 0 := by
                  rintro rfl
                  simp [lastOk] at hl
                have := Int.mul_le_mul_of_nonneg_right (show (1 : Int) ≤ z by omega) (show (0 : Int) ≤ wtI j by omega)
                omega
              | cons u l =>
                have h5 := ihl (j + 1) (fun u hu => hz u (List.mem_cons_of_mem _ hu)) (by
                  unfold lastOk at hl ⊢
                  simp only [List.length_cons, Bool.or_eq_true, decide_eq_true_eq] at hl ⊢
                  right
                  rcases hl with e | e
                  · omega
                  · simpa using e) (by simp)
                have := Int.mul_nonneg hz0 (show (0 : Int) ≤ wtI j by omega)
                have := wtI_succ j
                omega
          have h5 := hlp (z :: x) (i + 1) hx hlx (by simp)
          have := wtI_succ i
          omega
      rw [if_neg (by omega), if_neg (by omega)]
      simp only [List.mem_flatMap, List.mem_range, List.mem_map]
      refine ⟨n, ?_, x, ih _ _ x hx (by omega) hlx (by simp at h4; omega), rfl⟩
      have := (Nat.le_div_iff_mul_le (show 0 < wtI i by omega)).2 hle
      omega
theorem partL_all {d : Nat} (hd : d ≤ 40) {x : List Int} (h : isExp x = true) (he : deg x = d) : x ∈ partL d :=
  partF_all 8 d 0 x (fun y hy => (exp_num h y hy).1) he (by simp only [isExp, Bool.and_eq_true] at h; exact h.2) (by have := exp_len5 h (by omega); omega)
end
section

/-- The words that the reference writes: what is left, the greatest next letter. -/
def wdsF : Nat → Nat → Nat → List (List Int)
  | 0, _, _ => []
  | f + 1, d, most => if d = 0 then [[]] else (List.range (min most d)).flatMap fun i => (wdsF f (d - (i + 1)) ((i + 1) / 2)).map fun w => ((i + 1 : Nat) : Int) :: w
def wdsL (d : Nat) : List (List Int) := wdsF (d + 1) d d
theorem wdsF_mem : ∀ (f d most : Nat) (w : List Int), d ≤ 40 → w ∈ wdsF f d most → ∃ r, isExp r = true ∧ w = leadL r ∧ deg r = d ∧ wtR r ≤ most ∧ (r = [] ↔ d = 0) := by
  intro f
  induction f with
  | zero => intro d most w _ h; simp [wdsF] at h
  | succ f ih =>
    intro d most w hd40 h
    rw [wdsF] at h
    split at h
    · rename_i e
      rw [List.mem_singleton.1 h]
      exact ⟨[], by decide, rfl, by rw [e]; rfl, by simp [wtR], by simp [e]⟩
    · rename_i e
      obtain ⟨i, hi, h⟩ := List.mem_flatMap.1 h
      rw [List.mem_range] at hi
      obtain ⟨v, hv, rfl⟩ := List.mem_map.1 h
      obtain ⟨r, h1, rfl, h3, h4, h5⟩ := ih _ _ v (by omega) hv
      have hx0 : (0 : Int) ≤ ((i + 1 : Nat) : Int) - 2 * wtR r := by omega
      have hlast : lastOk ((((i + 1 : Nat) : Int) - 2 * wtR r) :: r) = true := by
        have hr := isExp_last h1
        by_cases er : r = []
        · subst er
          simp [lastOk, wtR]; omega
        · have hr0 : r.length ≠ 0 := fun e => er (List.eq_nil_of_length_eq_zero e)
          simp only [lastOk, Bool.or_eq_true, decide_eq_true_eq, bne_iff_ne, ne_eq, List.length_cons] at hr ⊢
          right
          rcases hr with hr | hr
          · exact absurd hr hr0
          · rw [show r.length + 1 - 1 = (r.length - 1) + 1 by omega, List.getD_cons_succ]; exact hr
      have hwt : wtR ((((i + 1 : Nat) : Int) - 2 * wtR r) :: r) = ((i + 1 : Nat) : Int) := by rw [wtR]; omega
      have hdeg : deg ((((i + 1 : Nat) : Int) - 2 * wtR r) :: r) = d := by rw [deg_cons, hwt, h3]; omega
      refine ⟨(((i + 1 : Nat) : Int) - 2 * wtR r) :: r, ?_, by rw [leadL, hwt], hdeg, by rw [hwt]; omega, by simp [e]⟩
      refine isExp_of (fun y hy => ?_) (by have := exp_len5 h1 (by omega); simp; omega) (by omega) hlast
      rcases List.mem_cons.1 hy with rfl | hy
      · exact hx0
      · exact exp_nnS h1 y hy
theorem wdsF_all : ∀ (f d most : Nat) (r : List Int), isExp r = true → deg r = d → wtR r ≤ most → d < f → leadL r ∈ wdsF f d most := by
  intro f
  induction f with
  | zero => intro d most r _ _ _ h; omega
  | succ f ih =>
    intro d most r hr hd hm hf
    rw [wdsF]
    cases r with
    | nil =>
      rw [if_pos (by have : deg [] = 0 := rfl; omega)]; exact List.mem_singleton.2 rfl
    | cons x r =>
      have hw := wt_pos (x :: r) hr (by simp)
      have ht := isExp_tail hr
      have hn := deg_nn ht
      have hdc := deg_cons x r
      have hx := exp_nnS hr x (List.mem_cons_self ..)
      rw [if_neg (by omega), List.mem_flatMap]
      refine ⟨(wtR (x :: r)).toNat - 1, by rw [List.mem_range]; omega, ?_⟩
      rw [List.mem_map]
      refine ⟨leadL r, ih _ _ r ht (by omega) (by rw [wtR] at hw ⊢ <;> omega) (by omega), ?_⟩
      rw [leadL]; congr 1; omega
theorem wdsF_nodup : ∀ (f d most : Nat), (wdsF f d most).Nodup
  | 0, _, _ => List.nodup_nil
  | f + 1, d, most => by
    rw [wdsF]
    split
    · simp
    · rw [List.Nodup, List.pairwise_flatMap]
      refine ⟨fun i _ => ?_, List.Pairwise.imp (fun {i i'} hlt x hx y hy e => ?_) (List.pairwise_lt_range (n := min most d))⟩
      · rw [List.pairwise_map]
        exact List.Pairwise.imp (fun h e => h (by simpa using e)) (wdsF_nodup f _ _)
      · obtain ⟨v, _, rfl⟩ := List.mem_map.1 hx
        obtain ⟨v', _, rfl⟩ := List.mem_map.1 hy
        simp only [List.cons.injEq] at e
        omega
theorem nodup_le : ∀ (l m : List (List Int)), l.Nodup → (∀ x ∈ l, x ∈ m) → l.length ≤ m.length
  | [], _, _, _ => Nat.zero_le _
  | a :: l, m, hn, h => by
    rw [List.nodup_cons] at hn
    have ha := h a (List.mem_cons_self ..)
    have h1 := nodup_le l (m.erase a) hn.2 fun x hx => by
      have hne : x ≠ a := fun e => hn.1 (e ▸ hx)
      exact (List.mem_erase_of_ne hne).2 (h x (List.mem_cons_of_mem _ hx))
    rw [List.length_erase_of_mem ha] at h1
    have := List.length_pos_of_mem ha
    rw [List.length_cons]; omega
theorem nodup_full {l m : List (List Int)} (hn : l.Nodup) (h : ∀ x ∈ l, x ∈ m) (hl : m.length ≤ l.length) (z : List Int) (hz : z ∈ m) : z ∈ l := by
  by_cases e : z ∈ l
  · exact e
  · exfalso
    have := nodup_le (z :: l) m (List.nodup_cons.2 ⟨e, hn⟩) fun x hx => by
      rcases List.mem_cons.1 hx with rfl | hx
      · exact hz
      · exact h x hx
    rw [List.length_cons] at this; omega
/-- The rows after i words. -/
structure Elim (d : Int) (W : List (List Int)) (i : Nat) (rows sums : List (List (List Int))) : Prop where
  lr : rows.length = i
  ls : sums.length = i
  asc : ∀ k, k < i → Asc (sums.getD k [])
  sub : ∀ k, k < i → ∀ w ∈ sums.getD k [], w ∈ W.take (k + 1)
  own : ∀ k, k < i → W.getD k [] ∈ sums.getD k []
  row : ∀ k, k < i → rows.getD k [] = oddL ((sums.getD k []).flatMap wordA)
  lead : ∀ j k, j < k → k < i → (rows.getD j []).headD [] ∉ rows.getD k []
/-- A word and its sum, reduced by the first k rows. -/
structure ElimX (d : Int) (T : List (List Int)) (rows : List (List (List Int))) (k : Nat) (x own : List (List Int)) : Prop where
  asc : Asc own
  sum : x = oddL (T ++ own.flatMap wordA)
  no : ∀ j, j < k → (rows.getD j []).headD [] ∉ x
def Leads (d : Int) (W : List (List Int)) : Prop := W.Nodup ∧ ∀ w ∈ W, ∃ r, isExp r = true ∧ deg r = d ∧ w = leadL r
theorem Elim.ne {d : Int} (h40 : d ≤ 40) {W : List (List Int)} (hW : Leads d W) {i : Nat} {rows sums : List (List (List Int))} (h : Elim d W i rows sums) (k : Nat) (hk : k < i) : rows.getD k [] ≠ [] := by
  intro e
  have h1 := h.row k hk
  rw [e] at h1
  have h2 := lead_zero h40 (List.Pairwise.imp (fun h => ltL_ne h) (h.asc k hk)) (fun w hw => hW.2 w (List.mem_of_mem_take (h.sub k hk w hw))) h1.symm
  have := h.own k hk
  rw [h2] at this; cases this
theorem Elim.hd {d : Int} (h40 : d ≤ 40) {W : List (List Int)} (hW : Leads d W) {i : Nat} {rows sums : List (List (List Int))} (h : Elim d W i rows sums) (k : Nat) (hk : k < i) : (rows.getD k []).headD [] ∈ rows.getD k [] := by
  have := h.ne h40 hW k hk
  cases e : rows.getD k [] with
  | nil => exact absurd e this
  | cons a l => exact List.mem_cons_self ..
theorem Elim.ascR {d : Int} {W : List (List Int)} {i : Nat} {rows sums : List (List (List Int))} (h : Elim d W i rows sums) (k : Nat) (hk : k < i) : Asc (rows.getD k []) := by rw [h.row k hk]; exact asc_oddL _
theorem words_expD {d : Int} (h40 : d ≤ 40) {S : List (List Int)} (h : ∀ w ∈ S, ∃ r, isExp r = true ∧ deg r = d ∧ w = leadL r) : ExpD d (S.flatMap wordA) := fun z hz => by
  obtain ⟨w, hw, hz⟩ := List.mem_flatMap.1 hz
  obtain ⟨r, h1, h2, rfl⟩ := h w hw
  have := (lead_main r h1 (by omega)).1 z hz
  rw [h2] at this; exact this
/-- One row is taken, where its first term occurs. -/
theorem ElimX.step {d : Int} (h40 : d ≤ 40) {W T : List (List Int)} (hW : Leads d W) {i k : Nat} {rows sums : List (List (List Int))} {x own : List (List Int)} (h : Elim d W i rows sums) (hx : ElimX d T rows k x own) (hk : k < i) :
    (((rows.getD k []).headD [] ∈ x → ElimX d T rows (k + 1) (oddL (x ++ rows.getD k [])) (oddL (own ++ sums.getD k []))) ∧ ((rows.getD k []).headD [] ∉ x → ElimX d T rows (k + 1) x own)) := by
  have hax : Asc x := by rw [hx.sum]; exact asc_oddL _
  have har := h.ascR k hk
  refine ⟨fun hm => ⟨asc_oddL _, ?_, fun j hj hmem => ?_⟩, fun hm => ⟨hx.asc, hx.sum, fun j hj => ?_⟩⟩
  · rw [hx.sum, h.row k hk, ← oddL_append, ← oddL_append']
    refine oddL_congr fun z => ?_
    have := count_odd_flatMap wordA z (own ++ sums.getD k [])
    rw [List.count_append, List.count_append, List.count_append, Nat.add_mod _ (((oddL (own ++ sums.getD k [])).flatMap wordA).count z), this, List.flatMap_append, List.count_append]
    omega
  · rw [mem_oddL, List.count_append, hax.count, har.count] at hmem
    by_cases e : j = k
    · subst e
      rw [if_pos hm, if_pos (h.hd h40 hW j hk)] at hmem; omega
    · rw [if_neg (hx.no j (by omega)), if_neg (h.lead j k (by omega) hk)] at hmem; omega
  · by_cases e : j = k
    · subst e; exact hm
    · exact hx.no j (by omega)
/-- The rows are all there are: what bears none of their first terms is nothing. -/
theorem Elim.full {d : Nat} (h40 : d ≤ 40) {rows sums : List (List (List Int))} {W : List (List Int)} (hW : Leads d W) (hall : ∀ r, isExp r = true → deg r = d → leadL r ∈ W) (h : Elim d W W.length rows sums) {x : List (List Int)} (hx : ExpD d x) (hno : ∀ j, j < W.length → (rows.getD j []).headD [] ∉ x) : x = [] := by
  cases x with
  | nil => rfl
  | cons z x =>
    exfalso
    have hze := hx z (List.mem_cons_self ..)
    obtain ⟨l, hl⟩ : ∃ l, l = (List.range W.length).map fun j => (rows.getD j []).headD [] := ⟨_, rfl⟩
    have hrow : ∀ j, j < W.length → ExpD d (rows.getD j []) := fun j hj => by
      rw [h.row j hj]
      exact (words_expD (by omega) fun w hw => hW.2 w (List.mem_of_mem_take (h.sub j hj w hw))).odd
    have hn : l.Nodup := by
      rw [hl, List.Nodup, List.pairwise_map]
      refine List.Pairwise.imp_of_mem (fun {a b} ha hb hlt e => ?_) (List.pairwise_lt_range (n := W.length))
      rw [List.mem_range] at ha hb
      refine h.lead a b hlt hb ?_
      rw [e]; exact h.hd (by omega) hW b hb
    have hsub : ∀ y ∈ l, y ∈ partL d := fun y hy => by
      rw [hl] at hy
      obtain ⟨j, hj, rfl⟩ := List.mem_map.1 hy
      rw [List.mem_range] at hj
      have := hrow j hj _ (h.hd (by omega) hW j hj)
      exact partL_all h40 this.1 this.2
    have hlen : (partL d).length ≤ l.length := by
      rw [hl, List.length_map, List.length_range, ← List.length_map (f := leadL)]
      refine nodup_le _ _ ?_ fun y hy => ?_
      · rw [List.Nodup, List.pairwise_map]
        refine List.Pairwise.imp (fun {a b} hab e => ?_) (asc_partL d)
        have := congrArg unL e
        rw [unL_lead, unL_lead] at this
        exact ltL_ne hab this
      · obtain ⟨r, hr, rfl⟩ := List.mem_map.1 hy
        have := mem_partL h40 hr
        exact hall r this.1 this.2
    have := nodup_full hn hsub hlen z (partL_all h40 hze.1 hze.2)
    rw [hl] at this
    obtain ⟨j, hj, e⟩ := List.mem_map.1 this
    rw [List.mem_range] at hj
    exact hno j hj (by rw [e]; exact List.mem_cons_self ..)
end
section
open Go.RowKit Go.Sort

theorem cell_var3 {w w' : World} {g t : Nat} {a b c d : Value} (h : w'.heap[g]? = w.heap[g]?) (k : w.heap[g]? = some (.cells #[a, b, c, d] t (0, 0))) : w'.cell? ⟨g, 2, none⟩ = some c := by
  have := h.trans k
  rw [World.cell?]; simp only [this]; rfl
theorem free_var3 {w w' : World} {g t : Nat} {a b c d : Value} (h : w'.heap[g]? = w.heap[g]?) (k : w.heap[g]? = some (.cells #[a, b, c, d] t (0, 0))) : w'.frozen? ⟨g, 2, none⟩ = false := by
  have := h.trans k
  rw [World.frozen?]; simp only [this]; simp
theorem replicate_snoc {α : Type} (x : α) (k : Nat) : List.replicate (k + 1) x = List.replicate k x ++ [x] := List.replicate_succ'
theorem zero_rep (m n : Nat) : ZeroFrom n (List.replicate m (List.replicate n 0)) 0 := by
  intro i j hj _
  by_cases hi : i < m
  · simp [hi, hj]
  · simp [hi]
theorem rep_sm {b : Int} (hb : 0 ≤ b) (m n : Nat) : ∀ x ∈ List.replicate m (List.replicate n (0 : Int)), Sm b x := by
  intro x hx
  rw [(List.mem_replicate.1 hx).2]
  intro y hy
  rw [(List.mem_replicate.1 hy).2]; omega
theorem rep_len (m n : Nat) : ∀ x ∈ List.replicate m (List.replicate n (0 : Int)), x.length = n := by
  intro x hx
  rw [(List.mem_replicate.1 hx).2]; simp
set_option maxRecDepth 100000 in
set_option maxHeartbeats 2000000 in
theorem basisProduct_c (v u : Value) (r s : List Int) (w : World) (h : IntS w.heap v r) (hu : IntS w.heap u s) (hm : r.length ≤ 20) (hn : s.length ≤ 20) (sr : Sm 1000000000000 r) (ss : Sm 1000000000000 s) (hl : (basL r s).length < 4398046511104) :
    Calls Tryz.prog 98 #[v, u] w fun e w' => ∃ x us, e = .returned x ∧ OwnU w' w.heap.size x us (basL r s) ∧ Below w.heap.size w w' := by
  have C1 := Lib.hid (copyOf_c v r w h (by omega))
  have C2 := Lib.hid (fun (W : World) (h : IntS W.heap u s) => copyOf_c u s W h (by omega))
  obtain ⟨ao, c, rfl, -⟩ := h.len
  obtain ⟨bo, d, rfl, -⟩ := hu.len
  have HU := Lib.hid hu; have HSR := Lib.hid sr; have HSS := Lib.hid ss; have HL := Lib.hid hl
  clear h hu sr ss hl
  have hmk := fun w => make_run (P := Tryz.prog) 22 2 _ 8 info_int64 Tryz.underlying22 rfl (by omega) s.length (by omega) .i64 .i64 (s.length : Int) (s.length : Int) rfl rfl w
  go_enter Tryz.func98, Tryz.ntmps98
  go_wp2_with (first | (go_at_call 73; first | ((with_reducible refine C1.out.mono ?_); rintro e w1 ⟨rv, rfl, hR, hb1⟩; obtain ⟨ra, rn, rc, rfl⟩ := own_shape hR) | ((with_reducible refine (C2.out _ (HU.out.same hb1.block)).mono ?_); rintro e w2 ⟨sv, rfl, hS, hb2⟩; obtain ⟨sa, sn, sc, rfl⟩ := own_shape hS)))
  obtain ⟨W3, hW3⟩ : ∃ W3, W3 = w2.alloc (.cells #[.slice ra rn rc, .slice sa sn sc, .slice none 0 0, .slice none 0 0] 101) := ⟨_, rfl⟩
  have V3 : Hid (W3.heap[w2.heap.size]? = some (.cells #[.slice ra rn rc, .slice sa sn sc, .slice none 0 0, .slice none 0 0] 101 (0, 0))) := by show _ = _; rw [hW3]; exact heap_alloc_new _ _
  have S3 : Hid (W3.heap.size = w2.heap.size + 1) := by show _ = _; rw [hW3]; simp
  have B23 : Hid (Below w2.heap.size w2 W3) := by show Below _ _ _; rw [hW3]; exact (Below.refl _ _).alloc (Nat.le_refl _) _
  rw [← hW3]
  have HR := Lib.hid hR; have HS := Lib.hid hS; have HB1 := Lib.hid hb1; have HB2 := Lib.hid hb2
  clear hW3 hR hS hb1 hb2 C1 C2
  go_loopw [14] (fun i wr => ∃ (k : Nat) (cv : Value) (cus : List Value), k ≤ r.length ∧ i = .int .i64 k ∧ wr.heap[w2.heap.size]? = some (.cells #[.slice ra rn rc, .slice sa sn sc, cv, .slice none 0 0] 101 (0, 0)) ∧ OwnU wr W3.heap.size cv cus (List.replicate k (List.replicate s.length 0)) ∧ Below w2.heap.size W3 wr) (fun i _ => r.length - (intOf i).toNat)
  case atStart => exact ⟨0, .slice none 0 0, [], by omega, rfl, V3.out, own_u_nil _ _, Below.refl _ _⟩
  case round =>
    obtain ⟨k, cv, cus, hk, rfl, hV, hU, hbl⟩ := hrel
    rename World => WR
    obtain ⟨ca, cn, cc, rfl⟩ := own_shape hU.row
    have hgs : w2.heap.size < WR.heap.size := (Array.getElem?_eq_some_iff.1 hV).1
    have c2 : WR.cell? ⟨w2.heap.size, 2, none⟩ = some (.slice ca cn cc) := by rw [World.cell?]; simp only [hV]; rfl
    have HV := Lib.hid hV; have HUU := Lib.hid hU; have HBL := Lib.hid hbl
    clear hV hU hbl
    by_cases hkr : k < r.length
    · have c2a : WR.drew.cell? ⟨w2.heap.size, 2, none⟩ = some (.slice ca cn cc) := c2
      have c2b : ∀ o, ((WR.alloc o).drew).cell? ⟨w2.heap.size, 2, none⟩ = some (.slice ca cn cc) := fun o => Go.Lib.cell?_alloc_some o c2
      have c2c : ∀ o o', (((WR.alloc o).alloc o').drew).cell? ⟨w2.heap.size, 2, none⟩ = some (.slice ca cn cc) := fun o o' => Go.Lib.cell?_alloc_some o' (Go.Lib.cell?_alloc_some o c2)
      have hsz : W3.heap.size ≤ WR.heap.size := HBL.out.size
      have HZ := Lib.hid (made_own WR WR.heap.size 2 s.length (.int .i64 0) (Nat.le_refl _) (by omega))
      go_wp2_with fail
      go_region_law (refine step_append_rowU (w0 := WR) (wE := WR) (by rfl) (.tmp 20) (.tmp 24) (by rfl) W3.heap.size (.slice ca cn cc) (.slice (some ⟨WR.heap.size, 0, none⟩) s.length s.length) cus (List.replicate k (List.replicate s.length 0)) (List.replicate s.length 0) HUU.out (by rfl) (by exact OwnI.same (by unfold OwnI; simpa using HZ.out) (alloc_old _ _)) (by exact below_drewN 1 (((Below.refl _ _).alloc (Nat.le_refl _) _).alloc (by simp) _)) (by exact Below.refl _ WR) (by exact hsz) (WR.heap.size + 1) (by rfl) (by have := heap_alloc_new (WR.alloc (.cells (madeCells #[.int .i64 0] s.length) 2)) (.cells #[.slice (some ⟨WR.heap.size, 0, none⟩) s.length s.length] 22); rw [size_alloc_w] at this; exact this) (by simp; omega) ?_; intro v3 w3 hU3 hb3 hs3 hk4; obtain ⟨sa', sn', sc', rfl⟩ := own_shape hU3.row; have c4 := cell_var3 (hb3.block _ (by have := S3.out; omega)) HV.out; have f4 := free_var3 (hb3.block _ (by have := S3.out; omega)) HV.out)
      all_goals
        have HU3 := Lib.hid hU3; have HB3 := Lib.hid hb3
        clear hU3 hb3 hs3 hk4 c4 f4 c2a c2b c2c c2
        go_wp2_with fail
        go_roundw
        case rel =>
          have hg3 := (HB3.out.block w2.heap.size (by have := S3.out; omega)).trans HV.out
          refine ⟨k + 1, .slice sa' sn' sc', cus ++ [.slice (some ⟨WR.heap.size, 0, none⟩) s.length s.length], by omega, by go_num, ?_, ?_, ((HBL.out.trans (HB3.out.mono (by have := S3.out; omega))).setCell (Nat.le_refl _) _)⟩
          · rw [heap_setCell_same w3 w2.heap.size 2 _ 101 (.slice sa' sn' sc') hg3]; rfl
          · rw [replicate_snoc]
            exact HU3.out.far fun b h1 _ => Below.heap_setCell _ _ _ _ (by show b ≠ w2.heap.size; have := S3.out; omega)
        case measure => simp [intOf]; omega
    · obtain rfl : k = r.length := by omega
      have hszw : W3.heap.size ≤ WR.heap.size := HBL.out.size
      have hs12 := HB2.out.size
      have hs01 := HB1.out.size
      have HRl : Hid (∀ b, (Value.slice ra rn rc).ownBlock = some b → w.heap.size ≤ b ∧ b < w1.heap.size) := fun b e => World.ownsRow.lt HR.out b e
      have HSl : Hid (∀ b, (Value.slice sa sn sc).ownBlock = some b → w1.heap.size ≤ b ∧ b < w2.heap.size) := fun b e => World.ownsRow.lt HS.out b e
      have HCl : Hid (∀ u ∈ cus, ∀ b, u.ownBlock = some b → W3.heap.size ≤ b ∧ b < WR.heap.size) := fun u hu b e => by
        obtain ⟨i, hi, rfl⟩ := List.getElem_of_mem hu
        have hl := HUU.out.len
        exact World.ownsRow.lt (HUU.out.each i _ _ (List.getElem?_eq_getElem hi) (List.getElem?_eq_getElem (by omega))) b e
      have k0 : ∀ b, b < w2.heap.size → WR.heap[b]? = w2.heap[b]? := fun b hb => (HBL.out.block b hb).trans (B23.out.block b hb)
      have T := Lib.hid (show TabV WR w.heap.size WR.heap.size w2.heap.size (.slice ra rn rc) (.slice sa sn sc) (.slice ca cn cc) (.slice none 0 0) cus [] r s (List.replicate r.length (List.replicate s.length 0)) [] from
        ⟨HV.out, by omega, hgs, own_kept HR.out fun b e => by have := HRl.out b e; rw [k0 b (by omega)]; exact HB2.out.block b (by omega),
          own_base (own_kept HS.out fun b e => k0 b (by have := HSl.out b e; omega)) (by omega), own_u_base HUU.out (by have := S3.out; omega), own_u_nil _ _,
          fun b e e2 => by have := HRl.out b e; have := HSl.out b e2; omega,
          fun u hu b e => ⟨fun e2 => by have := HCl.out u hu b e; have := HRl.out b e2; have := S3.out; omega, fun e2 => by have := HCl.out u hu b e; have := HSl.out b e2; have := S3.out; omega⟩,
          fun b e => by have := HRl.out b e; have := S3.out; omega, fun b e => by have := HSl.out b e; have := S3.out; omega, fun b e => (World.ownsRow.lt HUU.out.row b e).2, fun u hu b e => (HCl.out u hu b e).2, Nat.le_refl _⟩)
      have FC := Lib.hid (fill_c (m := r.length) (n := s.length) hm hn (r.length * s.length) 0 0 r s _ [] _ _ WR T.out rfl rfl (by simp) (rep_len _ _) (by have := zero_rep r.length s.length; simpa using this) HSR.out HSS.out (rep_sm (by omega) _ _) (by omega) (by omega) (by omega) (by omega) (by have h1 := HL.out; simp only [List.length_nil, Nat.zero_add]; exact h1))
      have HBW : Hid (Below w.heap.size w WR) := (HB1.out.trans ((HB2.out.mono hs01).trans ((B23.out.mono (by omega)).trans (HBL.out.mono (by omega)))))
      clear k0 c2 hmk
      go_wp2_with (go_at_call 114; refine FC.out.mono ?_; rintro e w5 ⟨rfl, ov5, ous5, hT5, hB5⟩; have c3 := hT5.c3; obtain ⟨oa, on', oc, rfl⟩ := own_shape hT5.o.row)
      go_ret
      exact ⟨_, ous5, rfl, own_u_base (by simpa [basL] using hT5.o) (by omega), HBW.out.trans hB5⟩
end
section
open Go.RowKit Go.Sort

theorem prods_prefix (a b : List (List Int)) (i y : Nat) (hi : i < a.length) (hy : y < b.length) : (prodsL (a.take i) b).length + ((b.take y).flatMap (basL a[i])).length + (basL a[i] b[y]).length ≤ (prodsL a b).length := by
  have e1 : prodsL a b = prodsL (a.take (i + 1)) b ++ prodsL (a.drop (i + 1)) b := by
    unfold prodsL; rw [← List.flatMap_append, List.take_append_drop]
  have e2 : b.flatMap (basL a[i]) = (b.take (y + 1)).flatMap (basL a[i]) ++ (b.drop (y + 1)).flatMap (basL a[i]) := by
    rw [← List.flatMap_append, List.take_append_drop]
  have e3 : (b.take (y + 1)).flatMap (basL a[i]) = (b.take y).flatMap (basL a[i]) ++ basL a[i] b[y] := by
    rw [List.take_succ_eq_append_getElem hy, List.flatMap_append]; simp
  rw [e1, prodsL_take a b i hi, e2, e3]
  simp only [List.length_append]
  omega
theorem RefR.keep {w w' : World} {B : Nat} {v : Value} {us : List Value} {xss : List (List Int)} (a : RefR w' B w.heap v us xss) (k : KeepI w w') : RefR w' B w'.heap v us xss := ⟨a.row, fun i u xs hu hx => (a.each i u xs hu hx).keep k⟩
set_option maxRecDepth 100000 in
set_option maxHeartbeats 1000000 in
theorem multiplied_of (SO : SortOk) (v u : Value) (a b : List (List Int)) (w : World) (h : IntSS w.heap v a) (hu : IntSS w.heap u b) (ha : SmS 1000000000000 20 a) (hb : SmS 1000000000000 20 b) (hl : (prodsL a b).length < 4398046511104) (hrl : ∀ x ∈ prodsL a b, x.length ≤ 4398046511104) :
    Calls Tryz.prog 77 #[v, u] w fun e w' => ∃ r us, e = .returned r ∧ OwnU w' w.heap.size r us (oddL (prodsL a b)) ∧ Below w.heap.size w w' := by
  have O := Lib.hid (fun (v : Value) (W : World) (h : IntSS W.heap v (prodsL a b)) => oddOnes_of SO v (prodsL a b) W h (by omega) hrl)
  obtain ⟨ao, c, rfl, hla⟩ := h.len
  obtain ⟨bo, d, rfl, hlb⟩ := hu.len
  have H := Lib.hid h; have HU := Lib.hid hu
  have HA := Lib.hid ha; have HB := Lib.hid hb; have HL := Lib.hid hl
  clear h hu ha hb hl SO
  go_enter Tryz.func77, Tryz.ntmps77
  go_wp2_with fail
  go_loopw [5, 13] (fun o i wr => ∃ (x : Nat) (us : List Value), x ≤ a.length ∧ i = .int .i64 x ∧ RefR wr w.heap.size wr.heap o us (prodsL (a.take x) b) ∧ Below w.heap.size w wr) (fun _ i _ => a.length - (intOf i).toNat)
  case atStart => exact ⟨0, [], Nat.zero_le _, rfl, ref_empty _ (Nat.le_refl _), (Below.refl _ _).alloc (Nat.le_refl _) _⟩
  case round =>
    obtain ⟨x, us, hx, rfl, hU, hbl⟩ := hrel
    obtain ⟨va, vn, vc, rfl⟩ := own_shape hU.row
    have HO := Lib.hid hU; have HBL := Lib.hid hbl
    clear hU hbl
    by_cases hxl : x < a.length
    · obtain ⟨b1, o1, c1, u1, hv1, hc1, hu1, -⟩ := H.out.at x hxl
      simp only [Value.slice.injEq, true_and] at hv1
      obtain ⟨rfl, rfl⟩ := hv1
      have hcx := (HBL.out.cell (World.block_lt_of_cell? _ _ hc1)).trans hc1
      have HU1 := Lib.hid hu1
      obtain ⟨ua, uc, rfl, -⟩ := hu1.len
      have HRX := Lib.hid (HA.out _ (List.getElem_mem hxl))
      have HSX := Lib.hid (prodsL_take a b x hxl)
      have HLX : Hid (∀ y (hy : y < b.length), (prodsL (a.take x) b).length + ((b.take y).flatMap (basL a[x])).length + (basL a[x] b[y]).length < 4398046511104) := fun y hy => by
        have := prods_prefix a b x y hxl hy; have := HL.out; omega
      clear hc1 hu1
      generalize a[x] = r at *
      go_wp2_with fail
      go_loopw [5, 19] (fun o j wk => ∃ (y : Nat) (us : List Value), y ≤ b.length ∧ j = .int .i64 y ∧ RefR wk w.heap.size wk.heap o us (prodsL (a.take x) b ++ (b.take y).flatMap (basL r)) ∧ Below w.heap.size w wk) (fun _ j _ => b.length - (intOf j).toNat)
      case atStart => exact ⟨0, us, Nat.zero_le _, rfl, by simpa using HO.out, HBL.out⟩
      case round =>
        obtain ⟨y, us2, hy, rfl, hU2, hbl2⟩ := hrel
        obtain ⟨ta, tn, tc, rfl⟩ := own_shape hU2.row
        have HO2 := Lib.hid hU2; have HBL2 := Lib.hid hbl2
        clear hU2 hbl2
        by_cases hyl : y < b.length
        · obtain ⟨b2, o2, c2, u2, hv2, hc2, hu2, -⟩ := HU.out.at y hyl
          simp only [Value.slice.injEq, true_and] at hv2
          obtain ⟨rfl, rfl⟩ := hv2
          have hcy := (HBL2.out.cell (World.block_lt_of_cell? _ _ hc2)).trans hc2
          have HU2 := Lib.hid hu2
          obtain ⟨ub, ud, rfl, -⟩ := hu2.len
          have HRY := Lib.hid (HB.out _ (List.getElem_mem hyl))
          have HLY := Lib.hid (HLX.out y hyl)
          have HS2 : Hid (prodsL (a.take x) b ++ (b.take (y + 1)).flatMap (basL r) = (prodsL (a.take x) b ++ (b.take y).flatMap (basL r)) ++ basL r b[y]) := by
            show _ = _
            rw [List.take_succ_eq_append_getElem hyl, List.flatMap_append, List.append_assoc]; simp
          clear hc2 hu2
          generalize b[y] = s at *
          go_wp2_with (first | (go_at_call 98; refine (basisProduct_c _ _ r s _ (HU1.out.same HBL2.out.block) (HU2.out.same HBL2.out.block) HRX.out.2 HRY.out.2 HRX.out.1 HRY.out.1 (by have := HLY.out; omega)).mono ?_; rintro e w2 ⟨rv, us3, rfl, hR2, hb2⟩; obtain ⟨ra, rn, rc, rfl⟩ := own_shape hR2.row; have HR4 := Lib.hid ((HO2.out.same hb2.block).grow hb2.block); have HX4 := Lib.hid (hR2.ints.at2 (fun _ _ => rfl)); have HB4 := Lib.hid (HBL2.out.trans (hb2.mono HBL2.out.size)); clear hR2 hb2) | (at_builtin; refine append_refs rfl _ _ rfl w.heap.size w2.heap _ _ us2 _ _ HR4.out rfl HX4.out rfl HB4.out HB4.out.size (by have := HLY.out; rw [List.length_append]; omega) ?_; intro v3 us4 w3 hU3 hb3 hs3 hk3; obtain ⟨sa, sn, sc, rfl⟩ := own_shape hU3.row; have HU3 := Lib.hid (hU3.keep (KeepI.grown HR4.out.row (by decide) hk3))))
          go_roundw
          case rel => exact ⟨y + 1, _, by omega, by go_num, by rw [HS2.out]; exact HU3.out, hb3⟩
          case measure => simp [intOf]; omega
        · obtain rfl : y = b.length := by omega
          rw [List.take_length, ← HSX.out] at HO2
          go_wp2_with fail
          go_roundw
          case rel => exact ⟨x + 1, us2, by omega, by go_num, HO2.out, HBL2.out⟩
          case measure => simp [intOf]; omega
    · obtain rfl : x = a.length := by omega
      rw [List.take_length] at HO
      go_wp2_with (go_at_call 50; refine (O.out _ _ (HO.out.ints (fun _ _ => rfl))).mono ?_; rintro e w2 ⟨r2, us2, rfl, hU2, hb2⟩; obtain ⟨sa, sn, sc, rfl⟩ := own_shape hU2.row)
      go_ret
      exact ⟨_, _, rfl, own_u_base hU2 HBL.out.size, HBL.out.trans (hb2.mono HBL.out.size)⟩
end
section
open Go.RowKit Go.Sort

/-- A table with its edges: rows and columns from 0 on. -/
structure TabOf (T : List (List Int)) (R S : List Int) (C : List (List Int)) : Prop where
  len : T.length = R.length + 1
  row : ∀ (i : Nat) (h : i < T.length), T[i].length = S.length + 1
  at' : ∀ (i j : Nat) (h : i < T.length), j ≤ S.length → T[i].getD j 0 = tabAt R S C i j
/-- The numbers of a diagonal in the first i rows of the table. -/
def sdiag (R S : List Int) (C : List (List Int)) (k i : Nat) : List Int := ((List.range i).filter fun p => decide (p ≤ k) && decide (k - p ≤ S.length)).map fun p => tabAt R S C p (k - p)
theorem sdiag_yes (R S : List Int) (C : List (List Int)) (k i : Nat) (h : i ≤ k) (h2 : k - i ≤ S.length) : sdiag R S C k (i + 1) = sdiag R S C k i ++ [tabAt R S C i (k - i)] := by
  unfold sdiag
  have hq : (decide (i ≤ k) && decide (k - i ≤ S.length)) = true := by simp only [Bool.and_eq_true, decide_eq_true_eq]; exact ⟨h, h2⟩
  rw [List.range_succ, List.filter_append, List.map_append, List.filter_cons, if_pos hq]; rfl
theorem sdiag_no (R S : List Int) (C : List (List Int)) (k i : Nat) (h : ¬ (i ≤ k ∧ k - i ≤ S.length)) : sdiag R S C k (i + 1) = sdiag R S C k i := by
  unfold sdiag
  rw [List.range_succ, List.filter_append, List.map_append]
  have hq : ¬ (decide (i ≤ k) && decide (k - i ≤ S.length)) = true := by simp only [Bool.and_eq_true, decide_eq_true_eq]; exact h
  rw [List.filter_cons, if_neg hq]; simp
theorem sdiag_length (R S : List Int) (C : List (List Int)) (k i : Nat) : (sdiag R S C k i).length ≤ i := by
  unfold sdiag
  rw [List.length_map]
  exact Nat.le_trans (List.length_filter_le _ _) (by simp)
theorem filter_range_min (g : Nat → Bool) (b : Nat) : ∀ a : Nat, (List.range a).filter (fun p => g p && decide (p < b)) = (List.range (min a b)).filter g
  | 0 => by simp
  | a + 1 => by
    rw [List.range_succ, List.filter_append, filter_range_min g b a]
    by_cases h : a < b
    · rw [show min (a + 1) b = min a b + 1 by omega, List.range_succ, List.filter_append]
      rw [show min a b = a by omega]
      congr 1
      simp only [List.filter_cons, List.filter_nil, decide_eq_true h, Bool.and_true]
    · rw [show min (a + 1) b = min a b by omega]
      simp only [List.filter_cons, List.filter_nil, decide_eq_false h, Bool.and_false]
      simp
theorem tabAt_out {R S : List Int} {C : List (List Int)} (hC : C.length = R.length) (hrow : ∀ x ∈ C, x.length = S.length) (i j : Nat) (h : R.length < i ∨ S.length < j) : tabAt R S C i j = 0 := by
  unfold tabAt
  by_cases h0 : i = 0
  · rw [if_pos h0]
    by_cases h1 : j = 0
    · rw [if_pos h1]
    · rw [if_neg h1]; simp [show S.length ≤ j - 1 by omega]
  · rw [if_neg h0]
    by_cases h1 : j = 0
    · rw [if_pos h1]; simp [show R.length ≤ i - 1 by omega]
    · rw [if_neg h1]
      by_cases h2 : i - 1 < C.length
      · rw [show C.getD (i - 1) [] = C[i - 1] by simp [h2]]
        have := hrow _ (List.getElem_mem h2)
        simp [show C[i - 1].length ≤ j - 1 by omega]
      · simp [show C.length ≤ i - 1 by omega]
theorem sdiag_filter {R S : List Int} {C : List (List Int)} (hC : C.length = R.length) (hrow : ∀ x ∈ C, x.length = S.length) (k : Nat) : (sdiag R S C k (R.length + 1)).filter (· != 0) = (diagL R S C k).filter (· != 0) := by
  unfold sdiag diagL
  rw [List.filter_map, List.filter_map, List.filter_filter]
  congr 1
  have e1 := filter_range_min (fun p => (tabAt R S C p (k - p) != 0) && decide (k - p ≤ S.length)) (k + 1) (R.length + 1)
  have e2 := filter_range_min (fun p => (tabAt R S C p (k - p) != 0) && decide (k - p ≤ S.length)) (R.length + 1) (k + 1)
  rw [show min (R.length + 1) (k + 1) = min (k + 1) (R.length + 1) by omega, ← e2] at e1
  refine Eq.trans (List.filter_congr fun p _ => ?_) (e1.trans (List.filter_congr fun p hp => ?_))
  · simp only [Function.comp]
    have : decide (p < k + 1) = decide (p ≤ k) := by simp; omega
    rw [this]
    cases tabAt R S C p (k - p) != 0 <;> cases decide (p ≤ k) <;> cases decide (k - p ≤ S.length) <;> rfl
  · simp only [Function.comp]
    by_cases h : p ≤ R.length ∧ k - p ≤ S.length
    · have h1 : decide (k - p ≤ S.length) = true := decide_eq_true h.2
      have h2 : decide (p < R.length + 1) = true := decide_eq_true (by omega)
      rw [h1, h2]; simp
    · rw [tabAt_out hC hrow p (k - p) (by omega)]; simp
theorem sdiag_apart {R S : List Int} {C : List (List Int)} (hC : C.length = R.length) (hrow : ∀ x ∈ C, x.length = S.length) (k : Nat) : apartL 0 (sdiag R S C k (R.length + 1)) = apartL 0 (diagL R S C k) := by
  rw [← apartL_filter, sdiag_filter hC hrow, apartL_filter]
theorem sdiag_sum {R S : List Int} {C : List (List Int)} (hC : C.length = R.length) (hrow : ∀ x ∈ C, x.length = S.length) (k : Nat) : (sdiag R S C k (R.length + 1)).sum = (diagL R S C k).sum := by
  rw [← sum_filter, sdiag_filter hC hrow, sum_filter]
theorem sdiag_sm {b : Int} {R S : List Int} {C : List (List Int)} (hb : 0 ≤ b) (sR : Sm b R) (sS : Sm b S) (sC : ∀ x ∈ C, Sm b x) (k i : Nat) : Sm b (sdiag R S C k i) := by
  intro x hx
  simp only [sdiag, List.mem_map] at hx
  obtain ⟨p, -, rfl⟩ := hx
  exact tabAt_sm hb sR sS sC _ _
theorem trim_step (l : List Int) (m : Nat) : trimN l (m + 1) = if l.getD m 0 = 0 then trimN l m else m + 1 := rfl
set_option maxRecDepth 100000 in
set_option maxHeartbeats 2000000 in
theorem l04Result_c (v : Value) (T : List (List Int)) (R S : List Int) (C : List (List Int)) (w : World) (h : IntSS w.heap v T) (hT : TabOf T R S C) (hC : C.length = R.length) (hrow : ∀ x ∈ C, x.length = S.length) (hm : R.length ≤ 300) (hn : S.length ≤ 300) (sR : Sm 1000000000000 R) (sS : Sm 1000000000000 S) (sC : ∀ x ∈ C, Sm 1000000000000 x) :
    Calls Tryz.prog 134 #[v] w fun e w' => (∃ r, e = .returned (.tuple #[r, .bool (finOk R.length S.length R S C)]) ∧ (finOk R.length S.length R S C = true → IntS w'.heap r (trim (finT R.length S.length R S C)))) ∧ Below w.heap.size w w' := by
  obtain ⟨ao, c, rfl, htl⟩ := h.len
  obtain ⟨b0, o0, c0', u0, hv0, hc0, hu0, -⟩ := h.at 0 (by rw [hT.len]; omega)
  simp only [Value.slice.injEq, true_and] at hv0
  obtain ⟨rfl, rfl⟩ := hv0
  obtain ⟨ua0, uc0, rfl, -⟩ := hu0.len
  rw [hT.row 0 (by rw [hT.len]; omega)] at hc0
  have H := Lib.hid h; have HT := Lib.hid hT
  have hTl := hT.len
  have hz0 : (0 : Int) < T.length := by omega
  rw [show o0 + 0 = o0 from rfl] at hc0
  have HSD := Lib.hid (fun k => sdiag_apart (R := R) (S := S) hC hrow k); have HSS := Lib.hid (fun k => sdiag_sum (R := R) (S := S) hC hrow k)
  have HSM := Lib.hid (fun k => sdiag_sm (by omega) sR sS sC k (R.length + 1))
  have HTL := Lib.hid hTl
  rw [hTl]
  have hz1 : (0 : Int) < (R.length : Int) + 1 := by omega
  clear h hT hC hrow sR sS sC hu0 hz0 htl hTl
  go_enter Tryz.func134, Tryz.ntmps134
  go_wp2_with fail
  go_loopw [5, 6] (fun o i wr => ∃ k : Nat, k ≤ R.length + S.length ∧ i = .int .i64 ((k : Int) + 1) ∧ OwnI wr w.heap.size o ((List.range k).map fun k => (diagL R S C (k + 1)).sum) ∧ Below w.heap.size w wr ∧ Hid (∀ j, j < k → apartL 0 (diagL R S C (j + 1)) = true)) (fun _ i _ => R.length + S.length + 1 - (intOf i).toNat)
  case atStart => exact ⟨0, by omega, rfl, ownI_empty (Nat.le_refl _), (Below.refl _ _).alloc (Nat.le_refl _) _, fun j hj => by omega⟩
  case round =>
    obtain ⟨k, hk, rfl, hown, hbl, hap⟩ := hrel
    rename World => WA
    obtain ⟨va, vn, vc, rfl⟩ := own_shape hown
    have HOW := Lib.hid hown; have HBL := Lib.hid hbl
    clear hown hbl
    by_cases hkm : k < R.length + S.length
    · have hki : decide ((k : Int) + 1 < (R.length : Int) + 1 + ((S.length : Int) + 1) - 1) = true := decide_eq_true (by omega)
      go_wp2_with fail
      go_loopw [7, 8] (fun o i wk => ∃ j : Nat, j ≤ R.length + 1 ∧ i = .int .i64 j ∧ OwnI wk WA.heap.size o (sdiag R S C (k + 1) j) ∧ Below WA.heap.size WA wk) (fun _ i _ => R.length + 1 - (intOf i).toNat)
      case atStart => exact ⟨0, by omega, rfl, ownI_empty (Nat.le_refl _), (Below.refl _ _).alloc (Nat.le_refl _) _⟩
      case round =>
        obtain ⟨j, hj, rfl, hown, hbl⟩ := hrel
        obtain ⟨ta, tn, tc, rfl⟩ := own_shape hown
        have HOD := Lib.hid hown; have HBD := Lib.hid hbl
        have HB1D := Lib.hid (HBL.out.trans (hbl.mono HBL.out.size))
        clear hown hbl
        by_cases hjl : j < R.length + 1
        · have hji : decide ((j : Int) < (R.length : Int) + 1) = true := decide_eq_true (by omega)
          have hji2 : (j : Int) < (R.length : Int) + 1 := by omega
          have HL : Hid ((sdiag R S C (k + 1) j).length ≤ 4398046511104) := by show _ ≤ _; have := sdiag_length R S C (k + 1) j; omega
          have hjT : j < T.length := by have := HTL.out; omega
          by_cases h1 : j ≤ k + 1
          · have hsub : IntKind.i64.wrap ((k : Int) + 1 - (j : Int)) = ((k + 1 - j : Nat) : Int) := by rw [IntWalk.i64_in _ (by omega)]; omega
            have hsub2 : ((k : Int) + 1 - (j : Int)) = ((k + 1 - j : Nat) : Int) := by omega
            have t1 : decide ((0 : Int) ≤ (k : Int) + 1 - (j : Int)) = true := decide_eq_true (by omega)
            obtain ⟨q, hq⟩ : ∃ q : Nat, k + 1 - j = q := ⟨_, rfl⟩
            rw [hq] at hsub hsub2
            have t1' : (0 : Int) ≤ (q : Int) := by omega
            obtain ⟨b1, o1, c1, u1, hv1, hc1, hu1, -⟩ := H.out.at j hjT
            simp only [Value.slice.injEq, Option.some.injEq, Addr.mk.injEq, true_and, and_true] at hv1
            obtain ⟨⟨rfl, rfl⟩, rfl⟩ := hv1
            have hcx := (HB1D.out.cell (World.block_lt_of_cell? _ _ hc1)).trans hc1
            obtain ⟨ua, uc, rfl, -⟩ := hu1.len
            have hrl := HT.out.row j hjT
            by_cases h2 : q ≤ S.length
            · obtain ⟨b2, o2, c2, hv2, hc2, -⟩ := hu1.at (w := w) q (by omega)
              simp only [Value.slice.injEq, true_and] at hv2
              obtain ⟨rfl, rfl⟩ := hv2
              have hcy := (HB1D.out.cell (World.block_lt_of_cell? _ _ hc2)).trans hc2
              rw [← getD_at', HT.out.at' j q hjT h2] at hcy
              have HS := Lib.hid (sdiag_yes R S C (k + 1) j h1 (by omega))
              rw [hq] at HS
              rw [hrl] at hcx
              have t2 : decide ((q : Int) < (S.length : Int) + 1) = true := decide_eq_true (by omega)
              have hq2 : (q : Int) < (S.length : Int) + 1 := by omega
              generalize tabAt R S C j q = x at *
              clear hc1 hc2 hu1 hrl hq
              go_wp2_with (at_builtin; refine append_int rfl _ _ rfl WA.heap.size _ _ x HOD.out rfl HBD.out HBD.out.size _ rfl (by simp) HL.out ?_; intro v' w' hown' hbl' _ _; obtain ⟨qa, qn, qc, rfl⟩ := own_shape hown')
              go_roundw
              case rel => exact ⟨j + 1, by omega, by go_num, by rw [HS.out]; exact hown', hbl'⟩
              case measure => simp [intOf]; omega
            · have HS := Lib.hid (sdiag_no R S C (k + 1) j (by omega))
              rw [hrl] at hcx
              have t2 : decide ((q : Int) < (S.length : Int) + 1) = false := decide_eq_false (by omega)
              clear hc1 hu1 hrl hq
              go_wp2_with fail
              go_roundw
              case rel => exact ⟨j + 1, by omega, by go_num, by rw [HS.out]; exact HOD.out, HBD.out⟩
              case measure => simp [intOf]; omega
          · have HS := Lib.hid (sdiag_no R S C (k + 1) j (by omega))
            have t1 : decide ((0 : Int) ≤ (k : Int) + 1 - (j : Int)) = false := decide_eq_false (by omega)
            go_wp2_with fail
            go_roundw
            case rel => exact ⟨j + 1, by omega, by go_num, by rw [HS.out]; exact HOD.out, HBD.out⟩
            case measure => simp [intOf]; omega
        · obtain rfl : j = R.length + 1 := by omega
          have htn : tn = (sdiag R S C (k + 1) (R.length + 1)).length := by
            obtain ⟨_, _, e, _⟩ := HOD.out.ints.len
            simp only [Value.slice.injEq] at e
            exact e.2.1
          subst htn
          have HLD := Lib.hid (sdiag_length R S C (k + 1) (R.length + 1))
          have AP := Lib.hid (l01Apart_c _ _ wr HOD.out.ints (fun x hx => by have := HSM.out (k + 1) x hx; omega))
          rw [HSD.out (k + 1)] at AP
          have hji : decide ((R.length : Int) + 1 < (R.length : Int) + 1) = false := by simp
          have HL : Hid (((List.range k).map fun k => (diagL R S C (k + 1)).sum).length ≤ 4398046511104) := by show _ ≤ _; simp; omega
          have HS := Lib.hid (range_map_succ (fun k => (diagL R S C (k + 1)).sum) k)
          have hsum := HSS.out (k + 1)
          cases hq : apartL 0 (diagL R S C (k + 1))
          · have HF : Hid (finOk R.length S.length R S C = false) := by
              show _ = _
              cases e : finOk R.length S.length R S C
              · rfl
              · unfold finOk at e
                rw [List.all_eq_true] at e
                rw [e k (List.mem_range.2 hkm)] at hq; cases hq
            rw [hq] at AP
            clear hq hsum
            generalize sdiag R S C (k + 1) (R.length + 1) = ds at *
            go_wp2_with (go_at_call 140; refine AP.out.mono ?_; rintro e w3 ⟨rfl, rfl⟩)
            go_ret2
            exact ⟨⟨_, by rw [HF.out]; rfl, fun h => by rw [HF.out] at h; cases h⟩, HB1D.out⟩
          · have HAP : Hid (∀ j, j < k + 1 → apartL 0 (diagL R S C (j + 1)) = true) := fun j hj => by
              by_cases e : j = k
              · rw [e]; exact hq
              · exact hap.out j (by omega)
            rw [hq] at AP
            have HSMD := Lib.hid (HSM.out (k + 1))
            have HSUM := Lib.hid hsum
            clear hq hsum
            generalize sdiag R S C (k + 1) (R.length + 1) = ds at *
            go_wp2_with (go_at_call 140; refine AP.out.mono ?_; rintro e w3 ⟨rfl, rfl⟩)
            go_loop [9, 10] (fun s i => ∃ t : Nat, t ≤ ds.length ∧ i = .int .i64 t ∧ s = .int .i64 (ds.take t).sum) (fun _ i => ds.length - (intOf i).toNat)
            case atStart => exact ⟨0, by omega, rfl, rfl⟩
            case round =>
              obtain ⟨t, ht, rfl, rfl⟩ := hrel
              by_cases htl : t < ds.length
              · obtain ⟨b2, o2, c2, hv2, hc2, -⟩ := HOD.out.ints.at (w := wr) t htl
                simp only [Value.slice.injEq, true_and] at hv2
                obtain ⟨rfl, rfl⟩ := hv2
                have HT2 : Hid ((ds.take (t + 1)).sum = (ds.take t).sum + ds[t]) := by
                  show _ = _
                  rw [List.take_succ_eq_append_getElem htl, List.sum_append]; simp
                have hs1 := Sm.sum (show Sm 1000000000000 (ds.take t) from fun x hx => HSMD.out x (List.mem_of_mem_take hx))
                have hs2 := HSMD.out _ (List.getElem_mem htl)
                have hs3 : ((ds.take t).length : Int) ≤ 400 := by rw [List.length_take]; have := HLD.out; omega
                have hs4 : (ds.take t).sum ≤ 400 * 1000000000000 := Int.le_trans hs1.2 (Int.mul_le_mul_of_nonneg_right hs3 (by omega))
                generalize (ds.take t).sum = z at *
                generalize ds[t] = x at *
                have hti : (t : Int) < ds.length := by omega
                have hld := HLD.out
                have hwz : IntKind.i64.wrap (z + x) = z + x := IntWalk.i64_in _ (by omega)
                clear hs1 hs3
                go_wp2_with fail
                go_round
                case rel => exact ⟨t + 1, by omega, by go_num, by rw [HT2.out]⟩
                case measure => simp [intOf]; omega
              · obtain rfl : t = ds.length := by omega
                rw [List.take_length, HSUM.out]
                generalize hz : (diagL R S C (k + 1)).sum = z at *
                go_wp2_with (at_builtin; refine append_int rfl _ _ rfl w.heap.size _ _ z (HOW.out.same HBD.out.block) rfl HB1D.out HB1D.out.size _ rfl (by simp) HL.out ?_; intro v' w' hown' hbl' _ _; obtain ⟨qa, qn, qc, rfl⟩ := own_shape hown')
                go_roundw
                case rel => exact ⟨k + 1, by omega, by go_num, by rw [HS.out]; exact hown', hbl', HAP⟩
                case measure => simp [intOf]; omega
    · obtain rfl : k = R.length + S.length := by omega
      have hki : decide ((R.length : Int) + S.length + 1 < (R.length : Int) + 1 + ((S.length : Int) + 1) - 1) = false := decide_eq_false (by omega)
      have HF : Hid (finOk R.length S.length R S C = true) := by
        show _ = _
        unfold finOk
        rw [List.all_eq_true]
        exact fun k hk => hap.out k (List.mem_range.1 hk)
      rw [show (List.range (R.length + S.length)).map (fun k => (diagL R S C (k + 1)).sum) = finT R.length S.length R S C from rfl] at HOW
      generalize hft : finT R.length S.length R S C = ft at *
      obtain ⟨ta, tc, htv, htl⟩ := HOW.out.ints.len
      simp only [Value.slice.injEq] at htv
      obtain ⟨rfl, rfl, rfl⟩ := htv
      have hcap : ft.length ≤ vc := by
        obtain ⟨a', c', hv', h1, _⟩ := SlAt.len HOW.out.ints
        simp only [Value.slice.injEq, List.length_map] at hv' h1
        omega
      clear hap
      go_wp2_with fail
      go_loop [5] (fun s => ∃ m : Nat, m ≤ ft.length ∧ s = .slice va m vc ∧ Hid (trimN ft ft.length = trimN ft m)) (fun s => match s with | .slice _ n _ => n | _ => 0)
      case atStart => exact ⟨ft.length, Nat.le_refl _, rfl, rfl⟩
      case round =>
        obtain ⟨q, hql, rfl, ht⟩ := hrel
        by_cases h0 : q = 0
        · subst h0
          go_wp2_with fail
          go_ret2
          exact ⟨⟨_, by rw [HF.out]; rfl, fun _ => by unfold trim; rw [ht.out]; exact HOW.out.ints.take 0 (by omega)⟩, HBL.out⟩
        · obtain ⟨p, rfl⟩ : ∃ p, q = p + 1 := ⟨q - 1, by omega⟩
          obtain ⟨b, off, cap, hv, hc, -⟩ := HOW.out.ints.at (w := WA) p (by omega)
          simp only [Value.slice.injEq, true_and] at hv
          obtain ⟨rfl, rfl⟩ := hv
          rw [← getD_at'] at hc
          by_cases hz : ft.getD p 0 = 0
          · have ht2 : Hid (trimN ft ft.length = trimN ft p) := by rw [ht.out, trimN, if_pos hz]; rfl
            rw [hz] at hc
            clear hz h0
            go_wp2_with fail
            go_round
            case rel => exact ⟨p, by omega, rfl, ht2⟩
            case measure => simp
          · have hb := (neB hz).1
            have ht2 : Hid (trimN ft ft.length = p + 1) := by rw [ht.out, trimN, if_neg hz]; rfl
            generalize ft.getD p 0 = x at *
            clear hz h0
            go_wp2_with fail
            go_ret2
            exact ⟨⟨_, by rw [HF.out]; rfl, fun _ => by unfold trim; rw [ht2.out]; exact HOW.out.ints.take (p + 1) (by omega)⟩, HBL.out⟩
end
section
open Go.RowKit Go.Sort

theorem put_split (x : List Int) (l : List (List Int)) (k : Nat) (hk : k ≤ l.length) (h1 : ∀ j, j < k → ltL (l.getD j []) x = true) (h2 : k < l.length → ltL (l.getD k []) x = false) :
    put x l = l.take k ++ (if k < l.length ∧ l.getD k [] = x then l.drop (k + 1) else x :: l.drop k) := by
  induction l generalizing k with
  | nil =>
    obtain rfl : k = 0 := by simpa using hk
    simp [put]
  | cons y r ih =>
    rcases k with _ | k
    · have h3 := h2 (by simp)
      simp only [List.getD_cons_zero] at h3
      rw [put]
      cases h4 : ltL x y
      · have e := ltL_total _ _ h3 h4
        subst e
        simp [ltL_irrefl]
      · have e : y ≠ x := fun e => by subst e; rw [ltL_irrefl] at h4; cases h4
        simp [e]
    · have h3 := h1 0 (by omega)
      simp only [List.getD_cons_zero] at h3
      rw [put, if_neg (by rw [ltL_asymm _ _ h3]; decide), if_pos h3, ih k (by simpa using hk) (fun j hj => by have := h1 (j + 1) (by omega); simpa using this) (fun hh => by have := h2 (by simpa using hh); simpa using this)]
      simp
theorem put_length (x : List Int) (l : List (List Int)) : (put x l).length ≤ l.length + 1 := by
  induction l with
  | nil => simp [put]
  | cons y r ih => rw [put]; split; simp; split; simp; exact ih; simp; omega
set_option maxRecDepth 100000 in
set_option maxHeartbeats 2000000 in
theorem l01PutR_c (v u : Value) (xss : List (List Int)) (xs : List Int) (w : World) (h : IntSS w.heap v xss) (hu : IntS w.heap u xs) (hl : xss.length < 4398046511104) (hx : xs.length ≤ 4398046511104) :
    Calls Tryz.prog 101 #[v, u] w fun e w' => ∃ r, e = .returned r ∧ (∃ us, RefR w' w.heap.size w'.heap r us (put xs xss)) ∧ Below w.heap.size w w' := by
  have OW := Lib.hid (fun (W : World) (hu : IntS W.heap u xs) => l01Own_c u xs W hu hx)
  have LS := Lib.hid (fun (y : Value) (ys : List Int) (W : World) (h1 : IntS W.heap y ys) (h2 : IntS W.heap u xs) => l01Less_c y u ys xs W h1 h2)
  have SM := Lib.hid (fun (y : Value) (ys : List Int) (W : World) (h1 : IntS W.heap y ys) (h2 : IntS W.heap u xs) => l01Same_c y u ys xs W h1 h2)
  obtain ⟨ao, c, hv, hm⟩ := h.len
  subst hv
  obtain ⟨bo, d, hv2, hm2⟩ := hu.len
  subst hv2
  have hcap : xss.length ≤ c := by
    obtain ⟨us, h1, h2, _⟩ := h
    obtain ⟨a', c', hv', h3, _⟩ := SlAt.len h1
    simp only [Value.slice.injEq] at hv'
    omega
  have H := Lib.hid h; have HU := Lib.hid hu; clear h hu
  go_enter Tryz.func101, Tryz.ntmps101
  go_wp2_with fail
  go_loopw [5] (fun i wr => ∃ k n : Nat, k ≤ xss.length ∧ i = .int .i64 k ∧ wr = w.drewN n ∧ ∀ j, j < k → ltL (xss.getD j []) xs = true) (fun i _ => xss.length - (intOf i).toNat)
  case atStart => exact ⟨0, 0, Nat.zero_le _, rfl, rfl, fun j hj => by omega⟩
  case round =>
    obtain ⟨k, n, hk, rfl, rfl, hpre⟩ := hrel
    have HP := Lib.hid hpre; clear hpre
    by_cases hlt : k < xss.length
    · obtain ⟨b1', o1, c1, uk, hv1, hc1, huk, -⟩ := H.out.at k hlt
      simp only [Value.slice.injEq, true_and] at hv1
      obtain ⟨rfl, rfl⟩ := hv1
      obtain ⟨qa, qc, rfl, -⟩ := huk.len
      rw [show xss[k] = xss.getD k [] by simp [hlt]] at huk hc1
      have HUK := Lib.hid huk
      have hki : (k : Int) < xss.length := by omega
      clear huk
      cases hL : ltL (xss.getD k []) xs
      · have L1 := Lib.hid (LS.out (.slice qa (xss.getD k []).length qc) _ (w.drewN n) HUK.out HU.out)
        rw [hL] at L1
        by_cases heq : xss.getD k [] = xs
        · have HS : Hid (put xs xss = xss.take k ++ xss.drop (k + 1)) := by
            show _ = _
            rw [put_split xs xss k hk HP.out (fun _ => hL), if_pos ⟨hlt, heq⟩]
          have M1 := Lib.hid (fun (W : World) (h : IntS W.heap (.slice qa (xss.getD k []).length qc) (xss.getD k [])) (h2 : IntS W.heap (.slice bo xs.length d) xs) => SM.out _ _ W h h2)
          rw [show decide (xss.getD k [] = xs) = true by simpa using heq] at M1
          clear hL heq
          generalize xss.getD k [] = ys at *
          go_wp2_with (first | (go_at_call 55; refine L1.out.mono ?_; rintro e W2 ⟨rfl, n2, rfl⟩) | (go_at_call 53; refine (M1.out _ (by exact HUK.out) (by exact HU.out)).mono ?_; rintro e W3 ⟨rfl, n3, rfl⟩))
          have b0 : (0 : Int) ≤ k := by omega
          have b1 : (k : Int) ≤ c := by omega
          have b2 : (0 : Int) ≤ (k : Int) + 1 := by omega
          have b3 : (k : Int) + 1 ≤ xss.length := by omega
          have b4 : ((k : Int) + 1).toNat = k + 1 := by omega
          have b5 : IntKind.i64.wrap ((k : Int) + 1) = (k : Int) + 1 := IntWalk.i64_in _ (by omega)
          go_region_held3 (fun _ => True) (trivial) (first | (refine step_append_refs (by rfl) _ _ (by rfl) w.heap.size w.heap (.slice (some ⟨w.heap.size, 0, none⟩) 0 0) (.slice (some ⟨b1', o1, none⟩) k c) [] [] (xss.take k) (by exact ref_empty (w := w.drewN (n + n2 + n3 + 1)) _ (by exact Nat.le_refl _)) (by rfl) (by exact ((H.out.at2 (fun _ _ => rfl)).take k hk).same (alloc_old w _)) (by rfl) (by exact (below_drewN _ (Below.refl _ w)).alloc (by simp) _) (by simp) (by simp; omega) ?_; intro v3 us3 w3 hR3 hb3 hs3 hk3; obtain ⟨sa, sn, sc, rfl⟩ := own_shape hR3.row) | (refine step_append_refs (by rfl) _ _ (by rfl) w.heap.size w.heap (.slice sa sn sc) (.slice (dropA (some ⟨b1', o1, none⟩) c (k + 1)) (xss.length - (k + 1)) (c - (k + 1))) us3 _ (xss.drop (k + 1)) hR3 (by rfl) (by exact (H.out.at2 hb3.block).drop (k + 1) (by omega)) (by rfl) hb3 hb3.size (by simp; omega) ?_; intro v4 us4 w4 hR4 hb4 _ _; obtain ⟨ta, tn, tc, rfl⟩ := own_shape hR4.row))
          go_wp2_with fail
          all_goals
            go_ret
            exact ⟨_, rfl, ⟨us4, by rw [HS.out]; exact hR4.grow hb4.block⟩, hb4⟩
        · have HS : Hid (put xs xss = xss.take k ++ xs :: xss.drop k) := by
            show _ = _
            rw [put_split xs xss k hk HP.out (fun _ => hL), if_neg (fun x => heq x.2)]
          have M1 := Lib.hid (fun (W : World) (h : IntS W.heap (.slice qa (xss.getD k []).length qc) (xss.getD k [])) (h2 : IntS W.heap (.slice bo xs.length d) xs) => SM.out _ _ W h h2)
          rw [show decide (xss.getD k [] = xs) = false by simpa using heq] at M1
          have HD : Hid (dropA (some ⟨b1', o1, none⟩) c k = some ⟨b1', o1 + k, none⟩) := by
            show _ = _
            have : c ≠ k := by omega
            simp [dropA, this, Addr.add]
          clear hL heq
          generalize xss.getD k [] = ys at *
          have b0 : (0 : Int) ≤ k := by omega
          have b1 : (k : Int) ≤ c := by omega
          have b6 : (k : Int) ≤ xss.length := by omega
          go_wp2_with (first | (go_at_call 55; refine L1.out.mono ?_; rintro e W2 ⟨rfl, n2, rfl⟩) | (go_at_call 53; refine (M1.out _ (by exact HUK.out) (by exact HU.out)).mono ?_; rintro e W3 ⟨rfl, n3, rfl⟩))
          go_region_held3 (fun _ => True) (trivial) (first | (go_at_call 85; refine (OW.out _ (by exact HU.out)).mono ?_; rintro e w2 ⟨ru, rfl, hru, hb2⟩; obtain ⟨ra, rn, rc, rfl⟩ := own_shape hru; have HB2 := Lib.hid ((below_drewN (n + n2 + n3 + 1) (Below.refl _ w)).trans hb2); have HRU := Lib.hid hru.ints; clear hru hb2) | (refine step_append_refs (by rfl) _ _ (by rfl) w2.heap.size w2.heap (.slice (some ⟨w2.heap.size, 0, none⟩) 1 1) (.slice (some ⟨b1', o1 + k, none⟩) (xss.length - k) (c - k)) [.slice ra rn rc] [xs] (xss.drop k) (by exact ref_one HRU.out (Nat.le_refl _)) (by rfl) (by have := (((H.out.same HB2.out.block).at2 (fun _ _ => rfl)).drop k hk).same (alloc_old _ (.cells #[.slice ra rn rc] 22)); rw [HD.out] at this; exact this) (by rfl) (by exact (Below.refl _ _).alloc (Nat.le_refl _) _) (by simp) (by simp; omega) ?_; intro v3 us3 w3 hR3 hb3 _ _; obtain ⟨sa, sn, sc, rfl⟩ := own_shape hR3.row))
          have HR3 := Lib.hid hR3; have HB3 := Lib.hid hb3; clear hR3 hb3
          go_wp2_with (first | (at_builtin; refine append_refs rfl _ _ rfl w2.heap.size w2.heap (.slice (some ⟨w3.heap.size, 0, none⟩) 0 0) (.slice (some ⟨b1', o1, none⟩) k c) [] [] (xss.take k) (ref_empty _ HB3.out.size) rfl ((((H.out.same HB2.out.block).at2 HB3.out.block).take k hk).same (alloc_old _ _)) rfl (HB3.out.alloc HB3.out.size _) (by have := HB3.out.size; simp; omega) (by simp; omega) ?_; intro v4 us4 w4 hR4 hb4 hs4 hk4; obtain ⟨ta, tn, tc, rfl⟩ := own_shape hR4.row; have HR4 := Lib.hid hR4; have HB4 := Lib.hid hb4; have HR34 := Lib.hid (HR3.out.at2.same (fun b hb => (hk4 b (by simp; omega) (fun e => by simp [Value.ownBlock] at e; omega)).trans (alloc_old _ _ b hb))); clear hR4 hb4 hs4 hk4) | (at_builtin; refine append_refs rfl _ _ rfl w2.heap.size w2.heap (.slice ta tn tc) (.slice sa sn sc) us4 _ ([xs] ++ xss.drop k) HR4.out rfl HR34.out rfl HB4.out HB4.out.size (by simp; omega) ?_; intro v5 us5 w5 hR5 hb5 _ _; obtain ⟨pa, pn, pc, rfl⟩ := own_shape hR5.row))
          go_ret
          exact ⟨_, rfl, ⟨us5, by rw [HS.out]; exact RefR.base (RefR.grow (by simpa using hR5) hb5.block) HB2.out.size⟩, HB2.out.trans (hb5.mono HB2.out.size)⟩
      · have HPS : Hid (∀ j, j < k + 1 → ltL (xss.getD j []) xs = true) := fun j hj => by
          by_cases e : j = k
          · rw [e]; exact hL
          · exact HP.out j (by omega)
        have L1 := Lib.hid (LS.out (.slice qa (xss.getD k []).length qc) _ (w.drewN n) HUK.out HU.out)
        rw [hL] at L1
        clear hL
        generalize xss.getD k [] = ys at *
        go_wp2_with (go_at_call 55; refine L1.out.mono ?_; rintro e W2 ⟨rfl, n2, rfl⟩)
        go_roundw
        case rel => exact ⟨k + 1, _, by omega, by go_num, by first | rfl | (simp only [World.drewN_drewN]; rfl), HPS.out⟩
        case measure => simp [intOf]; omega
    · have HS : Hid (put xs xss = xss.take k ++ xs :: xss.drop k) := by
        show _ = _
        rw [put_split xs xss k hk HP.out (fun h => absurd h hlt), if_neg (fun x => hlt x.1)]
      by_cases hck : c = k
      · obtain rfl : k = c := hck.symm
        have HD : Hid (dropA ao k k = ao) := by show _ = _; rw [dropA, if_pos rfl]
        have b0 : (0 : Int) ≤ k := by omega
        have b6 : (k : Int) ≤ xss.length := by omega
        go_wp2_with fail
        go_region_held3 (fun _ => True) (trivial) (first | (go_at_call 85; refine (OW.out _ (by exact HU.out)).mono ?_; rintro e w2 ⟨ru, rfl, hru, hb2⟩; obtain ⟨ra, rn, rc, rfl⟩ := own_shape hru; have HB2 := Lib.hid ((below_drewN (n + 1) (Below.refl _ w)).trans hb2); have HRU := Lib.hid hru.ints; clear hru hb2) | (refine step_append_refs (by rfl) _ _ (by rfl) w2.heap.size w2.heap (.slice (some ⟨w2.heap.size, 0, none⟩) 1 1) (.slice ao 0 0) [.slice ra rn rc] [xs] (xss.drop k) (by exact ref_one HRU.out (Nat.le_refl _)) (by rfl) (by have := (((H.out.same HB2.out.block).at2 (fun _ _ => rfl)).drop k hk).same (alloc_old _ (.cells #[.slice ra rn rc] 22)); rw [HD.out, Nat.sub_self, show xss.length - k = 0 by omega] at this; exact this) (by rfl) (by exact (Below.refl _ _).alloc (Nat.le_refl _) _) (by simp) (by simp; omega) ?_; intro v3 us3 w3 hR3 hb3 _ _; obtain ⟨sa, sn, sc, rfl⟩ := own_shape hR3.row))
        have HR3 := Lib.hid hR3; have HB3 := Lib.hid hb3; clear hR3 hb3
        go_wp2_with (first | (at_builtin; refine append_refs rfl _ _ rfl w2.heap.size w2.heap (.slice (some ⟨w3.heap.size, 0, none⟩) 0 0) (.slice ao k k) [] [] (xss.take k) (ref_empty _ HB3.out.size) rfl ((((H.out.same HB2.out.block).at2 HB3.out.block).take k hk).same (alloc_old _ _)) rfl (HB3.out.alloc HB3.out.size _) (by have := HB3.out.size; simp; omega) (by simp; omega) ?_; intro v4 us4 w4 hR4 hb4 hs4 hk4; obtain ⟨ta, tn, tc, rfl⟩ := own_shape hR4.row; have HR4 := Lib.hid hR4; have HB4 := Lib.hid hb4; have HR34 := Lib.hid (HR3.out.at2.same (fun b hb => (hk4 b (by simp; omega) (fun e => by simp [Value.ownBlock] at e; omega)).trans (alloc_old _ _ b hb))); clear hR4 hb4 hs4 hk4) | (at_builtin; refine append_refs rfl _ _ rfl w2.heap.size w2.heap (.slice ta tn tc) (.slice sa sn sc) us4 _ ([xs] ++ xss.drop k) HR4.out rfl HR34.out rfl HB4.out HB4.out.size (by simp; omega) ?_; intro v5 us5 w5 hR5 hb5 _ _; obtain ⟨pa, pn, pc, rfl⟩ := own_shape hR5.row))
        go_ret
        exact ⟨_, rfl, ⟨us5, by rw [HS.out]; exact RefR.base (RefR.grow (by simpa using hR5) hb5.block) HB2.out.size⟩, HB2.out.trans (hb5.mono HB2.out.size)⟩
      · have HD : Hid (dropA ao c k = ao.map (·.add k)) := by show _ = _; rw [dropA, if_neg hck]
        have b0 : (0 : Int) ≤ k := by omega
        have b1 : (k : Int) ≤ c := by omega
        have b6 : (k : Int) ≤ xss.length := by omega
        go_wp2_with fail
        go_region_held3 (fun _ => True) (trivial) (first | (go_at_call 85; refine (OW.out _ (by exact HU.out)).mono ?_; rintro e w2 ⟨ru, rfl, hru, hb2⟩; obtain ⟨ra, rn, rc, rfl⟩ := own_shape hru; have HB2 := Lib.hid ((below_drewN (n + 1) (Below.refl _ w)).trans hb2); have HRU := Lib.hid hru.ints; clear hru hb2) | (refine step_append_refs (by rfl) _ _ (by rfl) w2.heap.size w2.heap (.slice (some ⟨w2.heap.size, 0, none⟩) 1 1) (.slice (ao.map (·.add k)) (xss.length - k) (c - k)) [.slice ra rn rc] [xs] (xss.drop k) (by exact ref_one HRU.out (Nat.le_refl _)) (by rfl) (by have := (((H.out.same HB2.out.block).at2 (fun _ _ => rfl)).drop k hk).same (alloc_old _ (.cells #[.slice ra rn rc] 22)); rw [HD.out] at this; exact this) (by rfl) (by exact (Below.refl _ _).alloc (Nat.le_refl _) _) (by simp) (by simp; omega) ?_; intro v3 us3 w3 hR3 hb3 _ _; obtain ⟨sa, sn, sc, rfl⟩ := own_shape hR3.row))
        have HR3 := Lib.hid hR3; have HB3 := Lib.hid hb3; clear hR3 hb3
        go_wp2_with (first | (at_builtin; refine append_refs rfl _ _ rfl w2.heap.size w2.heap (.slice (some ⟨w3.heap.size, 0, none⟩) 0 0) (.slice ao k c) [] [] (xss.take k) (ref_empty _ HB3.out.size) rfl ((((H.out.same HB2.out.block).at2 HB3.out.block).take k hk).same (alloc_old _ _)) rfl (HB3.out.alloc HB3.out.size _) (by have := HB3.out.size; simp; omega) (by simp; omega) ?_; intro v4 us4 w4 hR4 hb4 hs4 hk4; obtain ⟨ta, tn, tc, rfl⟩ := own_shape hR4.row; have HR4 := Lib.hid hR4; have HB4 := Lib.hid hb4; have HR34 := Lib.hid (HR3.out.at2.same (fun b hb => (hk4 b (by simp; omega) (fun e => by simp [Value.ownBlock] at e; omega)).trans (alloc_old _ _ b hb))); clear hR4 hb4 hs4 hk4) | (at_builtin; refine append_refs rfl _ _ rfl w2.heap.size w2.heap (.slice ta tn tc) (.slice sa sn sc) us4 _ ([xs] ++ xss.drop k) HR4.out rfl HR34.out rfl HB4.out HB4.out.size (by simp; omega) ?_; intro v5 us5 w5 hR5 hb5 _ _; obtain ⟨pa, pn, pc, rfl⟩ := own_shape hR5.row))
        go_ret
        exact ⟨_, rfl, ⟨us5, by rw [HS.out]; exact RefR.base (RefR.grow (by simpa using hR5) hb5.block) HB2.out.size⟩, HB2.out.trans (hb5.mono HB2.out.size)⟩
theorem l01Put_c (v u : Value) (xss : List (List Int)) (xs : List Int) (w : World) (h : IntSS w.heap v xss) (hu : IntS w.heap u xs) (hl : xss.length < 4398046511104) (hx : xs.length ≤ 4398046511104) :
    Calls Tryz.prog 101 #[v, u] w fun e w' => ∃ r, e = .returned r ∧ IntSS w'.heap r (put xs xss) ∧ Below w.heap.size w w' :=
  (l01PutR_c v u xss xs w h hu hl hx).mono fun _ _ ⟨r, h1, ⟨_, h2⟩, h3⟩ => ⟨r, h1, h2.ints (fun _ _ => rfl), h3⟩
end
section
open Go.RowKit Go.Sort

/-- A step of the reference: a number is taken off both edges and laid in its place. -/
theorem TabOf.step {T : List (List Int)} {R S : List Int} {C : List (List Int)} (h : TabOf T R S C) (hC : C.length = R.length) (I J : Nat) (hI : I < R.length) (hJ : J < S.length) (hrow : ∀ x ∈ C, x.length = S.length) (a b x : Int) :
    TabOf ((T.set 0 ((T.getD 0 []).set (J + 1) b)).set (I + 1) (((T.getD (I + 1) []).set 0 a).set (J + 1) x)) (R.set I a) (S.set J b) (setC C I J x) := by
  have hl := h.len
  refine ⟨by simp [hl], fun i hi => ?_, fun i j hi hj => ?_⟩
  · simp only [List.length_set] at hi ⊢
    rw [List.getElem_set]
    split
    · simp only [List.length_set]
      rw [show T.getD (I + 1) [] = T[I + 1] by simp [show I + 1 < T.length by omega]]; exact h.row _ _
    · rw [List.getElem_set]
      split
      · rw [List.length_set, show T.getD 0 [] = T[0] by simp [show 0 < T.length by omega]]; exact h.row _ _
      · exact h.row _ _
  · simp only [List.length_set] at hi hj
    rw [List.getElem_set]
    by_cases e1 : I + 1 = i
    · rw [if_pos e1]
      subst e1
      have hr : (T.getD (I + 1) []).length = S.length + 1 := by
        rw [show T.getD (I + 1) [] = T[I + 1] by simp [show I + 1 < T.length by omega]]; exact h.row _ _
      have hat : (T.getD (I + 1) []).getD j 0 = tabAt R S C (I + 1) j := by
        rw [show T.getD (I + 1) [] = T[I + 1] by simp [show I + 1 < T.length by omega]]; exact h.at' _ _ _ hj
      by_cases e2 : J + 1 = j
      · subst e2
        have hcl := hrow _ (List.getElem_mem (show I < C.length by omega))
        rw [getD_set_self _ _ _ (by rw [List.length_set, hr]; omega)]
        simp [tabAt, setC, hJ, show I < C.length by omega, hcl]
      · by_cases e3 : j = 0
        · subst e3
          rw [List.getD_eq_getElem?_getD, List.getElem?_set_ne e2, ← List.getD_eq_getElem?_getD, getD_set_self _ _ _ (by rw [hr]; omega)]
          simp [tabAt, hI]
        · obtain ⟨p, rfl⟩ : ∃ p, j = p + 1 := ⟨j - 1, by omega⟩
          rw [List.getD_eq_getElem?_getD, List.getElem?_set_ne e2, List.getElem?_set_ne (by omega), ← List.getD_eq_getElem?_getD, hat]
          have hpj : J ≠ p := by omega
          simp [tabAt, setC, show I < C.length by omega, List.getElem?_set_ne hpj]
    · rw [if_neg e1, List.getElem_set]
      by_cases e2 : i = 0
      · subst e2
        rw [if_pos rfl]
        have hr : (T.getD 0 []).length = S.length + 1 := by
          rw [show T.getD 0 [] = T[0] by simp [show 0 < T.length by omega]]; exact h.row _ _
        have hat : (T.getD 0 []).getD j 0 = tabAt R S C 0 j := by
          rw [show T.getD 0 [] = T[0] by simp [show 0 < T.length by omega]]; exact h.at' _ _ _ hj
        by_cases e3 : J + 1 = j
        · subst e3
          rw [getD_set_self _ _ _ (by rw [hr]; omega)]
          simp [tabAt, hJ]
        · rw [List.getD_eq_getElem?_getD, List.getElem?_set_ne e3, ← List.getD_eq_getElem?_getD, hat]
          by_cases e4 : j = 0
          · simp [tabAt, e4]
          · obtain ⟨p, rfl⟩ : ∃ p, j = p + 1 := ⟨j - 1, by omega⟩
            have hpj : J ≠ p := by omega
            simp [tabAt, List.getElem?_set_ne hpj]
      · rw [if_neg (by omega), h.at' _ _ _ hj]
        obtain ⟨q, rfl⟩ : ∃ q, i = q + 1 := ⟨i - 1, by omega⟩
        have hqi : I ≠ q := by omega
        by_cases e4 : j = 0
        · simp [tabAt, e4, List.getElem?_set_ne hqi]
        · obtain ⟨p, rfl⟩ : ∃ p, j = p + 1 := ⟨j - 1, by omega⟩
          simp [tabAt, setC, List.getElem?_set_ne hqi]
theorem oddL_put_fin (L : List (List Int)) (m n : Nat) (R S : List Int) (C : List (List Int)) : oddL (L ++ finL m n R S C) = if finOk m n R S C then put (trim (finT m n R S C)) (oddL L) else oddL L := by
  unfold finL
  split
  · exact oddL_snoc _ _
  · rw [List.append_nil]
theorem OwnU.putI {w : World} {B : Nat} {v : Value} {us : List Value} {xss : List (List Int)} (h : OwnU w B v us xss) (i : Nat) (hi : i < xss.length) (g cap l : Nat) (hu : us[i]? = some (.slice (some ⟨g, 0, none⟩) l cap)) (j : Nat) (hj : j < (xss.getD i []).length) :
    B ≤ g ∧ w.cell? ⟨g, j, none⟩ = some (.int .i64 ((xss.getD i []).getD j 0)) ∧ w.frozen? ⟨g, j, none⟩ = false ∧ ∀ x, OwnU (w.setCell ⟨g, j, none⟩ (.int .i64 x)) B v us (xss.set i ((xss.getD i []).set j x)) := by
  have ho := h.each i _ _ hu (show xss[i]? = some (xss.getD i []) by simp [hi])
  have hl : l = (xss.getD i []).length := by have := ho.ints.len; obtain ⟨_, _, e, _⟩ := this; simp only [Value.slice.injEq] at e; exact e.2.1
  rw [hl] at ho hu
  refine ⟨own_base_le ho, own_int_at ho j hj, World.ownsRow.frozenAt ho j, fun x => h.set hu (grownBy_setCell w ⟨g, j, none⟩ _) ?_⟩
  have := own_int_set ho j x
  unfold OwnI; rw [List.length_set]; exact this
theorem OwnU.rowAt {w : World} {B : Nat} {v : Value} {us : List Value} {xss : List (List Int)} (h : OwnU w B v us xss) (i : Nat) (hi : i < xss.length) (h0 : 0 < (xss.getD i []).length) : ∃ g cap, us[i]? = some (.slice (some ⟨g, 0, none⟩) (xss.getD i []).length cap) := by
  have hl := h.len
  have hu : us[i]? = some us[i] := List.getElem?_eq_getElem (by omega)
  have ho := h.each i _ _ hu (show xss[i]? = some (xss.getD i []) by simp [hi])
  obtain ⟨g, cap, e, -⟩ := OwnI.open ho h0
  exact ⟨g, cap, by rw [hu, e]⟩
theorem trimF_len (m n : Nat) (R S : List Int) (C : List (List Int)) : (trim (finT m n R S C)).length ≤ m + n := by
  rw [trim_length]
  have h1 := trimN_le (finT m n R S C) (finT m n R S C).length
  have e : (finT m n R S C).length = m + n := by simp [finT]
  omega
set_option maxRecDepth 100000 in
set_option maxHeartbeats 4000000 in
theorem l04Fill_c {m n : Nat} (hm : m ≤ 20) (hn : n ≤ 20) : ∀ (f k i j : Nat) (T : List (List Int)) (R S : List Int) (C L : List (List Int)) (t o : Value) (w : World), (m + 1 - i) * (n + 1) + (n + 1 - j) < f → IntSS w.heap t T → IntSS w.heap o (oddL L) → TabOf T R S C →
    R.length = m → S.length = n → C.length = m → (∀ x ∈ C, x.length = n) → Sm 1000000000000 R → Sm 1000000000000 S → (∀ x ∈ C, Sm 1000000000000 x) → 1 ≤ i → i ≤ m + 1 → 1 ≤ j → j ≤ n + 1 → k = m * n - ((i - 1) * n + (j - 1)) → L.length + (fillT m n k R S C).length < 4398046511104 →
    Calls Tryz.prog 125 #[t, .int .i64 i, .int .i64 j, o] w fun e w' => ∃ r, e = .returned r ∧ IntSS w'.heap r (oddL (L ++ fillT m n k R S C)) ∧ Below w.heap.size w w' := by
  intro f
  induction f with
  | zero => exact fun k i j T R S C L t o w hf => absurd hf (by omega)
  | succ f ih => 
    intro k i j T R S C L t o w hf h ho hT hR hS hC hrow sR sS sC hi1 hi hj1 hj hk hl
    by_cases him : i = m + 1
    · have hk0 : k = 0 := by rw [him] at hk; simp at hk; omega
      subst hk0
      have RES := Lib.hid (l04Result_c t T R S C w h hT (by omega) (fun x hx => by rw [hrow x hx, hS]) (by omega) (by omega) sR sS sC)
      rw [hR, hS] at RES
      have HFN := Lib.hid (oddL_put_fin L m n R S C)
      have hTl := hT.len
      obtain ⟨ta, tc, rfl, -⟩ := h.len
      have t1 := (eqB (show (i : Int) = (T.length : Int) by omega)).1
      obtain ⟨r0, c0, rfl, -⟩ := ho.len
      have HOO := Lib.hid ho
      have HPU := Lib.hid (fun (r : Value) (W : World) (h1 : IntSS W.heap (.slice r0 (oddL L).length c0) (oddL L)) (h2 : IntS W.heap r (trim (finT m n R S C))) => l01Put_c (.slice r0 (oddL L).length c0) r (oddL L) (trim (finT m n R S C)) W h1 h2 (by have := oddL_length L; omega) (by have := trimF_len m n R S C; omega))
      clear h ho hT hrow sR sS sC hf hk hl ih hTl
      cases hok : finOk m n R S C
      · rw [hok] at RES HFN
        clear hok
        go_enter Tryz.func125, Tryz.ntmps125
        go_wp2_with (go_at_call 134; refine RES.out.mono ?_; rintro e w2 ⟨⟨r, rfl, -⟩, hb2⟩)
        go_ret
        exact ⟨_, rfl, by rw [show fillT m n 0 R S C = finL m n R S C from rfl, HFN.out]; exact HOO.out.same hb2.block, hb2⟩
      · rw [hok] at RES HFN
        clear hok
        go_enter Tryz.func125, Tryz.ntmps125
        go_wp2_with (first | (go_at_call 134; refine RES.out.mono ?_; rintro e w2 ⟨⟨r, rfl, hr⟩, hb2⟩; have HRR := Lib.hid (hr rfl); obtain ⟨ra, rc, rfl, -⟩ := (hr rfl).len; clear hr) | (go_at_call 101; refine (HPU.out _ _ (HOO.out.same hb2.block) HRR.out).mono ?_; rintro e w3 ⟨r3, rfl, hr3, hb3⟩; obtain ⟨pa, pc, rfl, -⟩ := hr3.len))
        go_ret
        exact ⟨_, rfl, by rw [show fillT m n 0 R S C = finL m n R S C from rfl, HFN.out]; exact hr3, hb2.trans (hb3.mono hb2.size)⟩
    · have hTl := hT.len
      have hz0 : 0 < T.length := by omega
      obtain ⟨b0, o0, c0, u0, rfl, hc0, hu0, -⟩ := h.at (w := w) 0 hz0
      obtain ⟨ua0, uc0, rfl, -⟩ := hu0.len
      have hrl0 := hT.row 0 hz0
      rw [show o0 + 0 = o0 from rfl, hrl0, hS] at hc0
      have t1 := (neB (show (i : Int) ≠ (T.length : Int) by omega)).1
      have hz1 : (0 : Int) < (T.length : Int) := by omega
      obtain ⟨r0, q0, rfl, -⟩ := ho.len
      have H := Lib.hid h; have HO := Lib.hid ho; have HT := Lib.hid hT; have HROW := Lib.hid hrow; have HSR := Lib.hid sR; have HSS := Lib.hid sS; have HSC := Lib.hid sC; have HL := Lib.hid hl; have HK := Lib.hid hk; have HF := Lib.hid hf
      by_cases hjn : j = n + 1
      · have hms : (m + 1 - (i + 1)) * (n + 1) + (n + 1 - 1) < f := by
          obtain ⟨d, hd⟩ : ∃ d, m + 1 - i = d + 1 := ⟨m - i, by omega⟩
          rw [hd, Nat.add_mul] at hf
          rw [show m + 1 - (i + 1) = d by omega]; omega
        have hke : k = m * n - ((i + 1 - 1) * n + (1 - 1)) := by
          obtain ⟨d, rfl⟩ : ∃ d, i = d + 1 := ⟨i - 1, by omega⟩
          rw [hk, hjn]; simp only [Nat.add_sub_cancel, Nat.add_mul]; omega
        have IHX := Lib.hid (ih k (i + 1) 1 T R S C L _ _ w hms h ho hT hR hS hC hrow sR sS sC (by omega) (by omega) (by omega) (by omega) hke hl)
        have t2 := (eqB (show (j : Int) = (n : Int) + 1 by omega)).1
        have hwi : IntKind.i64.wrap ((i : Int) + 1) = i + 1 := IntWalk.i64_in _ (by omega)
        clear h ho hT hrow sR sS sC hf hk hl ih hTl hms hke hu0 hrl0
        go_enter Tryz.func125, Tryz.ntmps125
        go_wp2_with (go_at_call 125; refine IHX.out.mono ?_; rintro e w2 ⟨r, rfl, hr, hb2⟩; obtain ⟨ra, rc, rfl, -⟩ := hr.len)
        go_ret
        exact ⟨_, rfl, hr, hb2⟩
      · obtain ⟨I, rfl⟩ : ∃ I, i = I + 1 := ⟨i - 1, by omega⟩
        obtain ⟨J, rfl⟩ : ∃ J, j = J + 1 := ⟨j - 1, by omega⟩
        simp only [Nat.add_sub_cancel] at hk
        have hI : I < m := by omega
        have hJ : J < n := by omega
        have hPl := place_lt hI hJ
        obtain ⟨k, rfl⟩ : ∃ k', k = k' + 1 := ⟨k - 1, by omega⟩
        have hpl := place I n J hJ
        have hpk : m * n - (k + 1) = I * n + J := by omega
        have hke : k = m * n - ((I + 1 - 1) * n + (J + 2 - 1)) := by rw [Nat.add_sub_cancel, show J + 2 - 1 = J + 1 by omega]; omega
        have HKE := Lib.hid hke
        clear hke
        have HFI : Hid (fillT m n (k + 1) R S C = (List.range (minX R S I J + 1)).flatMap fun (x : Nat) => fillT m n k (R.set I (R.getD I 0 - 2 ^ (J + 1) * (x : Int))) (S.set J (S.getD J 0 - x)) (setC C I J x)) := by
          show _ = _
          rw [fillT, hpk, hpl.1, hpl.2]
        have t2 := (neB (show ((J + 1 : Nat) : Int) ≠ (n : Int) + 1 by omega)).1
        have IH := Lib.hid ih
        clear h ho hT hrow sR sS sC hf hk hl hpl ih hu0 hrl0
        obtain ⟨st, hst⟩ : ∃ st : Int, st = 2 ^ (J + 1) := ⟨_, rfl⟩
        have hst2 : 2 ≤ st ∧ st ≤ 2199023255552 := by rw [hst]; exact pow_in J (by omega)
        have HST := Lib.hid hst
        have hx0 := HSR.out.at (by omega) I
        have hy0 := HSS.out.at (by omega) J
        obtain ⟨mx, hmx⟩ : ∃ mx : Nat, minX R S I J = mx := ⟨_, rfl⟩
        have HMX := Lib.hid hmx
        unfold minX at hmx
        rw [← hst] at hmx
        obtain ⟨q, hq⟩ : ∃ q : Nat, R.getD I 0 / st = q := ⟨(R.getD I 0 / st).toNat, by have := Int.ediv_nonneg hx0.1 (show 0 ≤ st by omega); omega⟩
        have hqx : (q : Int) ≤ R.getD I 0 := by rw [← hq]; exact Int.ediv_le_self _ hx0.1
        have HQ := Lib.hid hq
        rw [hq] at hmx
        have HP : Hid (∀ X : Nat, ((X : Int) * st ≤ R.getD I 0 ↔ (X : Int) ≤ q)) := fun X => by
          rw [← HQ.out]; exact (Int.le_ediv_iff_mul_le (by omega)).symm
        generalize hxr : R.getD I 0 = xr at *
        generalize hys : S.getD J 0 = ys at *
        have HXR := Lib.hid hxr; have HYS := Lib.hid hys
        have hmy : (mx : Int) ≤ ys := by omega
        have hmq : (mx : Int) ≤ q := by omega
        have hmo : (mx : Int) = q ∨ (mx : Int) = ys := by omega
        obtain ⟨F, hF⟩ : ∃ F : Nat → List (List Int), F = fun (X : Nat) => fillT m n k (R.set I (xr - st * (X : Int))) (S.set J (ys - X)) (setC C I J X) := ⟨_, rfl⟩
        have HFF : Hid (fillT m n (k + 1) R S C = (List.range (mx + 1)).flatMap F) := by
          show _ = _
          rw [HFI.out, hF]
          simp only [HMX.out, ← HST.out]
        have HFX := Lib.hid (fun X : Nat => congrFun hF X)
        have hlt0 : 0 < T.length := by omega
        have hltI : I + 1 < T.length := by omega
        have hr0 := HT.out.row 0 hlt0
        have hrI := HT.out.row (I + 1) hltI
        obtain ⟨b1, o1, c1, u1, hv1, hc1, hu1, -⟩ := H.out.at (w := w) (I + 1) hltI
        simp only [Value.slice.injEq, Option.some.injEq, Addr.mk.injEq, true_and, and_true] at hv1
        obtain ⟨⟨rfl, rfl⟩, rfl⟩ := hv1
        obtain ⟨ua1, uc1, rfl, -⟩ := hu1.len
        obtain ⟨b2, o2, c2, u2, hv2, hc2, hu2, -⟩ := H.out.at (w := w) 0 hlt0
        simp only [Value.slice.injEq, Option.some.injEq, Addr.mk.injEq, true_and, and_true] at hv2
        obtain ⟨⟨rfl, rfl⟩, rfl⟩ := hv2
        rw [show o0 + 0 = o0 from rfl, hc0] at hc2
        simp only [Option.some.injEq] at hc2
        subst hc2
        obtain ⟨b3, o3, c3, hv3, hc3, -⟩ := hu2.at (w := w) (J + 1) (by omega)
        obtain ⟨b4, o4, c4, hv4, hc4, -⟩ := hu1.at (w := w) 0 (by omega)
        simp only [Value.slice.injEq] at hv3 hv4
        obtain ⟨rfl, -, rfl⟩ := hv3
        obtain ⟨rfl, -, rfl⟩ := hv4
        rw [← getD_at', HT.out.at' 0 (J + 1) hlt0 (by omega), show tabAt R S C 0 (J + 1) = ys by rw [← HYS.out]; simp [tabAt]] at hc3
        rw [← getD_at', HT.out.at' (I + 1) 0 hltI (by omega), show tabAt R S C (I + 1) 0 = xr by rw [← HXR.out]; simp [tabAt], Nat.add_zero] at hc4
        have t1b := (neB (show (I : Int) + 1 ≠ (m : Int) + 1 by omega)).1
        have t2b := (neB (show (J : Int) + 1 ≠ (n : Int) + 1 by omega)).1
        rw [hrI, hS] at hc1
        have HC0 := Lib.hid hc0; have HC1 := Lib.hid hc1; have HC3 := Lib.hid hc3; have HC4 := Lib.hid hc4
        have HSW := Lib.hid (sh2_wrap J (by omega)); have HSL := Lib.hid hS
        have hTm : T.length = m + 1 := by omega
        rw [show ((I + 1 : Nat) : Int) = (I : Int) + 1 by omega, show ((J + 1 : Nat) : Int) = (J : Int) + 1 by omega, hTm]
        clear hxr hys hmx hq hF hqx hu1 hu2 hc1 hc3 hc4 hr0 hrI hst HFI HMX HQ t1 t2
        go_enter Tryz.func125, Tryz.ntmps125
        go_wp2_with fail
        go_loopw [3, 11] (fun o x wr => ∃ (X : Nat), X ≤ mx + 1 ∧ x = .int .i64 X ∧ IntSS wr.heap o (oddL (L ++ (List.range X).flatMap F)) ∧ Below w.heap.size w wr) (fun _ x _ => mx + 1 - (intOf x).toNat)
        case atStart => exact ⟨0, by omega, rfl, by simpa using HO.out, Below.refl _ _⟩
        case round =>
          obtain ⟨X, hX, rfl, hO1, hB1⟩ := hrel
          rename World => w1
          obtain ⟨r1, q1, rfl, -⟩ := hO1.len
          have HO1 := Lib.hid hO1; have HB1 := Lib.hid hB1
          have d0 := (hB1.cell (World.block_lt_of_cell? _ _ HC0.out)).trans HC0.out
          have d1 := (hB1.cell (World.block_lt_of_cell? _ _ HC1.out)).trans HC1.out
          have d3 := (hB1.cell (World.block_lt_of_cell? _ _ HC3.out)).trans HC3.out
          have d4 := (hB1.cell (World.block_lt_of_cell? _ _ HC4.out)).trans HC4.out
          clear hO1 hB1
          have hIi : (I : Int) + 1 < (T.length : Int) := by omega
          have hJi : (J : Int) + 1 < (n : Int) + 1 := by omega
          have hpb : 0 ≤ (X : Int) * st ∧ (X : Int) * st ≤ 1000000000000 + st := by
            refine ⟨Int.mul_nonneg (by omega) (by omega), ?_⟩
            have h1 := (HP.out mx).2 hmq
            have h2 : (X : Int) * st ≤ ((mx : Int) + 1) * st := Int.mul_le_mul_of_nonneg_right (by omega) (by omega)
            rw [Int.add_mul] at h2; omega
          obtain ⟨p, hp⟩ : ∃ p, (X : Int) * st = p := ⟨_, rfl⟩
          have HPX := HP.out X
          rw [hp] at hpb HPX
          have hpw : wrap64 ((X : Int) * 2 ^ (J + 1)) = p := by
            rw [← HST.out, hp]; unfold wrap64; omega
          have HPW := Lib.hid hpw
          clear hpw
          by_cases hXm : X ≤ mx
          · have hle : decide ((X : Int) ≤ ys) = true := decide_eq_true (by omega)
            have hpx := HPX.2 (by omega)
            have dle : decide (wrap64 ((X : Int) * 2 ^ (J + 1)) ≤ xr) = true := by rw [HPW.out]; exact decide_eq_true hpx
            have DLE := Lib.hid dle
            have H2 : Hid (IntSS w.heap (.slice (some ⟨b0, o0, none⟩) (m + 1) c0) T) := by show IntSS _ _ _; rw [← hTm]; exact H.out
            have OWN := Lib.hid (l01Own2_c _ T w1 (H2.out.same HB1.out.block) (by omega) (fun x hx => by
              obtain ⟨z, hz, rfl⟩ := List.getElem_of_mem hx
              rw [HT.out.row z hz]; omega))
            go_upto_region 12 with (go_at_call 135; refine OWN.out.mono ?_; rintro e w2 ⟨rn, us, rfl, hU, hb2⟩; obtain ⟨na, nn, nc, rfl⟩ := own_shape hU.row)
            obtain ⟨gn, cn, en, hgn⟩ := own_open hU.row (by omega)
            simp only [Value.slice.injEq] at en
            obtain ⟨rfl, rfl, rfl⟩ := en
            obtain ⟨g0, cap0, hu0⟩ := hU.rowAt 0 hlt0 (by rw [show T.getD 0 [] = T[0] by simp [hlt0], HT.out.row 0 hlt0]; omega)
            obtain ⟨g1, cap1, hu1⟩ := hU.rowAt (I + 1) hltI (by rw [show T.getD (I + 1) [] = T[I + 1] by simp [hltI], HT.out.row (I + 1) hltI]; omega)
            rw [show T.getD 0 [] = T[0] by simp [hlt0], HT.out.row 0 hlt0, HSL.out] at hu0
            rw [show T.getD (I + 1) [] = T[I + 1] by simp [hltI], HT.out.row (I + 1) hltI, HSL.out] at hu1
            have hne0 : us.length = T.length := hU.len
            have e0 := (World.ownsRow.cellAt hU.row 0 (by omega)).trans hu0
            have e1 := (World.ownsRow.cellAt hU.row (I + 1) (by omega)).trans hu1
            have HU2 := Lib.hid hU
            have HB2 := Lib.hid hb2
            have HU0 := Lib.hid hu0; have HU1 := Lib.hid hu1
            clear hU hb2 hu0 hu1 hne0 d0 d1 d3 d4
            go_quiet (fail)
            have HU3 := Lib.hid (HU2.out.drewN nq)
            have HB3 := Lib.hid (below_drewN nq HB2.out)
            generalize w2.drewN nq = w3 at *
            clear HU2 HB2 e0 e1 OWN
            obtain ⟨hg0, hp1, hp2, hp3⟩ := HU3.out.putI 0 hlt0 g0 cap0 (n + 1) HU0.out (J + 1) (by rw [show T.getD 0 [] = T[0] by simp [hlt0], HT.out.row 0 hlt0]; omega)
            rw [show T.getD 0 [] = T[0] by simp [hlt0], HT.out.at' 0 (J + 1) hlt0 (by omega), show tabAt R S C 0 (J + 1) = ys by rw [← HYS.out]; simp [tabAt]] at hp1
            have e4 : IntKind.i64.wrap (ys - (X : Int)) = ys - X := IntWalk.i64_in _ (by omega)
            have HU4 := Lib.hid (hp3 (ys - (X : Int)))
            have HB4 := Lib.hid (HB3.out.setCell (p := ⟨g0, J + 1, none⟩) hg0 (.int .i64 (ys - (X : Int))))
            clear hp3
            go_upto_region 14 with fail
            generalize w3.setCell ⟨g0, J + 1, none⟩ (.int .i64 (ys - (X : Int))) = w4 at *
            clear hp1 hp2 HU3 HB3
            have hlt4 : I + 1 < (T.set 0 ((T.getD 0 []).set (J + 1) (ys - (X : Int)))).length := by rw [List.length_set]; exact hltI
            have hrow4 : (T.set 0 ((T.getD 0 []).set (J + 1) (ys - (X : Int)))).getD (I + 1) [] = T.getD (I + 1) [] := by rw [List.getD_eq_getElem?_getD, List.getElem?_set_ne (by omega), ← List.getD_eq_getElem?_getD]
            have hlI : (T.getD (I + 1) []).length = n + 1 := by rw [show T.getD (I + 1) [] = T[I + 1] by simp [hltI], HT.out.row (I + 1) hltI]; omega
            obtain ⟨hg1, hp1, hp2, hp3⟩ := HU4.out.putI (I + 1) hlt4 g1 cap1 (n + 1) HU1.out 0 (by rw [hrow4, hlI]; omega)
            rw [hrow4, show T.getD (I + 1) [] = T[I + 1] by simp [hltI], HT.out.at' (I + 1) 0 hltI (by omega), show tabAt R S C (I + 1) 0 = xr by rw [← HXR.out]; simp [tabAt]] at hp1
            have e5 : IntKind.i64.wrap (xr - p) = xr - p := IntWalk.i64_in _ (by omega)
            have HP3 := Lib.hid hp3
            clear hp3 e4 e5
            go_upto_region 15 with fail
            clear dle hp1 hp2
            rw [HPW.out, show wrap64 (xr - p) = xr - p by unfold wrap64; omega]
            have HU5 := Lib.hid (HP3.out (xr - p))
            have HB5 := Lib.hid (HB4.out.setCell (p := ⟨g1, 0, none⟩) hg1 (.int .i64 (xr - p)))
            rw [hrow4] at HU5
            generalize w4.setCell ⟨g1, 0, none⟩ (.int .i64 (xr - p)) = w5 at *
            clear HP3 HU4 HB4
            generalize hT1 : T.set 0 ((T.getD 0 []).set (J + 1) (ys - (X : Int))) = T1 at *
            have hlt5 : I + 1 < (T1.set (I + 1) ((T.getD (I + 1) []).set 0 (xr - p))).length := by rw [List.length_set]; exact hlt4
            have hrow5 : (T1.set (I + 1) ((T.getD (I + 1) []).set 0 (xr - p))).getD (I + 1) [] = (T.getD (I + 1) []).set 0 (xr - p) := by simp [hlt4]
            obtain ⟨-, hp1, hp2, hp3⟩ := HU5.out.putI (I + 1) hlt5 g1 cap1 (n + 1) HU1.out (J + 1) (by rw [hrow5, List.length_set, hlI]; omega)
            have HU6 := Lib.hid (hp3 (X : Int))
            have HB6 := Lib.hid (HB5.out.setCell (p := ⟨g1, J + 1, none⟩) hg1 (.int .i64 (X : Int)))
            rw [hrow5, List.set_set] at HU6
            clear hp3
            generalize (List.getD (T1.set (I + 1) ((T.getD (I + 1) []).set 0 (xr - p))) (I + 1) []).getD (J + 1) 0 = zz at *
            go_upto_region 16 with fail
            generalize w5.setCell ⟨g1, J + 1, none⟩ (.int .i64 (X : Int)) = w6 at *
            clear hp1 hp2 HU5 HB5 hlt5 hrow5 hrow4 hlI hlt4
            have HTS := Lib.hid (HT.out.step (by omega) I J (by omega) (by omega) (fun x hx => by rw [HROW.out x hx, hS]) (xr - p) (ys - (X : Int)) (X : Int))
            rw [hT1] at HTS
            clear hT1
            have HFX1 := Lib.hid (HFX.out X)
            rw [Int.mul_comm, hp] at HFX1
            have hwJ : IntKind.i64.wrap ((J : Int) + 1 + 1) = J + 1 + 1 := IntWalk.i64_in _ (by omega)
            have CC := Lib.hid (IH.out k (I + 1) (J + 2) _ (R.set I (xr - p)) (S.set J (ys - (X : Int))) (setC C I J X) (L ++ (List.range X).flatMap F) (.slice (some ⟨gn, 0, none⟩) T.length nc) _ w6 (by have := HF.out; omega) HU6.out.ints (HO1.out.same HB6.out.block) HTS.out (by rw [List.length_set]; exact hR) (by rw [List.length_set]; exact hS) (by rw [setC_length]; exact hC) (setC_rows HROW.out I J X)
              (HSR.out.setI I _ (by omega) (by omega)) (HSS.out.setI J _ (by omega) (by omega)) (setC_sm HSC.out I J X (by omega) (by omega)) (by omega) (by omega) (by omega) (by omega) HKE.out (by
                rw [← HFX1.out, List.length_append]
                have h1 := flat_prefix F (mx + 1) X (by omega)
                have h2 := HL.out
                rw [HFF.out] at h2
                omega))
            rw [← HFX1.out, List.append_assoc, ← flat_succ] at CC
            rw [show ((J + 2 : Nat) : Int) = (J : Int) + 1 + 1 by omega, show ((I + 1 : Nat) : Int) = (I : Int) + 1 by omega, hTm] at CC
            have hXB : X ≤ 1000000000000 := by omega
            clear HU6 HTS HFX1 hpb hp HPX hpx hmo hmq hmy hx0 hy0 hst2 HU0 HU1 hg0 hg1 hgn hPl hpk hIi hJi H2 hle hlt0 hltI hc0 hi1 hj1 him hjn hTl hz0 hz1 hX
            go_wp2_with (go_at_call 125; (with_reducible refine CC.out.mono ?_); rintro e w7 ⟨r7, rfl, hr7, hb7⟩; obtain ⟨r8, r9, rfl, -⟩ := hr7.len)
            go_roundw
            case rel => exact ⟨X + 1, by omega, by go_num, by rw [show L ++ ((List.range X).flatMap F ++ F X) = L ++ (List.range (X + 1)).flatMap F by simp [List.range_succ]]; exact hr7, HB1.out.trans ((HB6.out.trans (hb7.mono HB6.out.size)).mono HB1.out.size)⟩
            case measure => simp [intOf]; omega
          · have hle2 : decide ((X : Int) ≤ ys) = false ∨ decide (wrap64 ((X : Int) * 2 ^ (J + 1)) ≤ xr) = false := by
              rcases hmo with e | e
              · right; rw [HPW.out]; exact decide_eq_false (fun h => by have := HPX.1 h; omega)
              · left; exact decide_eq_false (by omega)
            have HEX : Hid (X = mx + 1) := by show _ = _; omega
            have HX2 := Lib.hid hle2
            clear hle2
            by_cases hy : (X : Int) ≤ ys
            · have dle : decide (wrap64 ((X : Int) * 2 ^ (J + 1)) ≤ xr) = false := by
                rcases HX2.out with e | e
                · rw [decide_eq_true hy] at e; cases e
                · exact e
              go_wp2_with fail
              go_ret
              exact ⟨_, rfl, by rw [HFF.out, ← HEX.out]; exact HO1.out, HB1.out⟩
            · have dle : decide ((X : Int) ≤ ys) = false := decide_eq_false hy
              go_wp2_with fail
              go_ret
              exact ⟨_, rfl, by rw [HFF.out, ← HEX.out]; exact HO1.out, HB1.out⟩
end
section
open Go.RowKit Go.Sort

theorem fillT_len {m n : Nat} : ∀ (k : Nat) (R S : List Int) (C : List (List Int)), ∀ z ∈ fillT m n k R S C, z.length ≤ m + n := by
  intro k
  induction k with
  | zero =>
    intro R S C z hz
    rw [fillT, finL] at hz
    split at hz
    · rw [List.mem_singleton] at hz
      subst hz; exact trimF_len m n R S C
    · cases hz
  | succ k ih =>
    intro R S C z hz
    rw [fillT] at hz
    simp only [List.mem_flatMap, List.mem_range] at hz
    obtain ⟨x, -, hz⟩ := hz
    exact ih _ _ _ z hz
theorem basL_len (r s : List Int) : ∀ z ∈ basL r s, z.length ≤ r.length + s.length := fun z hz => fillT_len _ _ _ _ z hz
theorem mrg_odds (a b : List (List Int)) : mrg (oddL a) (oddL b) = oddL (a ++ b) := by
  rw [mrg_odd (asc_oddL a) (asc_oddL b), ← oddL_append', ← oddL_append]
/-- The first k + 1 rows of a table at its start. -/
def tabR (r s : List Int) (k : Nat) : List (List Int) := (0 :: s) :: (r.take k).map fun x => x :: List.replicate s.length 0
theorem tabR_succ (r s : List Int) (k : Nat) (h : k < r.length) : tabR r s (k + 1) = tabR r s k ++ [r.getD k 0 :: List.replicate s.length 0] := by
  unfold tabR
  rw [List.take_succ_eq_append_getElem h, List.map_append, List.cons_append]; simp [h]
theorem tabR_length (r s : List Int) (k : Nat) (h : k ≤ r.length) : (tabR r s k).length = k + 1 := by simp [tabR, h]
theorem tab_start (r s : List Int) : TabOf (tabR r s r.length) r s (List.replicate r.length (List.replicate s.length 0)) := by
  have hl := tabR_length r s r.length (Nat.le_refl _)
  have e0 : ∀ h, (tabR r s r.length)[0]'h = 0 :: s := fun _ => rfl
  have e1 : ∀ i h (hi : i < r.length), (tabR r s r.length)[i + 1]'h = r[i] :: List.replicate s.length 0 := fun i h hi => by simp [tabR]
  refine ⟨hl, fun i hi => ?_, fun i j hi hj => ?_⟩
  · match i with
    | 0 => rw [e0]; simp
    | i + 1 => rw [e1 i hi (by omega)]; simp
  · match i with
    | 0 =>
      rw [e0]
      match j with
      | 0 => rfl
      | j + 1 => simp [tabAt]
    | i + 1 =>
      rw [e1 i hi (by omega)]
      match j with
      | 0 => simp [tabAt, show i < r.length by omega]
      | j + 1 => simp [tabAt, show i < r.length by omega, show j < s.length by omega]
theorem ownI_lit1 {w : World} {B : Nat} (hB : B ≤ w.heap.size) (x : Int) : OwnI (w.alloc (.cells #[.int .i64 x] 2)) B (.slice (some ⟨w.heap.size, 0, none⟩) 1 1) [x] :=
  World.ownsRow_lit (e := 2) (size := 1) w #[.int .i64 x] 1 hB (by unfold maxLen; omega) rfl
theorem own_lit1 {w : World} {B : Nat} {u : Value} {xs : List Int} (hu : OwnI w B u xs) (hB : B ≤ w.heap.size) : OwnU (w.alloc (.cells #[u] 22)) B (.slice (some ⟨w.heap.size, 0, none⟩) 1 1) [u] [xs] := by
  refine ⟨World.ownsRow_lit (e := 22) (size := 1) w #[u] 1 hB (by unfold maxLen; omega) rfl, fun i x ys hx hy => ?_, fun i j x x' hij hx hx' => ?_⟩
  · match i, hx, hy with
    | 0, hx, hy =>
      simp at hx hy
      subst hx; subst hy; exact hu.same (alloc_old w _)
  · match j, hx' with
    | 0, _ => omega
    | j + 1, hx' => simp at hx'
set_option maxRecDepth 100000 in
set_option maxHeartbeats 1000000 in
theorem l04Product_c (v u : Value) (r s : List Int) (w : World) (h : IntS w.heap v r) (hu : IntS w.heap u s) (hr : Sm 1000000000000 r) (hs : Sm 1000000000000 s) (hl : r.length ≤ 20) (hl2 : s.length ≤ 20) (hb : (basL r s).length < 4398046511104) :
    Calls Tryz.prog 104 #[v, u] w fun e w' => ∃ x, e = .returned x ∧ IntSS w'.heap x (oddL (basL r s)) ∧ Below w.heap.size w w' := by
  have F : Hid (∀ (W : World) (t o : Value), IntSS W.heap t (tabR r s r.length) → IntSS W.heap o [] → Calls Tryz.prog 125 #[t, .int .i64 1, .int .i64 1, o] W fun e w' => ∃ x, e = .returned x ∧ IntSS w'.heap x (oddL (basL r s)) ∧ Below W.heap.size W w') := fun W t o ht ho =>
    l04Fill_c hl hl2 ((r.length + 1 - 1) * (s.length + 1) + (s.length + 1 - 1) + 1) (r.length * s.length) 1 1 (tabR r s r.length) r s (List.replicate r.length (List.replicate s.length 0)) [] t o W (Nat.lt_succ_self _) ht ho (tab_start r s) rfl rfl (by simp) (by intro x hx; rw [List.mem_replicate] at hx; rw [hx.2]; simp) hr hs (by
      intro x hx y hy
      rw [List.mem_replicate] at hx
      rw [hx.2, List.mem_replicate] at hy
      omega) (by omega) (by omega) (by omega) (by omega) (by simp) (by show 0 + (basL r s).length < _; omega)
  obtain ⟨ao, c, rfl, -⟩ := h.len
  obtain ⟨bo, d, rfl, -⟩ := hu.len
  have H := Lib.hid h
  have HU1 := Lib.hid (hu.same (alloc_old w (.cells #[.int .i64 0] 2)))
  have hsz : w.heap.size ≤ (w.alloc (.cells #[.int .i64 0] 2)).heap.size := by simp
  clear h hu hr hs hb
  have hmk := fun w => make_run (P := Tryz.prog) 22 2 _ 8 info_int64 Tryz.underlying22 rfl (by omega) (s.length + 1) (by omega) .i64 .i64 ((s.length : Int) + 1) ((s.length : Int) + 1) (by omega) (by omega) w
  have hwl : IntKind.i64.wrap ((s.length : Int) + 1) = s.length + 1 := IntWalk.i64_in _ (by omega)
  go_enter Tryz.func104, Tryz.ntmps104
  go_wp2_with (at_builtin; refine append_ints rfl _ _ rfl w.heap.size _ _ [0] s (ownI_lit1 (Nat.le_refl _) 0) rfl HU1.out rfl ((Below.refl _ _).alloc (Nat.le_refl _) _) hsz (by simp; omega) ?_; intro v' w' hown' hbl' _ _; obtain ⟨va, vn, vc, rfl⟩ := own_shape hown'; have HOW := Lib.hid hown'; have HBW := Lib.hid hbl'; clear hown' hbl')
  go_loopw [5, 6] (fun t i wr => ∃ (k : Nat) (us : List Value), k ≤ r.length ∧ i = .int .i64 k ∧ OwnU wr w.heap.size t us (tabR r s k) ∧ Below w.heap.size w wr) (fun _ i _ => r.length - (intOf i).toNat)
  case atStart => exact ⟨0, _, by omega, rfl, own_lit1 HOW.out HBW.out.size, HBW.out.alloc HBW.out.size _⟩
  case round =>
    obtain ⟨k, us, hk, rfl, hU, hbl⟩ := hrel
    obtain ⟨ta, tn, tc, rfl⟩ := own_shape hU.row
    have HT := Lib.hid hU; have HBL := Lib.hid hbl
    by_cases hkl : k < r.length
    · obtain ⟨b1, o1, c1, hv1, hc1, -⟩ := H.out.at k hkl
      simp only [Value.slice.injEq, true_and] at hv1
      obtain ⟨rfl, rfl⟩ := hv1
      rw [← getD_at'] at hc1
      have hcx := (hbl.cell (World.block_lt_of_cell? _ _ hc1)).trans hc1
      have hki : (k : Int) < r.length := by omega
      have HS := Lib.hid (tabR_succ r s k hkl)
      have HL : Hid ((tabR r s k).length ≤ 4398046511104) := by show _ ≤ _; rw [tabR_length r s k hk]; omega
      clear hc1 hU hbl
      generalize r.getD k 0 = x at *
      go_upto_region 6 with fail
      have hmo := made_own wr wr.heap.size 2 (s.length + 1) (.int .i64 0) (Nat.le_refl _) (by omega)
      obtain ⟨W5, hW5⟩ : ∃ W5, W5 = wr.alloc (.cells (madeCells #[.int .i64 0] (s.length + 1)) 2) := ⟨_, rfl⟩
      have hb5 : Below wr.heap.size wr W5 := by rw [hW5]; exact (Below.refl _ _).alloc (Nat.le_refl _) _
      rw [← hW5] at hmo ⊢
      have hmo2 : W5.ownsRow wr.heap.size 2 1 (.slice (some ⟨wr.heap.size, 0, none⟩) (s.length + 1) (s.length + 1)) (s.length + 1) ((List.replicate (s.length + 1) (0 : Int)).map (Value.int .i64)) := by simpa using hmo
      have q0 := own_int_at hmo2 0 (by omega)
      rw [show (List.replicate (s.length + 1) (0 : Int)).getD 0 0 = 0 by simp] at q0
      have f0 := hmo2.frozenAt 0
      have hst := own_int_set hmo2 0 x
      rw [show (List.replicate (s.length + 1) (0 : Int)).set 0 x = x :: List.replicate s.length 0 by rw [List.replicate_succ]; rfl] at hst
      have hc5 := (hb5.cell (World.block_lt_of_cell? _ _ hcx)).trans hcx
      have hb6 := hb5.setCell (p := ⟨wr.heap.size, 0, none⟩) (Nat.le_refl _) (.int .i64 x)
      have HST : Hid (OwnI (W5.setCell ⟨wr.heap.size, 0, none⟩ (.int .i64 x)) wr.heap.size (.slice (some ⟨wr.heap.size, 0, none⟩) (s.length + 1) (s.length + 1)) (x :: List.replicate s.length 0)) := by
        show OwnI _ _ _ _
        unfold OwnI
        simpa using hst
      have HB6 := Lib.hid hb6
      have hwr := HBL.out.size
      clear hmo hmo2 hst hb5 hb6 hW5 hcx
      go_wp2_with (at_builtin; refine append_rowU rfl _ _ rfl w.heap.size _ _ us _ _ HT.out rfl HST.out HB6.out HBL.out hwr _ rfl (by simp [World.setCell]) HL.out ?_; intro v7 w7 hU7 hb7 _ _ _ _; obtain ⟨ua, un, uc, rfl⟩ := own_shape hU7.row)
      go_roundw
      case rel => exact ⟨k + 1, _, by omega, by go_num, by rw [HS.out]; exact hU7, hb7⟩
      case measure => simp [intOf]; omega
    · obtain rfl : k = r.length := by omega
      have hE := ((hbl.trans ((Below.refl wr.heap.size wr).mono hbl.size)).alloc hbl.size (.cells #[] 22))
      have HX := Lib.hid (HT.out.ints.same (alloc_old wr (.cells #[] 22)))
      have HE := Lib.hid (show IntSS (wr.alloc (.cells #[] 22)).heap (.slice (some ⟨wr.heap.size, 0, none⟩) 0 0) [] from (ownII_empty (w := wr) (B := wr.heap.size) (Nat.le_refl _)).ints)
      have HBE := Lib.hid hE
      clear hU hbl hE
      go_wp2_with (go_at_call 125; refine (F.out _ _ _ HX.out HE.out).mono ?_; rintro e w8 ⟨r8, rfl, hr8, hb8⟩; obtain ⟨ja, jc, rfl, -⟩ := hr8.len)
      go_ret
      exact ⟨_, rfl, hr8, HBE.out.trans (hb8.mono HBE.out.size)⟩
set_option maxRecDepth 100000 in
set_option maxHeartbeats 1000000 in
theorem l04Times_c (v u : Value) (a b : List (List Int)) (w : World) (h : IntSS w.heap v a) (hu : IntSS w.heap u b) (ha : SmS 1000000000000 20 a) (hb : SmS 1000000000000 20 b) (hl : (prodsL a b).length < 4398046511104) :
    Calls Tryz.prog 84 #[v, u] w fun e w' => ∃ r us, e = .returned r ∧ OwnU w' w.heap.size r us (oddL (prodsL a b)) ∧ Below w.heap.size w w' := by
  obtain ⟨ao, c, rfl, hla⟩ := h.len
  obtain ⟨bo, d, rfl, hlb⟩ := hu.len
  have H := Lib.hid h; have HU := Lib.hid hu
  have HA := Lib.hid ha; have HB := Lib.hid hb; have HL := Lib.hid hl
  clear h hu ha hb hl
  go_enter Tryz.func84, Tryz.ntmps84
  go_wp2_with fail
  go_loopw [5, 6] (fun o i wr => ∃ (x : Nat) (us : List Value), x ≤ a.length ∧ i = .int .i64 x ∧ OwnU wr w.heap.size o us (oddL (prodsL (a.take x) b)) ∧ Below w.heap.size w wr) (fun _ i _ => a.length - (intOf i).toNat)
  case atStart => exact ⟨0, [], Nat.zero_le _, rfl, ⟨World.ownsRow_made w #[] 0 (Nat.le_refl _) (Nat.zero_le _) rfl, fun i u xs hu => by simp at hu, fun i j u u' _ hu => by simp at hu⟩, (Below.refl _ _).alloc (Nat.le_refl _) _⟩
  case round =>
    obtain ⟨x, us, hx, rfl, hU, hbl⟩ := hrel
    obtain ⟨va, vn, vc, rfl⟩ := own_shape hU.row
    have HO := Lib.hid hU; have HBL := Lib.hid hbl
    clear hU hbl
    by_cases hxl : x < a.length
    · obtain ⟨b1, o1, c1, u1, hv1, hc1, hu1, -⟩ := H.out.at x hxl
      simp only [Value.slice.injEq, true_and] at hv1
      obtain ⟨rfl, rfl⟩ := hv1
      have HCX := Lib.hid hc1
      have HU1 := Lib.hid hu1
      obtain ⟨ua, uc, rfl, -⟩ := hu1.len
      have HRX := Lib.hid (HA.out _ (List.getElem_mem hxl))
      have HSX := Lib.hid (prodsL_take a b x hxl)
      have HLX : Hid (∀ y (hy : y < b.length), (prodsL (a.take x) b ++ (b.take y).flatMap (basL a[x])).length + (basL a[x] b[y]).length < 4398046511104) := fun y hy => by
        rw [List.length_append]
        have := prods_prefix a b x y hxl hy; have := HL.out; omega
      have HTX : Hid (∀ y, ∀ z ∈ prodsL (a.take x) b ++ (b.take y).flatMap (basL a[x]), z.length ≤ 40) := fun y z hz => by
        rw [List.mem_append] at hz
        rcases hz with hz | hz
        · simp only [prodsL, List.mem_flatMap] at hz
          obtain ⟨r, hr, s, hs, hz⟩ := hz
          have := basL_len r s z hz; have := (HA.out _ (List.mem_of_mem_take hr)).2; have := (HB.out _ hs).2; omega
        · simp only [List.mem_flatMap] at hz
          obtain ⟨s, hs, hz⟩ := hz
          have := basL_len _ s z hz; have := (HA.out _ (List.getElem_mem hxl)).2; have := (HB.out _ (List.mem_of_mem_take hs)).2; omega
      have hxi : (x : Int) < a.length := by omega
      clear hc1 hu1
      generalize a[x] = r at *
      go_wp2_with fail
      go_loopw [5, 7] (fun o j wk => ∃ (y : Nat) (us : List Value), y ≤ b.length ∧ j = .int .i64 y ∧ OwnU wk w.heap.size o us (oddL (prodsL (a.take x) b ++ (b.take y).flatMap (basL r))) ∧ Below w.heap.size w wk) (fun _ j _ => b.length - (intOf j).toNat)
      case atStart => exact ⟨0, us, Nat.zero_le _, rfl, by simpa using HO.out, HBL.out⟩
      case round =>
        obtain ⟨y, us2, hy, rfl, hU2, hbl2⟩ := hrel
        obtain ⟨ta, tn, tc, rfl⟩ := own_shape hU2.row
        have HO2 := Lib.hid hU2; have HBL2 := Lib.hid hbl2
        clear hU2 hbl2
        by_cases hyl : y < b.length
        · obtain ⟨b2, o2, c2, u2, hv2, hc2, hu2, -⟩ := HU.out.at y hyl
          simp only [Value.slice.injEq, true_and] at hv2
          obtain ⟨rfl, rfl⟩ := hv2
          have hcx := (HBL2.out.cell (World.block_lt_of_cell? _ _ HCX.out)).trans HCX.out
          have hcy := (HBL2.out.cell (World.block_lt_of_cell? _ _ hc2)).trans hc2
          have HU2 := Lib.hid hu2
          obtain ⟨ub, ud, rfl, -⟩ := hu2.len
          have HRY := Lib.hid (HB.out _ (List.getElem_mem hyl))
          have HLY := Lib.hid (HLX.out y hyl)
          have HTY := Lib.hid (HTX.out y)
          have HS2 : Hid (prodsL (a.take x) b ++ (b.take (y + 1)).flatMap (basL r) = (prodsL (a.take x) b ++ (b.take y).flatMap (basL r)) ++ basL r b[y]) := by
            show _ = _
            rw [List.take_succ_eq_append_getElem hyl, List.flatMap_append, List.append_assoc]; simp
          have hyi : (y : Int) < b.length := by omega
          clear hc2 hu2
          generalize b[y] = s at *
          generalize prodsL (a.take x) b ++ (b.take y).flatMap (basL r) = os at *
          generalize hps : basL r s = ps at *
          have HLZ : Hid ((oddL os).length + (oddL ps).length ≤ 4398046511104) := by show _ ≤ _; have := oddL_length os; have := oddL_length ps; have := HLY.out; omega
          have HTZ : Hid (∀ z ∈ oddL os, z.length ≤ 4398046511104) := fun z hz => by have := HTY.out z (mem_oddL_sub hz); omega
          have HJZ : Hid (∀ z ∈ oddL ps, z.length ≤ 4398046511104) := fun z hz => by rw [← hps] at hz; have := basL_len r s z (mem_oddL_sub hz); have := HRX.out.2; have := HRY.out.2; omega
          have HPS := Lib.hid hps
          clear hps
          go_wp2_with fail
          go_region_held3 (fun W => W.cell? ⟨b1, o1 + x, none⟩ = some (.slice ua r.length uc) ∧ W.cell? ⟨b2, o2 + y, none⟩ = some (.slice ub s.length ud) ∧ Below wr.heap.size wr W)
            (first | exact ⟨hcx, hcy, (Below.refl _ _).drew⟩ | exact heldC2 (by assumption) hx | exact heldC2A (by assumption) _)
            (first | (go_at_call 104; refine Calls.mono (l04Product_c _ _ r s _ (HU1.out.same (HBL2.out.trans ((heldC2X (by assumption)).mono HBL2.out.size)).block) (HU2.out.same (HBL2.out.trans ((heldC2X (by assumption)).mono HBL2.out.size)).block) HRX.out.1 HRY.out.1 HRX.out.2 HRY.out.2 (by rw [HPS.out]; have := HLY.out; omega)) ?_; rintro e W3 ⟨rv, rfl, hR2, hx⟩; rw [HPS.out] at hR2; obtain ⟨ra, rc, rfl, -⟩ := hR2.len) | (go_at_call 60; refine Calls.mono (l01Sum_c _ _ (oddL os) (oddL ps) _ (HO2.out.ints.same (heldC2X (by assumption)).block) hR2 HLZ.out HTZ.out HJZ.out) ?_; rintro e W4 ⟨rw3, rfl, ⟨us3, hU3⟩, hx⟩; obtain ⟨sa, sn, sc, rfl⟩ := own_shape hU3.row))
          all_goals
            rename_i hx3 hh
            rw [mrg_odds] at hU3
            have hz3 : wr.heap.size ≤ W3.heap.size := hx3.size
            have HB4 := Lib.hid (HBL2.out.trans (hh.2.2.mono HBL2.out.size))
            have HU4 := Lib.hid (own_u_base (B' := w.heap.size) hU3 (by have := HBL2.out.size; omega))
            clear hh hx hU3 hR2 hcx hcy hx3 hz3
            go_wp2_with fail
            go_roundw
            case rel => exact ⟨y + 1, us3, by omega, by go_num, by rw [HS2.out]; exact HU4.out, HB4.out⟩
            case measure => simp [intOf]; omega
        · obtain rfl : y = b.length := by omega
          rw [List.take_length, ← HSX.out] at HO2
          go_wp2_with fail
          go_roundw
          case rel => exact ⟨x + 1, us2, by omega, by go_num, HO2.out, HBL2.out⟩
          case measure => simp [intOf]; omega
    · obtain rfl : x = a.length := by omega
      rw [List.take_length] at HO
      go_wp2_with fail
      go_ret
      exact ⟨_, _, rfl, HO.out, HBL.out⟩
end
section
open Go.RowKit Go.Sort

theorem lead_drop : ∀ (r : List Int) (j : Nat), (leadL r).drop j = leadL (r.drop j)
  | [], j => by simp [leadL]
  | x :: r, 0 => rfl
  | x :: r, j + 1 => by rw [leadL, List.drop_succ_cons, List.drop_succ_cons, lead_drop r j]
theorem lead_len : ∀ r : List Int, (leadL r).length = r.length
  | [] => rfl
  | x :: r => by rw [leadL, List.length_cons, List.length_cons, lead_len r]
theorem exp_drop : ∀ (j : Nat) (r : List Int), isExp r = true → deg r ≤ 40 → isExp (r.drop j) = true ∧ deg (r.drop j) ≤ 40
  | 0, r, h, hd => ⟨h, hd⟩
  | j + 1, [], h, hd => ⟨h, hd⟩
  | j + 1, x :: r, h, hd => by
    have h1 := wt_pos (x :: r) h (by simp)
    have h2 := deg_cons x r
    exact exp_drop j r (isExp_tail h) (by omega)
/-- What one step of the product of a word asks and gives. -/
theorem word_step {r : List Int} (hr : isExp r = true) (hd : deg r ≤ 40) (j : Nat) (hj : j < (leadL r).length) :
    SmS 1000000000000 20 [[(leadL r)[j]]] ∧ SmS 1000000000000 20 (wordA ((leadL r).drop (j + 1))) ∧ (prodsL [[(leadL r)[j]]] (wordA ((leadL r).drop (j + 1)))).length < 4398046511104 ∧ (∀ x ∈ prodsL [[(leadL r)[j]]] (wordA ((leadL r).drop (j + 1))), x.length ≤ 4398046511104) ∧
    oddL (prodsL [[(leadL r)[j]]] (wordA ((leadL r).drop (j + 1)))) = wordA ((leadL r).drop j) := by
  have hj2 := hj
  rw [lead_len] at hj2
  obtain ⟨h1, h2⟩ := exp_drop j r hr hd
  have hdr : r.drop j = r[j] :: r.drop (j + 1) := List.drop_eq_getElem_cons hj2
  have e : (leadL r).drop j = wtR (r.drop j) :: (leadL r).drop (j + 1) := by rw [lead_drop, lead_drop, hdr]; rfl
  have e2 : (leadL r)[j] = wtR (r.drop j) := by
    have := List.drop_eq_getElem_cons hj
    rw [e] at this
    simp only [List.cons.injEq, and_true] at this
    exact this.symm
  rw [e2, e]
  obtain ⟨x0, hx0⟩ : ∃ x0, r[j] = x0 := ⟨_, rfl⟩
  obtain ⟨r', hr'⟩ : ∃ r', r.drop (j + 1) = r' := ⟨_, rfl⟩
  rw [hx0, hr'] at hdr
  rw [hdr] at h1 h2 ⊢
  have ht := isExp_tail h1
  have hw := wt_pos _ h1 (by simp)
  have hn := deg_nn ht
  have hdc := deg_cons x0 r'
  rw [lead_drop, hr']
  obtain ⟨i1, i2, -, -⟩ := lead_main r' ht (by omega)
  have o1 := isExp_one hw (by omega)
  have e1 : ExpD (wtR (x0 :: r')) [[wtR (x0 :: r')]] := fun s hs => by rw [List.mem_singleton.1 hs]; exact o1
  obtain ⟨p1, p2, p3, p4⟩ := prods_ok e1 i1 (by omega) hn (by omega) (List.pairwise_singleton ..) i2
  exact ⟨p1, p2, by omega, fun x hx => by have := p4 x hx; omega, rfl⟩
theorem word_end (r : List Int) : wordA ((leadL r).drop (leadL r).length) = [[]] := by rw [List.drop_length]; rfl
theorem ownI_litW {w : World} {B : Nat} (hB : B ≤ w.heap.size) (x : Int) : OwnI (w.alloc (.cells #[.int .i64 x] 2)) B (.slice (some ⟨w.heap.size, 0, none⟩) 1 1) [x] :=
  World.ownsRow_lit (e := 2) (size := 1) w #[.int .i64 x] 1 hB (by unfold maxLen; omega) rfl
set_option maxRecDepth 100000 in
set_option maxHeartbeats 400000 in
theorem l05Word_c (v : Value) (r : List Int) (w : World) (hr : isExp r = true) (hd : deg r ≤ 40) (h : IntS w.heap v (leadL r)) :
    Calls Tryz.prog 58 #[v] w fun e w' => ∃ o, e = .returned o ∧ IntSS w'.heap o (wordA (leadL r)) ∧ Below w.heap.size w w' := by
  have HST := Lib.hid (fun j hj => word_step hr hd j hj)
  have HEN := Lib.hid (word_end r)
  have hll : (leadL r).length ≤ 5 := by rw [lead_len]; exact exp_len5 hr hd
  generalize leadL r = wd at *
  obtain ⟨ao, c, rfl, -⟩ := h.len
  have H := Lib.hid h; clear h
  have hs1 : (w.alloc (.cells #[] 2)).heap.size = w.heap.size + 1 := by simp
  have HE0 := Lib.hid (one_row (W := w.alloc (.cells #[] 2)) (ownI_empty (w := w) (B := w.heap.size) (Nat.le_refl _)).ints)
  rw [hs1] at HE0
  clear hs1
  go_enter Tryz.func58, Tryz.ntmps58
  go_wp2_with fail
  go_loopw [3, 4] (fun o i wr => ∃ (j : Nat) (z : Int), z = (j : Int) - 1 ∧ j ≤ wd.length ∧ i = .int .i64 z ∧ IntSS wr.heap o (wordA (wd.drop j)) ∧ Below w.heap.size w wr) (fun _ i _ => (intOf i + 1).toNat)
  case atStart => exact ⟨wd.length, _, rfl, Nat.le_refl _, rfl, by rw [HEN.out]; exact HE0.out, ((Below.refl _ _).alloc (Nat.le_refl _) _).alloc (by simp) _⟩
  case round =>
    obtain ⟨j, z, hz, hj, rfl, ho, hbl⟩ := hrel
    obtain ⟨oa, oc, rfl, -⟩ := ho.len
    have HO := Lib.hid ho; have HB := Lib.hid hbl
    have hsz := hbl.size
    clear ho hbl
    by_cases hj0 : j = 0
    · subst hj0
      obtain rfl : z = -1 := by omega
      clear HST HEN hz hj
      (go_wp2_with fail; go_ret; exact ⟨_, rfl, by have := HO.out; rwa [List.drop_zero] at this, HB.out⟩)
    · obtain ⟨q, rfl⟩ : ∃ q, j = q + 1 := ⟨j - 1, by omega⟩
      obtain rfl : z = (q : Int) := by omega
      obtain ⟨b1, o1, c1, hv1, hc1, -⟩ := (H.out.same HB.out.block).at (w := wr) q (by omega)
      simp only [Value.slice.injEq, true_and] at hv1
      obtain ⟨rfl, rfl⟩ := hv1
      obtain ⟨p1, p2, p3, p4, p5⟩ := HST.out q (by omega)
      have HP1 := Lib.hid p1; have HP2 := Lib.hid p2; have HP3 := Lib.hid p3; have HP4 := Lib.hid p4; have HP5 := Lib.hid p5
      have hqi : (q : Int) < (wd.length : Int) := by omega
      have hq0 : (0 : Int) ≤ (q : Int) := by omega
      clear p1 p2 p3 p4 p5 HST HEN hz
      generalize wd[q] = n at *
      generalize wordA (wd.drop (q + 1)) = Bq at *
      have hs2 : (wr.alloc (.cells #[.int .i64 n] 2)).heap.size = wr.heap.size + 1 := by simp
      have HL1 := Lib.hid (one_row (W := wr.alloc (.cells #[.int .i64 n] 2)) (ownI_litW (w := wr) (B := wr.heap.size) (Nat.le_refl _) n).ints)
      rw [hs2] at HL1
      have hs3 : wr.heap.size ≤ ((wr.alloc (.cells #[.int .i64 n] 2)).alloc (.cells #[.slice (some ⟨wr.heap.size, 0, none⟩) 1 1] 22)).heap.size := by simp; omega
      have HBA := Lib.hid ((HB.out.alloc hsz (.cells #[.int .i64 n] 2)).alloc (by simp; omega) (.cells #[.slice (some ⟨wr.heap.size, 0, none⟩) 1 1] 22))
      have HCC := Lib.hid (l04Times_c (.slice (some ⟨wr.heap.size + 1, 0, none⟩) 1 1) (.slice oa Bq.length oc) [[n]] Bq ((wr.alloc (.cells #[.int .i64 n] 2)).alloc (.cells #[.slice (some ⟨wr.heap.size, 0, none⟩) 1 1] 22)) HL1.out ((HO.out.same (alloc_old _ _)).same (alloc_old _ _)) HP1.out HP2.out HP3.out)
      clear hs2
      go_wp2_with (go_at_call 84; refine HCC.out.mono ?_; rintro e w2 ⟨r2, us2, rfl, hU2, hb2⟩; obtain ⟨pa, pn, pc, rfl⟩ := own_shape hU2.row; have HU := Lib.hid hU2.ints; have HB2 := Lib.hid (HBA.out.trans (hb2.mono (Nat.le_trans hsz hs3))); clear hU2 hb2)
      go_roundw
      case rel => exact ⟨q, (q : Int) - 1, rfl, by omega, by go_num, by rw [← HP5.out]; exact HU.out, HB2.out⟩
      case measure => simp [intOf]
set_option maxRecDepth 100000 in
set_option maxHeartbeats 400000 in
theorem milnorOfWord_of (SO : SortOk) (v : Value) (r : List Int) (w : World) (hr : isExp r = true) (hd : deg r ≤ 40) (h : IntS w.heap v (leadL r)) :
    Calls Tryz.prog 49 #[v] w fun e w' => ∃ o, e = .returned o ∧ IntSS w'.heap o (wordA (leadL r)) ∧ Below w.heap.size w w' := by
  have HST := Lib.hid (fun j hj => word_step hr hd j hj)
  have HEN := Lib.hid (word_end r)
  have hll : (leadL r).length ≤ 5 := by rw [lead_len]; exact exp_len5 hr hd
  generalize leadL r = wd at *
  obtain ⟨ao, c, rfl, -⟩ := h.len
  have H := Lib.hid h; clear h
  have hs1 : (w.alloc (.cells #[] 2)).heap.size = w.heap.size + 1 := by simp
  have HE0 := Lib.hid (one_row (W := w.alloc (.cells #[] 2)) (ownI_empty (w := w) (B := w.heap.size) (Nat.le_refl _)).ints)
  rw [hs1] at HE0
  clear hs1
  go_enter Tryz.func49, Tryz.ntmps49
  go_wp2_with fail
  go_loopw [3, 4] (fun o i wr => ∃ (j : Nat) (z : Int), z = (j : Int) - 1 ∧ j ≤ wd.length ∧ i = .int .i64 z ∧ IntSS wr.heap o (wordA (wd.drop j)) ∧ Below w.heap.size w wr) (fun _ i _ => (intOf i + 1).toNat)
  case atStart => exact ⟨wd.length, _, rfl, Nat.le_refl _, rfl, by rw [HEN.out]; exact HE0.out, ((Below.refl _ _).alloc (Nat.le_refl _) _).alloc (by simp) _⟩
  case round =>
    obtain ⟨j, z, hz, hj, rfl, ho, hbl⟩ := hrel
    obtain ⟨oa, oc, rfl, -⟩ := ho.len
    have HO := Lib.hid ho; have HB := Lib.hid hbl
    have hsz := hbl.size
    clear ho hbl
    by_cases hj0 : j = 0
    · subst hj0
      obtain rfl : z = -1 := by omega
      clear HST HEN hz hj
      (go_wp2_with fail; go_ret; exact ⟨_, rfl, by have := HO.out; rwa [List.drop_zero] at this, HB.out⟩)
    · obtain ⟨q, rfl⟩ : ∃ q, j = q + 1 := ⟨j - 1, by omega⟩
      obtain rfl : z = (q : Int) := by omega
      obtain ⟨b1, o1, c1, hv1, hc1, -⟩ := (H.out.same HB.out.block).at (w := wr) q (by omega)
      simp only [Value.slice.injEq, true_and] at hv1
      obtain ⟨rfl, rfl⟩ := hv1
      obtain ⟨p1, p2, p3, p4, p5⟩ := HST.out q (by omega)
      have HP1 := Lib.hid p1; have HP2 := Lib.hid p2; have HP3 := Lib.hid p3; have HP4 := Lib.hid p4; have HP5 := Lib.hid p5
      have hqi : (q : Int) < (wd.length : Int) := by omega
      have hq0 : (0 : Int) ≤ (q : Int) := by omega
      clear p1 p2 p3 p4 p5 HST HEN hz
      generalize wd[q] = n at *
      generalize wordA (wd.drop (q + 1)) = Bq at *
      have hs2 : (wr.alloc (.cells #[.int .i64 n] 2)).heap.size = wr.heap.size + 1 := by simp
      have HL1 := Lib.hid (one_row (W := wr.alloc (.cells #[.int .i64 n] 2)) (ownI_litW (w := wr) (B := wr.heap.size) (Nat.le_refl _) n).ints)
      rw [hs2] at HL1
      have hs3 : wr.heap.size ≤ ((wr.alloc (.cells #[.int .i64 n] 2)).alloc (.cells #[.slice (some ⟨wr.heap.size, 0, none⟩) 1 1] 22)).heap.size := by simp; omega
      have HBA := Lib.hid ((HB.out.alloc hsz (.cells #[.int .i64 n] 2)).alloc (by simp; omega) (.cells #[.slice (some ⟨wr.heap.size, 0, none⟩) 1 1] 22))
      have HCC := Lib.hid (multiplied_of SO (.slice (some ⟨wr.heap.size + 1, 0, none⟩) 1 1) (.slice oa Bq.length oc) [[n]] Bq ((wr.alloc (.cells #[.int .i64 n] 2)).alloc (.cells #[.slice (some ⟨wr.heap.size, 0, none⟩) 1 1] 22)) HL1.out ((HO.out.same (alloc_old _ _)).same (alloc_old _ _)) HP1.out HP2.out HP3.out HP4.out)
      clear hs2
      go_wp2_with (go_at_call 77; refine HCC.out.mono ?_; rintro e w2 ⟨r2, us2, rfl, hU2, hb2⟩; obtain ⟨pa, pn, pc, rfl⟩ := own_shape hU2.row; have HU := Lib.hid hU2.ints; have HB2 := Lib.hid (HBA.out.trans (hb2.mono (Nat.le_trans hsz hs3))); clear hU2 hb2)
      go_roundw
      case rel => exact ⟨q, (q : Int) - 1, rfl, by omega, by go_num, by rw [← HP5.out]; exact HU.out, HB2.out⟩
      case measure => simp [intOf]
end
section
open Go.RowKit Go.Sort

theorem frI_c (u v : Value) (r s : List Int) (w : World) (hu : IntS w.heap u r) (hv : IntS w.heap v s) (lr : r.length ≤ 5) (ls : s.length ≤ 5) :
    Calls Tryz.prog 47 #[u, v] w fun e w' => e = .returned (.int .i64 (frV r s)) ∧ Below w.heap.size w w' := by
  obtain ⟨ua, uc, rfl, -⟩ := hu.len
  obtain ⟨va, vc, rfl, -⟩ := hv.len
  by_cases h : r.length = s.length
  · have e1 : frV r s = cmpL r.reverse s.reverse := by unfold frV; rw [if_neg (by simp [h])]
    rw [e1, ← h]
    rw [← h] at hv
    have C1 := Lib.hid (copyOf_c _ r w hu (by omega))
    have C2 := Lib.hid (fun (W : World) (hW : Below w.heap.size w W) => copyOf_c _ s W (hv.same hW.block) (by omega))
    clear hu hv e1 h lr ls
    generalize r.length = rn at *
    go_enter Tryz.func47, Tryz.ntmps47
    go_wp2_with (first | (go_at_call 73; first | ((with_reducible refine C1.out.mono ?_); rintro e w1 ⟨x1, rfl, hx1, hb1⟩; obtain ⟨ra, rm, rc, rfl⟩ := own_shape hx1; have HX1 := Lib.hid hx1; have HB1 := Lib.hid hb1; clear hx1) | (refine (C2.out _ HB1.out).mono ?_; rintro e w2 ⟨x2, rfl, hx2, hb2⟩; obtain ⟨sa, sm, sc, rfl⟩ := own_shape hx2; have HX2 := Lib.hid hx2; have HX12 := Lib.hid (HX1.out.same hb2.block); have HB2 := Lib.hid (HB1.out.trans (hb2.mono HB1.out.size)); have HRG := Lib.hid (⟨OwnI.range HX1.out, OwnI.range hx2⟩ : _ ∧ _); clear hx2)))
    refine (reverse_c _ r w.heap.size w2 HX12.out).mono ?_
    rintro e w3 ⟨rfl, hx3, hb3, hf3, hz3⟩
    have HX23 := Lib.hid (own_kept HX2.out fun b e => hf3 b (fun e' => by have := (HRG.out.1 b e'.symm).2; have := (HRG.out.2 b e).1; omega))
    have HB3 := Lib.hid (HB2.out.trans (hb3.mono (Nat.le_refl _)))
    have HR3 := Lib.hid hx3
    clear hx3 hb3 hf3
    go_wp2_with fail
    refine (reverse_c _ s w1.heap.size w3 HX23.out).mono ?_
    rintro e w4 ⟨rfl, hx4, hb4, hf4, hz4⟩
    have HX4 := Lib.hid hx4.ints
    have HX34 := Lib.hid (own_kept HR3.out fun b e => hf4 b (fun e' => by have := (HRG.out.1 b e).2; have := (HRG.out.2 b e'.symm).1; omega))
    have HB4 := Lib.hid (HB3.out.trans (hb4.mono (HB1.out.size)))
    clear hx4 hb4 hf4
    go_wp2_with (go_at_call 75; refine (compare_c _ _ r.reverse s.reverse w4 (OwnI.ints HX34.out) HX4.out).mono ?_; rintro e w5 ⟨rfl, rfl⟩)
    go_ret
    exact ⟨rfl, HB4.out⟩
  · have e1 : frV r s = (r.length : Int) - (s.length : Int) := by unfold frV; rw [if_pos h]
    rw [e1]
    have t0 := (neB (show (r.length : Int) ≠ (s.length : Int) by omega)).1
    have t1 : (((r.length : Int) != (s.length : Int))) = true := by simp; omega
    clear hu hv e1
    generalize r.length = rn at *
    generalize s.length = sn at *
    go_enter Tryz.func47, Tryz.ntmps47
    go_wp2_with fail
    go_ret
    exact ⟨rfl, Below.refl _ _⟩
theorem wtR_lo : ∀ (r : List Int), (∀ x ∈ r, 0 ≤ x) → 0 ≤ wtR r
  | [], _ => by simp [wtR]
  | x :: r, h => by
    have := wtR_lo r fun y hy => h y (List.mem_cons_of_mem _ hy)
    have := h x (List.mem_cons_self ..)
    rw [wtR]; omega
theorem wtR_hi : ∀ (r : List Int), isExp r = true → 0 ≤ wtR r ∧ wtR r ≤ deg r
  | [], _ => by decide
  | x :: r, h => by
    have h1 := deg_cons x r
    have h2 := deg_nn (isExp_tail h)
    have h3 := wtR_lo (x :: r) (exp_nnS h)
    omega
/-- The word, filled from its end. -/
def wordK (r : List Int) (k : Nat) : List Int := List.replicate k 0 ++ leadL (r.drop k)
theorem wordK_len {r : List Int} {k : Nat} (h : k ≤ r.length) : (wordK r k).length = r.length := by
  rw [wordK, List.length_append, List.length_replicate, lead_len, List.length_drop]; omega
theorem wordK_step {r : List Int} {j : Nat} (h : j < r.length) : (wordK r (j + 1)).set j (wtR (r.drop j)) = wordK r j := by
  unfold wordK
  rw [List.replicate_succ', List.append_assoc, List.set_append_right _ _ (by simp), List.length_replicate, Nat.sub_self, List.cons_append, List.nil_append, List.set_cons_zero, List.drop_eq_getElem_cons h, leadL]
theorem wordK_at {r : List Int} {j : Nat} (h : j < r.length) : (wordK r j).getD j 0 = wtR (r.drop j) := by
  unfold wordK
  rw [List.drop_eq_getElem_cons h, leadL, List.getD_eq_getElem?_getD, List.getElem?_append_right (by simp), List.length_replicate, Nat.sub_self]; rfl
theorem wtR_drop {r : List Int} {j : Nat} (h : j < r.length) : wtR (r.drop j) = r.getD j 0 + 2 * wtR (r.drop (j + 1)) := by
  rw [List.drop_eq_getElem_cons h, wtR]; simp [h]
set_option maxRecDepth 100000 in
theorem leadingWord_c (v : Value) (r : List Int) (w : World) (h : IntS w.heap v r) (he : isExp r = true) (hd : deg r ≤ 40) :
    Calls Tryz.prog 45 #[v] w fun e w' => ∃ o, e = .returned o ∧ OwnI w' w.heap.size o (leadL r) ∧ Below w.heap.size w w' := by
  obtain ⟨ao, c, rfl, -⟩ := h.len
  have hl := exp_len5 he hd
  have HW : Hid (∀ j, j < r.length → r.getD j 0 = wtR (r.drop j) - 2 * wtR (r.drop (j + 1)) ∧ 0 ≤ wtR (r.drop j) ∧ wtR (r.drop j) ≤ 40 ∧ 0 ≤ wtR (r.drop (j + 1)) ∧ wtR (r.drop (j + 1)) ≤ 40 ∧ 0 ≤ r.getD j 0) := fun j hj => by
    have h1 := exp_drop j r he hd
    have h2 := exp_drop (j + 1) r he hd
    have h3 := wtR_hi _ h1.1
    have h4 := wtR_hi _ h2.1
    have h5 := wtR_drop hj
    have h6 := exp_getD he j
    omega
  have HS : Hid (∀ k, k ≤ r.length → (wordK r k).length = r.length) := fun k hk => wordK_len hk
  have HT : Hid (∀ j, j < r.length → (wordK r (j + 1)).set j (wtR (r.drop j)) = wordK r j) := fun j hj => wordK_step hj
  have HA : Hid (∀ j, j < r.length → (wordK r j).getD j 0 = wtR (r.drop j)) := fun j hj => wordK_at hj
  have HE : Hid (∀ j, j = r.length → wtR (r.drop j) = 0) := fun j hj => by rw [hj, List.drop_length]; rfl
  have H := Lib.hid h
  have hmk := fun w => make_run (P := Tryz.prog) 22 2 _ 8 info_int64 Tryz.underlying22 rfl (by omega) r.length (by omega) .i64 .i64 (r.length : Int) (r.length : Int) rfl rfl w
  clear h he hd
  go_enter Tryz.func45, Tryz.ntmps45
  go_wp2_with fail
  clear hmk
  go_loopw [4] (fun i wr => ∃ k, k ≤ r.length ∧ i = .int .i64 ((k : Int) - 1) ∧ wr.ownsRow w.heap.size 2 1 (.slice (some ⟨w.heap.size, 0, none⟩) r.length r.length) r.length ((wordK r k).map (Value.int .i64)) ∧ Below w.heap.size w wr) (fun i _ => (intOf i + 1).toNat)
  case atStart => 
    refine ⟨r.length, Nat.le_refl _, rfl, ?_, (Below.refl _ _).alloc (Nat.le_refl _) _⟩
    have := made_own w w.heap.size 2 r.length (.int .i64 0) (Nat.le_refl _) (by omega)
    unfold wordK
    rw [List.drop_length]
    simpa [leadL] using this
  case round =>
    obtain ⟨k, hk, rfl, hO, hbl⟩ := hrel
    match k, hk, hO with
    | 0, hk, hO =>
      have HO := Lib.hid hO; have HB := Lib.hid hbl
      clear hO hbl
      go_wp2_with fail
      go_ret
      refine ⟨_, rfl, ?_, HB.out⟩
      have h1 := HO.out
      have h2 := HS.out 0 hk
      unfold OwnI
      have e : wordK r 0 = leadL r := by simp [wordK]
      rw [e] at h1 h2
      rw [h2]; exact h1
    | j + 1, hk, hO =>
      have hj : j < r.length := by omega
      obtain ⟨b1, o1, c1, hv1, hc1, -⟩ := H.out.at j hj
      simp only [Value.slice.injEq, true_and] at hv1
      obtain ⟨rfl, rfl⟩ := hv1
      have ei : ((((j + 1 : Nat)) : Int) - 1) = (j : Int) := by omega
      rw [ei]
      have HWJ := Lib.hid (HW.out j hj)
      have hcr : wr.cell? ⟨b1, o1 + j, none⟩ = some (.int .i64 (r.getD j 0)) := by
        rw [show r.getD j 0 = r[j] by simp [hj]]
        exact (hbl.cell (World.block_lt_of_cell? _ _ hc1)).trans hc1
      have hf1 := hO.frozenAt j
      have hc0 := own_int_at hO j hj
      have HO1 := Lib.hid (own_int_set hO j (r.getD j 0))
      have HB1 := Lib.hid (hbl.setCell (p := ⟨w.heap.size, j, none⟩) (Nat.le_refl _) (.int .i64 (r.getD j 0)))
      have HTJ := Lib.hid (HT.out j hj)
      have hji : (0 : Int) ≤ (j : Int) := by omega
      have hjn : (j : Int) < (r.length : Int) := by omega
      have HEJ := Lib.hid (HE.out (j + 1))
      have HAJ := Lib.hid (HA.out (j + 1))
      have HLJ := Lib.hid (HS.out (j + 1) hk)
      generalize (wordK r (j + 1)).getD j 0 = old at *
      generalize r.getD j 0 = rj at *
      generalize wtR (r.drop j) = wa at *
      generalize wtR (r.drop (j + 1)) = wb at *
      clear hc1 hO hbl ei HT HS HW HE HA
      go_upto_region 6 with fail
      generalize wr.setCell ⟨w.heap.size, j, none⟩ (.int .i64 rj) = w1 at *
      clear hcr hf1 hc0
      by_cases hjl : j + 1 < r.length
      · have hji2 : (j : Int) + 1 < (r.length : Int) := by omega
        have hf2 := HO1.out.frozenAt j
        have hc2 := own_int_at HO1.out j hj
        have hc3 := own_int_at HO1.out (j + 1) hjl
        have e2 : ((wordK r (j + 1)).set j rj).getD j 0 = rj := by
          rw [List.getD_eq_getElem?_getD, List.getElem?_set_self (by rw [HLJ.out]; exact hj)]; rfl
        have e3 : ((wordK r (j + 1)).set j rj).getD (j + 1) 0 = wb := by
          rw [List.getD_eq_getElem?_getD, List.getElem?_set_ne (by omega), ← List.getD_eq_getElem?_getD]; exact HAJ.out hjl
        rw [e2] at hc2
        rw [e3] at hc3
        obtain ⟨m2, hm2⟩ : ∃ m2, rj + 2 * wb = m2 := ⟨_, rfl⟩
        have hwb := HWJ.out
        have HO2 := Lib.hid (own_int_set HO1.out j m2)
        have HB2 := Lib.hid (HB1.out.setCell (p := ⟨w.heap.size, j, none⟩) (Nat.le_refl _) (.int .i64 m2))
        have u1 : IntKind.i64.wrap (2 * wb) = 2 * wb := IntWalk.i64_in _ (by omega)
        have u2 : IntKind.i64.wrap (rj + 2 * wb) = m2 := by rw [hm2]; exact IntWalk.i64_in _ (by omega)
        have u3 : IntKind.i64.wrap ((j : Int) + 1) = (j : Int) + 1 := IntWalk.i64_in _ (by omega)
        have HM2 := Lib.hid (show m2 = wa by omega)
        have hp3 : (0 : Int) ≤ (j : Int) + 1 := by omega
        clear hwb hm2 e2 e3 HWJ
        go_wp2_with fail
        go_region
        go_wp2_with fail
        go_roundw
        case rel =>
          refine ⟨j, by omega, by first | rfl | go_num, ?_, ?_⟩
          · have h1 := HO2.out
            rw [HM2.out, List.set_set, HTJ.out, HM2.out.symm] at h1
            exact own_same h1 (fun _ _ => by first | rfl | (rw [u2]; rfl) | (rw [u1, u2]; rfl))
          · first | exact HB2.out.drew | (rw [u2]; exact HB2.out.drew) | (rw [u1, u2]; exact HB2.out.drew)
        case measure => simp [intOf]
      · have ejn : (j : Int) + 1 = (r.length : Int) := by omega
        have hnl : ¬ (j : Int) + 1 < (r.length : Int) := by omega
        have hb0 := HEJ.out (by omega)
        have hwb := HWJ.out
        have HM2 := Lib.hid (show rj = wa by omega)
        clear ejn hb0 hwb HWJ
        go_wp2_with fail
        go_roundw
        case rel =>
          refine ⟨j, by omega, by first | rfl | go_num, ?_, HB1.out⟩
          have h1 := HO1.out
          rw [HM2.out, HTJ.out] at h1
          exact h1
        case measure => simp [intOf]
end
section
open Go.RowKit Go.Sort

section
variable {ops : Array Oper} {rest : List Oper} {o : Oper} {a : Act} {Q : Exit → Act → World → Prop}
/-- 'append(list, x)', x one reference. -/
theorem append_refR {w w0 : World} (hg : o.guard = none) (s x : Operand)
    (ho : o.op = .call { callee := .builtin .append, args := #[s, x], argTypes := #[23, 23] })
    (B : Nat) (v u : Value) (us : List Value) (xss : List (List Int)) (xs : List Int) (hR : RefR w B w.heap v us xss) (hs : a.eval s = v) (hu : IntS w.heap u xs) (hbl : Below B w0 w) (hB : B ≤ w.heap.size)
    (b : Nat) (hx : a.eval x = .slice (some ⟨b, 0, none⟩) 1 1) (hb : w.heap[b]? = some (.cells #[u] 22 (0, 0))) (hn : xss.length < 4398046511104)
    (hK : ∀ v' us' w', RefR w' B w'.heap v' us' (xss ++ [xs]) → Below B w0 w' → w.heap.size ≤ w'.heap.size → KeepI w w' → wpList Tryz.prog ops Q rest (a.put o.dst v') w') :
    wpList Tryz.prog ops Q (o :: rest) a w := by
  obtain ⟨i0, hi, hz0, hz1, hz2⟩ := info_parts info_slI
  refine append_all hg s x _ ho B _ i0 _ 24 Tryz.underlying23 hi hz0 hz1 hz2 rfl (by omega) v _ _ us [u] hR.row hs (slAt_one hb) hx hbl hB (fun z hz => ?_) (by simp; omega) ?_
  · rw [List.mem_singleton] at hz; rw [hz]
    obtain ⟨_, _, rfl, _⟩ := hu.len
    simp [Value.oneCell']
  · intro v' w' h1 h2 h3 h4
    have kp := KeepI.grown hR.row (by decide) h4
    have hl := hR.len
    refine hK v' _ w' ⟨by simpa using h1, fun i y ys hy hz => ?_⟩ h2 h3 kp
    by_cases hi' : i < us.length
    · rw [List.getElem?_append_left hi'] at hy
      rw [List.getElem?_append_left (by omega)] at hz
      exact (hR.each i y ys hy hz).keep kp
    · rw [List.getElem?_append_right (by omega)] at hy hz
      rw [← hl] at hz
      obtain ⟨m, hm⟩ : ∃ m, i - us.length = m := ⟨_, rfl⟩
      rw [hm] at hy hz
      match m, hy, hz with
      | 0, hy, hz =>
        simp at hy hz
        subst hy; subst hz
        exact hu.keep kp
end
theorem RefR.grown {w w' : World} {B : Nat} {v : Value} {us : List Value} {xss : List (List Int)} (a : RefR w B w.heap v us xss) (k : ∀ b, b < w.heap.size → w'.heap[b]? = w.heap[b]?) : RefR w' B w'.heap v us xss :=
  ⟨own_same a.row k, fun i u xs hu hx => (a.each i u xs hu hx).same k⟩
theorem wdsF_zero (f most : Nat) : wdsF (f + 1) 0 most = [[]] := rfl
theorem wdsF_succ (f d most : Nat) (h : d ≠ 0) : wdsF (f + 1) d most = (List.range (min most d)).flatMap fun i => (wdsF f (d - (i + 1)) ((i + 1) / 2)).map fun w => ((i + 1 : Nat) : Int) :: w := by rw [wdsF, if_neg h]
set_option maxRecDepth 100000 in
set_option maxHeartbeats 1000000 in
theorem l03Words_c : ∀ (f d most : Nat) (start : List Int) (s lists : Value) (us : List Value) (L : List (List Int)) (B : Nat) (w : World), d < f → d ≤ 40 → most ≤ 40 → start.length + d ≤ 1000 → IntS w.heap s start → RefR w B w.heap lists us L → B ≤ w.heap.size → L.length + (wdsF f d most).length < 4398046511104 →
    Calls Tryz.prog 83 #[.int .i64 d, .int .i64 most, s, lists] w fun e w' => ∃ r us', e = .returned r ∧ RefR w' B w'.heap r us' (L ++ (wdsF f d most).map (start ++ ·)) ∧ Below B w w' ∧ KeepI w w' := by
  intro f
  induction f with
  | zero => intro d most start s lists us L B w h; omega
  | succ f ih =>
    intro d most start s lists us L B w hdf hd40 hm40 hst hs hR hB hlen
    obtain ⟨sa, sc, rfl, -⟩ := hs.len
    obtain ⟨la, ln, lc, rfl⟩ := own_shape hR.row
    by_cases hd0 : d = 0
    · subst hd0
      rw [wdsF_zero] at hlen ⊢
      have t0 := (eqB (show ((0 : Nat) : Int) = 0 from rfl)).1
      have HS := Lib.hid hs; have HR := Lib.hid hR
      have hln : L.length < 4398046511104 := by simp at hlen; omega
      have HLN := Lib.hid hln
      clear hs hR hlen hln ih
      go_enter Tryz.func83, Tryz.ntmps83
      go_wp2_with (at_builtin; refine append_refR (w0 := w) rfl _ _ rfl B _ (.slice sa start.length sc) us L start (HR.out.grown (alloc_old _ _)) rfl (HS.out.same (alloc_old _ _)) ((Below.refl _ _).alloc hB _) (by simp; omega) w.heap.size rfl (heap_alloc_new _ _) HLN.out ?_; intro v' us' w' hR' hb' hs' hk'; obtain ⟨pa, pn, pc, rfl⟩ := own_shape hR'.row)
      go_ret
      exact ⟨_, us', rfl, by simpa using hR', hb', (KeepI.of_same (alloc_old _ _)).trans hk'⟩
    · have t0 := (neB (show (d : Int) ≠ 0 by omega)).1
      obtain ⟨G, hG⟩ : ∃ G : Nat → List (List Int), G = fun i => (wdsF f (d - (i + 1)) ((i + 1) / 2)).map fun w => ((i + 1 : Nat) : Int) :: w := ⟨_, rfl⟩
      rw [wdsF_succ f d most hd0, ← hG] at hlen ⊢
      have HGS : Hid (∀ k, (List.range (k + 1)).flatMap G = (List.range k).flatMap G ++ G k) := fun k => by rw [List.range_succ, List.flatMap_append]; simp
      have HGK : Hid (∀ k, (wdsF f (d - (k + 1)) ((k + 1) / 2)).map ((start ++ [((k + 1 : Nat) : Int)]) ++ ·) = (G k).map (start ++ ·)) := fun k => by
        rw [hG, List.map_map]
        apply List.map_congr_left
        intro w _
        simp
      have HGL : Hid (∀ k, k < min most d → (L ++ ((List.range k).flatMap G).map (start ++ ·)).length + (wdsF f (d - (k + 1)) ((k + 1) / 2)).length < 4398046511104) := fun k hk => by
        have h1 : (G k).length = (wdsF f (d - (k + 1)) ((k + 1) / 2)).length := by rw [hG, List.length_map]
        have h4 : ∀ N, k + 1 ≤ N → ((List.range (k + 1)).flatMap G).length ≤ ((List.range N).flatMap G).length := by
          intro N hN
          induction N with
          | zero => omega
          | succ N ihN =>
            by_cases e : k + 1 = N + 1
            · rw [e]; exact Nat.le_refl _
            · have := ihN (by omega)
              rw [List.range_succ (n := N), List.flatMap_append, List.length_append]; omega
        have h5 := h4 (min most d) (by omega)
        rw [HGS.out, List.length_append] at h5
        rw [List.length_append, List.length_map]; omega
      have OW := Lib.hid (fun (W : World) (h : IntS W.heap (.slice sa start.length sc) start) => l01Own_c _ start W h (by omega))
      have HIH := Lib.hid ih
      have HS := Lib.hid hs; have HR := Lib.hid hR
      clear hs hR ih hG
      have HST : Hid (start.length + d ≤ 1000) := hst
      have HLR : Hid (∀ k, k < 1000 → d - (k + 1) < f) := fun k _ => by omega
      go_enter Tryz.func83, Tryz.ntmps83
      go_wp2_with fail
      go_loopw [3, 9] (fun l i wr => ∃ (k : Nat) (us : List Value), k ≤ min most d ∧ i = .int .i64 ((k : Int) + 1) ∧ RefR wr B wr.heap l us (L ++ ((List.range k).flatMap G).map (start ++ ·)) ∧ Below B w wr ∧ KeepI w wr) (fun _ i _ => 100 - (intOf i).toNat)
      case atStart => exact ⟨0, us, Nat.zero_le _, rfl, by simpa using HR.out, Below.refl _ _, KeepI.refl _⟩
      case round =>
        obtain ⟨k, us, hk, rfl, hRk, hbl, hkp⟩ := hrel
        obtain ⟨ra, rn, rc, rfl⟩ := own_shape hRk.row
        have hBr : B ≤ wr.heap.size := Nat.le_trans hB hbl.size
        have HRK := Lib.hid hRk; have HB := Lib.hid hbl; have HKP := Lib.hid hkp
        clear hRk hbl hkp
        by_cases hkl : k < min most d
        · have i1 : (k : Int) + 1 ≤ (most : Int) := by omega
          have i2 : (k : Int) + 1 ≤ (d : Int) := by omega
          obtain ⟨d2, hd2⟩ : ∃ d2, d2 = d - (k + 1) := ⟨_, rfl⟩
          obtain ⟨m2, hm2⟩ : ∃ m2, m2 = (k + 1) / 2 := ⟨_, rfl⟩
          have e1 : (d : Int) - ((k : Int) + 1) = (d2 : Int) := by omega
          have e2 : ((k : Int) + 1).tdiv 2 = (m2 : Int) := by rw [Int.tdiv_eq_ediv_of_nonneg (by omega)]; omega
          have HGSK := Lib.hid (HGS.out k)
          have HGKK := HGK.out k
          have HGLK := HGL.out k hkl
          rw [← hd2, ← hm2] at HGKK HGLK
          have HGK2 := Lib.hid HGKK; have HGL2 := Lib.hid HGLK
          have HIK := Lib.hid (HIH.out d2 m2 (start ++ [((k + 1 : Nat) : Int)]))
          have hdf2 : d2 < f ∧ d2 ≤ 40 ∧ m2 ≤ 40 ∧ (start ++ [((k + 1 : Nat) : Int)]).length + d2 ≤ 1000 := by rw [List.length_append]; simp; omega
          have HDF := Lib.hid hdf2
          have HOW := Lib.hid (OW.out wr (HS.out.keep HKP.out))
          have hstl : start.length ≤ 4398046511104 := by omega
          have HSTL := Lib.hid hstl
          have hkc : (((k + 1 : Nat) : Int)) = (k : Int) + 1 := by omega
          have HKC := Lib.hid hkc
          have hm2b : m2 ≤ 40 := by omega
          have hd2b : d2 ≤ 40 := by omega
          clear HGS HGK HGL HIH OW hdf2 HGKK HGLK hd2 hm2 hstl hkc
          go_wp2_with (first | (go_at_call 85; refine HOW.out.mono ?_; rintro e w2 ⟨r2, rfl, hr2, hb2⟩; obtain ⟨pa, pn, pc, rfl⟩ := own_shape hr2; have HR2 := Lib.hid hr2; have HB2 := Lib.hid hb2; have hsz2 := hb2.size; clear hr2 hb2 HOW) | (at_builtin; refine append_int (w := w2) rfl _ _ rfl wr.heap.size _ _ ((k : Int) + 1) HR2.out rfl HB2.out hsz2 _ rfl (by simp) HSTL.out ?_; intro v' w3 hown' hbl' _ _; obtain ⟨qa, qn, qc, rfl⟩ := own_shape hown'; have HR3 := Lib.hid hown'; have HB3 := Lib.hid hbl'; have hsz3 := hbl'.size; clear hown' hbl') | (go_at_call 83; refine (HIK.out _ _ us _ B w3 HDF.out.1 HDF.out.2.1 HDF.out.2.2.1 HDF.out.2.2.2 (by rw [HKC.out]; exact HR3.out.ints) (HRK.out.grown HB3.out.block) (Nat.le_trans hBr hsz3) HGL2.out).mono ?_; rintro e w4 ⟨r4, us4, rfl, hR4, hb4, hk4⟩; obtain ⟨ta, tn, tc, rfl⟩ := own_shape hR4.row; have HR4 := Lib.hid hR4; have HB4 := Lib.hid (HB.out.trans ((HB3.out.mono hBr).trans hb4)); have HK4 := Lib.hid (HKP.out.trans ((KeepI.of_same HB3.out.block).trans hk4)); clear hR4 hb4 hk4))
          go_roundw
          case rel => exact ⟨k + 1, us4, by omega, by go_num, by rw [HGSK.out, List.map_append, ← HGK2.out, ← List.append_assoc]; exact HR4.out, HB4.out, HK4.out⟩
          case measure => simp [intOf]; omega
        · obtain rfl : k = min most d := by omega
          by_cases hmd : most ≤ d
          · have i1 : ¬ ((min most d : Nat) : Int) + 1 ≤ (most : Int) := by omega
            have HRM : Hid (RefR wr B wr.heap (.slice ra rn rc) us (L ++ ((List.range most).flatMap G).map (start ++ ·))) := by have := HRK.out; rwa [Nat.min_eq_left hmd] at this
            go_wp2_with fail
            go_ret
            first | exact ⟨_, rfl, ⟨us, HRM.out⟩, HB.out, HKP.out⟩ | exact ⟨_, us, rfl, HRK.out, HB.out, HKP.out⟩
          · have i1 : ((min most d : Nat) : Int) + 1 ≤ (most : Int) := by omega
            have i2 : ¬ ((min most d : Nat) : Int) + 1 ≤ (d : Int) := by omega
            have HRM : Hid (RefR wr B wr.heap (.slice ra rn rc) us (L ++ ((List.range d).flatMap G).map (start ++ ·))) := by have := HRK.out; rwa [Nat.min_eq_right (by omega)] at this
            go_wp2_with fail
            go_ret
            first | exact ⟨_, rfl, ⟨us, HRM.out⟩, HB.out, HKP.out⟩ | exact ⟨_, rfl, ⟨us, HRK.out⟩, HB.out, HKP.out⟩ | exact ⟨_, us, rfl, HRK.out, HB.out, HKP.out⟩
end
section
open Go.RowKit Go.Sort

theorem info_slSS : (Tryz.prog.info? 23).map (fun i => (i.zero, i.size, i.bytes)) = some (some (.slice none 0 0), 1, 24) := by kernel_rfl
/-- A slice of slices of slices of int64 that is read. -/
def IntSSS (h : Array Obj) (v : Value) (xsss : List (List (List Int))) : Prop :=
  ∃ us, SlAt h 23 v us ∧ us.length = xsss.length ∧ ∀ (i : Nat) u xss, us[i]? = some u → xsss[i]? = some xss → IntSS h u xss
theorem IntSSS.same {h h' : Array Obj} {v : Value} {xsss : List (List (List Int))} (a : IntSSS h v xsss) (k : ∀ b, b < h.size → h'[b]? = h[b]?) : IntSSS h' v xsss := by
  obtain ⟨us, h1, h2, h3⟩ := a
  exact ⟨us, h1.same k, h2, fun i u xs hu hx => (h3 i u xs hu hx).same k⟩
theorem IntSSS.len {h : Array Obj} {v : Value} {xsss : List (List (List Int))} (a : IntSSS h v xsss) : ∃ ao cap, v = .slice ao xsss.length cap ∧ xsss.length ≤ 9223372036854775807 := by
  obtain ⟨us, h1, h2, h3⟩ := a
  obtain ⟨ao, cap, hv, h4, h5⟩ := SlAt.len h1
  rw [h2] at hv h4
  exact ⟨ao, cap, hv, by unfold maxLen at h5; omega⟩
theorem IntSSS.at {w : World} {v : Value} {xsss : List (List (List Int))} (a : IntSSS w.heap v xsss) (i : Nat) (hi : i < xsss.length) :
    ∃ b off cap u, v = .slice (some ⟨b, off, none⟩) xsss.length cap ∧ w.cell? ⟨b, off + i, none⟩ = some u ∧ IntSS w.heap u xsss[i] ∧ xsss.length ≤ 9223372036854775807 := by
  obtain ⟨us, h1, h2, h3⟩ := a
  obtain ⟨b, off, cap, cur, hv, hb, g1, g2, g3, g4⟩ := SlAt.at h1 i (by omega)
  rw [h2] at hv g1
  refine ⟨b, off, cap, us[i]'(by omega), hv, ?_, h3 i _ _ (List.getElem?_eq_getElem (by omega)) (List.getElem?_eq_getElem hi), by unfold maxLen at g2; omega⟩
  rw [World.cell?]; simp only [hb]
  simpa [show i < us.length by omega] using g4
/-- A row of references to slices of slices, of the call's own. -/
structure RefSS (w : World) (B : Nat) (h : Array Obj) (v : Value) (us : List Value) (xsss : List (List (List Int))) : Prop where
  row : w.ownsRow B 23 1 v xsss.length us
  each : ∀ (i : Nat) u xss, us[i]? = some u → xsss[i]? = some xss → IntSS h u xss
theorem RefSS.len {w : World} {B : Nat} {h : Array Obj} {v : Value} {us : List Value} {xsss : List (List (List Int))} (a : RefSS w B h v us xsss) : us.length = xsss.length := by simpa using a.row.1
theorem RefSS.ints {w : World} {B : Nat} {h : Array Obj} {v : Value} {us : List Value} {xsss : List (List (List Int))} (a : RefSS w B h v us xsss) (k : ∀ b, b < h.size → w.heap[b]? = h[b]?) : IntSSS w.heap v xsss :=
  ⟨us, slAt_of_own a.row, by simpa using a.row.1, fun i u xs hu hx => (a.each i u xs hu hx).same k⟩
theorem RefSS.same {w w' : World} {B : Nat} {h : Array Obj} {v : Value} {us : List Value} {xsss : List (List (List Int))} (a : RefSS w B h v us xsss) (k : ∀ b, b < w.heap.size → w'.heap[b]? = w.heap[b]?) : RefSS w' B h v us xsss := ⟨own_same a.row k, a.each⟩
theorem RefSS.grow {w : World} {B : Nat} {h h' : Array Obj} {v : Value} {us : List Value} {xsss : List (List (List Int))} (a : RefSS w B h v us xsss) (k : ∀ b, b < h.size → h'[b]? = h[b]?) : RefSS w B h' v us xsss := ⟨a.row, fun i u xs hu hx => (a.each i u xs hu hx).same k⟩
/-- Every row of a type other than t of w lies in w' as it was. -/
def KeepT (t : Nat) (w w' : World) : Prop := ∀ (b : Nat) cs e f, e ≠ t → w.heap[b]? = some (.cells cs e f) → w'.heap[b]? = some (.cells cs e f)
theorem KeepT.grown {w w' : World} {B e n : Nat} {v : Value} {us : List Value} (h : w.ownsRow B e 1 v n us) (k : ∀ b, b < w.heap.size → some b ≠ v.ownBlock → w'.heap[b]? = w.heap[b]?) : KeepT e w w' := by
  intro b cs t f ne hb
  refine (k b (Array.getElem?_eq_some_iff.1 hb).1 ?_).trans hb
  rcases h.2 with ⟨rfl, _⟩ | ⟨g, cap, cur, rfl, _, hg, _⟩
  · simp [Value.ownBlock]
  · intro e1
    simp only [Value.ownBlock, Option.some.injEq] at e1
    subst e1
    rw [hg] at hb
    simp only [Option.some.injEq, Obj.cells.injEq] at hb
    exact ne hb.2.1.symm
theorem SlAt.keepT {w w' : World} {t e : Nat} {v : Value} {us : List Value} (a : SlAt w.heap e v us) (ne : e ≠ t) (k : KeepT t w w') : SlAt w'.heap e v us := by
  rcases a with a | ⟨b, off, cap, cur, rfl, hb, r⟩
  · exact .inl a
  · exact .inr ⟨b, off, cap, cur, rfl, k b _ _ _ ne hb, r⟩
theorem IntSS.keepT {w w' : World} {t : Nat} {v : Value} {xss : List (List Int)} (a : IntSS w.heap v xss) (n1 : 22 ≠ t) (n2 : 2 ≠ t) (k : KeepT t w w') : IntSS w'.heap v xss := by
  obtain ⟨us, h1, h2, h3⟩ := a
  exact ⟨us, h1.keepT n1 k, h2, fun i u xs hu hx => SlAt.keepT (h3 i u xs hu hx) n2 k⟩
theorem refSS_empty {w : World} {B : Nat} (h : Array Obj) (hB : B ≤ w.heap.size) : RefSS (w.alloc (.cells #[] 23)) B h (.slice (some ⟨w.heap.size, 0, none⟩) 0 0) [] [] :=
  ⟨World.ownsRow_made w #[] 0 hB (Nat.zero_le _) rfl, fun i u xs hu => by simp at hu⟩
theorem refSS_one {w : World} {B : Nat} {h : Array Obj} {u : Value} {xss : List (List Int)} (hu : IntSS h u xss) (hB : B ≤ w.heap.size) : RefSS (w.alloc (.cells #[u] 23)) B h (.slice (some ⟨w.heap.size, 0, none⟩) 1 1) [u] [xss] :=
  ⟨World.ownsRow_lit (e := 23) (size := 1) w #[u] 1 hB (by unfold maxLen; omega) rfl, fun i x ys hx hy => by
    match i, hx, hy with
    | 0, hx, hy =>
      simp at hx hy
      subst hx; subst hy; exact hu⟩
theorem intSS_oneCell {h : Array Obj} {u : Value} {xss : List (List Int)} (a : IntSS h u xss) : u.oneCell' = true := by
  obtain ⟨ao, c, rfl, -⟩ := a.len
  cases ao <;> rfl
section
variable {ops : Array Oper} {rest : List Oper} {o : Oper} {a : Act} {Q : Exit → Act → World → Prop} {K : Act → World → Prop} {E : Prop}
/-- 'append(out, x)', out a row of references to slices of slices. -/
theorem append_refSS {w w0 : World} (hg : o.guard = none) (s x : Operand)
    (ho : o.op = .call { callee := .builtin .append, args := #[s, x], argTypes := #[73, 73] })
    (B : Nat) (v u : Value) (us : List Value) (xsss : List (List (List Int))) (xss : List (List Int)) (hR : RefSS w B w.heap v us xsss) (hs : a.eval s = v) (hu : IntSS w.heap u xss) (hbl : Below B w0 w) (hB : B ≤ w.heap.size)
    (b : Nat) (hx : a.eval x = .slice (some ⟨b, 0, none⟩) 1 1) (hb : b = w.heap.size) (hn : xsss.length ≤ 4398046511104)
    (hK : ∀ v' us' w', RefSS w' B w'.heap v' us' (xsss ++ [xss]) → Below B w0 w' → w.heap.size ≤ w'.heap.size → (∀ b, b < w.heap.size → some b ≠ v.ownBlock → w'.heap[b]? = w.heap[b]?) → wpList Tryz.prog ops Q rest (a.put o.dst v') w') :
    wpList Tryz.prog ops Q (o :: rest) a (w.alloc (.cells #[u] 23)) := by
  obtain ⟨i0, hi, hz0, hz1, hz2⟩ := info_parts info_slSS
  refine append_one hg s x _ ho B _ i0 _ 24 Tryz.underlying73 hi hz0 hz1 hz2 rfl (by omega) v _ us u hR.row hs hbl hB b hx hb (intSS_oneCell hu) hn ?_
  intro v' w' h1 h2 h3 h4
  have hk := KeepT.grown hR.row h4
  refine hK v' _ w' ⟨by simpa using h1, fun i y ys hy hz => ?_⟩ h2 h3 h4
  have hl := hR.len
  by_cases hi : i < us.length
  · rw [List.getElem?_append_left hi] at hy
    rw [List.getElem?_append_left (by omega)] at hz
    exact (hR.each i y ys hy hz).keepT (by decide) (by decide) hk
  · rw [List.getElem?_append_right (by omega)] at hy hz
    rw [← hl] at hz
    obtain ⟨m, hm⟩ : ∃ m, i - us.length = m := ⟨_, rfl⟩
    rw [hm] at hy hz
    match m, hy, hz with
    | 0, hy, hz =>
      simp at hy hz
      subst hy; subst hz; exact hu.keepT (by decide) (by decide) hk
end
/-- A row of slices of slices of the call's own: all their blocks lie from B on. -/
structure OwnRS (w : World) (B : Nat) (v : Value) (us : List Value) (xsss : List (List (List Int))) : Prop where
  row : w.ownsRow B 23 1 v xsss.length us
  each : ∀ (i : Nat) u xss, us[i]? = some u → xsss[i]? = some xss → ∃ us', OwnU w B u us' xss
theorem OwnRS.len {w : World} {B : Nat} {v : Value} {us : List Value} {xsss : List (List (List Int))} (a : OwnRS w B v us xsss) : us.length = xsss.length := by simpa using a.row.1
theorem OwnRS.ints {w : World} {B : Nat} {v : Value} {us : List Value} {xsss : List (List (List Int))} (a : OwnRS w B v us xsss) : IntSSS w.heap v xsss :=
  ⟨us, slAt_of_own a.row, a.len, fun i u xss hu hx => by obtain ⟨us', h⟩ := a.each i u xss hu hx; exact h.ints⟩
theorem OwnRS.same {w w' : World} {B : Nat} {v : Value} {us : List Value} {xsss : List (List (List Int))} (a : OwnRS w B v us xsss) (k : ∀ b, b < w.heap.size → w'.heap[b]? = w.heap[b]?) : OwnRS w' B v us xsss :=
  ⟨own_same a.row k, fun i u xss hu hx => by obtain ⟨us', h⟩ := a.each i u xss hu hx; exact ⟨us', h.same k⟩⟩
theorem own_far {w w' : World} {B e n : Nat} {v : Value} {us : List Value} (h : w.ownsRow B e 1 v n us) (k : ∀ b, B ≤ b → b < w.heap.size → w'.heap[b]? = w.heap[b]?) : w'.ownsRow B e 1 v n us := own_kept h fun b e => k b (World.ownsRow.lt h b e).1 (World.ownsRow.lt h b e).2
theorem OwnRS.far {w w' : World} {B : Nat} {v : Value} {us : List Value} {xsss : List (List (List Int))} (a : OwnRS w B v us xsss) (k : ∀ b, B ≤ b → b < w.heap.size → w'.heap[b]? = w.heap[b]?) : OwnRS w' B v us xsss :=
  ⟨own_far a.row k, fun i u xss hu hx => by
    obtain ⟨us', h⟩ := a.each i u xss hu hx
    exact ⟨us', own_far h.row k, fun i u xs hu hx => own_far (h.each i u xs hu hx) k, h.apart⟩⟩
theorem own_keepT {w w' : World} {t B e n : Nat} {v : Value} {us : List Value} (h : w.ownsRow B e 1 v n us) (ne : e ≠ t) (k : KeepT t w w') : w'.ownsRow B e 1 v n us := by
  refine ⟨h.1, ?_⟩
  rcases h.2 with h2 | ⟨g, cap, cur, hv, hb, hg, r⟩
  · exact .inl h2
  · exact .inr ⟨g, cap, cur, hv, hb, k g _ _ _ ne hg, r⟩
theorem OwnU.keepT {w w' : World} {t B : Nat} {v : Value} {us : List Value} {xss : List (List Int)} (a : OwnU w B v us xss) (n1 : 22 ≠ t) (n2 : 2 ≠ t) (k : KeepT t w w') : OwnU w' B v us xss :=
  ⟨own_keepT a.row n1 k, fun i u xs hu hx => own_keepT (a.each i u xs hu hx) n2 k, a.apart⟩
theorem ownRS_one {w : World} {B : Nat} {u : Value} {us' : List Value} {xss : List (List Int)} (hu : OwnU w B u us' xss) (hB : B ≤ w.heap.size) : OwnRS (w.alloc (.cells #[u] 23)) B (.slice (some ⟨w.heap.size, 0, none⟩) 1 1) [u] [xss] :=
  ⟨World.ownsRow_lit (e := 23) (size := 1) w #[u] 1 hB (by unfold maxLen; omega) rfl, fun i x ys hx hy => by
    match i, hx, hy with
    | 0, hx, hy =>
      simp at hx hy
      subst hx; subst hy; exact ⟨us', hu.same (alloc_old w _)⟩⟩
section
variable {ops : Array Oper} {rest : List Oper} {o : Oper} {a : Act} {Q : Exit → Act → World → Prop}
/-- 'append(out, x)', all of it the call's own. -/
theorem append_ownRS {w w0 : World} (hg : o.guard = none) (s x : Operand)
    (ho : o.op = .call { callee := .builtin .append, args := #[s, x], argTypes := #[73, 73] })
    (B : Nat) (v u : Value) (us us' : List Value) (xsss : List (List (List Int))) (xss : List (List Int)) (hR : OwnRS w B v us xsss) (hs : a.eval s = v) (hu : OwnU w B u us' xss) (hbl : Below B w0 w) (hB : B ≤ w.heap.size)
    (b : Nat) (hx : a.eval x = .slice (some ⟨b, 0, none⟩) 1 1) (hb : b = w.heap.size) (hn : xsss.length ≤ 4398046511104)
    (hK : ∀ v' us' w', OwnRS w' B v' us' (xsss ++ [xss]) → Below B w0 w' → w.heap.size ≤ w'.heap.size → (∀ b, b < w.heap.size → some b ≠ v.ownBlock → w'.heap[b]? = w.heap[b]?) → wpList Tryz.prog ops Q rest (a.put o.dst v') w') :
    wpList Tryz.prog ops Q (o :: rest) a (w.alloc (.cells #[u] 23)) := by
  obtain ⟨i0, hi, hz0, hz1, hz2⟩ := info_parts info_slSS
  refine append_one hg s x _ ho B _ i0 _ 24 Tryz.underlying73 hi hz0 hz1 hz2 rfl (by omega) v _ us u hR.row hs hbl hB b hx hb (intSS_oneCell hu.ints) hn ?_
  intro v' w' h1 h2 h3 h4
  have hk := KeepT.grown hR.row h4
  refine hK v' _ w' ⟨by simpa using h1, fun i y ys hy hz => ?_⟩ h2 h3 h4
  have hl := hR.len
  by_cases hi : i < us.length
  · rw [List.getElem?_append_left hi] at hy
    rw [List.getElem?_append_left (by omega)] at hz
    obtain ⟨us'', h⟩ := hR.each i y ys hy hz
    exact ⟨us'', h.keepT (by decide) (by decide) hk⟩
  · rw [List.getElem?_append_right (by omega)] at hy hz
    rw [← hl] at hz
    obtain ⟨m, hm⟩ : ∃ m, i - us.length = m := ⟨_, rfl⟩
    rw [hm] at hy hz
    match m, hy, hz with
    | 0, hy, hz =>
      simp at hy hz
      subst hy; subst hz; exact ⟨us', hu.keepT (by decide) (by decide) hk⟩
end
end
end Go.Proofs.YtalbbjhonkcbgaaGreat

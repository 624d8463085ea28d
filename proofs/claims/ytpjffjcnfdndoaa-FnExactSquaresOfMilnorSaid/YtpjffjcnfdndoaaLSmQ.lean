/- The greatest term from the right of the element of an admissible word. Plain Lean; no program. -/
import Derived.Test.YtpjffjcnfdndoaaLSmP
namespace Go.Proofs.Ytpjffjcnfdndoaa

/-- The first letter of the admissible word of a basis element. -/
def wtR : List Int → Int
  | [] => 0
  | x :: r => x + 2 * wtR r
def leadL : List Int → List Int
  | [] => []
  | x :: r => wtR (x :: r) :: leadL r
/-- The element of a word. -/
def wordA : List Int → List (List Int)
  | [] => [[]]
  | n :: w => oddL (prodsL [[n]] (wordA w))
def KK (r : List Int) : Int := r.getD 0 0 + 64 * r.getD 1 0 + 4096 * r.getD 2 0 + 262144 * r.getD 3 0 + 16777216 * r.getD 4 0
theorem getD_big {l : List Int} {n i : Nat} (h : l.length ≤ n) (hi : n ≤ i) : l.getD i 0 = 0 := by
  rw [List.getD_eq_getElem?_getD, List.getElem?_eq_none (by omega)]; rfl
theorem rowW_wt (S : List Int) (n : Nat) (hn : S.length = n) : ∀ k, k ≤ n → rowW S n k = 2 ^ (n - k + 1) * wtR (S.drop (n - k))
  | 0, _ => by rw [Nat.sub_zero, ← hn, List.drop_length]; simp [rowW, wtR]
  | k + 1, hk => by
    have hp : n - (k + 1) < S.length := by omega
    have e1 : n - (k + 1) + 1 = n - k := by omega
    rw [rowW, rowW_wt S n hn k (by omega), List.drop_eq_getElem_cons hp, wtR, e1, show S.getD (n - (k + 1)) 0 = S[n - (k + 1)] by simp [hp], Int.mul_add, Int.pow_succ]
    congr 1
    rw [Int.mul_assoc]
theorem degA_up (r : List Int) : ∀ i, degA (i + 1) r = degA i r + 2 ^ (i + 1) * wtR r := by
  induction r with
  | nil => intro i; simp [degA, wtR]
  | cons n r ih =>
    intro i
    rw [degA, degA, ih (i + 1), wtR]
    have e : (2 : Int) ^ (i + 1 + 1) = 2 * 2 ^ (i + 1) := by rw [Int.pow_succ, Int.mul_comm]
    rw [e]
    generalize (2 : Int) ^ (i + 1) = p
    rw [Int.mul_sub, Int.mul_sub, Int.mul_add, Int.mul_one, Int.mul_left_comm n 2 p, Int.mul_assoc, Int.mul_left_comm p 2, Int.mul_comm p n]
    omega
theorem deg_cons (x : Int) (r : List Int) : deg (x :: r) = wtR (x :: r) + deg r := by
  unfold deg
  rw [degA, degA_up, wtR]
  simp
  omega
theorem isExp_tail {x : Int} {r : List Int} (h : isExp (x :: r) = true) : isExp r = true := by
  simp only [isExp, Bool.and_eq_true, decide_eq_true_eq, List.all_eq_true] at h ⊢
  refine ⟨⟨by have := h.1.1; simp at this; omega, fun y hy => h.1.2 y (List.mem_cons_of_mem _ hy)⟩, ?_⟩
  have h3 := h.2
  simp only [lastOk, Bool.or_eq_true, decide_eq_true_eq, bne_iff_ne, ne_eq, List.length_cons] at h3 ⊢
  rcases h3 with h3 | h3
  · omega
  · by_cases e : r.length = 0
    · exact .inl e
    · right
      rw [show r.length + 1 - 1 = (r.length - 1) + 1 by omega, List.getD_cons_succ] at h3
      exact h3
theorem exp_nnS {r : List Int} (h : isExp r = true) : ∀ x ∈ r, 0 ≤ x := fun x hx => (isExp_sm h x hx).1
theorem exp_getD {r : List Int} (h : isExp r = true) (i : Nat) : 0 ≤ r.getD i 0 := by
  by_cases hi : i < r.length
  · rw [show r.getD i 0 = r[i] by simp [hi]]; exact exp_nnS h _ (List.getElem_mem hi)
  · rw [List.getD_eq_getElem?_getD, List.getElem?_eq_none (by omega)]; simp
theorem wt_pos : ∀ (r : List Int), isExp r = true → r ≠ [] → 1 ≤ wtR r
  | [], _, h => absurd rfl h
  | [x], h, _ => by
    have h1 := exp_nnS h x (List.mem_cons_self ..)
    have h2 := isExp_last h
    simp [lastOk] at h2
    simp [wtR]; omega
  | x :: y :: r, h, _ => by
    have h1 := exp_nnS h x (List.mem_cons_self ..)
    have h2 := wt_pos (y :: r) (isExp_tail h) (by simp)
    rw [wtR]; omega
theorem isExp_one {n : Int} (h : 1 ≤ n) (h' : n ≤ 40) : isExp [n] = true ∧ deg [n] = n := by
  refine ⟨?_, by simp [deg, degA]⟩
  simp only [isExp, numB, lastOk, List.length_cons, List.length_nil, List.all_cons, List.all_nil, Bool.and_eq_true, decide_eq_true_eq, Bool.or_eq_true, bne_iff_ne, ne_eq, Bool.and_true]
  refine ⟨⟨by omega, by omega, by omega⟩, .inr (by simp; omega)⟩
theorem deg_nn {r : List Int} (h : isExp r = true) : 0 ≤ deg r := by
  have key : ∀ (r : List Int), (∀ x ∈ r, 0 ≤ x) → 0 ≤ wtR r ∧ 0 ≤ deg r := by
    intro r
    induction r with
    | nil => intro _; exact ⟨Int.le_refl _, Int.le_refl _⟩
    | cons x r ih =>
      intro h
      have h1 := h x (List.mem_cons_self ..)
      have h2 := ih fun y hy => h y (List.mem_cons_of_mem _ hy)
      have h3 : 0 ≤ wtR (x :: r) := by rw [wtR]; omega
      exact ⟨h3, by rw [deg_cons]; omega⟩
  exact (key r (exp_nnS h)).2
/-- What a product of a square and a basis element is made of. -/
theorem basL_parts {n : Int} {S z : List Int} (hS : isExp S = true) (hd : deg S ≤ 40) (hz : z ∈ basL [n] S) (hz5 : z.length ≤ 5) :
    (z.getD 1 0 + 64 * z.getD 2 0 + 4096 * z.getD 3 0 + 262144 * z.getD 4 0 ≤ KK S) ∧
    (z.getD 1 0 + 64 * z.getD 2 0 + 4096 * z.getD 3 0 + 262144 * z.getD 4 0 = KK S → ∀ j, z.getD (j + 1) 0 = S.getD j 0) := by
  have hl5 := exp_len5 hS hd
  unfold basL at hz
  rw [show ([n] : List Int).length = 1 from rfl, Nat.one_mul] at hz
  obtain ⟨R', S', C', e, r⟩ := fill1_mem S.length z S.length (Nat.le_refl _) n S (List.replicate S.length 0) rfl (by simp) (fun j _ => exp_getD hS j) hz
  have hzk : ∀ k, z.getD k 0 = if k < 1 + S.length then S'.getD k 0 + (if k = 0 then R' else C'.getD (k - 1) 0) else 0 := fun k => by rw [e, trim_at, finT1]
  have hz1 : ∀ j, z.getD (j + 1) 0 = S'.getD (j + 1) 0 + C'.getD j 0 := fun j => by
    rw [hzk]
    by_cases h : j + 1 < 1 + S.length
    · rw [if_pos h, if_neg (by omega), Nat.add_sub_cancel]
    · rw [if_neg h, getD_big (n := S.length) (by rw [r.ls]; exact Nat.le_refl _) (show S.length ≤ j + 1 by omega), getD_big (n := S.length) (by rw [r.lc]; exact Nat.le_refl _) (show S.length ≤ j by omega)]; rfl
  have hse : ∀ j, 0 ≤ C'.getD j 0 ∧ C'.getD j 0 + S'.getD j 0 = S.getD j 0 ∧ 0 ≤ S'.getD j 0 := fun j => by
    by_cases h : j < S.length
    · exact r.new j (by omega) h
    · rw [getD_big (l := S') (n := S.length) (by rw [r.ls]; exact Nat.le_refl _) (show S.length ≤ j by omega), getD_big (l := C') (n := S.length) (by rw [r.lc]; exact Nat.le_refl _) (show S.length ≤ j by omega), getD_big (l := S) (n := S.length) (Nat.le_refl _) (show S.length ≤ j by omega)]
      exact ⟨by omega, by omega, by omega⟩
  have z5 : z.getD 5 0 = 0 := getD_big hz5 (Nat.le_refl _)
  have q0 := hz1 0; have q1 := hz1 1; have q2 := hz1 2; have q3 := hz1 3; have q4 := hz1 4
  have s0 := hse 0; have s1 := hse 1; have s2 := hse 2; have s3 := hse 3; have s4 := hse 4; have s5 := hse 5
  simp only [Nat.zero_add, Nat.reduceAdd] at q0 q1 q2 q3 q4
  unfold KK
  refine ⟨by omega, fun hk => ?_⟩
  have hz' : S'.getD 0 0 = 0 ∧ S'.getD 1 0 = 0 ∧ S'.getD 2 0 = 0 ∧ S'.getD 3 0 = 0 ∧ S'.getD 4 0 = 0 := by omega
  intro j
  by_cases hj : j < 5
  · have : j = 0 ∨ j = 1 ∨ j = 2 ∨ j = 3 ∨ j = 4 := by omega
    rcases this with rfl | rfl | rfl | rfl | rfl <;> simp only [Nat.zero_add, Nat.reduceAdd] <;> omega
  · rw [getD_big hz5 (show 5 ≤ j + 1 by omega), getD_big hl5 (show 5 ≤ j by omega)]
theorem basL_nodup {n : Int} {S : List Int} (hS : isExp S = true) : (basL [n] S).Nodup := by
  unfold basL
  rw [show ([n] : List Int).length = 1 from rfl, Nat.one_mul]
  exact fill1_nodup S.length S.length (Nat.le_refl _) n S _ rfl (by simp) (fun j _ => exp_getD hS j)
theorem basL_top {x : Int} {S : List Int} (hS : isExp S = true) (hx : isExp (x :: S) = true) : (x :: S) ∈ basL [wtR (x :: S)] S := by
  have hw : rowW S S.length S.length = 2 * wtR S := by
    rw [rowW_wt S S.length rfl S.length (Nat.le_refl _), Nat.sub_self]; simp
  have h0 := exp_nnS hx x (List.mem_cons_self ..)
  obtain ⟨S', C', hm, h1, h2, h3, -, h5⟩ := fill1_top S.length S.length (Nat.le_refl _) (wtR (x :: S)) S (List.replicate S.length 0) rfl (by simp) (fun j _ _ => exp_getD hS j) (fun j hj => by omega) (by rw [hw, wtR]; omega)
  unfold basL
  rw [show ([wtR (x :: S)] : List Int).length = 1 from rfl, Nat.one_mul]
  have e : trim (finT 1 S.length [wtR (x :: S) - rowW S S.length S.length] S' [C']) = x :: S := by
    refine last_at (lastOk_trim _) (isExp_last hx) fun k => ?_
    rw [trim_at, finT1, h3 k, hw]
    cases k with
    | zero => rw [if_pos (by omega), if_pos rfl, List.getD_cons_zero, wtR]; omega
    | succ k =>
      rw [List.getD_cons_succ]
      by_cases h : k + 1 < 1 + S.length
      · rw [if_pos h, if_neg (by omega), Nat.add_sub_cancel, h5 k (by omega) (by omega)]; omega
      · rw [if_neg h, getD_big (Nat.le_refl _) (show S.length ≤ k by omega)]
  rw [e] at hm
  exact hm
theorem count_flat_one {α : Type} (f : α → List (List Int)) (z : List Int) (a : α) : ∀ (L : List α), L.Nodup → a ∈ L → (∀ b ∈ L, b ≠ a → z ∉ f b) → (L.flatMap f).count z = (f a).count z
  | [], _, h, _ => by simp at h
  | b :: L, hn, ha, hz => by
    rw [List.nodup_cons] at hn
    rw [List.flatMap_cons, List.count_append]
    rcases List.mem_cons.1 ha with rfl | ha'
    · rw [show (L.flatMap f).count z = 0 from ?_, Nat.add_zero]
      rw [List.count_eq_zero]
      intro hm
      obtain ⟨c, hc, hm⟩ := List.mem_flatMap.1 hm
      exact hz c (List.mem_cons_of_mem _ hc) (fun e => hn.1 (e ▸ hc)) hm
    · rw [count_flat_one f z a L hn.2 ha' fun c hc => hz c (List.mem_cons_of_mem _ hc), List.count_eq_zero.2 (hz b (List.mem_cons_self ..) fun e => hn.1 (e ▸ ha')), Nat.zero_add]
theorem exp_le40S {r : List Int} (h : isExp r = true) (hd : deg r ≤ 40) : r.getD 0 0 ≤ 40 := by
  have h5 := deg_five (exp_len5 h hd)
  have n0 := exp_getD h 0; have n1 := exp_getD h 1; have n2 := exp_getD h 2; have n3 := exp_getD h 3; have n4 := exp_getD h 4
  omega
theorem prods_one (n : Int) (B : List (List Int)) : prodsL [[n]] B = B.flatMap (basL [n]) := by simp [prodsL]
/-- The element of the word of r has r as its greatest term. -/
theorem lead_main : ∀ (r : List Int), isExp r = true → deg r ≤ 40 → ExpD (deg r) (wordA (leadL r)) ∧ Asc (wordA (leadL r)) ∧ r ∈ wordA (leadL r) ∧ ∀ z ∈ wordA (leadL r), KK z ≤ KK r ∧ (KK z = KK r → z = r)
  | [], _, _ => by
    refine ⟨fun z hz => ?_, List.pairwise_singleton .., List.mem_singleton.2 rfl, fun z hz => ?_⟩
    · rw [List.mem_singleton.1 hz]; exact ⟨by decide, rfl⟩
    · rw [List.mem_singleton.1 hz]; exact ⟨Int.le_refl _, fun _ => rfl⟩
  | x :: r, hx, hd => by
    have hr := isExp_tail hx
    have hdc := deg_cons x r
    have hw1 := wt_pos (x :: r) hx (by simp)
    have hrn := deg_nn hr
    obtain ⟨i1, i2, i3, i4⟩ := lead_main r hr (by omega)
    have h1 := isExp_one hw1 (by omega)
    have e1 : ExpD (wtR (x :: r)) [[wtR (x :: r)]] := fun s hs => by rw [List.mem_singleton.1 hs]; exact h1
    have hE : ExpD (deg (x :: r)) (prodsL [[wtR (x :: r)]] (wordA (leadL r))) := by
      rw [hdc]; exact prodsL_exp e1 i1 (by omega) hrn (by omega)
    have e2 : wordA (leadL (x :: r)) = oddL (prodsL [[wtR (x :: r)]] (wordA (leadL r))) := rfl
    have hl5 := exp_len5 hx hd
    have r4 : r.getD 4 0 = 0 := getD_big (n := 4) (by simp at hl5; omega) (Nat.le_refl _)
    have hKr : KK (x :: r) = x + 64 * KK r := by
      unfold KK
      simp only [List.getD_cons_zero, List.getD_cons_succ]
      omega
    have hx0 := exp_nnS hx x (List.mem_cons_self ..)
    -- every term
    have hterm : ∀ S ∈ wordA (leadL r), ∀ z ∈ basL [wtR (x :: r)] S, isExp z = true → deg z = deg (x :: r) → (KK z ≤ KK (x :: r) ∧ (KK z = KK (x :: r) → z = x :: r)) ∧ (z = x :: r → S = r) := by
      intro S hS z hz hze hzd
      have hSe := i1 S hS
      have hz5 := exp_len5 hze (by omega)
      obtain ⟨p1, p2⟩ := basL_parts hSe.1 (by omega) hz hz5
      obtain ⟨k1, k2⟩ := i4 S hS
      have hKz : KK z = z.getD 0 0 + 64 * (z.getD 1 0 + 64 * z.getD 2 0 + 4096 * z.getD 3 0 + 262144 * z.getD 4 0) := by unfold KK; omega
      have z40 := exp_le40S hze (by omega)
      have all : z.getD 1 0 + 64 * z.getD 2 0 + 4096 * z.getD 3 0 + 262144 * z.getD 4 0 = KK r → S = r ∧ z = x :: r := fun h => by
        have hKS : KK S = KK r := by omega
        have hS := k2 hKS
        have hj := p2 (by omega)
        rw [hS] at hj
        have d1 := deg_five hz5
        have d2 := deg_five hl5
        simp only [List.getD_cons_zero, List.getD_cons_succ] at d2
        have j0 := hj 0; have j1 := hj 1; have j2 := hj 2; have j3 := hj 3
        simp only [Nat.zero_add, Nat.reduceAdd] at j0 j1 j2 j3
        refine ⟨hS, last_at (isExp_last hze) (isExp_last hx) fun k => ?_⟩
        cases k with
        | zero => rw [List.getD_cons_zero]; omega
        | succ k => rw [List.getD_cons_succ]; exact hj k
      have z0 := exp_getD hze 0
      refine ⟨?_, fun e => ?_⟩
      · by_cases h : z.getD 1 0 + 64 * z.getD 2 0 + 4096 * z.getD 3 0 + 262144 * z.getD 4 0 = KK r
        · have := (all h).2
          exact ⟨by rw [this]; exact Int.le_refl _, fun _ => this⟩
        · exact ⟨by omega, fun e => by omega⟩
      · have : z.getD 1 0 + 64 * z.getD 2 0 + 4096 * z.getD 3 0 + 262144 * z.getD 4 0 = KK r := by
          rw [e]; unfold KK; simp only [List.getD_cons_succ]; omega
        exact (all this).1
    rw [e2]
    refine ⟨hE.odd, asc_oddL _, ?_, fun z hz => ?_⟩
    · rw [mem_oddL, prods_one]
      rw [count_flat_one (basL [wtR (x :: r)]) (x :: r) r (wordA (leadL r)) (List.Pairwise.imp (fun h => ltL_ne h) i2) i3 (fun S hS hne hz => hne ?_)]
      · have c1 := List.nodup_iff_count.1 (basL_nodup (n := wtR (x :: r)) hr) (x :: r)
        have c2 := List.count_pos_iff.2 (basL_top hr hx)
        omega
      · exact (hterm S hS _ hz hx rfl).2 rfl
    · have hm := mem_oddL_sub hz
      have hze := hE z hm
      rw [prods_one] at hm
      obtain ⟨S, hS, hzS⟩ := List.mem_flatMap.1 hm
      exact (hterm S hS z hzS hze.1 hze.2).1
end Go.Proofs.Ytpjffjcnfdndoaa

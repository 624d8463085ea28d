/- All exponent lists of a degree, in order: plain. -/
import Derived.Test.YtljfpkhgijangaaLBound
namespace Go.Proofs.Ytljfpkhgijangaa
open Go.RowKit Go.Sort

/-- The weight of the number at place i. -/
def wtI (i : Nat) : Nat := 2 ^ (i + 1) - 1
theorem wtI_pos (i : Nat) : 1 ≤ wtI i := by
  unfold wtI
  have : 2 ^ 1 ≤ 2 ^ (i + 1) := Nat.pow_le_pow_right (by omega) (by omega)
  omega
theorem wtI_succ (i : Nat) : wtI (i + 1) = 2 * wtI i + 1 := by
  unfold wtI
  have : 1 ≤ 2 ^ (i + 1) := Nat.one_le_two_pow
  rw [Nat.pow_succ 2 (i + 1)]; omega
theorem wtI_int (i : Nat) : (wtI i : Int) = 2 ^ (i + 1) - 1 := by
  unfold wtI
  have : 1 ≤ 2 ^ (i + 1) := Nat.one_le_two_pow
  rw [Int.natCast_sub this, Int.natCast_pow]; rfl
/-- The ends, from place i on, of the exponent lists whose rest of the degree is d. -/
def partF : Nat → Nat → Nat → List (List Int)
  | 0, _, _ => []
  | f + 1, d, i => if d = 0 then [[]] else if d < wtI i then [] else (List.range (d / wtI i + 1)).flatMap fun n => (partF f (d - n * wtI i) (i + 1)).map fun x => (n : Int) :: x
def partL (d : Nat) : List (List Int) := partF 8 d 0
theorem asc_consMap {l : List (List Int)} (h : Asc l) (n : Int) : Asc (l.map fun x => n :: x) := by
  unfold Asc at *
  rw [List.pairwise_map]
  refine h.imp fun {a b} hab => ?_
  simp [ltL, hab]
theorem asc_flat {f : Nat → List (List Int)} (hf : ∀ n, Asc (f n)) : ∀ N : Nat, Asc ((List.range N).flatMap fun n => (f n).map fun x => (n : Int) :: x) := by
  intro N
  induction N with
  | zero => exact List.Pairwise.nil
  | succ N ih =>
    rw [List.range_succ, List.flatMap_append]
    unfold Asc
    rw [List.pairwise_append]
    refine ⟨ih, by have := asc_consMap (hf N) N; unfold Asc at this; simpa using this, fun a ha b hb => ?_⟩
    simp only [List.mem_flatMap, List.mem_range, List.mem_map, List.mem_singleton] at ha hb
    obtain ⟨n, hn, x, -, rfl⟩ := ha
    obtain ⟨m, rfl, y, -, rfl⟩ := hb
    have : (n : Int) < (m : Int) := by omega
    simp [ltL, this]
theorem asc_partF : ∀ f d i, Asc (partF f d i) := by
  intro f
  induction f with
  | zero => intro d i; exact List.Pairwise.nil
  | succ f ih =>
    intro d i
    rw [partF]
    split
    · exact List.pairwise_singleton ..
    · split
      · exact List.Pairwise.nil
      · exact asc_flat (fun n => ih _ _) _
theorem asc_partL (d : Nat) : Asc (partL d) := asc_partF _ _ _
/-- What is in it. -/
theorem mem_partF : ∀ (f d i : Nat) (x : List Int), x ∈ partF f d i → (∀ y ∈ x, 0 ≤ y) ∧ degA i x = d ∧ lastOk x = true ∧ x.length ≤ f - 1 ∧ (x = [] ↔ d = 0) := by
  intro f
  induction f with
  | zero => intro d i x h; simp [partF] at h
  | succ f ih =>
    intro d i x h
    rw [partF] at h
    split at h
    · rename_i h0
      rw [List.mem_singleton] at h
      subst h; subst h0
      exact ⟨by simp, by simp [degA], by decide, by simp, by simp⟩
    · rename_i h0
      split at h
      · simp at h
      · rename_i h1
        simp only [List.mem_flatMap, List.mem_range, List.mem_map] at h
        obtain ⟨n, hn, y, hy, rfl⟩ := h
        obtain ⟨e1, e2, e3, e4, e5⟩ := ih _ _ _ hy
        have hw := wtI_pos i
        have hnw : n * wtI i ≤ d := by
          have : n ≤ d / wtI i := by omega
          exact (Nat.le_div_iff_mul_le (by omega)).1 this
        refine ⟨?_, ?_, ?_, ?_, ?_⟩
        · intro z hz
          rcases List.mem_cons.1 hz with rfl | hz
          · omega
          · exact e1 z hz
        · rw [degA, e2, ← wtI_int, ← Int.natCast_mul, ← Int.natCast_add]
          congr 1; omega
        · unfold lastOk at e3 ⊢
          cases y with
          | nil =>
            have : d = n * wtI i := by have := e5.1 rfl; omega
            have hn0 : n ≠ 0 := by rintro rfl; omega
            simp; omega
          | cons z y =>
            simp only [List.length_cons, Bool.or_eq_true, decide_eq_true_eq] at e3 ⊢
            right
            rcases e3 with e | e
            · omega
            · simpa using e
        · have : f ≠ 0 := by rintro rfl; simp [partF] at hy
          simp; omega
        · simp; omega
theorem mem_partL {d : Nat} (hd : d ≤ 40) {x : List Int} (h : x ∈ partL d) : isExp x = true ∧ deg x = d := by
  obtain ⟨h1, h2, h3, h4, -⟩ := mem_partF 8 d 0 x h
  exact ⟨isExp_of h1 (by omega) (by unfold deg; omega) h3, h2⟩
/-- And all of it. -/
theorem partF_all : ∀ (f d i : Nat) (x : List Int), (∀ y ∈ x, 0 ≤ y) → degA i x = (d : Int) → lastOk x = true → x.length < f → x ∈ partF f d i := by
  intro f
  induction f with
  | zero => intro d i x _ _ _ h; omega
  | succ f ih =>
    intro d i x h1 h2 h3 h4
    have hw := wtI_pos i
    rw [partF]
    cases x with
    | nil =>
      rw [degA] at h2
      rw [if_pos (by omega)]; simp
    | cons y x =>
      have hy := h1 y (List.mem_cons_self ..)
      have hx : ∀ z ∈ x, 0 ≤ z := fun z hz => h1 z (List.mem_cons_of_mem _ hz)
      have hdx : ∀ (l : List Int) (j : Nat), (∀ z ∈ l, 0 ≤ z) → 0 ≤ degA j l := by
        intro l
        induction l with
        | nil => intro j _; simp [degA]
        | cons z l ihl =>
          intro j hz
          rw [degA, ← wtI_int]
          have := ihl (j + 1) fun u hu => hz u (List.mem_cons_of_mem _ hu)
          have := Int.mul_nonneg (hz z (List.mem_cons_self ..)) (show (0 : Int) ≤ wtI j by omega)
          omega
      have hr := hdx x (i + 1) hx
      obtain ⟨n, rfl⟩ : ∃ n : Nat, y = n := ⟨y.toNat, by omega⟩
      rw [degA, ← wtI_int, ← Int.natCast_mul] at h2
      have hle : n * wtI i ≤ d := by omega
      have hlx : lastOk x = true := by
        unfold lastOk at h3 ⊢
        cases x with
        | nil => simp
        | cons z x =>
          simp only [List.length_cons, Bool.or_eq_true, decide_eq_true_eq] at h3 ⊢
          right
          rcases h3 with e | e
          · omega
          · simpa using e
      have hpos : wtI i ≤ d := by
        cases x with
        | nil =>
          have hn0 : n ≠ 0 := by
            rintro rfl
            simp [lastOk] at h3
          have : 1 * wtI i ≤ n * wtI i := Nat.mul_le_mul_right _ (by omega)
          omega
        | cons z x =>
          have hlp : ∀ (l : List Int) (j : Nat), (∀ z ∈ l, 0 ≤ z) → lastOk l = true → l ≠ [] → (wtI j : Int) ≤ degA j l := by
            intro l
            induction l with
            | nil => intro j _ _ h; exact absurd rfl h
            | cons z l ihl =>
              intro j hz hl _
              have hz0 := hz z (List.mem_cons_self ..)
              have hzl := hdx l (j + 1) fun u hu => hz u (List.mem_cons_of_mem _ hu)
              rw [degA, ← wtI_int]
              cases l with
              | nil =>
                have : z ≠ 0 := by
                  rintro rfl
                  simp [lastOk] at hl
                have := Int.mul_le_mul_of_nonneg_right (show (1 : Int) ≤ z by omega) (show (0 : Int) ≤ wtI j by omega)
                omega
              | cons u l =>
                have h5 := ihl (j + 1) (fun u hu => hz u (List.mem_cons_of_mem _ hu)) (by
                  unfold lastOk at hl ⊢
                  simp only [List.length_cons, Bool.or_eq_true, decide_eq_true_eq] at hl ⊢
                  right
                  rcases hl with e | e
                  · omega
                  · simpa using e) (by simp)
                have := Int.mul_nonneg hz0 (show (0 : Int) ≤ wtI j by omega)
                have := wtI_succ j
                omega
          have h5 := hlp (z :: x) (i + 1) hx hlx (by simp)
          have := wtI_succ i
          omega
      rw [if_neg (by omega), if_neg (by omega)]
      simp only [List.mem_flatMap, List.mem_range, List.mem_map]
      refine ⟨n, ?_, x, ih _ _ x hx (by omega) hlx (by simp at h4; omega), rfl⟩
      have := (Nat.le_div_iff_mul_le (show 0 < wtI i by omega)).2 hle
      omega
theorem partL_all {d : Nat} (hd : d ≤ 40) {x : List Int} (h : isExp x = true) (he : deg x = d) : x ∈ partL d :=
  partF_all 8 d 0 x (fun y hy => (exp_num h y hy).1) he (by simp only [isExp, Bool.and_eq_true] at h; exact h.2) (by have := exp_len5 h (by omega); omega)
end Go.Proofs.Ytljfpkhgijangaa

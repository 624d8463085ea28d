/- Antipodes of squares on masks, and duals of modules. Plain Lean; no program. -/
import Derived.Test.YtljfpkhgijangaaLModN
import Derived.Test.YtljfpkhgijangaaLMt3
namespace Go.Proofs.Ytljfpkhgijangaa

def apS (act : List (List Int)) (f : Nat → Nat) (k : Nat) : Nat → Nat
  | 0 => 0
  | j + 1 => apS act f k j ^^^ actZ act ((j + 1 : Nat) : Int) (f (k - (j + 1)))
/-- What the antipodes of the squares 0 to k make of a mask. -/
def apL (act : List (List Int)) (v : Nat) : Nat → List Nat
  | 0 => [v]
  | k + 1 => apL act v k ++ [apS act (fun i => (apL act v k).getD i 0) (k + 1) (k + 1)]
def apX (act : List (List Int)) (v n : Nat) : Nat := (apL act v n).getD n 0
theorem apL_length (act : List (List Int)) (v : Nat) : ∀ k, (apL act v k).length = k + 1
  | 0 => rfl
  | k + 1 => by rw [apL, List.length_append, apL_length act v k]; rfl
theorem apL_get (act : List (List Int)) (v i : Nat) : ∀ k, i ≤ k → (apL act v k).getD i 0 = apX act v i
  | 0, h => by obtain rfl : i = 0 := by omega
               rfl
  | k + 1, h => by
    by_cases e : i = k + 1
    · subst e; rfl
    · rw [← apL_get act v i k (by omega), apL]
      have := apL_length act v k
      rw [List.getD_eq_getElem?_getD, List.getD_eq_getElem?_getD, List.getElem?_append_left (by omega)]
theorem apS_congr (act : List (List Int)) (f g : Nat → Nat) (k : Nat) (h : ∀ i, i < k → f i = g i) : ∀ j, j ≤ k → apS act f k j = apS act g k j
  | 0, _ => rfl
  | j + 1, hj => by rw [apS, apS, apS_congr act f g k h j (by omega), h (k - (j + 1)) (by omega)]
theorem apX_zero (act : List (List Int)) (v : Nat) : apX act v 0 = v := rfl
theorem apX_succ (act : List (List Int)) (v k : Nat) : apX act v (k + 1) = apS act (apX act v) (k + 1) (k + 1) := by
  have hl := apL_length act v k
  rw [apX, apL, List.getD_eq_getElem?_getD, List.getElem?_append_right (by omega), hl]
  simp only [Nat.sub_self, List.getElem?_cons_zero, Option.getD_some]
  exact apS_congr act _ _ _ (fun i hi => apL_get act v i k (by omega)) _ (Nat.le_refl _)
theorem apS_bit (act : List (List Int)) (f : Nat → Nat) (k c : Nat) : ∀ j, (apS act f k j).testBit c = true → ∃ i, 1 ≤ i ∧ i ≤ j ∧ (actZ act (i : Int) (f (k - i))).testBit c = true
  | 0, h => by simp [apS] at h
  | j + 1, h => by
    rw [apS, Nat.testBit_xor] at h
    by_cases e : (actZ act ((j + 1 : Nat) : Int) (f (k - (j + 1)))).testBit c = true
    · exact ⟨j + 1, by omega, Nat.le_refl _, e⟩
    · have h2 : (apS act f k j).testBit c = true := by
        cases h3 : (actZ act ((j + 1 : Nat) : Int) (f (k - (j + 1)))).testBit c
        · rw [h3] at h; simpa using h
        · exact absurd h3 e
      obtain ⟨i, h1, h2, h3⟩ := apS_bit act f k c j h2
      exact ⟨i, h1, by omega, h3⟩
theorem apX_deg {ds : List Int} {act : List (List Int)} (h : modT ds act = true) (v : Nat) : ∀ (n c : Nat), (apX act (2 ^ v) n).testBit c = true → ds.getD c 0 = ds.getD v 0 + n := by
  intro n
  induction n using Nat.strongRecOn with
  | _ n ih =>
    intro c hb
    cases n with
    | zero =>
      rw [apX_zero, Nat.testBit_two_pow] at hb
      obtain rfl : v = c := by simpa using hb
      simp
    | succ n =>
      rw [apX_succ] at hb
      obtain ⟨i, h1, h2, h3⟩ := apS_bit act _ _ c _ hb
      obtain ⟨d, h4, h5⟩ := actZ_deg h _ _ c h3
      have := ih (n + 1 - i) (by omega) d h4
      rw [h5, this]; omega
theorem apS_lt {ds : List Int} {act : List (List Int)} (h : modT ds act = true) (f : Nat → Nat) (k : Nat) (hf : ∀ i, i < k → f i < 2 ^ ds.length) : ∀ j, j ≤ k → apS act f k j < 2 ^ ds.length
  | 0, _ => Nat.two_pow_pos _
  | j + 1, hj => by rw [apS]; exact Nat.xor_lt_two_pow (apS_lt h f k hf j (by omega)) (actZ_lt h _ _ (hf _ (by omega)))
theorem apX_lt {ds : List Int} {act : List (List Int)} (h : modT ds act = true) (v : Nat) (hv : v < 2 ^ ds.length) : ∀ n, apX act v n < 2 ^ ds.length := by
  intro n
  induction n using Nat.strongRecOn with
  | _ n ih =>
    cases n with
    | zero => exact hv
    | succ n => rw [apX_succ]; exact apS_lt h _ _ (fun i hi => ih i hi) _ (Nat.le_refl _)
/-- The degrees of the dual. -/
def duD (ds : List Int) : List Int := (List.range ds.length).map fun i => ds.getD (ds.length - 1) 0 - ds.getD (ds.length - 1 - i) 0
theorem duD_len (ds : List Int) : (duD ds).length = ds.length := by simp [duD]
theorem duD_at (ds : List Int) (i : Nat) (h : i < ds.length) : (duD ds).getD i 0 = ds.getD (ds.length - 1) 0 - ds.getD (ds.length - 1 - i) 0 := by simp [duD, h]
/-- Whether a row is one of the dual. -/
def duB (act : List (List Int)) (size n b c : Nat) : Bool := (apX act (2 ^ (size - 1 - c)) n).testBit (size - 1 - b)
def duM (act : List (List Int)) (size n b : Nat) : Nat → Nat
  | 0 => 0
  | c + 1 => duM act size n b c ||| (if duB act size n b c then 2 ^ c else 0)
theorem duM_lt (act : List (List Int)) (size n b : Nat) : ∀ c, duM act size n b c < 2 ^ c
  | 0 => by simp [duM]
  | c + 1 => by
    rw [duM]
    have := duM_lt act size n b c
    refine Nat.or_lt_two_pow (Nat.lt_of_lt_of_le this (Nat.pow_le_pow_right (by omega) (by omega))) ?_
    split
    · exact Nat.pow_lt_pow_right (by omega) (by omega)
    · exact Nat.two_pow_pos _
theorem duM_bit (act : List (List Int)) (size n b i : Nat) : ∀ c, (duM act size n b c).testBit i = (decide (i < c) && duB act size n b i)
  | 0 => by simp [duM]
  | c + 1 => by
    rw [duM, Nat.testBit_or, duM_bit act size n b i c]
    by_cases e : i = c
    · subst e
      by_cases h : duB act size n b i = true
      · simp [h]
      · simp [h]
    · have h2 : (if duB act size n b c then 2 ^ c else 0 : Nat).testBit i = false := by
        split
        · rw [Nat.testBit_two_pow]; simp; omega
        · simp
      rw [h2, Bool.or_false]
      congr 1
      simp; omega
def duA (ds : List Int) (act : List (List Int)) : List (List Int) := modN (fun n b => (duM act ds.length n b ds.length : Nat)) ds.length 20
/-- The rows in the order of the reference. -/
def duR (ds : List Int) (act : List (List Int)) (c b : Nat) : List (List Int) :=
  if 1 ≤ (duD ds).getD c 0 - (duD ds).getD b 0 ∧ duB act ds.length ((duD ds).getD c 0 - (duD ds).getD b 0).toNat b c = true then [[(duD ds).getD c 0 - (duD ds).getD b 0, (b : Int), (c : Int)]] else []
def duRB (ds : List Int) (act : List (List Int)) (c : Nat) : Nat → List (List Int)
  | 0 => []
  | b + 1 => duRB ds act c b ++ duR ds act c b
def duRC (ds : List Int) (act : List (List Int)) : Nat → List (List Int)
  | 0 => []
  | c + 1 => duRC ds act c ++ duRB ds act c ds.length
theorem duRB_flat (ds : List Int) (act : List (List Int)) (c : Nat) : ∀ b, duRB ds act c b = (List.range b).flatMap (duR ds act c)
  | 0 => rfl
  | b + 1 => by rw [duRB, duRB_flat ds act c b, List.range_succ, List.flatMap_append]; simp
theorem duRC_flat (ds : List Int) (act : List (List Int)) : ∀ c, duRC ds act c = (List.range c).flatMap fun c => (List.range ds.length).flatMap (duR ds act c)
  | 0 => rfl
  | c + 1 => by rw [duRC, duRC_flat ds act c, List.range_succ, List.flatMap_append, duRB_flat]; simp
theorem mem_duR {ds : List Int} {act : List (List Int)} {c b : Nat} {x : List Int} (h : x ∈ duR ds act c b) : ∃ n : Nat, 1 ≤ n ∧ (n : Int) = (duD ds).getD c 0 - (duD ds).getD b 0 ∧ duB act ds.length n b c = true ∧ x = [(n : Int), (b : Int), (c : Int)] := by
  unfold duR at h
  split at h
  · rename_i hh
    exact ⟨((duD ds).getD c 0 - (duD ds).getD b 0).toNat, by omega, by omega, hh.2, by rw [Int.toNat_of_nonneg (by omega)]; simpa using h⟩
  · simp at h
theorem duRC_nodup (ds : List Int) (act : List (List Int)) : (duRC ds act ds.length).Nodup := by
  rw [duRC_flat]
  unfold List.Nodup
  rw [List.pairwise_flatMap]
  refine ⟨fun c _ => ?_, List.Pairwise.imp (fun {c c'} hlt x hx y hy => ?_) (List.pairwise_lt_range (n := ds.length))⟩
  · rw [List.pairwise_flatMap]
    refine ⟨fun b _ => ?_, List.Pairwise.imp (fun {b b'} hlt x hx y hy => ?_) (List.pairwise_lt_range (n := ds.length))⟩
    · unfold duR; split
      · exact List.pairwise_singleton _ _
      · exact List.Pairwise.nil
    · obtain ⟨n, _, _, _, rfl⟩ := mem_duR hx
      obtain ⟨n', _, _, _, rfl⟩ := mem_duR hy
      simp; omega
  · simp only [List.mem_flatMap] at hx hy
    obtain ⟨b, _, hx⟩ := hx
    obtain ⟨b', _, hy⟩ := hy
    obtain ⟨n, _, _, _, rfl⟩ := mem_duR hx
    obtain ⟨n', _, _, _, rfl⟩ := mem_duR hy
    simp; omega
theorem duA_odd {ds : List Int} {act : List (List Int)} (h : modT ds act = true) : oddL (duRC ds act ds.length) = duA ds act := by
  have hl := modT_len h
  refine oddL_modN _ _ _ _ (duRC_nodup ds act) fun x => ?_
  have hbit : ∀ n b c : Nat, c < ds.length → bitB ((duM act ds.length n b ds.length : Nat) : Int) c = duB act ds.length n b c := fun n b c hc => by
    rw [bitB_nat _ _ (Nat.lt_of_lt_of_le (duM_lt act ds.length n b ds.length) (Nat.le_trans (Nat.pow_le_pow_right (by omega) hl) (by decide))), duM_bit, decide_eq_true hc, Bool.true_and]
  rw [duRC_flat]
  simp only [List.mem_flatMap, List.mem_range]
  constructor
  · rintro ⟨c, hc, b, hb, hx⟩
    obtain ⟨n, h1, h2, h3, rfl⟩ := mem_duR hx
    refine ⟨n, b, c, h1, ?_, hb, hc, by rw [hbit n b c hc]; exact h3, rfl⟩
    rw [duD_at ds c hc, duD_at ds b hb] at h2
    have a1 := modT_stem h (ds.length - 1 - b)
    have a2 := modT_stem h (ds.length - 1 - c)
    omega
  · rintro ⟨n, b, c, h1, h2, hb, hc, h3, rfl⟩
    rw [hbit n b c hc] at h3
    have hd := apX_deg h _ _ _ h3
    have e : (n : Int) = (duD ds).getD c 0 - (duD ds).getD b 0 := by rw [duD_at ds c hc, duD_at ds b hb]; omega
    refine ⟨c, hc, b, hb, ?_⟩
    unfold duR
    rw [← e, if_pos ⟨by omega, by simpa using h3⟩]
    simp
end Go.Proofs.Ytljfpkhgijangaa

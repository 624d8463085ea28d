/- The rows of a module as moduleOf lays them: which they are, and that they ascend. Plain Lean; no program. -/
import Derived.Test.YtljfpkhgijangaaLMod
import Derived.Test.YtljfpkhgijangaaLVec
namespace Go.Proofs.Ytljfpkhgijangaa

/-- The rows as one list. -/
def modF (sq : Nat → Nat → Int) (size k : Nat) : List (List Int) :=
  (List.range k).flatMap fun n => (List.range size).flatMap fun b => (List.range size).flatMap fun c => if bitB (sq (n + 1) b) c then [[((n + 1 : Nat) : Int), (b : Int), (c : Int)]] else []
theorem modC_flat (sq : Nat → Nat → Int) (n b : Nat) : ∀ c, modC sq n b c = (List.range c).flatMap fun c => if bitB (sq n b) c then [[(n : Int), (b : Int), (c : Int)]] else []
  | 0 => rfl
  | c + 1 => by rw [modC, modC_flat sq n b c, List.range_succ, List.flatMap_append]; simp
theorem modB_flat (sq : Nat → Nat → Int) (size n : Nat) : ∀ b, modB sq size n b = (List.range b).flatMap fun b => (List.range size).flatMap fun c => if bitB (sq n b) c then [[(n : Int), (b : Int), (c : Int)]] else []
  | 0 => rfl
  | b + 1 => by rw [modB, modB_flat sq size n b, List.range_succ, List.flatMap_append, modC_flat]; simp
theorem modN_flat (sq : Nat → Nat → Int) (size : Nat) : ∀ k, modN sq size k = modF sq size k
  | 0 => rfl
  | k + 1 => by unfold modF; rw [modN, modN_flat sq size k, List.range_succ, List.flatMap_append, modB_flat]; simp [modF]
theorem ltL_trip (a b c a' b' c' : Int) : ltL [a, b, c] [a', b', c'] = true ↔ a < a' ∨ (a = a' ∧ (b < b' ∨ (b = b' ∧ c < c'))) := by
  simp only [ltL]
  by_cases h1 : a < a'
  · simp [h1]
  · by_cases h2 : a' < a
    · simp only [if_neg h1, if_pos h2]; simp; omega
    · simp only [if_neg h1, if_neg h2]
      by_cases h3 : b < b'
      · simp only [if_pos h3]; simp; omega
      · by_cases h4 : b' < b
        · simp only [if_neg h3, if_pos h4]; simp; omega
        · simp only [if_neg h3, if_neg h4]
          by_cases h5 : c < c'
          · simp only [if_pos h5]; simp; omega
          · by_cases h6 : c' < c
            · simp only [if_neg h5, if_pos h6]; simp; omega
            · simp only [if_neg h5, if_neg h6]; simp; omega
theorem mem_modN (sq : Nat → Nat → Int) (size k : Nat) (x : List Int) : x ∈ modN sq size k ↔ ∃ n b c : Nat, 1 ≤ n ∧ n ≤ k ∧ b < size ∧ c < size ∧ bitB (sq n b) c = true ∧ x = [(n : Int), (b : Int), (c : Int)] := by
  rw [modN_flat]
  unfold modF
  simp only [List.mem_flatMap, List.mem_range]
  constructor
  · rintro ⟨n, hn, b, hb, c, hc, hx⟩
    split at hx
    · rename_i h
      exact ⟨n + 1, b, c, by omega, by omega, hb, hc, h, by simpa using hx⟩
    · simp at hx
  · rintro ⟨n, b, c, h1, h2, hb, hc, h, rfl⟩
    obtain ⟨m, rfl⟩ : ∃ m, n = m + 1 := ⟨n - 1, by omega⟩
    exact ⟨m, by omega, b, hb, c, hc, by rw [if_pos h]; simp⟩
theorem asc_modN (sq : Nat → Nat → Int) (size k : Nat) : Asc (modN sq size k) := by
  rw [modN_flat]
  unfold modF Asc
  rw [List.pairwise_flatMap]
  refine ⟨fun n _ => ?_, List.Pairwise.imp (fun {n n'} hlt x hx y hy => ?_) (List.pairwise_lt_range (n := k))⟩
  · rw [List.pairwise_flatMap]
    refine ⟨fun b _ => ?_, List.Pairwise.imp (fun {b b'} hlt x hx y hy => ?_) (List.pairwise_lt_range (n := size))⟩
    · rw [List.pairwise_flatMap]
      refine ⟨fun c _ => ?_, List.Pairwise.imp (fun {c c'} hlt x hx y hy => ?_) (List.pairwise_lt_range (n := size))⟩
      · split
        · exact List.pairwise_singleton _ _
        · exact List.Pairwise.nil
      · split at hx
        · split at hy
          · simp only [List.mem_singleton] at hx hy
            subst hx; subst hy
            rw [ltL_trip]; omega
          · simp at hy
        · simp at hx
    · simp only [List.mem_flatMap] at hx hy
      obtain ⟨c, _, hx⟩ := hx
      obtain ⟨c', _, hy⟩ := hy
      split at hx
      · split at hy
        · simp only [List.mem_singleton] at hx hy
          subst hx; subst hy
          rw [ltL_trip]; omega
        · simp at hy
      · simp at hx
  · simp only [List.mem_flatMap] at hx hy
    obtain ⟨b, _, c, _, hx⟩ := hx
    obtain ⟨b', _, c', _, hy⟩ := hy
    split at hx
    · split at hy
      · simp only [List.mem_singleton] at hx hy
        subst hx; subst hy
        rw [ltL_trip]; omega
      · simp at hy
    · simp at hx
/-- A list of rows of numbers of at least 0, without repetitions, put one after the other, is what moduleOf lays. -/
theorem oddL_modN (sq : Nat → Nat → Int) (size k : Nat) (L : List (List Int)) (hn : L.Nodup) (hm : ∀ x, x ∈ L ↔ ∃ n b c : Nat, 1 ≤ n ∧ n ≤ k ∧ b < size ∧ c < size ∧ bitB (sq n b) c = true ∧ x = [(n : Int), (b : Int), (c : Int)]) : oddL L = modN sq size k :=
  Asc.ext (asc_oddL L) (asc_modN sq size k) fun z => by
    rw [mem_oddL, mem_modN, ← hm]
    by_cases h : z ∈ L
    · have h1 : L.count z ≤ 1 := List.nodup_iff_count.1 hn z
      have h2 := List.count_pos_iff.2 h
      simp only [h, iff_true]; omega
    · simp [List.count_eq_zero.2 h, h]
end Go.Proofs.Ytljfpkhgijangaa

/- Texts that are read: parts put together again; the cut at a byte. Plain Lean; no program. -/
import Derived.Test.YtalbbjhonkcbgaaGreatDoorLRdP
namespace Go.Proofs.YtalbbjhonkcbgaaGreatDoor

theorem join_spl (c : UInt8) : ∀ s : List UInt8, Go.Lib.join (spl c s) [c] = s
  | [] => by simp [spl, Go.Lib.join_one]
  | b :: l => by
    have ih := join_spl c l
    have hne := spl_ne c l
    rw [spl]
    cases hq : spl c l with
    | nil => exact absurd hq hne
    | cons x r =>
      rw [hq, Go.Lib.join_cons] at ih
      by_cases e : b = c
      · subst e
        rw [if_pos rfl, Go.Lib.join_cons, List.nil_append, ← ih]
        rfl
      · rw [if_neg e, Go.Lib.join_cons]
        show b :: x ++ _ = _
        rw [List.cons_append, ← ih]; rfl
theorem mem_spl {c b : UInt8} (hb : b ≠ c) : ∀ s : List UInt8, b ∈ s → ∃ w ∈ spl c s, b ∈ w
  | [], h => by cases h
  | a :: l, h => by
    rw [spl]
    have hne := spl_ne c l
    by_cases e : a = c
    · rw [if_pos e]
      rcases List.mem_cons.1 h with h | h
      · exact absurd (h.trans e) hb
      · obtain ⟨w, hw, hbw⟩ := mem_spl hb l h
        exact ⟨w, List.mem_cons_of_mem _ hw, hbw⟩
    · rw [if_neg e]
      cases hq : spl c l with
      | nil => exact absurd hq hne
      | cons x r =>
        rcases List.mem_cons.1 h with h | h
        · exact ⟨_, List.mem_cons_self .., by rw [h]; exact List.mem_cons_self ..⟩
        · obtain ⟨w, hw, hbw⟩ := mem_spl hb l h
          rw [hq] at hw
          rcases List.mem_cons.1 hw with rfl | hw
          · exact ⟨_, List.mem_cons_self .., List.mem_cons_of_mem _ hbw⟩
          · exact ⟨w, List.mem_cons_of_mem _ hw, hbw⟩
theorem spl_none {c : UInt8} : ∀ s : List UInt8, c ∉ s → spl c s = [s]
  | [], _ => rfl
  | a :: l, h => by
    rw [spl, if_neg (fun e => h (by rw [e]; exact List.mem_cons_self ..)), spl_none l fun e => h (List.mem_cons_of_mem _ e)]
    rfl
theorem spl_cut {c : UInt8} : ∀ (p l : List UInt8), c ∉ p → spl c (p ++ c :: l) = p :: spl c l
  | [], l, _ => by rw [List.nil_append, spl, if_pos rfl]
  | a :: p, l, h => by
    rw [List.cons_append, spl, if_neg (fun e => h (by rw [e]; exact List.mem_cons_self ..)), spl_cut p l fun e => h (List.mem_cons_of_mem _ e)]
    rfl
theorem index_c (c : UInt8) : ∀ s : List UInt8, (c ∉ s ∧ Go.Lib.index s [c] = -1) ∨ ∃ p l, s = p ++ c :: l ∧ c ∉ p ∧ Go.Lib.index s [c] = p.length
  | [] => .inl ⟨by simp, by simp [Go.Lib.index]⟩
  | a :: s => by
    by_cases e : a = c
    · right
      refine ⟨[], s, by simp [e], by simp, ?_⟩
      rw [Go.Lib.index]; simp [List.isPrefixOf, e]
    · have hp : ([c] : List UInt8).isPrefixOf (a :: s) = false := by simp [List.isPrefixOf, Ne.symm e]
      have hix : Go.Lib.index (a :: s) [c] = if Go.Lib.index s [c] == -1 then -1 else Go.Lib.index s [c] + 1 := by rw [Go.Lib.index, hp]; simp
      rcases index_c c s with ⟨h1, h2⟩ | ⟨p, l, h1, h2, h3⟩
      · left
        refine ⟨by simp [Ne.symm e, h1], by rw [hix, h2]; rfl⟩
      · right
        refine ⟨a :: p, l, by rw [h1]; rfl, by simp [Ne.symm e, h2], ?_⟩
        rw [hix, h3, if_neg (by rw [beq_iff_eq]; omega)]; simp
theorem cut_c (c : UInt8) (s : List UInt8) : (c ∉ s ∧ Go.Lib.cut s [c] = (s, [], false)) ∨ ∃ p l, s = p ++ c :: l ∧ c ∉ p ∧ Go.Lib.cut s [c] = (p, l, true) := by
  rcases index_c c s with ⟨h1, h2⟩ | ⟨p, l, h1, h2, h3⟩
  · left; exact ⟨h1, by unfold Go.Lib.cut; rw [h2]; rfl⟩
  · right
    refine ⟨p, l, h1, h2, ?_⟩
    unfold Go.Lib.cut
    rw [h3, if_pos (by omega)]
    simp [h1]
end Go.Proofs.YtalbbjhonkcbgaaGreatDoor

/- Sums of elements commute, are their own inverses, and products with a degree 1 element distribute over them. Plain Lean. -/
import Derived.Test.YtalbbjhonkcbgaaGreatLAdd3
import Derived.Test.YtalbbjhonkcbgaaGreatLCount
namespace Go.Proofs.YtalbbjhonkcbgaaGreat
open Go.RowKit Go.Sort

theorem count_put_flatMap (f : List Int → List (List Int)) (z x : List Int) : ∀ l : List (List Int), ((put x l).flatMap f).count z % 2 = ((l.flatMap f).count z + (f x).count z) % 2
  | [] => by simp [put]
  | y :: l => by
    have ih := count_put_flatMap f z x l
    rw [put]
    split
    · simp only [List.flatMap_cons, List.count_append]; omega
    · rename_i h1
      split
      · simp only [List.flatMap_cons, List.count_append]; omega
      · rename_i h2
        have e : x = y := ltL_total x y (by simpa using h1) (by simpa using h2)
        subst e
        simp only [List.flatMap_cons, List.count_append]; omega
theorem count_odd_flatMap (f : List Int → List (List Int)) (z : List Int) (L : List (List Int)) : ((oddL L).flatMap f).count z % 2 = (L.flatMap f).count z % 2 := by
  obtain ⟨n, hn⟩ : ∃ n, L.length = n := ⟨_, rfl⟩
  induction n generalizing L with
  | zero => rw [List.eq_nil_of_length_eq_zero hn]; rfl
  | succ n ih =>
    have hne : L ≠ [] := by intro e; rw [e] at hn; cases hn
    have hl := List.dropLast_concat_getLast hne
    obtain ⟨M, x, rfl⟩ : ∃ M x, L = M ++ [x] := ⟨_, _, hl.symm⟩
    have := ih M (by simp at hn; omega)
    rw [oddL_snoc, count_put_flatMap, List.flatMap_append, List.count_append]
    simp only [List.flatMap_cons, List.flatMap_nil, List.append_nil]
    omega
theorem oddL_flatMap (f : List Int → List (List Int)) (L : List (List Int)) : oddL ((oddL L).flatMap f) = oddL (L.flatMap f) := oddL_congr fun z => count_odd_flatMap f z L
theorem oddL_twice {a b : List (List Int)} (ha : Asc a) : oddL (oddL (a ++ b) ++ b) = a := by
  rw [← oddL_append]
  refine Eq.trans (oddL_congr fun z => ?_) ha.odd
  rw [List.count_append, List.count_append]; omega
theorem arT_exp {d : Int} {l : List (List Int)} (h : ExpD d l) (ha : Asc l) (h40 : d ≤ 40) : arT l = true := by
  have hl := expD_length ha h h40
  have hg : ∀ j, j < l.length → l.getD j [] ∈ l := fun j hj => by rw [show l.getD j [] = l[j] by simp [hj]]; exact List.getElem_mem hj
  refine arT_yes l (by omega) (ascB_true l fun i hi => ?_) (fun j hj => ?_)
  · have := List.pairwise_iff_getElem.1 ha i (i + 1) (by omega) hi (by omega)
    rwa [show l.getD i [] = l[i]'(by omega) by simp [show i < l.length by omega], show l.getD (i + 1) [] = l[i + 1] by simp [hi]]
  · have h1 := h _ (hg j hj)
    have h2 := h _ (hg 0 (by omega))
    refine ⟨?_, by rw [h1.2, h2.2]⟩
    unfold rowB
    rw [h1.1, h1.2, decide_eq_true h40]; rfl
theorem degT_exp {d : Int} {l : List (List Int)} (h : ExpD d l) (h0 : l.length ≠ 0) : degT l = d := by
  unfold degT
  rw [show l.getD 0 [] = l[0]'(by omega) by simp [show 0 < l.length by omega]]
  exact (h _ (List.getElem_mem _)).2
theorem ExpD.append {d : Int} {a b : List (List Int)} (ha : ExpD d a) (hb : ExpD d b) : ExpD d (a ++ b) := fun r hr => (List.mem_append.1 hr).elim (ha r) (hb r)
theorem add_parts {a b : List (List Int)} (h : addC a b = 0) : Asc a ∧ Asc b ∧ ∃ d, 0 ≤ d ∧ d ≤ 40 ∧ ExpD d a ∧ ExpD d b := by
  have hx : arT a = true ∧ arT b = true ∧ sameD a b = true := by
    unfold addC at h
    cases h1 : arT a && arT b
    · rw [h1] at h; simp at h
    · rw [h1] at h
      cases h2 : sameD a b
      · rw [h2] at h; simp at h
      · simp only [Bool.and_eq_true] at h1; exact ⟨h1.1, h1.2, rfl⟩
  obtain ⟨h1, h2, h3⟩ := hx
  refine ⟨arT_asc h1, arT_asc h2, ?_⟩
  have e1 := arT_expD h1; have e2 := arT_expD h2
  have d1 := degT_in h1; have d2 := degT_in h2
  unfold sameD at h3
  simp only [Bool.or_eq_true, decide_eq_true_eq, beq_iff_eq] at h3
  rcases h3 with (h3 | h3) | h3
  · rw [List.eq_nil_of_length_eq_zero h3]; exact ⟨_, d2.1, d2.2, fun r hr => by simp at hr, e2⟩
  · rw [List.eq_nil_of_length_eq_zero h3]; exact ⟨_, d1.1, d1.2, e1, fun r hr => by simp at hr⟩
  · exact ⟨degT a, d1.1, d1.2, e1, fun r hr => by have := e2 r hr; exact ⟨this.1, this.2.trans h3.symm⟩⟩
theorem add_ok {a b : List (List Int)} {d : Int} (ha : Asc a) (hb : Asc b) (h40 : d ≤ 40) (ea : ExpD d a) (eb : ExpD d b) : addC a b = 0 ∧ addL a b = oddL (a ++ b) := by
  have h1 := arT_exp ea ha h40; have h2 := arT_exp eb hb h40
  have h3 : sameD a b = true := by
    unfold sameD
    simp only [Bool.or_eq_true, decide_eq_true_eq, beq_iff_eq]
    by_cases l1 : a.length = 0
    · exact .inl (.inl l1)
    by_cases l2 : b.length = 0
    · exact .inl (.inr l2)
    · exact .inr ((degT_exp ea l1).trans (degT_exp eb l2).symm)
  exact ⟨by simp [addC, h1, h2, h3], by simp [addL, h1, h2, h3, mrg_odd ha hb]⟩
theorem add_turn {a b : List (List Int)} (h : addC a b = 0) : addC b a = 0 ∧ addL b a = addL a b := by
  obtain ⟨ha, hb, d, -, h40, ea, eb⟩ := add_parts h
  have h1 := add_ok ha hb h40 ea eb; have h2 := add_ok hb ha h40 eb ea
  exact ⟨h2.1, by rw [h1.2, h2.2]; exact oddL_perm List.perm_append_comm⟩
theorem add_back {a b : List (List Int)} (h : addC a b = 0) : addC (addL a b) b = 0 ∧ addL (addL a b) b = a := by
  obtain ⟨ha, hb, d, -, h40, ea, eb⟩ := add_parts h
  have h1 := add_ok ha hb h40 ea eb
  have h2 := add_ok (asc_oddL (a ++ b)) hb h40 (ea.append eb).odd eb
  rw [h1.2]
  exact ⟨h2.1, by rw [h2.2]; exact oddL_twice ha⟩
theorem one_exp : ExpD 1 [[1]] := fun r hr => by
  rw [List.mem_singleton] at hr; subst hr; decide
theorem one_asc : Asc [[1]] := Asc.nil.cons fun y hy => by simp at hy
theorem one_ar : arT [[1]] = true := arT_exp one_exp one_asc (by omega)
end Go.Proofs.YtalbbjhonkcbgaaGreat

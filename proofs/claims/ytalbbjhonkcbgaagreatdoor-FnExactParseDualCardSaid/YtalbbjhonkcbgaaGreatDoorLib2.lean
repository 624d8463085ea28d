/- Words for slices of slices of int64: read, and of a call's own down to the rows. Plain Lean over the model; no program. -/
import Derived.Test.YtalbbjhonkcbgaaGreatDoorLib
namespace Go.Proofs.YtalbbjhonkcbgaaGreatDoor
open Go.RowKit

/-- A slice of slices of int64 that is read. -/
def IntSS (h : Array Obj) (v : Value) (xss : List (List Int)) : Prop :=
  ∃ us, SlAt h 30 v us ∧ us.length = xss.length ∧ ∀ (i : Nat) u xs, us[i]? = some u → xss[i]? = some xs → IntS h u xs

theorem IntSS.nil (h : Array Obj) : IntSS h (.slice none 0 0) [] := ⟨[], .inl ⟨rfl, rfl⟩, rfl, fun i u xs hu => by simp at hu⟩
theorem IntSS.same {h h' : Array Obj} {v : Value} {xss : List (List Int)} (a : IntSS h v xss) (k : ∀ b, b < h.size → h'[b]? = h[b]?) : IntSS h' v xss := by
  obtain ⟨us, h1, h2, h3⟩ := a
  exact ⟨us, h1.same k, h2, fun i u xs hu hx => (h3 i u xs hu hx).same k⟩
theorem IntSS.len {h : Array Obj} {v : Value} {xss : List (List Int)} (a : IntSS h v xss) : ∃ ao cap, v = .slice ao xss.length cap ∧ xss.length ≤ 9223372036854775807 := by
  obtain ⟨us, h1, h2, h3⟩ := a
  obtain ⟨ao, cap, hv, h4, h5⟩ := SlAt.len h1
  rw [h2] at hv h4
  exact ⟨ao, cap, hv, by unfold maxLen at h5; omega⟩
/-- A row of it. -/
theorem IntSS.at {w : World} {v : Value} {xss : List (List Int)} (a : IntSS w.heap v xss) (i : Nat) (hi : i < xss.length) :
    ∃ b off cap u, v = .slice (some ⟨b, off, none⟩) xss.length cap ∧ w.cell? ⟨b, off + i, none⟩ = some u ∧ IntS w.heap u xss[i] ∧ xss.length ≤ 9223372036854775807 := by
  obtain ⟨us, h1, h2, h3⟩ := a
  obtain ⟨b, off, cap, cur, hv, hb, g1, g2, g3, g4⟩ := SlAt.at h1 i (by omega)
  rw [h2] at hv g1
  refine ⟨b, off, cap, us[i]'(by omega), hv, ?_, h3 i _ _ (List.getElem?_eq_getElem (by omega)) (List.getElem?_eq_getElem hi), by unfold maxLen at g2; omega⟩
  rw [World.cell?]; simp only [hb]
  simpa [show i < us.length by omega] using g4

/-- A slice of slices of the call's own: the outer row and each row are its own, and no two rows share memory. us: the rows' values. -/
structure OwnU (w : World) (B : Nat) (v : Value) (us : List Value) (xss : List (List Int)) : Prop where
  row : w.ownsRow B 30 1 v xss.length us
  each : ∀ (i : Nat) u xs, us[i]? = some u → xss[i]? = some xs → OwnI w B u xs
  apart : ∀ (i j : Nat) u u', i < j → us[i]? = some u → us[j]? = some u' → u.ownBlock = none ∨ u.ownBlock ≠ u'.ownBlock
def OwnII (w : World) (B : Nat) (v : Value) (xss : List (List Int)) : Prop := ∃ us, OwnU w B v us xss

theorem OwnU.len {w : World} {B : Nat} {v : Value} {us : List Value} {xss : List (List Int)} (h : OwnU w B v us xss) : us.length = xss.length := by simpa using h.row.1
theorem OwnU.same {w w' : World} {B : Nat} {v : Value} {us : List Value} {xss : List (List Int)} (h : OwnU w B v us xss) (k : ∀ b, b < w.heap.size → w'.heap[b]? = w.heap[b]?) : OwnU w' B v us xss :=
  ⟨own_same h.row k, fun i u xs hu hx => (h.each i u xs hu hx).same k, h.apart⟩
theorem OwnU.drewN {w : World} {B : Nat} {v : Value} {us : List Value} {xss : List (List Int)} (n : Nat) (h : OwnU w B v us xss) : OwnU (w.drewN n) B v us xss := ⟨h.row, h.each, h.apart⟩
theorem OwnII.same {w w' : World} {B : Nat} {v : Value} {xss : List (List Int)} (h : OwnII w B v xss) (k : ∀ b, b < w.heap.size → w'.heap[b]? = w.heap[b]?) : OwnII w' B v xss := h.imp fun _ h => h.same k
theorem OwnII.base {w : World} {B B' : Nat} {v : Value} {xss : List (List Int)} (h : OwnII w B v xss) (k : B' ≤ B) : OwnII w B' v xss := by
  obtain ⟨us, h1, h2, h3⟩ := h
  exact ⟨us, own_base h1 k, fun i u xs hu hx => own_base (h2 i u xs hu hx) k, h3⟩
theorem OwnII.nil (w : World) (B : Nat) : OwnII w B (.slice none 0 0) [] := ⟨[], World.ownsRow_nil _ _ _ _, fun i u xs hu => by simp at hu, fun i j u u' _ hu => by simp at hu⟩
theorem OwnU.ints {w : World} {B : Nat} {v : Value} {us : List Value} {xss : List (List Int)} (h : OwnU w B v us xss) : IntSS w.heap v xss :=
  ⟨us, slAt_of_own h.row, h.len, fun i u xs hu hx => (h.each i u xs hu hx).ints⟩
theorem OwnII.ints {w : World} {B : Nat} {v : Value} {xss : List (List Int)} (h : OwnII w B v xss) : IntSS w.heap v xss := h.elim fun _ h => h.ints
/-- 'out := [][]int64{}' -/
theorem ownII_empty {w : World} {B : Nat} (hB : B ≤ w.heap.size) : OwnII (w.alloc (.cells #[] 30)) B (.slice (some ⟨w.heap.size, 0, none⟩) 0 0) [] :=
  ⟨[], World.ownsRow_made w #[] 0 hB (Nat.zero_le _) rfl, fun i u xs hu => by simp at hu, fun i j u u' _ hu => by simp at hu⟩

theorem own_ne_types {w : World} {B B' e e' n n' : Nat} {v v' : Value} {us us' : List Value} (h : w.ownsRow B e 1 v n us) (h' : w.ownsRow B' e' 1 v' n' us') (ne : e ≠ e') : v.ownBlock = none ∨ v.ownBlock ≠ v'.ownBlock := by
  rcases h.2 with ⟨rfl, _⟩ | ⟨g, cap, cur, rfl, hb, hg, _⟩
  · exact .inl rfl
  · right
    rcases h'.2 with ⟨rfl, _⟩ | ⟨g', cap', cur', rfl, hb', hg', _⟩
    · simp [Value.ownBlock]
    · intro e1
      simp only [Value.ownBlock, Option.some.injEq] at e1
      subst e1
      rw [hg] at hg'
      simp only [Option.some.injEq, Obj.cells.injEq] at hg'
      exact ne hg'.2.1

theorem own_oneCell {w : World} {B e n : Nat} {v : Value} {us : List Value} (h : w.ownsRow B e 1 v n us) : v.oneCell' = true := by
  rcases h.2 with ⟨rfl, _⟩ | ⟨g, cap, cur, rfl, _⟩ <;> rfl

/-- Owned, and a world in which its block has not turned. -/
theorem own_kept {w w' : World} {B e n : Nat} {v : Value} {us : List Value} (h : w.ownsRow B e 1 v n us) (k : ∀ b, v.ownBlock = some b → w'.heap[b]? = w.heap[b]?) : w'.ownsRow B e 1 v n us := by
  obtain ⟨h1, h2⟩ := h
  refine ⟨h1, ?_⟩
  rcases h2 with h2 | ⟨g, cap, cur, rfl, hb, hg, r⟩
  · exact .inl h2
  · exact .inr ⟨g, cap, cur, rfl, hb, by rw [k g rfl]; exact hg, r⟩

/-- One row more: the outer row has been appended to. -/
theorem OwnU.append {wE W w' : World} {B : Nat} {v v' u : Value} {us : List Value} {xss : List (List Int)} {xs : List Int} (h : OwnU wE B v us xss) (hE : Below wE.heap.size wE W) (hB : B ≤ wE.heap.size) (hu : OwnI W wE.heap.size u xs)
    (hrow : w'.ownsRow B 30 1 v' (xss.length + 1) (us ++ [u])) (hk : ∀ b, b < W.heap.size → some b ≠ v.ownBlock → w'.heap[b]? = W.heap[b]?) : OwnU w' B v' (us ++ [u]) (xss ++ [xs]) := by
  have hW := h.same hE.block
  have hl := h.len
  refine ⟨by simpa using hrow, fun i x ys hx hy => ?_, fun i j x x' hij hx hx' => ?_⟩
  · by_cases hi : i < us.length
    · rw [List.getElem?_append_left hi] at hx
      rw [List.getElem?_append_left (by omega)] at hy
      have ho := hW.each i x ys hx hy
      refine own_kept ho fun b hb => hk b (World.ownsRow.lt ho b hb).2 ?_
      rcases own_ne_types ho hW.row (by decide) with e | e
      · rw [e] at hb; cases hb
      · rw [← hb]; exact e
    · rw [List.getElem?_append_right (by omega)] at hx
      rw [List.getElem?_append_right (by omega)] at hy
      obtain ⟨e1, rfl⟩ : i = us.length ∧ x = u := by
        by_cases e : i - us.length = 0
        · rw [e] at hx; simp at hx; exact ⟨by omega, hx.symm⟩
        · obtain ⟨m, hm⟩ : ∃ m, i - us.length = m + 1 := ⟨i - us.length - 1, by omega⟩
          rw [hm] at hx; simp at hx
      rw [show i - xss.length = 0 by omega] at hy
      simp at hy; subst hy
      refine own_kept (own_base hu hB) fun b hb => hk b (World.ownsRow.lt hu b hb).2 ?_
      rcases own_ne_types hu hW.row (by decide) with e | e
      · rw [e] at hb; cases hb
      · rw [← hb]; exact e
  · by_cases hj : j < us.length
    · rw [List.getElem?_append_left hj] at hx'
      rw [List.getElem?_append_left (by omega)] at hx
      exact h.apart i j x x' hij hx hx'
    · rw [List.getElem?_append_right (by omega)] at hx'
      obtain ⟨e1, rfl⟩ : j = us.length ∧ x' = u := by
        by_cases e : j - us.length = 0
        · rw [e] at hx'; simp at hx'; exact ⟨by omega, hx'.symm⟩
        · obtain ⟨m, hm⟩ : ∃ m, j - us.length = m + 1 := ⟨j - us.length - 1, by omega⟩
          rw [hm] at hx'; simp at hx'
      rw [List.getElem?_append_left (by omega)] at hx
      have hi : i < xss.length := by omega
      have ho := h.each i x _ hx (List.getElem?_eq_getElem hi)
      cases hb : x.ownBlock with
      | none => exact .inl rfl
      | some b =>
        right
        intro e
        have h1 := (World.ownsRow.lt ho b hb).2
        have h2 := (World.ownsRow.lt hu b e.symm).1
        omega

/-- A literal of two numbers. -/
theorem ownI_lit2 {w : World} {B : Nat} (hB : B ≤ w.heap.size) (x y : Int) : OwnI (w.alloc (.cells #[.int .i64 x, .int .i64 y] 2)) B (.slice (some ⟨w.heap.size, 0, none⟩) 2 2) [x, y] :=
  World.ownsRow_lit (e := 2) (size := 1) w #[.int .i64 x, .int .i64 y] 2 hB (by unfold maxLen; omega) rfl

/-- How many numbers the rows hold. -/
def cnt (xss : List (List Int)) : Nat := (xss.map List.length).sum
theorem cnt_cons (xs : List Int) (xss : List (List Int)) : cnt (xs :: xss) = xs.length + cnt xss := by simp [cnt]
theorem cnt_append (a b : List (List Int)) : cnt (a ++ b) = cnt a + cnt b := by simp [cnt]
theorem cnt_take_succ (xss : List (List Int)) (j : Nat) (h : j < xss.length) : cnt (xss.take (j + 1)) = cnt (xss.take j) + xss[j].length := by
  rw [List.take_succ_eq_append_getElem h, cnt_append, cnt_cons]; simp [cnt]
theorem cnt_take_le (xss : List (List Int)) (j : Nat) : cnt (xss.take j) ≤ cnt xss := by
  have h := cnt_append (xss.take j) (xss.drop j)
  rw [List.take_append_drop] at h
  omega
/-- Rows that are marked one behind the other. -/
def marksS (k : Int) : List (List Int) → List (List Int)
  | [] => []
  | xs :: r => marks k xs.length :: marksS (k + xs.length) r
theorem marksS_length (k : Int) (xss : List (List Int)) : (marksS k xss).length = xss.length := by
  induction xss generalizing k with
  | nil => rfl
  | cons x r ih => simp [marksS, ih]
theorem marksS_at (xss : List (List Int)) : ∀ (k : Int) (j : Nat) (h : j < xss.length), (marksS k xss)[j]? = some (marks (k + cnt (xss.take j)) xss[j].length) := by
  induction xss with
  | nil => intro k j h; simp at h
  | cons x r ih =>
    intro k j h
    cases j with
    | zero => simp [marksS, cnt]
    | succ j =>
      simp only [marksS, List.getElem?_cons_succ, List.take_succ_cons, List.getElem_cons_succ]
      rw [ih _ j (by simpa using h), cnt_cons]
      simp only [Int.natCast_add, Int.add_assoc]
/-- The first j rows are marked. -/
def markedS (k : Int) (xss : List (List Int)) (j : Nat) : List (List Int) := (marksS k xss).take j ++ xss.drop j
theorem markedS_length (k : Int) (xss : List (List Int)) (j : Nat) : (markedS k xss j).length = xss.length := by
  simp [markedS, marksS_length]; omega
theorem markedS_at (k : Int) (xss : List (List Int)) (j i : Nat) (hi : i < xss.length) : (markedS k xss j)[i]? = if i < j then (marksS k xss)[i]? else xss[i]? := by
  unfold markedS
  by_cases h : i < j
  · rw [if_pos h, List.getElem?_append_left (by simp [marksS_length]; omega), List.getElem?_take, if_pos h]
  · rw [if_neg h, List.getElem?_append_right (by simp; omega)]
    simp only [List.length_take, marksS_length, List.getElem?_drop]
    by_cases hj : j ≤ xss.length
    · rw [Nat.min_eq_left hj, Nat.add_sub_cancel' (by omega)]
    · omega
theorem markedS_set (k : Int) (xss : List (List Int)) (j : Nat) (h : j < xss.length) : (markedS k xss j).set j (marks (k + cnt (xss.take j)) xss[j].length) = markedS k xss (j + 1) := by
  apply List.ext_getElem?
  intro i
  rw [List.getElem?_set]
  by_cases hi : i < xss.length
  · rw [markedS_at _ _ _ _ hi, markedS_at _ _ _ _ hi]
    by_cases e : j = i
    · subst e
      rw [if_pos rfl, markedS_length, if_pos h, if_pos (by omega), marksS_at _ _ _ h]
    · rw [if_neg e]
      by_cases h2 : i < j
      · rw [if_pos h2, if_pos (by omega)]
      · rw [if_neg h2, if_neg (by omega)]
  · rw [if_neg (by omega), List.getElem?_eq_none (by rw [markedS_length]; omega), List.getElem?_eq_none (by rw [markedS_length]; omega)]
theorem markedS_all (k : Int) (xss : List (List Int)) : markedS k xss xss.length = marksS k xss := by
  rw [markedS, List.drop_length, List.append_nil, ← marksS_length k xss, List.take_length]

/-- One row has been written, in its own block. -/
theorem OwnU.set {w w' : World} {B : Nat} {v u : Value} {us : List Value} {xss : List (List Int)} {ys : List Int} {j : Nat} (h : OwnU w B v us xss) (hj : us[j]? = some u) (hg : w.grownBy w' u.ownBlock) (ho : OwnI w' B u ys) :
    OwnU w' B v us (xss.set j ys) := by
  have hl := h.len
  have hjl : j < us.length := by
    by_cases e : j < us.length
    · exact e
    · rw [List.getElem?_eq_none (by omega)] at hj; cases hj
  have hu := h.each j u _ hj (List.getElem?_eq_getElem (show j < xss.length by omega))
  refine ⟨?_, fun i x xs hx hy => ?_, h.apart⟩
  · rw [List.length_set]
    refine own_kept h.row fun b hb => hg.block b (World.ownsRow.lt h.row b hb).2 ?_
    rcases own_ne_types hu h.row (by decide) with e | e
    · rw [e]; simp
    · rw [← hb]; exact fun x => e x.symm
  · by_cases e : j = i
    · subst e
      rw [List.getElem?_set_self (by omega)] at hy
      rw [hj] at hx
      simp only [Option.some.injEq] at hx hy
      subst hx; subst hy; exact ho
    · rw [List.getElem?_set_ne e] at hy
      have hx' := h.each i x xs hx hy
      refine own_kept hx' fun b hb => hg.block b (World.ownsRow.lt hx' b hb).2 ?_
      rw [← hb]
      rcases Nat.lt_or_gt_of_ne e with h1 | h1
      · rcases h.apart j i u x h1 hj hx with e1 | e1
        · rw [e1, hb]; simp
        · exact fun z => e1 z.symm
      · rcases h.apart i j x u h1 hx hj with e1 | e1
        · rw [e1] at hb; cases hb
        · exact e1
end Go.Proofs.YtalbbjhonkcbgaaGreatDoor

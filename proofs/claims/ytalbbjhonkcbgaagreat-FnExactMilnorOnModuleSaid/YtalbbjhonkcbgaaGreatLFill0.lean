/- Going through all tables: what the program's stores do, and plain laws of the list of results. -/
import Derived.Test.YtalbbjhonkcbgaaGreatLTabM
namespace Go.Proofs.YtalbbjhonkcbgaaGreat
open Go.RowKit Go.Sort

theorem place (i n j : Nat) (hj : j < n) : (i * n + j) / n = i ∧ (i * n + j) % n = j := by
  constructor
  · rw [Nat.mul_comm, Nat.mul_add_div (by omega), Nat.div_eq_of_lt hj, Nat.add_zero]
  · rw [Nat.mul_comm, Nat.mul_add_mod, Nat.mod_eq_of_lt hj]
theorem place_lt {i n j m : Nat} (hi : i < m) (hj : j < n) : i * n + j < m * n := by
  have h := Nat.mul_le_mul_right n (show i + 1 ≤ m by omega)
  rw [Nat.add_mul] at h
  omega
theorem setC_setC (C : List (List Int)) (i j : Nat) (x y : Int) : setC (setC C i j y) i j x = setC C i j x := by
  unfold setC
  by_cases hi : i < C.length
  · simp [hi, List.set_set]
  · rw [List.set_eq_of_length_le (by simp; omega), List.set_eq_of_length_le (by omega), List.set_eq_of_length_le (by omega)]
theorem setC_length (C : List (List Int)) (i j : Nat) (x : Int) : (setC C i j x).length = C.length := by simp [setC]
theorem setC_rows {C : List (List Int)} {n : Nat} (h : ∀ r ∈ C, r.length = n) (i j : Nat) (x : Int) : ∀ r ∈ setC C i j x, r.length = n := by
  intro r hr
  by_cases hi : i < C.length
  · rcases List.mem_or_eq_of_mem_set hr with e | e
    · exact h r e
    · rw [e, List.length_set, show C.getD i [] = C[i] by simp [hi]]; exact h _ (List.getElem_mem hi)
  · unfold setC at hr
    rw [List.set_eq_of_length_le (by omega)] at hr; exact h r hr
theorem Sm.setI {b : Int} {r : List Int} (h : Sm b r) (i : Nat) (x : Int) (h0 : 0 ≤ x) (h1 : x ≤ b) : Sm b (r.set i x) := by
  intro y hy
  rcases List.mem_or_eq_of_mem_set hy with e | e
  · exact h y e
  · rw [e]; exact ⟨h0, h1⟩
theorem setC_sm {C : List (List Int)} {b : Int} (h : ∀ r ∈ C, Sm b r) (i j : Nat) (x : Int) (h0 : 0 ≤ x) (h1 : x ≤ b) : ∀ r ∈ setC C i j x, Sm b r := by
  intro r hr
  by_cases hi : i < C.length
  · rcases List.mem_or_eq_of_mem_set hr with e | e
    · exact h r e
    · rw [e, show C.getD i [] = C[i] by simp [hi]]; exact (h _ (List.getElem_mem hi)).setI j x h0 h1
  · unfold setC at hr
    rw [List.set_eq_of_length_le (by omega)] at hr; exact h r hr
/-- The cells from number p on are 0. -/
def ZeroFrom (n : Nat) (C : List (List Int)) (p : Nat) : Prop := ∀ i j, j < n → p ≤ i * n + j → (C.getD i []).getD j 0 = 0
theorem setC_zero {C : List (List Int)} {n i j : Nat} (hi : i < C.length) (hj : j < n) (hz : ZeroFrom n C (i * n + j)) : setC C i j 0 = C := by
  have h := hz i j hj (Nat.le_refl _)
  unfold setC
  apply List.ext_getElem (by simp)
  intro k h1 h2
  rw [List.getElem_set]
  split
  · rename_i e; subst e
    rw [show C.getD i [] = C[i] by simp [hi]] at h ⊢
    apply List.ext_getElem (by simp)
    intro l h3 h4
    rw [List.getElem_set]
    split
    · rename_i e; subst e; simpa [h4] using h.symm
    · rfl
  · rfl
theorem zero_setC {C : List (List Int)} {n i j : Nat} (hi : i < C.length) (hz : ZeroFrom n C (i * n + j)) (x : Int) : ZeroFrom n (setC C i j x) (i * n + j + 1) := by
  intro i' j' hj' hp
  have h0 := hz i' j' hj' (by omega)
  unfold setC
  by_cases e : i = i'
  · subst e
    rw [show (C.set i ((C.getD i []).set j x)).getD i [] = (C.getD i []).set j x by simp [hi]]
    have hne : j ≠ j' := by omega
    rw [List.getD_eq_getElem?_getD] at h0 ⊢
    rw [List.getElem?_set_ne hne]; exact h0
  · rw [show (C.set i ((C.getD i []).set j x)).getD i' [] = C.getD i' [] by simp [List.getElem?_set_ne e]]; exact h0
theorem flat_prefix {α : Type} (f : Nat → List α) (N x : Nat) (hx : x < N) : ((List.range x).flatMap f).length + (f x).length ≤ ((List.range N).flatMap f).length := by
  induction N with
  | zero => omega
  | succ N ih =>
    rw [List.range_succ, List.flatMap_append, List.length_append]
    by_cases e : x = N
    · subst e; simp
    · have := ih (by omega); omega
theorem flat_succ {α : Type} (f : Nat → List α) (x : Nat) : (List.range (x + 1)).flatMap f = (List.range x).flatMap f ++ f x := by
  rw [List.range_succ, List.flatMap_append]; simp
theorem sh2_small : ∀ j : Nat, j < 40 → IntKind.i64.wrap (2 * 2 ^ min j 64) = 2 ^ (j + 1) := by decide +kernel
theorem sh2_run (j : Nat) (hj : j < 40) (yk : IntKind) : Op.shift BinOp.shl IntKind.i64 2 yk (j : Int) = pure (.int .i64 (2 ^ (j + 1))) := by
  rw [Op.shift, if_neg (by omega), show ((j : Int)).toNat = j by omega]
  rw [show (2 : Int) ^ (j + 1) = IntKind.i64.wrap (2 * 2 ^ min j 64) from (sh2_small j hj).symm]; rfl
theorem sh2_wrap : ∀ j : Nat, j < 40 → wrap64 (2 * 2 ^ j) = 2 ^ (j + 1) := by decide +kernel
theorem pow_in : ∀ j : Nat, j < 40 → (2 : Int) ≤ 2 ^ (j + 1) ∧ (2 : Int) ^ (j + 1) ≤ 2199023255552 := by decide +kernel
section
variable {w w' : World} {B D g : Nat} {rv sv cv ov : Value} {cus ous : List Value} {R S : List Int} {C O : List (List Int)}
theorem TabV.rAt (h : TabV w B D g rv sv cv ov cus ous R S C O) {k l cap : Nat} (hv : rv = .slice (some ⟨k, 0, none⟩) l cap) (i : Nat) (hi : i < R.length) : w.cell? ⟨k, i, none⟩ = some (.int .i64 (R.getD i 0)) ∧ w.frozen? ⟨k, i, none⟩ = false := by
  have hr := h.r
  have hl : l = R.length := by have := hr.ints.len; rw [hv] at this; obtain ⟨_, _, e, _⟩ := this; simp only [Value.slice.injEq] at e; exact e.2.1
  rw [hv, hl] at hr
  exact ⟨own_int_at hr i hi, World.ownsRow.frozenAt hr i⟩
theorem TabV.sAt (h : TabV w B D g rv sv cv ov cus ous R S C O) {k l cap : Nat} (hv : sv = .slice (some ⟨k, 0, none⟩) l cap) (i : Nat) (hi : i < S.length) : w.cell? ⟨k, i, none⟩ = some (.int .i64 (S.getD i 0)) ∧ w.frozen? ⟨k, i, none⟩ = false := by
  have hr := h.s
  have hl : l = S.length := by have := hr.ints.len; rw [hv] at this; obtain ⟨_, _, e, _⟩ := this; simp only [Value.slice.injEq] at e; exact e.2.1
  rw [hv, hl] at hr
  exact ⟨own_int_at hr i hi, World.ownsRow.frozenAt hr i⟩
theorem TabV.cAt (h : TabV w B D g rv sv cv ov cus ous R S C O) {k l cap i : Nat} (hu : cus[i]? = some (.slice (some ⟨k, 0, none⟩) l cap)) (hi : i < C.length) (j : Nat) (hj : j < C[i].length) : w.cell? ⟨k, j, none⟩ = some (.int .i64 (C[i].getD j 0)) ∧ w.frozen? ⟨k, j, none⟩ = false := by
  have hr := h.c.each i _ _ hu (List.getElem?_eq_getElem hi)
  have hl : l = C[i].length := by have := hr.ints.len; obtain ⟨_, _, e, _⟩ := this; simp only [Value.slice.injEq] at e; exact e.2.1
  rw [hl] at hr
  exact ⟨own_int_at hr j hj, World.ownsRow.frozenAt hr j⟩
theorem TabV.cvAt (h : TabV w B D g rv sv cv ov cus ous R S C O) {k l cap : Nat} (hv : cv = .slice (some ⟨k, 0, none⟩) l cap) (i : Nat) (hi : i < C.length) : w.cell? ⟨k, i, none⟩ = cus[i]? := by
  have hr := h.c.row
  have hl : l = C.length := by have := h.c.ints.len; rw [hv] at this; obtain ⟨_, _, e, _⟩ := this; simp only [Value.slice.injEq] at e; exact e.2.1
  rw [hv, hl] at hr
  exact World.ownsRow.cellAt hr i (by omega)
theorem own_base_le {w : World} {B e n k l cap : Nat} {us : List Value} (h : w.ownsRow B e 1 (.slice (some ⟨k, 0, none⟩) l cap) n us) : B ≤ k := (h.lt k rfl).1
theorem getD_set_self (R : List Int) (i : Nat) (x : Int) (h : i < R.length) : (R.set i x).getD i 0 = x := by simp [h]
theorem set_back (R : List Int) (i : Nat) (x y : Int) (h : R.getD i 0 = x) : (R.set i y).set i x = R := by
  rw [List.set_set]
  apply List.ext_getElem (by simp)
  intro j h1 h2
  rw [List.getElem_set]
  split
  · rename_i e; subst e; simpa [h2] using h.symm
  · rfl
/-- What the walk must know of the shapes, where there is a row and a column. -/
theorem TabV.shapes (h : TabV w B D g rv sv cv ov cus ous R S C O) (hR : 0 < R.length) (hS : 0 < S.length) (hC : C.length = R.length) (hrow : ∀ x ∈ C, x.length = S.length) (i : Nat) (hi : i < R.length) :
    (∃ k cap, rv = .slice (some ⟨k, 0, none⟩) R.length cap) ∧ (∃ k cap, sv = .slice (some ⟨k, 0, none⟩) S.length cap) ∧ (∃ k cap, cv = .slice (some ⟨k, 0, none⟩) C.length cap) ∧ ∃ k cap, cus[i]? = some (.slice (some ⟨k, 0, none⟩) S.length cap) := by
  obtain ⟨k1, c1, e1, -⟩ := h.r.open hR
  obtain ⟨k2, c2, e2, -⟩ := h.s.open hS
  obtain ⟨k3, c3, e3, -⟩ := own_open h.c.row (by omega)
  have hl := h.c.len
  have hr := hrow _ (List.getElem_mem (show i < C.length by omega))
  obtain ⟨k4, c4, e4, -⟩ := (h.c.each i _ _ (List.getElem?_eq_getElem (show i < cus.length by omega)) (List.getElem?_eq_getElem (show i < C.length by omega))).open (by omega)
  rw [hr] at e4
  exact ⟨⟨k1, c1, e1⟩, ⟨k2, c2, e2⟩, ⟨k3, c3, e3⟩, k4, c4, by rw [List.getElem?_eq_getElem (show i < cus.length by omega), e4]⟩
end
end Go.Proofs.YtalbbjhonkcbgaaGreat

/- append to a slice that is only read and has no room left; stores to a cell of another type. Plain Lean over the model. -/
import Derived.Test.YtmnkccjddahcjaaGreatLStep2
import Derived.Test.YtmnkccjddahcjaaGreatLHeld2
namespace Go.Proofs.YtmnkccjddahcjaaGreat
open Go.RowKit Go.Sort

theorem IntS.clip {h : Array Obj} {ao : Option Addr} {c : Nat} {xs : List Int} (a : IntS h (.slice ao xs.length c) xs) : IntS h (.slice ao xs.length xs.length) xs := by
  rcases a with ⟨hv, he⟩ | ⟨b, off, cap, cur, hv, hb, h1, h2, h3, h4⟩
  · simp only [Value.slice.injEq] at hv
    obtain ⟨rfl, -, rfl⟩ := hv
    simp at he; subst he
    exact .inl ⟨rfl, rfl⟩
  · simp only [List.length_map, Value.slice.injEq, true_and] at hv h1 h4
    obtain ⟨rfl, rfl⟩ := hv
    exact .inr ⟨b, off, xs.length, cur, by simp, hb, by simp, by unfold maxLen at *; omega, by omega, by simpa using h4⟩
section
variable {ops : Array Oper} {o : Oper} {a : Act} {Q : Exit → Act → World → Prop} {K : Act → World → Prop} {E : Prop}
theorem grown_own {w : World} {z : Value} (xs : List Int) (n : Int) (old : Nat) (hz : z.cells.size = 1) (hx : xs.length < 4398046511104) :
    OwnI (w.drew.alloc (.cells ((xs.map (Value.int .i64)).toArray ++ [Value.int .i64 n].toArray ++ Builtin.zeroCells z.cells (grownCap w (xs.length + 1) old 2 - (xs.length + 1))) 2)) w.heap.size (.slice (some ⟨w.heap.size, 0, none⟩) (xs.length + 1) (grownCap w (xs.length + 1) old 2)) (xs ++ [n]) := by
  have hge := grownCap_ge w (xs.length + 1) old 2
  have hcm : grownCap w (xs.length + 1) old 2 ≤ maxLen := grownCap_le_maxLen w (xs.length + 1) old 2 (by unfold maxLen; omega)
  refine ⟨by simp, .inr ⟨w.heap.size, _, _, by simp, Nat.le_refl _, heap_alloc_new w.drew _, by simpa using hge, hcm, ?_, ?_⟩⟩
  · simp only [Array.size_append, List.size_toArray, size_zeroCells, hz, List.length_map, List.length_singleton]
    omega
  · simp only [Array.toList_append, List.append_assoc]
    rw [← List.append_assoc]
    have : ((xs.map (Value.int .i64)) ++ [Value.int .i64 n]).length = (xs ++ [n]).length * 1 := by simp
    rw [← this, List.map_append]
    exact List.take_left
/-- 'append(r, n)' at a step of a region that draws, r a slice that reads and has no room left: the list lies in new memory. -/
theorem step_append_full {w : World} (hg : o.guard = none) (s x : Operand)
    (ho : o.op = .call { callee := .builtin .append, args := #[s, x], argTypes := #[56, 56] })
    (ao : Option Addr) (xs : List Int) (h : IntS w.heap (.slice ao xs.length xs.length) xs) (hs : a.eval s = .slice ao xs.length xs.length) (b : Nat) (n : Int) (hx : a.eval x = .slice (some ⟨b, 0, none⟩) 1 1) (hb : w.heap[b]? = some (.cells #[.int .i64 n] 2 (0, 0)))
    (hn : xs.length < 4398046511104)
    (hK : ∀ v' w', OwnI w' w.heap.size v' (xs ++ [n]) → Below w.heap.size w w' → K (a.put o.dst v') w') :
    if Region.wanted o (yielded ops a.tmps) = true then Oper.wp Tryz.prog o a w K Q else E := by
  have hw : Region.wanted o (yielded ops a.tmps) = true := by simp [Region.wanted, hg]
  rw [if_pos hw]
  obtain ⟨i0, hi, hz0, hz1, hz2⟩ := info_parts info_int64
  have hzc : (Value.int .i64 0).cells.size = 1 := rfl
  have hnew : ∀ (j : Nat) (u : Value), [Value.int .i64 n][j]? = some u → w.cell? ((⟨b, 0, none⟩ : Addr).add j) = some u := by
    intro j u hj
    match j, hj with
    | 0, hj =>
      simp at hj; subst hj
      rw [Addr.add_lit, World.cell?]; simp only [hb]; rfl
  have hbl : ∀ o, Below w.heap.size w (w.drew.alloc o) := fun o => ((Below.refl w.heap.size w).drew).alloc (Nat.le_refl _) _
  rcases h with ⟨hv, he⟩ | ⟨b2, off, cap, cur, hv, hb2, k1, k2, k3, k4⟩
  · simp only [Value.slice.injEq] at hv
    obtain ⟨rfl, -, -⟩ := hv
    simp at he; subst he
    have hr := run_append_nil (P := Tryz.prog) w 56 o.type 2 i0 _ Tryz.underlying56 hi hz0 ⟨b, 0, none⟩ 1 1 [Value.int .i64 n] (by rw [hz1]; rfl) hnew (by omega) (by omega) (by rw [hz2]; omega)
    have hg2 := grown_own (w := w) [] n 0 hzc (by simp)
    unfold Oper.wp
    simp only [List.length_nil] at hs
    simp [execOp, ho, resolve, invoke, builtin, hs, hx, hr, Result.andThen]
    refine hK _ _ ?_ (hbl _)
    simpa using hg2
  · simp only [List.length_map, Value.slice.injEq, true_and] at hv k1 k4
    obtain ⟨rfl, rfl⟩ := hv
    have hold : ∀ (j : Nat) (u : Value), (xs.map (Value.int .i64))[j]? = some u → w.cell? ((⟨b2, off, none⟩ : Addr).add j) = some u := by
      intro j u hj
      have hjl : j < xs.length := by have := (List.getElem?_eq_some_iff.1 hj).1; simpa using this
      rw [Addr.add_lit, World.cell?]; simp only [hb2]
      have := congrArg (fun l : List Value => l[j]?) k4
      simp only [List.getElem?_take, List.getElem?_drop, Array.getElem?_toList] at this
      rw [if_pos hjl] at this
      rw [this]; exact hj
    have hfit : Builtin.nextslicecap (xs.length + 1) xs.length * i0.bytes ≤ 281474976710656 := growslice_fits (by omega) (by rw [hz2]; omega)
    have hr := run_append_grow (P := Tryz.prog) w 56 o.type 2 i0 _ Tryz.underlying56 hi hz0 ⟨b2, off, none⟩ xs.length xs.length (xs.map (Value.int .i64)) (by rw [hz1]; simp) hold ⟨b, 0, none⟩ 1 1 [Value.int .i64 n] (by rw [hz1]; rfl) hnew (by omega) (by omega) hfit
    have hg2 := grown_own (w := w) xs n xs.length hzc hn
    unfold Oper.wp
    simp [execOp, ho, resolve, invoke, builtin, hs, hx, hr, Result.andThen]
    refine hK _ _ ?_ (hbl _)
    simpa using hg2
end
/-- A cell of another type is stored. -/
theorem own_other {w : World} {B e n g t : Nat} {v x : Value} {us : List Value} (h : w.ownsRow B e 1 v n us) (k : Cell1 w g x t) (ne : e ≠ t) (u : Value) : (w.setCell ⟨g, 0, none⟩ u).ownsRow B e 1 v n us := by
  refine own_kept h fun b hb => Below.heap_setCell _ _ _ _ ?_
  rintro rfl
  rcases h.2 with ⟨rfl, _⟩ | ⟨g', cap, cur, rfl, _, hg, _⟩
  · cases hb
  · simp only [Value.ownBlock, Option.some.injEq] at hb
    subst hb
    rw [show w.heap[g']? = _ from k] at hg
    simp only [Option.some.injEq, Obj.cells.injEq] at hg
    exact ne hg.2.1.symm
theorem OwnU.other {w : World} {B g t : Nat} {v x : Value} {us : List Value} {xss : List (List Int)} (h : OwnU w B v us xss) (k : Cell1 w g x t) (n1 : 56 ≠ t) (n2 : 2 ≠ t) (u : Value) : OwnU (w.setCell ⟨g, 0, none⟩ u) B v us xss :=
  ⟨own_other h.row k n1 u, fun i y xs hy hx => own_other (h.each i y xs hy hx) k n2 u, h.apart⟩
theorem KeepI.cell {w : World} {g t : Nat} {x : Value} (k : Cell1 w g x t) (ne : 2 ≠ t) (u : Value) : KeepI w (w.setCell ⟨g, 0, none⟩ u) := fun b cs f hb => by
  rw [Below.heap_setCell _ _ _ _ ?_]; exact hb
  rintro rfl
  rw [show w.heap[b]? = _ from k] at hb
  simp only [Option.some.injEq, Obj.cells.injEq] at hb
  exact ne hb.2.1.symm
end Go.Proofs.YtmnkccjddahcjaaGreat

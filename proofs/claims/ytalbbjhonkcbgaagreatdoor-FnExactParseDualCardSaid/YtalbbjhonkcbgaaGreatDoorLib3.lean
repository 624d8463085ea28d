/- A variable of two cells in memory; appends of a whole slice. Plain Lean over the model. -/
import Derived.Test.YtalbbjhonkcbgaaGreatDoorLib2
import Derived.Laws.AppendOwnNone
namespace Go.Proofs.YtalbbjhonkcbgaaGreatDoor
open Go.RowKit

theorem own_shape {w : World} {B e n : Nat} {v : Value} {us : List Value} (h : w.ownsRow B e 1 v n us) : ∃ ao l c, v = .slice ao l c := by
  rcases h.2 with ⟨rfl, _⟩ | ⟨g, cap, cur, rfl, _⟩
  · exact ⟨_, _, _, rfl⟩
  · exact ⟨_, _, _, rfl⟩
theorem cells_of {v : Value} (h : v.oneCell' = true) : v.cells = #[v] := by
  cases v <;> first | rfl | cases h
/-- Block g is a variable of two cells of type t. -/
def Var2 (w : World) (g : Nat) (x y : Value) (t : Nat) : Prop := w.heap[g]? = some (.cells #[x, y] t (0, 0))
section
variable {w w' : World} {g : Nat} {x y : Value} {t : Nat}
theorem Var2.c0 (h : Var2 w g x y t) : w.cell? ⟨g, 0, none⟩ = some x := by rw [World.cell?]; simp only [show w.heap[g]? = _ from h]; rfl
theorem Var2.c1 (h : Var2 w g x y t) : w.cell? ⟨g, 1, none⟩ = some y := by rw [World.cell?]; simp only [show w.heap[g]? = _ from h]; rfl
theorem Var2.free (h : Var2 w g x y t) (j : Nat) : w.frozen? ⟨g, j, none⟩ = false := by rw [World.frozen?]; simp only [show w.heap[g]? = _ from h]; simp
theorem Var2.lt (h : Var2 w g x y t) : g < w.heap.size := (Array.getElem?_eq_some_iff.1 h).1
theorem Var2.same (h : Var2 w g x y t) (k : w'.heap[g]? = w.heap[g]?) : Var2 w' g x y t := k.trans h
theorem Var2.below {B : Nat} (h : Var2 w g x y t) (k : Below B w w') (hg : g < B) : Var2 w' g x y t := h.same (k.block g hg)
theorem Var2.kept (h : Var2 w g x y t) (k : ∀ b, b < w.heap.size → w'.heap[b]? = w.heap[b]?) : Var2 w' g x y t := h.same (k g h.lt)
theorem Var2.new (w : World) (x y : Value) (t : Nat) : Var2 (w.alloc (.cells #[x, y] t)) w.heap.size x y t := heap_alloc_new w _
theorem Var2.set0 (h : Var2 w g x y t) (u : Value) : Var2 (w.setCell ⟨g, 0, none⟩ u) g u y t := heap_setCell_same w g 0 _ t u h
theorem Var2.set1 (h : Var2 w g x y t) (u : Value) : Var2 (w.setCell ⟨g, 1, none⟩ u) g x u t := heap_setCell_same w g 1 _ t u h
theorem Var2.setFar (h : Var2 w g x y t) (p : Addr) (hp : g ≠ p.block) (u : Value) : Var2 (w.setCell p u) g x y t := h.same (Below.heap_setCell _ _ _ _ hp)
/-- An owned row is no such variable. -/
theorem own_ne_var {B e n : Nat} {v : Value} {us : List Value} (h : w.ownsRow B e 1 v n us) (k : Var2 w g x y t) (ne : e ≠ t) : v.ownBlock ≠ some g := by
  rcases h.2 with ⟨rfl, _⟩ | ⟨b, cap, cur, rfl, _, hg, _⟩
  · simp [Value.ownBlock]
  · intro e1
    simp only [Value.ownBlock, Option.some.injEq] at e1
    subst e1
    rw [show w.heap[b]? = _ from k] at hg
    simp only [Option.some.injEq, Obj.cells.injEq] at hg
    exact ne hg.2.1.symm
end

theorem OwnI.setVar {w : World} {B g t j : Nat} {v x y : Value} {xs : List Int} (h : OwnI w B v xs) (k : Var2 w g x y t) (ne : t ≠ 2) (u : Value) : OwnI (w.setCell ⟨g, j, none⟩ u) B v xs :=
  own_setCell_other h _ (own_ne_var h k (fun e => ne e.symm)) u
theorem OwnU.setVar {w : World} {B g t j : Nat} {v x y : Value} {us : List Value} {xss : List (List Int)} (h : OwnU w B v us xss) (k : Var2 w g x y t) (ne : t ≠ 2) (ne2 : t ≠ 30) (u : Value) : OwnU (w.setCell ⟨g, j, none⟩ u) B v us xss :=
  ⟨own_setCell_other h.row _ (own_ne_var h.row k (fun e => ne2 e.symm)) u, fun i z xs hz hx => (h.each i z xs hz hx).setVar k ne u, h.apart⟩
theorem OwnI.setFar {w : World} {B : Nat} {v : Value} {xs : List Int} (h : OwnI w B v xs) (p : Addr) (hp : v.ownBlock ≠ some p.block) (u : Value) : OwnI (w.setCell p u) B v xs := own_setCell_other h p hp u
theorem OwnU.setFar {w : World} {B : Nat} {v : Value} {us : List Value} {xss : List (List Int)} (h : OwnU w B v us xss) (p : Addr) (hp : v.ownBlock ≠ some p.block) (hu : ∀ u, u ∈ us → u.ownBlock ≠ some p.block) (z : Value) : OwnU (w.setCell p z) B v us xss :=
  ⟨own_setCell_other h.row p hp z, fun i u xs hx hy => own_setCell_other (h.each i u xs hx hy) p (hu u (List.mem_of_getElem? hx)) z, h.apart⟩

theorem ownI_lit3 {w : World} {B : Nat} (hB : B ≤ w.heap.size) (x y z : Int) : OwnI (w.alloc (.cells #[.int .i64 x, .int .i64 y, .int .i64 z] 2)) B (.slice (some ⟨w.heap.size, 0, none⟩) 3 3) [x, y, z] :=
  World.ownsRow_lit (e := 2) (size := 1) w #[.int .i64 x, .int .i64 y, .int .i64 z] 3 hB (by unfold maxLen; omega) rfl

section
variable {P : Program} {ops : Array Oper} {rest : List Oper} {o : Oper} {a : Act} {Q : Exit → Act → World → Prop}
/-- 'append(out, list...)', out the call's own. -/
theorem append_all {w w0 : World} (hg : o.guard = none) (s x : Operand) (t : TypeId)
    (ho : o.op = .call { callee := .builtin .append, args := #[s, x], argTypes := #[t, t] })
    (B e : Nat) (i : TypeInfo) (z : Value) (bytes : Nat) (ht : P.underlying t = some (.slice e)) (hi : P.info? e = some i) (hz : i.zero = some z)
    (hsize : i.size = 1) (hby : i.bytes = bytes) (hzs : z.cells.size = 1) (hb24 : bytes ≤ 24)
    (v vx : Value) (n : Nat) (us ys : List Value) (hown : w.ownsRow B e 1 v n us) (hs : a.eval s = v) (hR : SlAt w.heap e vx ys) (hx : a.eval x = vx) (hbl : Below B w0 w) (hB : B ≤ w.heap.size)
    (h1 : ∀ u, u ∈ ys → u.oneCell' = true) (hn : n + ys.length ≤ 4398046511104)
    (hK : ∀ v' w', w'.ownsRow B e 1 v' (n + ys.length) (us ++ ys) → Below B w0 w' → w.heap.size ≤ w'.heap.size → (∀ b, b < w.heap.size → some b ≠ v.ownBlock → w'.heap[b]? = w.heap[b]?) → wpList P ops Q rest (a.put o.dst v') w') :
    wpList P ops Q (o :: rest) a w := by
  rcases hR with ⟨rfl, rfl⟩ | ⟨b, off, cap, cur, rfl, hb, k1, k2, k3, k4⟩
  · refine wpList_append_own_none hg s x t ho B e i 1 ht hi v n us hs hown hx ?_
    exact hK v w (by simpa using hown) hbl (Nat.le_refl _) (fun _ _ _ => rfl)
  · refine wpList_append_own _ hg s x t ho B e i z 1 bytes ht hi hz hsize hby hzs (by omega) v n us hs hown ⟨b, off, none⟩ ys.length cap ys hx (by simp) ?_ h1 (by unfold maxLen; omega) ?_ hB ?_
    · intro j u hj
      have hjl : j < ys.length := (List.getElem?_eq_some_iff.1 hj).1
      rw [Addr.add_lit, World.cell?]; simp only [hb]
      have := congrArg (fun l : List Value => l[j]?) k4
      simp only [List.getElem?_take, List.getElem?_drop, Array.getElem?_toList] at this
      rw [if_pos hjl] at this
      simpa [this] using hj
    · have : (n + ys.length) * bytes ≤ (n + ys.length) * 24 := Nat.mul_le_mul_left _ hb24
      omega
    · intro v' w' h2 h3 _
      exact hK v' w' h2 (hbl.grown h3 hB (fun k hk => (hown.lt k hk).1)) h3.size (fun b hb hne => h3.block b hb hne)
end
end Go.Proofs.YtalbbjhonkcbgaaGreatDoor

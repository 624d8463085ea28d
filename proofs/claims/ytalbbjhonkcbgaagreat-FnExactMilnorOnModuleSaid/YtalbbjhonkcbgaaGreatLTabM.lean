/- The variable 'tables' of the program in memory: what is kept, what stores do. Plain Lean over the model. -/
import Derived.Test.YtalbbjhonkcbgaaGreatLTab
import Derived.Test.YtalbbjhonkcbgaaGreatLOdd2
import Derived.Test.YtalbbjhonkcbgaaGreatLGen
namespace Go.Proofs.YtalbbjhonkcbgaaGreat
open Go.RowKit Go.Sort

/-- Block g is a variable of type tables: r, s, cells, out; the first three lie below D, the last one behind. -/
structure TabV (w : World) (B D g : Nat) (rv sv cv ov : Value) (cus ous : List Value) (R S : List Int) (C O : List (List Int)) : Prop where
  var : w.heap[g]? = some (.cells #[rv, sv, cv, ov] 101 (0, 0))
  gB : B ≤ g
  gD : g < D
  r : OwnI w B rv R
  s : OwnI w B sv S
  c : OwnU w B cv cus C
  o : OwnU w D ov ous O
  rs : ∀ b, rv.ownBlock = some b → sv.ownBlock ≠ some b
  rc : ∀ u ∈ cus, ∀ b, u.ownBlock = some b → rv.ownBlock ≠ some b ∧ sv.ownBlock ≠ some b
  lr : ∀ b, rv.ownBlock = some b → b < D
  ls : ∀ b, sv.ownBlock = some b → b < D
  lv : ∀ b, cv.ownBlock = some b → b < D
  lc : ∀ u ∈ cus, ∀ b, u.ownBlock = some b → b < D
  lD : D ≤ w.heap.size
section
variable {w w' : World} {B D g : Nat} {rv sv cv ov : Value} {cus ous : List Value} {R S : List Int} {C O : List (List Int)}
theorem TabV.lg (h : TabV w B D g rv sv cv ov cus ous R S C O) : g < w.heap.size := (Array.getElem?_eq_some_iff.1 h.var).1
theorem TabV.c0 (h : TabV w B D g rv sv cv ov cus ous R S C O) : w.cell? ⟨g, 0, none⟩ = some rv := by rw [World.cell?]; simp only [h.var]; rfl
theorem TabV.c1 (h : TabV w B D g rv sv cv ov cus ous R S C O) : w.cell? ⟨g, 1, none⟩ = some sv := by rw [World.cell?]; simp only [h.var]; rfl
theorem TabV.c2 (h : TabV w B D g rv sv cv ov cus ous R S C O) : w.cell? ⟨g, 2, none⟩ = some cv := by rw [World.cell?]; simp only [h.var]; rfl
theorem TabV.c3 (h : TabV w B D g rv sv cv ov cus ous R S C O) : w.cell? ⟨g, 3, none⟩ = some ov := by rw [World.cell?]; simp only [h.var]; rfl
theorem TabV.free (h : TabV w B D g rv sv cv ov cus ous R S C O) (j : Nat) : w.frozen? ⟨g, j, none⟩ = false := by rw [World.frozen?]; simp only [h.var]; simp
/-- An owned row of another type does not lie there. -/
theorem own_ne_block {w : World} {B e n g t : Nat} {v : Value} {us cs : List Value} {ca : Array Value} (h : w.ownsRow B e 1 v n us) (k : w.heap[g]? = some (.cells ca t (0, 0))) (ne : e ≠ t) : v.ownBlock ≠ some g := by
  have _ := cs
  rcases h.2 with ⟨rfl, _⟩ | ⟨b, cap, cur, rfl, _, hg, _⟩
  · simp [Value.ownBlock]
  · intro e1
    simp only [Value.ownBlock, Option.some.injEq] at e1
    subst e1
    rw [k] at hg
    simp only [Option.some.injEq, Obj.cells.injEq] at hg
    exact ne hg.2.1.symm
theorem TabV.rowC (h : TabV w B D g rv sv cv ov cus ous R S C O) {u : Value} (hu : u ∈ cus) : ∃ (i : Nat) (xs : List Int), cus[i]? = some u ∧ C[i]? = some xs ∧ OwnI w B u xs := by
  obtain ⟨i, hi, rfl⟩ := List.getElem_of_mem hu
  have hl := h.c.len
  exact ⟨i, C[i]'(by omega), List.getElem?_eq_getElem hi, List.getElem?_eq_getElem (by omega), h.c.each i _ _ (List.getElem?_eq_getElem hi) (List.getElem?_eq_getElem (by omega))⟩
theorem TabV.rowO (h : TabV w B D g rv sv cv ov cus ous R S C O) {u : Value} (hu : u ∈ ous) : ∃ (xs : List Int), OwnI w D u xs := by
  obtain ⟨i, hi, rfl⟩ := List.getElem_of_mem hu
  have hl := h.o.len
  exact ⟨O[i]'(by omega), h.o.each i _ _ (List.getElem?_eq_getElem hi) (List.getElem?_eq_getElem (by omega))⟩
/-- The blocks below D are as they were. -/
theorem TabV.below (h : TabV w B D g rv sv cv ov cus ous R S C O) (hb : Below D w w') {ov' : Value} {ous' : List Value} {O' : List (List Int)} (ho : OwnU w' D ov' ous' O') (hv : ov' = ov) : TabV w' B D g rv sv cv ov' cus ous' R S C O' := by
  subst hv
  have k : ∀ b, b < D → w'.heap[b]? = w.heap[b]? := fun b hb' => hb.block b hb'
  refine ⟨(k g h.gD).trans h.var, h.gB, h.gD, own_kept h.r fun b e => k b (h.lr b e), own_kept h.s fun b e => k b (h.ls b e), ⟨own_kept h.c.row fun b e => k b (h.lv b e), fun i u xs hu hx => own_kept (h.c.each i u xs hu hx) fun b e => k b (h.lc u (List.mem_of_getElem? hu) b e), h.c.apart⟩, ho, h.rs, h.rc, h.lr, h.ls, h.lv, h.lc, Nat.le_trans h.lD hb.size⟩
theorem TabV.drewN (h : TabV w B D g rv sv cv ov cus ous R S C O) (n : Nat) : TabV (w.drewN n) B D g rv sv cv ov cus ous R S C O := h.below (below_drewN n (Below.refl _ _)) (h.o.drewN n) rfl
theorem TabV.kept (h : TabV w B D g rv sv cv ov cus ous R S C O) (hb : Below w.heap.size w w') : TabV w' B D g rv sv cv ov cus ous R S C O := h.below (hb.mono h.lD) (h.o.same hb.block) rfl
theorem TabV.free3 (h : TabV w B D g rv sv cv ov cus ous R S C O) (hb : Below D w w') (j : Nat) : w'.frozen? ⟨g, j, none⟩ = false := by
  have := (hb.block g h.gD).trans h.var
  rw [World.frozen?]; simp only [this]; simp
theorem TabV.cell3 (h : TabV w B D g rv sv cv ov cus ous R S C O) (hb : Below D w w') : w'.cell? ⟨g, 3, none⟩ = some ov := by
  have := (hb.block g h.gD).trans h.var
  rw [World.cell?]; simp only [this]; rfl
/-- A new value of 'out' has been made and is stored. -/
theorem TabV.newO (h : TabV w B D g rv sv cv ov cus ous R S C O) (hb : Below D w w') {ov' : Value} {ous' : List Value} {O' : List (List Int)} (ho : OwnU w' D ov' ous' O') : TabV (w'.setCell ⟨g, 3, none⟩ ov') B D g rv sv cv ov' cus ous' R S C O' := by
  have k : ∀ b, b < D → w'.heap[b]? = w.heap[b]? := fun b hb' => hb.block b hb'
  have hvar : w'.heap[g]? = some (.cells #[rv, sv, cv, ov] 101 (0, 0)) := (k g h.gD).trans h.var
  have far : ∀ (b : Nat), b ≠ g → (w'.setCell ⟨g, 3, none⟩ ov').heap[b]? = w'.heap[b]? := fun b hb' => Below.heap_setCell _ _ _ _ hb'
  have hr := own_kept h.r fun b e => k b (h.lr b e)
  have hs := own_kept h.s fun b e => k b (h.ls b e)
  have hc := own_kept h.c.row fun b e => k b (h.lv b e)
  refine ⟨?_, h.gB, h.gD, own_kept hr fun b e => far b fun e2 => own_ne_block (cs := []) hr hvar (by decide) (by rw [e, e2]), own_kept hs fun b e => far b fun e2 => own_ne_block (cs := []) hs hvar (by decide) (by rw [e, e2]),
    ⟨own_kept hc fun b e => far b fun e2 => own_ne_block (cs := []) hc hvar (by decide) (by rw [e, e2]), fun i u xs hu hx => ?_, h.c.apart⟩, ⟨own_kept ho.row fun b e => far b fun e2 => own_ne_block (cs := []) ho.row hvar (by decide) (by rw [e, e2]), fun i u xs hu hx => own_kept (ho.each i u xs hu hx) fun b e => far b fun e2 => own_ne_block (cs := []) (ho.each i u xs hu hx) hvar (by decide) (by rw [e, e2]), ho.apart⟩, h.rs, h.rc, h.lr, h.ls, h.lv, h.lc, ?_⟩
  · have := heap_setCell_same w' g 3 _ 101 ov' hvar
    rw [this]; rfl
  · have hu' := own_kept (h.c.each i u xs hu hx) fun b e => k b (h.lc u (List.mem_of_getElem? hu) b e)
    exact own_kept hu' fun b e => far b fun e2 => own_ne_block (cs := []) hu' hvar (by decide) (by rw [e, e2])
  · have := hb.size; have := h.lD; simp; omega
/-- A number of r is stored. -/
theorem TabV.setR (h : TabV w B D g rv sv cv ov cus ous R S C O) {k l cap : Nat} (hv : rv = .slice (some ⟨k, 0, none⟩) l cap) (i : Nat) (x : Int) : TabV (w.setCell ⟨k, i, none⟩ (.int .i64 x)) B D g rv sv cv ov cus ous (R.set i x) S C O := by
  have hb : rv.ownBlock = some k := by rw [hv]; rfl
  have far : ∀ (b : Nat), b ≠ k → (w.setCell ⟨k, i, none⟩ (.int .i64 x)).heap[b]? = w.heap[b]? := fun b hb' => Below.heap_setCell _ _ _ _ hb'
  have hl : l = R.length := by have := h.r.ints.len; rw [hv] at this; obtain ⟨_, _, e, _⟩ := this; simp only [Value.slice.injEq] at e; exact e.2.1
  have hkD := h.lr k hb
  have hset : OwnI (w.setCell ⟨k, i, none⟩ (.int .i64 x)) B rv (R.set i x) := by
    have hr := h.r
    rw [hv, hl] at hr
    have := own_int_set hr i x
    rw [hv, hl]; unfold OwnI; rw [List.length_set]; exact this
  refine ⟨(far g fun e => own_ne_block (cs := []) h.r h.var (by decide) (by rw [hb, e])).trans h.var, h.gB, h.gD, hset, own_kept h.s fun b e => far b fun e2 => h.rs k hb (by rw [e, e2]),
    ⟨own_kept h.c.row fun b e => far b fun e2 => ?_, fun j u xs hu hx => own_kept (h.c.each j u xs hu hx) fun b e => far b fun e2 => (h.rc u (List.mem_of_getElem? hu) b e).1 (by rw [hb, e2]), h.c.apart⟩,
    ⟨own_kept h.o.row fun b e => far b fun e2 => ?_, fun j u xs hu hx => own_kept (h.o.each j u xs hu hx) fun b e => far b fun e2 => ?_, h.o.apart⟩, h.rs, h.rc, h.lr, h.ls, h.lv, h.lc, ?_⟩
  · rcases own_ne_types h.r h.c.row (by decide) with e3 | e3
    · rw [hb] at e3; cases e3
    · exact e3 (by rw [hb, e, e2])
  · have := (World.ownsRow.lt h.o.row b e).1; omega
  · have := (World.ownsRow.lt (h.o.each j u xs hu hx) b e).1; omega
  · have := h.lD; simp; omega
/-- A number of s is stored. -/
theorem TabV.setS (h : TabV w B D g rv sv cv ov cus ous R S C O) {k l cap : Nat} (hv : sv = .slice (some ⟨k, 0, none⟩) l cap) (i : Nat) (x : Int) : TabV (w.setCell ⟨k, i, none⟩ (.int .i64 x)) B D g rv sv cv ov cus ous R (S.set i x) C O := by
  have hb : sv.ownBlock = some k := by rw [hv]; rfl
  have far : ∀ (b : Nat), b ≠ k → (w.setCell ⟨k, i, none⟩ (.int .i64 x)).heap[b]? = w.heap[b]? := fun b hb' => Below.heap_setCell _ _ _ _ hb'
  have hl : l = S.length := by have := h.s.ints.len; rw [hv] at this; obtain ⟨_, _, e, _⟩ := this; simp only [Value.slice.injEq] at e; exact e.2.1
  have hkD := h.ls k hb
  have hset : OwnI (w.setCell ⟨k, i, none⟩ (.int .i64 x)) B sv (S.set i x) := by
    have hr := h.s
    rw [hv, hl] at hr
    have := own_int_set hr i x
    rw [hv, hl]; unfold OwnI; rw [List.length_set]; exact this
  refine ⟨(far g fun e => own_ne_block (cs := []) h.s h.var (by decide) (by rw [hb, e])).trans h.var, h.gB, h.gD, own_kept h.r fun b e => far b fun e2 => h.rs b e (by rw [hb, e2]), hset,
    ⟨own_kept h.c.row fun b e => far b fun e2 => ?_, fun j u xs hu hx => own_kept (h.c.each j u xs hu hx) fun b e => far b fun e2 => (h.rc u (List.mem_of_getElem? hu) b e).2 (by rw [hb, e2]), h.c.apart⟩,
    ⟨own_kept h.o.row fun b e => far b fun e2 => ?_, fun j u xs hu hx => own_kept (h.o.each j u xs hu hx) fun b e => far b fun e2 => ?_, h.o.apart⟩, h.rs, h.rc, h.lr, h.ls, h.lv, h.lc, ?_⟩
  · rcases own_ne_types h.s h.c.row (by decide) with e3 | e3
    · rw [hb] at e3; cases e3
    · exact e3 (by rw [hb, e, e2])
  · have := (World.ownsRow.lt h.o.row b e).1; omega
  · have := (World.ownsRow.lt (h.o.each j u xs hu hx) b e).1; omega
  · have := h.lD; simp; omega
/-- A number of a cell is stored. -/
theorem TabV.setCC (h : TabV w B D g rv sv cv ov cus ous R S C O) {k l cap i : Nat} (hu : cus[i]? = some (.slice (some ⟨k, 0, none⟩) l cap)) (hi : i < C.length) (j : Nat) (x : Int) : TabV (w.setCell ⟨k, j, none⟩ (.int .i64 x)) B D g rv sv cv ov cus ous R S (setC C i j x) O := by
  have hx := List.getElem?_eq_getElem hi
  have hm := List.mem_of_getElem? hu
  have ho := h.c.each i _ _ hu hx
  have hb : (Value.slice (some ⟨k, 0, none⟩) l cap).ownBlock = some k := rfl
  have far : ∀ (b : Nat), b ≠ k → (w.setCell ⟨k, j, none⟩ (.int .i64 x)).heap[b]? = w.heap[b]? := fun b hb' => Below.heap_setCell _ _ _ _ hb'
  have hl : l = C[i].length := by have := ho.ints.len; obtain ⟨_, _, e, _⟩ := this; simp only [Value.slice.injEq] at e; exact e.2.1
  have hkD := h.lc _ hm k hb
  have hset : OwnI (w.setCell ⟨k, j, none⟩ (.int .i64 x)) B (.slice (some ⟨k, 0, none⟩) l cap) (C[i].set j x) := by
    have hr := ho
    rw [hl] at hr
    have := own_int_set hr j x
    rw [hl]; unfold OwnI; rw [List.length_set]; exact this
  have hset2 : OwnU (w.setCell ⟨k, j, none⟩ (.int .i64 x)) B cv cus (setC C i j x) := by
    unfold setC
    rw [show C.getD i [] = C[i] by simp [hi]]
    exact h.c.set hu (grownBy_setCell w ⟨k, j, none⟩ _) hset
  refine ⟨(far g fun e => own_ne_block (cs := []) ho h.var (by decide) (by rw [hb, e])).trans h.var, h.gB, h.gD, own_kept h.r fun b e => far b fun e2 => (h.rc _ hm k hb).1 (by rw [e, e2]), own_kept h.s fun b e => far b fun e2 => (h.rc _ hm k hb).2 (by rw [e, e2]), hset2,
    ⟨own_kept h.o.row fun b e => far b fun e2 => ?_, fun j u xs hu hx => own_kept (h.o.each j u xs hu hx) fun b e => far b fun e2 => ?_, h.o.apart⟩, h.rs, h.rc, h.lr, h.ls, h.lv, h.lc, ?_⟩
  · have := (World.ownsRow.lt h.o.row b e).1; omega
  · have := (World.ownsRow.lt (h.o.each j u xs hu hx) b e).1; omega
  · have := h.lD; simp; omega
end
end Go.Proofs.YtalbbjhonkcbgaaGreat

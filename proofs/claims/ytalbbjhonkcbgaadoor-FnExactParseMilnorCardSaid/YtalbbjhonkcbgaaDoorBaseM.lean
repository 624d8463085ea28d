/- Modules (a slice of degrees and a slice of rows) in the statements: words, and the contracts of the statements' helpers. -/
import Derived.Test.YtalbbjhonkcbgaaDoorBase2
namespace Go.Proofs.YtalbbjhonkcbgaaDoor
open Go.RowKit Go.Sort

/-- A module that is read. -/
def ModS (h : Array Obj) (d a : Value) (ds : List Int) (act : List (List Int)) : Prop := IntS h d ds ∧ IntSS h a act
theorem ModS.same {h h' : Array Obj} {d a : Value} {ds : List Int} {act : List (List Int)} (x : ModS h d a ds act) (k : ∀ b, b < h.size → h'[b]? = h[b]?) : ModS h' d a ds act := ⟨x.1.same k, x.2.same k⟩
/-- A module of the call's own; us: the values of the rows. -/
structure OwnM (w : World) (B : Nat) (d a : Value) (us : List Value) (ds : List Int) (act : List (List Int)) : Prop where
  deg : OwnI w B d ds
  act : OwnU w B a us act
  apart : ∀ u, u ∈ us → d.ownBlock = none ∨ d.ownBlock ≠ u.ownBlock
theorem OwnM.same {w w' : World} {B : Nat} {d a : Value} {us : List Value} {ds : List Int} {act : List (List Int)} (x : OwnM w B d a us ds act) (k : ∀ b, b < w.heap.size → w'.heap[b]? = w.heap[b]?) : OwnM w' B d a us ds act := ⟨x.deg.same k, x.act.same k, x.apart⟩
theorem OwnM.ints {w : World} {B : Nat} {d a : Value} {us : List Value} {ds : List Int} {act : List (List Int)} (x : OwnM w B d a us ds act) : ModS w.heap d a ds act := ⟨x.deg.ints, x.act.ints⟩
theorem OwnM.nil (w : World) (B : Nat) : OwnM w B (.slice none 0 0) (.slice none 0 0) [] [] [] :=
  ⟨OwnI.nil _ _, ⟨World.ownsRow_nil _ _ _ _, fun i u xs hu => by simp at hu, fun i j u u' _ hu => by simp at hu⟩, fun u hu => by simp at hu⟩
theorem ModS.nil (h : Array Obj) : ModS h (.slice none 0 0) (.slice none 0 0) [] [] := ⟨IntS.nil h, IntSS.nil h⟩

theorem OwnM.ne_new {w : World} {B : Nat} {d a : Value} {us : List Value} {ds : List Int} {act : List (List Int)} (x : OwnM w B d a us ds act) : d.ownBlock ≠ some w.heap.size ∧ ∀ u, u ∈ us → u.ownBlock ≠ some w.heap.size := by
  refine ⟨fun e => ?_, fun u hu e => ?_⟩
  · have := (World.ownsRow.lt x.deg _ e).2; omega
  · obtain ⟨i, hi, rfl⟩ := List.getElem_of_mem hu
    have hl := x.act.len
    have := (World.ownsRow.lt (x.act.each i _ _ (List.getElem?_eq_getElem hi) (List.getElem?_eq_getElem (show i < act.length by omega))) _ e).2; omega
theorem slAt_oneCell {h : Array Obj} {e : Nat} {v : Value} {us : List Value} (a : SlAt h e v us) : v.oneCell' = true := by
  rcases a with ⟨rfl, _⟩ | ⟨b, off, cap, cur, rfl, _⟩ <;> rfl
theorem store_of {v : Value} (h : v.oneCell' = true) : ∀ (P : Program) (w : World) (a : Addr) (m : Mode), (store a v m).run P w = stored P w a v m := fun P w a m => run_store P w a v m h
theorem ModS.stores {h : Array Obj} {d a : Value} {ds : List Int} {act : List (List Int)} (x : ModS h d a ds act) : (∀ (P : Program) (w : World) (b : Addr) (m : Mode), (store b d m).run P w = stored P w b d m) ∧ ∀ (P : Program) (w : World) (b : Addr) (m : Mode), (store b a m).run P w = stored P w b a m :=
  ⟨store_of (slAt_oneCell x.1), store_of (x.2.elim fun _ h => slAt_oneCell h.1)⟩
theorem two_new (w : World) (x y : Value) (t : Nat) : (w.alloc (.cells #[x, y] t)).cell? ⟨w.heap.size, 0, none⟩ = some x ∧ (w.alloc (.cells #[x, y] t)).cell? ⟨w.heap.size, 1, none⟩ = some y := by
  constructor <;> (rw [World.cell?]; simp only [heap_alloc_new]; rfl)

end Go.Proofs.YtalbbjhonkcbgaaDoor

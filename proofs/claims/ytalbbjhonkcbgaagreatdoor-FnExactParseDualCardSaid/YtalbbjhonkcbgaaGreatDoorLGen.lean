/- Words for the walks of the laws that gen.py prints. -/
import Derived.Test.YtalbbjhonkcbgaaGreatDoorLMilArg
import Derived.Test.YtalbbjhonkcbgaaGreatDoorLHeld
import Derived.Test.YtalbbjhonkcbgaaGreatDoorBaseM
import Derived.Test.YtalbbjhonkcbgaaGreatDoorFn
import Derived.ChangeSlices
namespace Go.Proofs.YtalbbjhonkcbgaaGreatDoor
open Go.RowKit Go.Sort Go.Deep Go.ChangeShapes Go.WideShapes

section
variable {H : Type} {enc : TypeId × Value → H} {P : Program} {w : World} {base : Nat} {held : Bool}
theorem isRow_of {t e : TypeId} {fuel : Nat} {cs : List Value} {x : DataW H × List MemPlace} (ht : P.underlying t = some (.slice e)) (he : P.underlying e = some (.int .i64)) (ce : P.cellsOf e = 1)
    (h : DataW.trod enc P w base (fun _ => true) held fuel t cs = some x) : ∃ a len cap zs, cs = [.slice a len cap] ∧ IsRow .i64 w a len cap zs := by
  rcases open_ints ht he ce h with ⟨hcs, _⟩ | ⟨x, l, c, zs, hcs, _, hl, hm, hz, _, hcell, hwz⟩
  · exact ⟨none, 0, 0, [], hcs, .inl ⟨rfl, rfl, rfl, rfl⟩⟩
  · exact ⟨some x, l, c, zs, hcs, .inr ⟨_, rfl, hl, hm, by simpa using hz, hcell, hwz⟩⟩
theorem isInt_of {t : TypeId} {fuel : Nat} {cs : List Value} {x : DataW H × List MemPlace} (ht : P.underlying t = some (.int .i64))
    (h : DataW.trod enc P w base (fun _ => true) held fuel t cs = some x) : ∃ n : Int, cs = [.int .i64 n] ∧ (Lit.int .i64 n).wf = true := by
  obtain ⟨n, hc, _, hw⟩ := DataW.trod_int ht h
  exact ⟨n, hc, hw⟩
end
theorem OwnI.range {w : World} {B : Nat} {v : Value} {xs : List Int} (h : OwnI w B v xs) : ∀ b, v.ownBlock = some b → B ≤ b ∧ b < w.heap.size := fun b e => World.ownsRow.lt h b e
theorem OwnU.range {w : World} {B : Nat} {v : Value} {us : List Value} {xss : List (List Int)} (h : OwnU w B v us xss) : (∀ b, v.ownBlock = some b → B ≤ b ∧ b < w.heap.size) ∧ ∀ u ∈ us, ∀ b, u.ownBlock = some b → B ≤ b ∧ b < w.heap.size := by
  refine ⟨fun b e => World.ownsRow.lt h.row b e, fun u hu b e => ?_⟩
  obtain ⟨i, hi, rfl⟩ := List.getElem_of_mem hu
  have hl := h.len
  exact World.ownsRow.lt (h.each i _ _ (List.getElem?_eq_getElem hi) (List.getElem?_eq_getElem (show i < xss.length by omega))) b e
theorem OwnM.range {w : World} {B : Nat} {d a : Value} {us : List Value} {ds : List Int} {act : List (List Int)} (h : OwnM w B d a us ds act) : (∀ b, d.ownBlock = some b → B ≤ b ∧ b < w.heap.size) ∧ ∀ u ∈ us, ∀ b, u.ownBlock = some b → B ≤ b ∧ b < w.heap.size := ⟨h.deg.range, h.act.range.2⟩
theorem OwnI.far {w w' : World} {B : Nat} {v : Value} {xs : List Int} (h : OwnI w B v xs) (k : ∀ b, B ≤ b → b < w.heap.size → w'.heap[b]? = w.heap[b]?) : OwnI w' B v xs := own_kept h fun b e => k b (h.range b e).1 (h.range b e).2
theorem OwnU.far {w w' : World} {B : Nat} {v : Value} {us : List Value} {xss : List (List Int)} (h : OwnU w B v us xss) (k : ∀ b, B ≤ b → b < w.heap.size → w'.heap[b]? = w.heap[b]?) : OwnU w' B v us xss :=
  ⟨own_kept h.row fun b e => k b (World.ownsRow.lt h.row b e).1 (World.ownsRow.lt h.row b e).2, fun i u xs hu hx => OwnI.far (h.each i u xs hu hx) k, h.apart⟩
theorem OwnM.far {w w' : World} {B : Nat} {d a : Value} {us : List Value} {ds : List Int} {act : List (List Int)} (h : OwnM w B d a us ds act) (k : ∀ b, B ≤ b → b < w.heap.size → w'.heap[b]? = w.heap[b]?) : OwnM w' B d a us ds act :=
  ⟨h.deg.far k, h.act.far k, h.apart⟩
theorem IsRow.takeLen {k : IntKind} {w : World} {a : Option Addr} {len cap : Nat} {zs : List Int} (h : IsRow k w a len cap zs) : (zs.take len).length = len := by
  rcases h with ⟨_, rfl, _, rfl⟩ | ⟨x, _, h1, _, h3, _⟩
  · rfl
  · rw [List.length_take]; omega
theorem heldC4 {x1 x2 x3 x4 : Value} {g1 g2 g3 g4 : Addr} {w0 W W' : World} (h : W.cell? g1 = some x1 ∧ W.cell? g2 = some x2 ∧ W.cell? g3 = some x3 ∧ W.cell? g4 = some x4 ∧ Below w0.heap.size w0 W) (hb : Below W.heap.size W W') : W'.cell? g1 = some x1 ∧ W'.cell? g2 = some x2 ∧ W'.cell? g3 = some x3 ∧ W'.cell? g4 = some x4 ∧ Below w0.heap.size w0 W' :=
  ⟨(hb.cell (World.block_lt_of_cell? _ _ h.1)).trans h.1, (hb.cell (World.block_lt_of_cell? _ _ h.2.1)).trans h.2.1, (hb.cell (World.block_lt_of_cell? _ _ h.2.2.1)).trans h.2.2.1, (hb.cell (World.block_lt_of_cell? _ _ h.2.2.2.1)).trans h.2.2.2.1, h.2.2.2.2.trans (hb.mono h.2.2.2.2.size)⟩
theorem heldC4X {x1 x2 x3 x4 : Value} {g1 g2 g3 g4 : Addr} {w0 W : World} (h : W.cell? g1 = some x1 ∧ W.cell? g2 = some x2 ∧ W.cell? g3 = some x3 ∧ W.cell? g4 = some x4 ∧ Below w0.heap.size w0 W) : Below w0.heap.size w0 W := h.2.2.2.2
theorem heldC4B {x1 x2 x3 x4 : Value} {g1 g2 g3 g4 : Addr} {w w0 W : World} {B : Nat} (k : Below B w w0) (h : W.cell? g1 = some x1 ∧ W.cell? g2 = some x2 ∧ W.cell? g3 = some x3 ∧ W.cell? g4 = some x4 ∧ Below w0.heap.size w0 W) (hB : B ≤ w0.heap.size) : Below B w W := k.trans (h.2.2.2.2.mono hB)
theorem readI {P : Program} {f : FuncId} {args : Array Value} {w : World} {B : Nat} {c : Value} {xs : List Int} {Q : World → Prop} (h : Calls P f args w fun e w' => ∃ r, e = .returned (.tuple #[r, c]) ∧ OwnI w' B r xs ∧ Q w') :
    Calls P f args w fun e w' => ∃ r, e = .returned (.tuple #[r, c]) ∧ IntS w'.heap r xs ∧ Q w' := h.mono fun _ _ ⟨r, he, hr, hq⟩ => ⟨r, he, hr.ints, hq⟩
theorem readM {P : Program} {f : FuncId} {args : Array Value} {w : World} {B : Nat} {c : Value} {ds : List Int} {act : List (List Int)} {Q : World → Prop} (h : Calls P f args w fun e w' => ∃ d a us, e = .returned (.tuple #[.agg #[d, a], c]) ∧ OwnM w' B d a us ds act ∧ Q w') :
    Calls P f args w fun e w' => ∃ d a, e = .returned (.tuple #[.agg #[d, a], c]) ∧ ModS w'.heap d a ds act ∧ Q w' := h.mono fun _ _ ⟨d, a, _, he, hr, hq⟩ => ⟨d, a, he, hr.ints, hq⟩
theorem readO {P : Program} {f : FuncId} {args : Array Value} {w : World} {B : Nat} {c : Value} {xss : List (List Int)} {Q : World → Prop} (h : Calls P f args w fun e w' => ∃ v us, e = .returned (.tuple #[.agg #[v], c]) ∧ OwnU w' B v us xss ∧ Q w') :
    Calls P f args w fun e w' => ∃ v, e = .returned (.tuple #[.agg #[v], c]) ∧ IntSS w'.heap v xss ∧ Q w' := h.mono fun _ _ ⟨v, _, he, hr, hq⟩ => ⟨v, he, hr.ints, hq⟩
end Go.Proofs.YtalbbjhonkcbgaaGreatDoor

/- Arguments of the type [][]int64: how they read; their sizes and copies. -/
import Derived.Test.YtalbbjhonkcbgaaGreatDoorBase2
import Derived.Test.YtalbbjhonkcbgaaGreatDoorFn
import Derived.Test.YtalbbjhonkcbgaaGreatDoorLib3
import Derived.Deep.Matrix
import Derived.Lib.SmallJoins
namespace Go.Proofs.YtalbbjhonkcbgaaGreatDoor
open Go.RowKit Go.Sort Go.Deep

/-- What is told of a slice of slices of int64 that came in: each element is a slice that reads; xss: the rows' elements. -/
def IsRows (w : World) (a : Option Addr) (len : Nat) (xss : List (List Int)) : Prop :=
  xss.length = len ∧ len ≤ 9223372036854775807 ∧ ∀ i, i < len → ∃ b off A L C Z, a = some ⟨b, off, none⟩ ∧ b < w.heap.size ∧ w.cell? ⟨b, off + i, none⟩ = some (.slice A L C) ∧ IsRow .i64 w A L C Z ∧ xss[i]? = some (Z.take L) ∧ (Z.take L).length = L

theorem IsRows.same {w w' : World} {a : Option Addr} {len : Nat} {xss : List (List Int)} (h : IsRows w a len xss) (e : ∀ b, b < w.heap.size → w'.heap[b]? = w.heap[b]?) (hs : w.heap.size ≤ w'.heap.size) : IsRows w' a len xss := by
  refine ⟨h.1, h.2.1, fun i hi => ?_⟩
  obtain ⟨b, off, A, L, C, Z, h1, h2, h3, h4, h5⟩ := h.2.2 i hi
  exact ⟨b, off, A, L, C, Z, h1, by omega, by rw [World.cell?_of_block (e b h2)]; exact h3, h4.same e, h5⟩

theorem IsRow.le {k : IntKind} {w : World} {A : Option Addr} {L C : Nat} {Z : List Int} (h : IsRow k w A L C Z) : L ≤ 9223372036854775807 := by
  rcases h with ⟨_, rfl, _⟩ | ⟨x, _, h1, h2, _⟩
  · omega
  · unfold maxLen at h2; omega

section
variable {H : Type} {enc : TypeId × Value → H} {P : Program} {w : World} {base : Nat} {held : Bool}
theorem isRows_of {t e q : TypeId} {fuel : Nat} {cs : List Value} {x : DataW H × List MemPlace} (ht : P.underlying t = some (.slice e)) (he : P.underlying e = some (.slice q)) (hq : P.underlying q = some (.int .i64))
    (ce : P.cellsOf e = 1) (cq : P.cellsOf q = 1) (h : DataW.trod enc P w base (fun _ => true) held fuel t cs = some x) : ∃ a len cap xss, cs = [.slice a len cap] ∧ IsRows w a len xss := by
  rcases open_int_rows ht he hq ce cq h with ⟨hcs, _⟩ | ⟨a, len, cap, A, L, C, Z, hcs, _, hl, hm, _, hr⟩
  · exact ⟨none, 0, 0, [], hcs, rfl, Nat.zero_le _, fun i hi => absurd hi (Nat.not_lt_zero _)⟩
  · refine ⟨some a, len, cap, (List.range len).map fun r => (Z r).take (L r), hcs, by simp, by unfold maxLen at hm; omega, fun i hi => ?_⟩
    obtain ⟨hc, r1, r2, r3, r4, r5, r6⟩ := hr i (by omega)
    obtain ⟨b, off, spot⟩ := a
    cases spot with
    | some s =>
      have h5 := (hr 0 (by omega)).1
      rw [show (⟨b, off, some s⟩ : Addr).add 0 = ⟨b, off, some s⟩ by simp [Addr.add], cell_spot] at h5; cases h5
    | none =>
      rw [Addr.add_lit] at hc
      refine ⟨b, off, A i, L i, C i, Z i, rfl, World.block_lt_of_cell? w _ hc, hc, ?_, by simp [hi], by rw [List.length_take]; omega⟩
      cases hA : A i with
      | none =>
        have hC := r5 hA
        exact .inl ⟨rfl, by omega, hC, List.eq_nil_of_length_eq_zero (by omega)⟩
      | some a' => exact .inr ⟨a', rfl, r1, r2, r3, fun c hc => (r6 a' hA).2 c (by omega), r4⟩
variable {spare : Nat → Bool}
theorem open_agg1 {r : Reach} {b0 : Nat} {t : TypeId} {f0 : Field} {v : Value} {d : DataW H} {p : List MemPlace} (hs : P.underlying t = some (.struct #[f0])) (hone : oneCellFields P #[f0] = true) (hC : P.cellsOf t = 1)
    (hv : Value.okWide P w r b0 t v) (h : DataW.Trod enc P w base spare held t v d p) :
    ∃ (v0 : Value) (y0 : DataW H × List MemPlace) (n : Nat), v = .agg #[v0] ∧ DataW.trod enc P w base spare held n f0.type [v0] = some y0 := by
  obtain ⟨cs, rfl, hsz⟩ := Go.WideShapes.okWide_struct hs hv
  obtain ⟨l⟩ := cs
  match l, hsz.trans hC with
  | [c0], _ =>
    obtain ⟨fuel, hf⟩ := h
    obtain ⟨xs, n, _, hx, hl, hlen, hf⟩ := DataW.trod_struct hs hf
    obtain ⟨o0, k0⟩ := hone_of hone 0 f0 rfl
    match xs, hlen with
    | [y0], _ => exact ⟨c0, y0, n, rfl, by simpa [Value.cells, o0, k0] using hf 0 f0 rfl⟩
end
/-- What is left of a bound behind the sizes of a slice of slices, or -1. -/
def szR (xss : List (List Int)) (left : Nat) : Int := if xss.length + cnt xss ≤ left then (left : Int) - (xss.length + cnt xss : Nat) else -1
/-- A new row is laid at place j. -/
theorem OwnU.put {wE w : World} {B g n c : Nat} {us : List Value} {xss : List (List Int)} {u : Value} {ys : List Int} (h : OwnU wE B (.slice (some ⟨g, 0, none⟩) n c) us xss) (hE : Below wE.heap.size wE w) (hu : OwnI w wE.heap.size u ys) (j : Nat) (hj : j < xss.length) :
    OwnU (w.setCell ⟨g, j, none⟩ u) B (.slice (some ⟨g, 0, none⟩) n c) (us.set j u) (xss.set j ys) := by
  obtain rfl : n = xss.length := by
    rcases h.row.2 with ⟨hv, h0⟩ | ⟨_, _, _, hv, _⟩
    · simp at hv
    · simp only [Value.slice.injEq] at hv; exact hv.2.1
  have hW := h.same hE.block
  have hl := h.len
  have hg := (World.ownsRow.lt h.row g rfl).2
  have hug : u.ownBlock ≠ some g := fun e => by have := (World.ownsRow.lt hu g e).1; omega
  refine ⟨?_, fun i x xs hx hy => ?_, fun i k x x' hik hx hx' => ?_⟩
  · rw [List.length_set]; exact (hW.row.stored j u).1
  · by_cases e : j = i
    · subst e
      rw [List.getElem?_set_self (by omega)] at hx hy
      simp only [Option.some.injEq] at hx hy
      subst hx; subst hy
      exact own_setCell_other (own_base hu (by have := (World.ownsRow.lt h.row g rfl).1; have := hE.size; omega)) _ hug _
    · rw [List.getElem?_set_ne e] at hx hy
      have ho := hW.each i x xs hx hy
      refine own_setCell_other ho _ ?_ _
      rcases own_ne_types ho hW.row (by decide) with e1 | e1
      · rw [e1]; simp
      · exact e1
  · have old : ∀ (i : Nat) x b, us[i]? = some x → x.ownBlock = some b → b < wE.heap.size := fun i x b hx hb => by
      have hi : i < us.length := (List.getElem?_eq_some_iff.1 hx).1
      exact (World.ownsRow.lt (h.each i x _ hx (List.getElem?_eq_getElem (show i < xss.length by omega))) b hb).2
    by_cases e1 : j = i
    · subst e1
      rw [List.getElem?_set_self (by omega)] at hx
      rw [List.getElem?_set_ne (by omega)] at hx'
      simp only [Option.some.injEq] at hx
      subst hx
      cases hb : u.ownBlock with
      | none => exact .inl rfl
      | some b =>
        right
        intro e2
        have h1 := (World.ownsRow.lt hu b hb).1
        have h2 := old k x' b hx' e2.symm
        omega
    · rw [List.getElem?_set_ne e1] at hx
      by_cases e2 : j = k
      · subst e2
        rw [List.getElem?_set_self (by omega)] at hx'
        simp only [Option.some.injEq] at hx'
        subst hx'
        cases hb : x.ownBlock with
        | none => exact .inl rfl
        | some b =>
          right
          intro e2
          have h1 := (World.ownsRow.lt hu b e2.symm).1
          have h2 := old i x b hx hb
          omega
      · rw [List.getElem?_set_ne e2] at hx'
        exact h.apart i k x x' hik hx hx'
theorem copyStep (xss : List (List Int)) (len j : Nat) (hl : xss.length = len) (hj : j < len) : (xss.take j ++ List.replicate (len - j) []).set j (xss[j]'(by omega)) = xss.take (j + 1) ++ List.replicate (len - (j + 1)) [] := by
  rw [List.set_append_right _ _ (by simp; omega), show len - j = (len - (j + 1)) + 1 by omega, List.replicate_succ]
  rw [show j - (xss.take j).length = 0 by simp; omega, List.set_cons_zero, List.take_succ_eq_append_getElem (by omega), List.append_assoc]
  rfl
end Go.Proofs.YtalbbjhonkcbgaaGreatDoor

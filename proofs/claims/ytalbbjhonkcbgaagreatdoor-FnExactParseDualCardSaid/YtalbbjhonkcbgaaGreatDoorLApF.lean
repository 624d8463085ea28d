/- append of one reference to rows of references; all else as it was. -/
import Derived.Test.YtalbbjhonkcbgaaGreatDoorLRef
namespace Go.Proofs.YtalbbjhonkcbgaaGreatDoor
open Go.RowKit Go.Sort

theorem RefR.grownG {w w' : World} {B : Nat} {v : Value} {us : List Value} {xss : List (List Int)} (a : RefR w B w.heap v us xss) (k : ∀ b, b < w.heap.size → w'.heap[b]? = w.heap[b]?) : RefR w' B w'.heap v us xss :=
  ⟨own_same a.row k, fun i u xs hu hx => (a.each i u xs hu hx).same k⟩
section
variable {ops : Array Oper} {rest : List Oper} {o : Oper} {a : Act} {Q : Exit → Act → World → Prop}
/-- 'append(list, x)', x one reference; all else as it was. -/
theorem append_refG {w w0 : World} (hg : o.guard = none) (s x : Operand)
    (ho : o.op = .call { callee := .builtin .append, args := #[s, x], argTypes := #[22, 22] })
    (B : Nat) (v u : Value) (us : List Value) (xss : List (List Int)) (xs : List Int) (hR : RefR w B w.heap v us xss) (hs : a.eval s = v) (hu : IntS w.heap u xs) (hbl : Below B w0 w) (hB : B ≤ w.heap.size)
    (b : Nat) (hx : a.eval x = .slice (some ⟨b, 0, none⟩) 1 1) (hb : w.heap[b]? = some (.cells #[u] 30 (0, 0))) (hn : xss.length < 4398046511104)
    (hK : ∀ v' us' w', RefR w' B w'.heap v' us' (xss ++ [xs]) → Below B w0 w' → w.heap.size ≤ w'.heap.size → (∀ b, b < w.heap.size → some b ≠ v.ownBlock → w'.heap[b]? = w.heap[b]?) → wpList Tryz.prog ops Q rest (a.put o.dst v') w') :
    wpList Tryz.prog ops Q (o :: rest) a w := by
  obtain ⟨i0, hi, hz0, hz1, hz2⟩ := info_parts info_slI
  refine append_all hg s x _ ho B _ i0 _ 24 Tryz.underlying22 hi hz0 hz1 hz2 rfl (by omega) v _ _ us [u] hR.row hs (slAt_one hb) hx hbl hB (fun z hz => ?_) (by simp; omega) ?_
  · rw [List.mem_singleton] at hz; rw [hz]
    obtain ⟨_, _, rfl, _⟩ := hu.len
    simp [Value.oneCell']
  · intro v' w' h1 h2 h3 h4
    have kp := KeepI.grown hR.row (by decide) h4
    have hl := hR.len
    refine hK v' _ w' ⟨by simpa using h1, fun i y ys hy hz => ?_⟩ h2 h3 h4
    by_cases hi' : i < us.length
    · rw [List.getElem?_append_left hi'] at hy
      rw [List.getElem?_append_left (by omega)] at hz
      exact (hR.each i y ys hy hz).keep kp
    · rw [List.getElem?_append_right (by omega)] at hy hz
      rw [← hl] at hz
      obtain ⟨m, hm⟩ : ∃ m, i - us.length = m := ⟨_, rfl⟩
      rw [hm] at hy hz
      match m, hy, hz with
      | 0, hy, hz =>
        simp at hy hz
        subst hy; subst hz
        exact hu.keep kp
end
end Go.Proofs.YtalbbjhonkcbgaaGreatDoor

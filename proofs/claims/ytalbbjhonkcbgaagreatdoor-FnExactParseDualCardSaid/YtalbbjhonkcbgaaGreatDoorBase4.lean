/- Appends of a row of int64 to slices of slices that tell where the grown row lies. -/
import Derived.Test.YtalbbjhonkcbgaaGreatDoorBaseC
import Derived.Test.YtalbbjhonkcbgaaGreatDoorBase2
import Derived.Test.YtalbbjhonkcbgaaGreatDoorLib4
namespace Go.Proofs.YtalbbjhonkcbgaaGreatDoor
open Go.RowKit

section
variable {ops : Array Oper} {rest : List Oper} {o : Oper} {a : Act} {Q : Exit → Act → World → Prop}
/-- 'append(out, row)': out the call's own down to the rows at an earlier world wE; the row has been made since. -/
theorem append_rowU {w w0 wE : World} (hg : o.guard = none) (s x : Operand)
    (ho : o.op = .call { callee := .builtin .append, args := #[s, x], argTypes := #[22, 22] })
    (B : Nat) (v u : Value) (us : List Value) (xss : List (List Int)) (xs : List Int) (hU : OwnU wE B v us xss) (hs : a.eval s = v) (hu : OwnI w wE.heap.size u xs) (hE : Below wE.heap.size wE w) (hbl : Below B w0 wE) (hB : B ≤ wE.heap.size)
    (b : Nat) (hx : a.eval x = .slice (some ⟨b, 0, none⟩) 1 1) (hb : b = w.heap.size) (hn : xss.length ≤ 4398046511104)
    (hK : ∀ v' w', OwnU w' B v' (us ++ [u]) (xss ++ [xs]) → Below B w0 w' → KeepI w w' → w.heap.size ≤ w'.heap.size → (∀ b, b < w.heap.size → some b ≠ v.ownBlock → w'.heap[b]? = w.heap[b]?) → (v'.ownBlock = v.ownBlock ∨ ∃ k, w.heap.size ≤ k ∧ v'.ownBlock = some k) → wpList Tryz.prog ops Q rest (a.put o.dst v') w') :
    wpList Tryz.prog ops Q (o :: rest) a (w.alloc (.cells #[u] 30)) := by
  have hW := hU.same hE.block
  obtain ⟨i0, hi, hz0, hz1, hz2⟩ := info_parts info_slI
  refine append_at hg s x _ ho B _ i0 _ 24 Tryz.underlying22 hi hz0 hz1 hz2 rfl (by omega) v _ _ u hW.row hs (hbl.trans (hE.mono hB)) (Nat.le_trans hB hE.size) _ hx hb (own_oneCell hu) hn ?_
  intro v' w' h1 h2 h3 h4 h5
  exact hK v' w' (OwnU.append hU hE hB hu h1 h4) h2 (KeepI.grown hW.row (by decide) h4) h3 h4 h5
end
end Go.Proofs.YtalbbjhonkcbgaaGreatDoor

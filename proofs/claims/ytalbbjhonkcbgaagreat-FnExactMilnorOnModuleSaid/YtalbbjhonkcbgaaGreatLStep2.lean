/- Steps of a region that draws its order: the append of a row, a call of a Go function; what is kept of a cell. -/
import Derived.Test.YtalbbjhonkcbgaaGreatLOdd2
import Derived.Test.YtalbbjhonkcbgaaGreatLStep
import Derived.Lib.SliceRun
namespace Go.Proofs.YtalbbjhonkcbgaaGreat
open Go.RowKit Go.Sort

theorem own_oneI {w : World} {B : Nat} {v : Value} {xs : List Int} (h : OwnI w B v xs) : v.oneCell' = true := own_oneCell h
section
variable {ops : Array Oper} {o : Oper} {a : Act} {Q : Exit → Act → World → Prop} {K : Act → World → Prop} {E : Prop}
/-- 'append(out, row)' at a step of a region that draws: out the call's own down to the rows at an earlier world wE; the row has been made since. -/
theorem step_append_rowU {w w0 wE : World} (hg : o.guard = none) (s x : Operand)
    (ho : o.op = .call { callee := .builtin .append, args := #[s, x], argTypes := #[23, 23] })
    (B : Nat) (v u : Value) (us : List Value) (xss : List (List Int)) (xs : List Int) (hU : OwnU wE B v us xss) (hs : a.eval s = v) (hu : OwnI w wE.heap.size u xs) (hE : Below wE.heap.size wE w) (hbl : Below B w0 wE) (hB : B ≤ wE.heap.size)
    (b : Nat) (hx : a.eval x = .slice (some ⟨b, 0, none⟩) 1 1) (hb : w.heap[b]? = some (.cells #[u] 22 (0, 0))) (hn : xss.length < 4398046511104)
    (hK : ∀ v' w', OwnU w' B v' (us ++ [u]) (xss ++ [xs]) → Below B w0 w' → w.heap.size ≤ w'.heap.size → (∀ b, b < w.heap.size → some b ≠ v.ownBlock → w'.heap[b]? = w.heap[b]?) → K (a.put o.dst v') w') :
    if Region.wanted o (yielded ops a.tmps) = true then Oper.wp Tryz.prog o a w K Q else E := by
  obtain ⟨i0, hi, hz0, hz1, hz2⟩ := info_parts info_slI
  refine step_append_all hg s x _ ho B _ i0 _ 24 Tryz.underlying23 hi hz0 hz1 hz2 rfl (by omega) v _ _ _ [u] (own_same hU.row hE.block) hs (slAt_one hb) hx (hbl.trans (hE.mono hB)) (Nat.le_trans hB hE.size) (fun z hz => ?_) (by simp; omega) ?_
  · rw [List.mem_singleton] at hz; rw [hz]; exact own_oneCell hu
  · intro v' w' h1 h2 h3 h4
    exact hK v' w' (OwnU.append hU hE hB hu (by simpa using h1) h4) h2 h3 h4
end
section
variable {P : Program} {ops : Array Oper} {o : Oper} {a : Act} {Q : Exit → Act → World → Prop} {K : Act → World → Prop} {E : Prop}
/-- A call of a Go function of one argument at a step of a region that draws. -/
theorem step_call1 {w : World} (hg : o.guard = none) (f : FuncId) (s : Operand) (t : TypeId)
    (ho : o.op = .call { callee := .value (.func f), args := #[s], argTypes := #[t] }) (v : Value)
    (hE : Enters P f) (hC : Calls P f #[a.eval s] w fun e w' => e = .returned v ∧ w = w') (hK : K (a.put o.dst v) w) :
    if Region.wanted o (yielded ops a.tmps) = true then Oper.wp P o a w K Q else E := by
  have hw : Region.wanted o (yielded ops a.tmps) = true := by simp [Region.wanted, hg]
  rw [if_pos hw]
  unfold Oper.wp
  have hE' : ∀ args, Sem.run P (callFunc f args) w = .ok (.enter f args) w := fun args => hE args w
  have hf : a.eval (.func f) = .func (.func f) #[] #[] := rfl
  simp [execOp, ho, resolve, invoke, hf, Deferred.ofValue, hE']
  exact Calls.mono hC fun e w' ⟨he, hw⟩ => by subst he; subst hw; exact hK
end
section
variable {P : Program} {ops : Array Oper} {o : Oper} {a : Act} {Q : Exit → Act → World → Prop} {K : Act → World → Prop} {E : Prop}
/-- A call of a Go function of one argument that makes memory, at a step of a region that draws. -/
theorem step_callR {w : World} (hg : o.guard = none) (f : FuncId) (s : Operand) (t : TypeId)
    (ho : o.op = .call { callee := .value (.func f), args := #[s], argTypes := #[t] }) (R : Value → World → Prop)
    (hE : Enters P f) (hC : Calls P f #[a.eval s] w fun e w' => ∃ v, e = .returned v ∧ R v w') (hK : ∀ v w', R v w' → K (a.put o.dst v) w') :
    if Region.wanted o (yielded ops a.tmps) = true then Oper.wp P o a w K Q else E := by
  have hw : Region.wanted o (yielded ops a.tmps) = true := by simp [Region.wanted, hg]
  rw [if_pos hw]
  unfold Oper.wp
  have hE' : ∀ args, Sem.run P (callFunc f args) w = .ok (.enter f args) w := fun args => hE args w
  have hf : a.eval (.func f) = .func (.func f) #[] #[] := rfl
  simp [execOp, ho, resolve, invoke, hf, Deferred.ofValue, hE']
  exact Calls.mono hC fun e w' ⟨v, he, hw⟩ => by subst he; exact hK v w' hw
end
theorem held1G {x1 : Value} {g1 : Addr} {W W' : World} {ob : Option Nat} (h : W.cell? g1 = some x1) (k : ∀ b, b < W.heap.size → some b ≠ ob → W'.heap[b]? = W.heap[b]?) (n1 : some g1.block ≠ ob) : W'.cell? g1 = some x1 :=
  (World.cell?_of_block (k _ (World.block_lt_of_cell? _ _ h) n1)).trans h
theorem held1S {x1 u : Value} {g1 p : Addr} {W : World} (h : W.cell? g1 = some x1) (n1 : p.block ≠ g1.block) : (W.setCell p u).cell? g1 = some x1 :=
  (World.cell?_of_block (Below.heap_setCell _ _ _ _ n1.symm)).trans h
end Go.Proofs.YtalbbjhonkcbgaaGreat

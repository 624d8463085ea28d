/- The variable 'tables' of the program in memory: what is kept, what stores do. Plain Lean over the model. -/
import Derived.Test.YtljfpkhgijangaaLTab
import Derived.Test.YtljfpkhgijangaaLOdd2
import Derived.Test.YtljfpkhgijangaaLGen
namespace Go.Proofs.Ytljfpkhgijangaa
open Go.RowKit Go.Sort

section
variable {w w' : World} {B D g : Nat} {rv sv cv ov : Value} {cus ous : List Value} {R S : List Int} {C O : List (List Int)}
/-- An owned row of another type does not lie there. -/
theorem own_ne_block {w : World} {B e n g t : Nat} {v : Value} {us cs : List Value} {ca : Array Value} (h : w.ownsRow B e 1 v n us) (k : w.heap[g]? = some (.cells ca t (0, 0))) (ne : e ≠ t) : v.ownBlock ≠ some g := by
  have _ := cs
  rcases h.2 with ⟨rfl, _⟩ | ⟨b, cap, cur, rfl, _, hg, _⟩
  · simp [Value.ownBlock]
  · intro e1
    simp only [Value.ownBlock, Option.some.injEq] at e1
    subst e1
    rw [k] at hg
    simp only [Option.some.injEq, Obj.cells.injEq] at hg
    exact ne hg.2.1.symm
end
end Go.Proofs.Ytljfpkhgijangaa

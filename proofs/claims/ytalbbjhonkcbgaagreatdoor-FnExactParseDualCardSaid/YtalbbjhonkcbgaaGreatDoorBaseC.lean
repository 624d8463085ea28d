/- Copies of slices of int64, and appends of whole ones. -/
import Derived.Test.YtalbbjhonkcbgaaGreatDoorBase2
import Derived.Test.YtalbbjhonkcbgaaGreatDoorLib3
namespace Go.Proofs.YtalbbjhonkcbgaaGreatDoor
open Go.RowKit Go.Sort
section
variable {ops : Array Oper} {rest : List Oper} {o : Oper} {a : Act} {Q : Exit → Act → World → Prop}
theorem append_ints {w w0 : World} (hg : o.guard = none) (s x : Operand)
    (ho : o.op = .call { callee := .builtin .append, args := #[s, x], argTypes := #[30, 30] })
    (B : Nat) (v vx : Value) (xs ys : List Int) (hown : OwnI w B v xs) (hs : a.eval s = v) (hR : IntS w.heap vx ys) (hx : a.eval x = vx) (hbl : Below B w0 w) (hB : B ≤ w.heap.size)
    (hn : xs.length + ys.length ≤ 4398046511104)
    (hK : ∀ v' w', OwnI w' B v' (xs ++ ys) → Below B w0 w' → w.heap.size ≤ w'.heap.size → (∀ b, b < w.heap.size → some b ≠ v.ownBlock → w'.heap[b]? = w.heap[b]?) → wpList Tryz.prog ops Q rest (a.put o.dst v') w') :
    wpList Tryz.prog ops Q (o :: rest) a w := by
  obtain ⟨i0, hi, hz0, hz1, hz2⟩ := info_parts info_int64
  refine append_all hg s x _ ho B _ i0 _ 8 Tryz.underlying30 hi hz0 hz1 hz2 rfl (by omega) v vx _ _ _ hown hs hR hx hbl hB (ints_oneCell _ _) (by simpa using hn) ?_
  intro v' w' h1 h2 h3 h4
  exact hK v' w' (by unfold OwnI; simpa using h1) h2 h3 h4
end
theorem l01Own_c (v : Value) (xs : List Int) (w : World) (h : IntS w.heap v xs) (hl : xs.length ≤ 4398046511104) :
    Calls Tryz.prog 124 #[v] w fun e w' => ∃ r, e = .returned r ∧ OwnI w' w.heap.size r xs ∧ Below w.heap.size w w' := by
  have H := Lib.hid (h.same (alloc_old w (.cells #[] 2))); clear h
  have hsz : w.heap.size ≤ (w.alloc (.cells #[] 2)).heap.size := by simp
  go_enter Tryz.func124, Tryz.ntmps124
  go_wp2_with (first | (at_builtin; refine append_ints rfl _ _ rfl w.heap.size _ _ [] xs (ownI_empty (Nat.le_refl _)) rfl H.out rfl ((Below.refl _ _).alloc (Nat.le_refl _) _) hsz (by simpa using hl) ?_; intro v' w' hown' hbl' _ _))
  go_ret
  exact ⟨_, rfl, hown', hbl'⟩
end Go.Proofs.YtalbbjhonkcbgaaGreatDoor

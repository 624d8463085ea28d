/- moduleOf: the module with some degrees and a table of squares. -/
import Derived.Test.YtalbbjhonkcbgaaGreatDoorBaseC
import Derived.Test.YtalbbjhonkcbgaaGreatDoorBaseM
namespace Go.Proofs.YtalbbjhonkcbgaaGreatDoor
open Go.RowKit Go.Sort

/-- Whether the digit c of a mask is 1, as the program asks it. -/
def bitB (v : Int) (c : Nat) : Bool := bits BinOp.and IntKind.i64 (v / 2 ^ c) 1 == 1
/-- The rows for n and b: those for the first k places c. -/
def modC (sq : Nat → Nat → Int) (n b : Nat) : Nat → List (List Int)
  | 0 => []
  | c + 1 => modC sq n b c ++ if bitB (sq n b) c then [[(n : Int), (b : Int), (c : Int)]] else []
def modB (sq : Nat → Nat → Int) (size n : Nat) : Nat → List (List Int)
  | 0 => []
  | b + 1 => modB sq size n b ++ modC sq n b size
/-- The rows for the squares 1 to k. -/
def modN (sq : Nat → Nat → Int) (size : Nat) : Nat → List (List Int)
  | 0 => []
  | k + 1 => modN sq size k ++ modB sq size (k + 1) size
theorem modC_len (sq : Nat → Nat → Int) (n b c : Nat) : (modC sq n b c).length ≤ c ∧ cnt (modC sq n b c) ≤ 3 * c := by
  induction c with
  | zero => simp [modC, cnt]
  | succ c ih => unfold modC; rw [List.length_append, cnt_append]; split <;> simp [cnt] at * <;> omega
theorem modB_len (sq : Nat → Nat → Int) (size n b : Nat) : (modB sq size n b).length ≤ b * size ∧ cnt (modB sq size n b) ≤ 3 * (b * size) := by
  induction b with
  | zero => simp [modB, cnt]
  | succ b ih => unfold modB; rw [List.length_append, cnt_append, Nat.succ_mul]; have := modC_len sq n b size; omega
theorem modN_len (sq : Nat → Nat → Int) (size k : Nat) : (modN sq size k).length ≤ k * (size * size) ∧ cnt (modN sq size k) ≤ 3 * (k * (size * size)) := by
  induction k with
  | zero => simp [modN, cnt]
  | succ k ih => unfold modN; rw [List.length_append, cnt_append, Nat.succ_mul]; have := modB_len sq size (k + 1) size; omega

theorem OwnM.setVar {w : World} {B g t j : Nat} {d a x y : Value} {us : List Value} {ds : List Int} {act : List (List Int)} (h : OwnM w B d a us ds act) (k : Var2 w g x y t) (ne : t ≠ 2) (ne2 : t ≠ 30) (u : Value) : OwnM (w.setCell ⟨g, j, none⟩ u) B d a us ds act :=
  ⟨h.deg.setVar k ne u, h.act.setVar k ne ne2 u, h.apart⟩
theorem OwnM.base {w : World} {B B' : Nat} {d a : Value} {us : List Value} {ds : List Int} {act : List (List Int)} (h : OwnM w B d a us ds act) (k : B' ≤ B) : OwnM w B' d a us ds act :=
  ⟨own_base h.deg k, ⟨own_base h.act.row k, fun i u xs hu hx => own_base (h.act.each i u xs hu hx) k, h.act.apart⟩, h.apart⟩

section
variable {ops : Array Oper} {rest : List Oper} {o : Oper} {a : Act} {Q : Exit → Act → World → Prop}
/-- 'out.Action = append(out.Action, row)', the rows of a module of the call's own; the row has been made since the world wE. -/
theorem append_rowM {w w0 wE : World} (hg : o.guard = none) (s x : Operand)
    (ho : o.op = .call { callee := .builtin .append, args := #[s, x], argTypes := #[22, 22] })
    (B : Nat) (d v u : Value) (us : List Value) (ds : List Int) (xss : List (List Int)) (xs : List Int) (hown : OwnM wE B d v us ds xss) (hs : a.eval s = v) (hu : OwnI w wE.heap.size u xs) (hE : Below wE.heap.size wE w) (hbl : Below B w0 wE) (hB : B ≤ wE.heap.size)
    (b : Nat) (hx : a.eval x = .slice (some ⟨b, 0, none⟩) 1 1) (hb : b = w.heap.size) (hn : xss.length ≤ 4398046511104)
    (hK : ∀ v' w', OwnM w' B d v' (us ++ [u]) ds (xss ++ [xs]) → Below B w0 w' → w.heap.size ≤ w'.heap.size → (∀ b, b < w.heap.size → some b ≠ v.ownBlock → w'.heap[b]? = w.heap[b]?) → wpList Tryz.prog ops Q rest (a.put o.dst v') w') :
    wpList Tryz.prog ops Q (o :: rest) a (w.alloc (.cells #[u] 30)) := by
  have hW := hown.act.same hE.block
  obtain ⟨i0, hi, hz0, hz1, hz2⟩ := info_parts info_slI
  refine append_one hg s x _ ho B _ i0 _ 24 Tryz.underlying22 hi hz0 hz1 hz2 rfl (by omega) v _ _ u hW.row hs (hbl.trans (hE.mono hB)) (Nat.le_trans hB hE.size) b hx hb (own_oneCell hu) hn ?_
  intro v' w' h1 h2 h3 h4
  refine hK v' w' ⟨?_, OwnU.append hown.act hE hB hu h1 h4, fun z hz => ?_⟩ h2 h3 h4
  · have hd := hown.deg.same hE.block
    refine own_kept hd fun k hk => h4 k (World.ownsRow.lt hd k hk).2 ?_
    rcases own_ne_types hd hW.row (by decide) with e | e
    · rw [e] at hk; cases hk
    · rw [← hk]; exact e
  · rcases List.mem_append.1 hz with hz | hz
    · exact hown.apart z hz
    · simp only [List.mem_singleton] at hz; subst hz
      cases hd : d.ownBlock with
      | none => exact .inl rfl
      | some k =>
        right
        intro e
        have h5 := (World.ownsRow.lt hown.deg k hd).2
        have h6 := (World.ownsRow.lt hu k e.symm).1
        omega
end

end Go.Proofs.YtalbbjhonkcbgaaGreatDoor

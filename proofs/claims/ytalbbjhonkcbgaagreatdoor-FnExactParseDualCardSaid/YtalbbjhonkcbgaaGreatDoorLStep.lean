/- append at a step of a region that draws its order. -/
import Derived.Test.YtalbbjhonkcbgaaGreatDoorBaseC
import Derived.Test.YtalbbjhonkcbgaaGreatDoorBase2
import Derived.Deep.RegionLaw
import Derived.Deep.RegionHeld3
namespace Go.Proofs.YtalbbjhonkcbgaaGreatDoor
open Go.RowKit Go.Sort

section
variable {P : Program} {ops : Array Oper} {o : Oper} {a : Act} {Q : Exit → Act → World → Prop} {K : Act → World → Prop} {E : Prop}
/-- 'append(out, list...)', out the call's own; the list reads in the same world. -/
theorem step_append_all {w w0 : World} (hg : o.guard = none) (s x : Operand) (t : TypeId)
    (ho : o.op = .call { callee := .builtin .append, args := #[s, x], argTypes := #[t, t] })
    (B e : Nat) (i : TypeInfo) (z : Value) (bytes : Nat) (ht : P.underlying t = some (.slice e)) (hi : P.info? e = some i) (hz : i.zero = some z)
    (hsize : i.size = 1) (hby : i.bytes = bytes) (hzs : z.cells.size = 1) (hb24 : bytes ≤ 24)
    (v vx : Value) (n : Nat) (us ys : List Value) (hown : w.ownsRow B e 1 v n us) (hs : a.eval s = v) (hR : SlAt w.heap e vx ys) (hx : a.eval x = vx) (hbl : Below B w0 w) (hB : B ≤ w.heap.size)
    (h1 : ∀ u, u ∈ ys → u.oneCell' = true) (hn : n + ys.length ≤ 4398046511104)
    (hK : ∀ v' w', w'.ownsRow B e 1 v' (n + ys.length) (us ++ ys) → Below B w0 w' → w.heap.size ≤ w'.heap.size → (∀ b, b < w.heap.size → some b ≠ v.ownBlock → w'.heap[b]? = w.heap[b]?) → K (a.put o.dst v') w') :
    if Region.wanted o (yielded ops a.tmps) = true then Oper.wp P o a w K Q else E := by
  have hw : Region.wanted o (yielded ops a.tmps) = true := by simp [Region.wanted, hg]
  rw [if_pos hw]
  rcases hR with ⟨rfl, rfl⟩ | ⟨b, off, cap, cur, rfl, hb, k1, k2, k3, k4⟩
  · have hrun := run_append_owned_none (P := P) (w := w) B t o.type e i 1 ht hi v n us hown
    unfold Oper.wp
    simp [execOp, ho, resolve, invoke, builtin, hs, hx, hrun, Result.andThen]
    exact hK v w (by simpa using hown) hbl (Nat.le_refl _) (fun _ _ _ => rfl)
  · refine wp_append_own (w := w) s x t ho B e i z 1 bytes ht hi hz hsize hby hzs (by omega) v n us hs hown ⟨b, off, none⟩ ys.length cap ys hx (by simp) ?_ h1 (by unfold maxLen; omega) ?_ hB ?_
    · intro j u hj
      have hjl : j < ys.length := (List.getElem?_eq_some_iff.1 hj).1
      rw [Addr.add_lit, World.cell?]; simp only [hb]
      have := congrArg (fun l : List Value => l[j]?) k4
      simp only [List.getElem?_take, List.getElem?_drop, Array.getElem?_toList] at this
      rw [if_pos hjl] at this
      simpa [this] using hj
    · have : (n + ys.length) * bytes ≤ (n + ys.length) * 24 := Nat.mul_le_mul_left _ hb24
      omega
    · intro v' w' h2 h3 _
      exact hK v' w' h2 (hbl.grown h3 hB (fun k hk => (hown.lt k hk).1)) h3.size (fun b hb hne => h3.block b hb hne)
end
theorem slAt_one {W : World} {e b : Nat} {u : Value} (h : W.heap[b]? = some (.cells #[u] e (0, 0))) : SlAt W.heap e (.slice (some ⟨b, 0, none⟩) 1 1) [u] :=
  .inr ⟨b, 0, 1, #[u], rfl, h, by simp, by unfold maxLen; omega, by simp, by simp⟩
section
variable {ops : Array Oper} {o : Oper} {a : Act} {Q : Exit → Act → World → Prop} {K : Act → World → Prop} {E : Prop}
/-- 'append(out, n)', a slice of int64. -/
theorem step_append_int {w w0 : World} (hg : o.guard = none) (s x : Operand)
    (ho : o.op = .call { callee := .builtin .append, args := #[s, x], argTypes := #[30, 30] })
    (B : Nat) (v : Value) (xs : List Int) (hown : OwnI w B v xs) (hs : a.eval s = v) (b : Nat) (n : Int) (hx : a.eval x = .slice (some ⟨b, 0, none⟩) 1 1) (hb : w.heap[b]? = some (.cells #[.int .i64 n] 2 (0, 0)))
    (hbl : Below B w0 w) (hB : B ≤ w.heap.size) (hn : xs.length < 4398046511104)
    (hK : ∀ v' w', OwnI w' B v' (xs ++ [n]) → Below B w0 w' → w.heap.size ≤ w'.heap.size → (∀ b, b < w.heap.size → some b ≠ v.ownBlock → w'.heap[b]? = w.heap[b]?) → K (a.put o.dst v') w') :
    if Region.wanted o (yielded ops a.tmps) = true then Oper.wp Tryz.prog o a w K Q else E := by
  obtain ⟨i0, hi, hz0, hz1, hz2⟩ := info_parts info_int64
  refine step_append_all hg s x _ ho B _ i0 _ 8 Tryz.underlying30 hi hz0 hz1 hz2 rfl (by omega) v _ _ _ [.int .i64 n] hown hs (slAt_one hb) hx hbl hB (by simp [Value.oneCell']) (by simp; omega) ?_
  intro v' w' h1 h2 h3 h4
  exact hK v' w' (by unfold OwnI; simpa using h1) h2 h3 h4
end
end Go.Proofs.YtalbbjhonkcbgaaGreatDoor

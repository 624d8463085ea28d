/- Appends that tell where the grown row lies; what keeps the rows of int64. Plain Lean over the model. -/
import Derived.Test.YtalbbjhonkcbgaaGreatDoorLib3
namespace Go.Proofs.YtalbbjhonkcbgaaGreatDoor
open Go.RowKit

section
variable {P : Program} {ops : Array Oper} {rest : List Oper} {o : Oper} {a : Act} {Q : Exit → Act → World → Prop}
/-- The grown row lies where the row lay, or behind all there was. -/
theorem append_where {w w' : World} {B e t ty : Nat} {i : TypeInfo} {z : Value} {bytes : Nat} (ht : P.underlying t = some (.slice e)) (hi : P.info? e = some i) (hz : i.zero = some z)
    (hsize : i.size = 1) (hby : i.bytes = bytes) {v v' : Value} {n : Nat} {us : List Value} (hown : w.ownsRow B e 1 v n us) (ad : Addr) (m c : Nat) (news : List Value) (hm : 0 < m) (hl : news.length = m)
    (hnews : ∀ j u, news[j]? = some u → w.cell? (ad.add j) = some u) (h1 : ∀ u ∈ news, u.oneCell' = true) (h63 : n + m ≤ maxLen) (hbytes : (n + m) * bytes ≤ 140737488355328)
    (hr : (Builtin.append_ #[t, t] ty #[v, .slice (some ad) m c]).run P w = .ok v' w') : v'.ownBlock = v.ownBlock ∨ v'.ownBlock = some w.heap.size := by
  subst hby
  have hl' : news.length = m * i.size := by rw [hsize]; omega
  have hml : maxLen = 9223372036854775807 := by decide
  rcases hown.2 with ⟨rfl, rfl⟩ | ⟨g, cap, cur, rfl, _, hg, h2, h3, h4, h5⟩
  · have h := run_append_nil (P := P) w t ty e i z ht hi hz ad m c news hl' hnews hm (by omega) (by rw [Nat.zero_add] at hbytes; omega)
    rw [h] at hr
    injection hr with e1 _
    rw [← e1]; exact .inr rfl
  · by_cases hroom : n + m ≤ cap
    · have h := run_append_room (P := P) w t ty e i ht hi g n cap cur hg ad m c news hl' hnews h1 hroom (by rw [hsize]; omega)
      rw [h] at hr
      injection hr with e1 _
      rw [← e1]; exact .inl rfl
    · have h := run_append_grow (P := P) w t ty e i z ht hi hz ⟨g, 0, none⟩ n cap us (by rw [hsize]; exact hown.1) (hown.cells (g := g) rfl) ad m c news hl' hnews (by omega) (by omega) (growslice_fits (by omega) hbytes)
      rw [h] at hr
      injection hr with e1 _
      rw [← e1]; exact .inr rfl
theorem append_at {w w0 : World} (hg : o.guard = none) (s x : Operand) (t : TypeId)
    (ho : o.op = .call { callee := .builtin .append, args := #[s, x], argTypes := #[t, t] })
    (B e : Nat) (i : TypeInfo) (z : Value) (bytes : Nat) (ht : P.underlying t = some (.slice e)) (hi : P.info? e = some i) (hz : i.zero = some z)
    (hsize : i.size = 1) (hby : i.bytes = bytes) (hzs : z.cells.size = 1) (hb24 : bytes ≤ 24)
    (v : Value) (n : Nat) (us : List Value) (u : Value) (hown : w.ownsRow B e 1 v n us) (hs : a.eval s = v) (hbl : Below B w0 w) (hB : B ≤ w.heap.size)
    (b : Nat) (hx : a.eval x = .slice (some ⟨b, 0, none⟩) 1 1) (hb : b = w.heap.size) (hu : u.oneCell' = true) (hn : n ≤ 4398046511104)
    (hK : ∀ v' w', w'.ownsRow B e 1 v' (n + 1) (us ++ [u]) → Below B w0 w' → w.heap.size ≤ w'.heap.size → (∀ b, b < w.heap.size → some b ≠ v.ownBlock → w'.heap[b]? = w.heap[b]?) → (v'.ownBlock = v.ownBlock ∨ ∃ k, w.heap.size ≤ k ∧ v'.ownBlock = some k) → wpList P ops Q rest (a.put o.dst v') w') :
    wpList P ops Q (o :: rest) a (w.alloc (.cells #[u] e)) := by
  subst hb
  have hown' := hown.alloc (.cells #[u] e)
  have hnews : ∀ (j : Nat) (u' : Value), [u][j]? = some u' → (w.alloc (.cells #[u] e)).cell? ((⟨w.heap.size, 0, none⟩ : Addr).add j) = some u' := by
    intro j u' hj
    match j, hj with
    | 0, hj =>
      simp at hj; subst hj
      simp [Addr.add]
  have hby2 : (n + 1) * bytes ≤ 140737488355328 := by
    have : (n + 1) * bytes ≤ (n + 1) * 24 := Nat.mul_le_mul_left _ hb24
    omega
  have h63 : n + 1 ≤ maxLen := by unfold maxLen; omega
  obtain ⟨v', w', hr, h1, h2, -⟩ := run_append_own (P := P) _ B t o.type e i z 1 bytes ht hi hz hsize hby hzs (by omega) v n us hown' ⟨w.heap.size, 0, none⟩ 1 1 [u] (by simp) hnews (by simpa using hu) h63 hby2 (by simp; omega)
  have h5 := append_where ht hi hz hsize hby hown' ⟨w.heap.size, 0, none⟩ 1 1 [u] (by omega) (by simp) hnews (by simpa using hu) h63 hby2 hr
  refine wpList_plain hg fun _ hK2 => ?_
  unfold Oper.wp execOp
  simp only [ho, resolve, invoke, builtin, Sem.run_bind, Sem.run_pure, Result.andThen_ok, List.map_toArray, List.map_cons, List.map_nil, hs, hx, hr]
  have hlt := hown.lt
  refine hK2 _ _ (hK v' w' h1 ?_ ?_ ?_ ?_)
  · exact (hbl.alloc hB _).grown h2 (by simp; omega) (fun k hk => (hlt k hk).1)
  · have := h2.size; simp at this; omega
  · intro b hb hne
    rw [h2.block b (by simp; omega) hne]
    exact Below.heap_alloc _ _ _ hb
  · exact h5.imp id fun e => ⟨_, by simp, e⟩
end
/-- Every row of int64 of w lies in w' as it was. -/
def KeepI (w w' : World) : Prop := ∀ (b : Nat) cs f, w.heap[b]? = some (.cells cs 2 f) → w'.heap[b]? = some (.cells cs 2 f)
theorem KeepI.refl (w : World) : KeepI w w := fun _ _ _ h => h
theorem KeepI.trans {a b c : World} (h : KeepI a b) (k : KeepI b c) : KeepI a c := fun x cs f e => k x cs f (h x cs f e)
theorem KeepI.of_same {w w' : World} (h : ∀ b, b < w.heap.size → w'.heap[b]? = w.heap[b]?) : KeepI w w' := fun b _ _ e => (h b (Array.getElem?_eq_some_iff.1 e).1).trans e
theorem IntS.keep {w w' : World} {v : Value} {xs : List Int} (h : IntS w.heap v xs) (k : KeepI w w') : IntS w'.heap v xs := by
  rcases h with h | ⟨b, off, cap, cur, hv, hb, r⟩
  · exact .inl h
  · exact .inr ⟨b, off, cap, cur, hv, k b _ _ hb, r⟩
theorem OwnI.keep {w w' : World} {B : Nat} {v : Value} {xs : List Int} (h : OwnI w B v xs) (k : KeepI w w') : OwnI w' B v xs := by
  refine ⟨h.1, ?_⟩
  rcases h.2 with hn | ⟨g, cap, cur, hv, hB, hg, r⟩
  · exact .inl hn
  · exact .inr ⟨g, cap, cur, hv, hB, k g _ _ hg, r⟩
/-- Growing a row of another type keeps the rows of int64. -/
theorem KeepI.grown {w w' : World} {B e n : Nat} {v : Value} {us : List Value} (h : w.ownsRow B e 1 v n us) (ne : e ≠ 2) (k : ∀ b, b < w.heap.size → some b ≠ v.ownBlock → w'.heap[b]? = w.heap[b]?) : KeepI w w' := by
  intro b cs f hb
  refine (k b (Array.getElem?_eq_some_iff.1 hb).1 ?_).trans hb
  rcases h.2 with ⟨rfl, _⟩ | ⟨g, cap, cur, rfl, _, hg, _⟩
  · simp [Value.ownBlock]
  · intro e1
    simp only [Value.ownBlock, Option.some.injEq] at e1
    subst e1
    rw [hg] at hb
    simp only [Option.some.injEq, Obj.cells.injEq] at hb
    exact ne hb.2.1
end Go.Proofs.YtalbbjhonkcbgaaGreatDoor

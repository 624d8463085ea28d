/- Rows of references of the call's own: appended to, cut. -/
import Derived.Test.YtalbbjhonkcbgaaGreatDoorBase4
import Derived.Test.YtalbbjhonkcbgaaGreatDoorBaseM
import Derived.Test.YtalbbjhonkcbgaaGreatDoorLTrim
import Derived.Test.YtalbbjhonkcbgaaGreatDoorLStep
namespace Go.Proofs.YtalbbjhonkcbgaaGreatDoor
open Go.RowKit Go.Sort

/-- A slice of slices whose cells lie in the heap H and whose rows read in the heap h. -/
def SSat (H h : Array Obj) (v : Value) (yss : List (List Int)) : Prop := ∃ vs, SlAt H 30 v vs ∧ vs.length = yss.length ∧ ∀ (i : Nat) u ys, vs[i]? = some u → yss[i]? = some ys → IntS h u ys
theorem IntSS.at2 {H h : Array Obj} {v : Value} {yss : List (List Int)} (x : IntSS h v yss) (k : ∀ b, b < h.size → H[b]? = h[b]?) : SSat H h v yss := by
  obtain ⟨us, h1, h2, h3⟩ := x
  exact ⟨us, h1.same k, h2, h3⟩
theorem SSat.ints {h : Array Obj} {v : Value} {yss : List (List Int)} (x : SSat h h v yss) : IntSS h v yss := x
theorem SSat.same {H H' h : Array Obj} {v : Value} {yss : List (List Int)} (x : SSat H h v yss) (k : ∀ b, b < H.size → H'[b]? = H[b]?) : SSat H' h v yss := by
  obtain ⟨us, h1, h2, h3⟩ := x
  exact ⟨us, h1.same k, h2, h3⟩
theorem SlAt.nil0 {h : Array Obj} {e : Nat} : SlAt h e (.slice none 0 0) [] := .inl ⟨rfl, rfl⟩
/-- A cut at the head: 'v[k:]'. -/
def dropA (ao : Option Addr) (c k : Nat) : Option Addr := if c = k then ao else ao.map (·.add k)
theorem slAt_drop {h : Array Obj} {e : Nat} {ao : Option Addr} {c : Nat} {us : List Value} (a : SlAt h e (.slice ao us.length c) us) (k : Nat) (hk : k ≤ us.length) : SlAt h e (.slice (dropA ao c k) (us.length - k) (c - k)) (us.drop k) := by
  rcases a with ⟨hv, rfl⟩ | ⟨b, off, cap, cur, hv, hb, h1, h2, h3, h4⟩
  · simp only [Value.slice.injEq] at hv
    obtain ⟨rfl, -, rfl⟩ := hv
    have : k = 0 := by simpa using hk
    subst this
    exact .inl ⟨by simp [dropA], rfl⟩
  · simp only [Value.slice.injEq, true_and] at hv
    obtain ⟨rfl, rfl⟩ := hv
    right
    by_cases e1 : c = k
    · subst e1
      have e2 : us.length = c := by omega
      refine ⟨b, off, 0, cur, by simp [dropA], hb, by simp; omega, by unfold maxLen; omega, by omega, ?_⟩
      rw [List.drop_of_length_le (by omega)]; rfl
    · refine ⟨b, off + k, c - k, cur, ?_, hb, by simp; omega, by omega, by omega, ?_⟩
      · simp [dropA, e1, Addr.add]
      · rw [← List.drop_drop, List.length_drop, ← List.drop_take, h4]
theorem IntS.drop {h : Array Obj} {ao : Option Addr} {c n : Nat} {xs : List Int} (a : IntS h (.slice ao n c) xs) (hn : xs.length = n) (k : Nat) (hk : k ≤ n) : IntS h (.slice (dropA ao c k) (n - k) (c - k)) (xs.drop k) := by
  subst hn
  unfold IntS at *
  have := slAt_drop (k := k) (us := xs.map (Value.int .i64)) (by rw [List.length_map]; exact a) (by rw [List.length_map]; exact hk)
  rw [List.length_map] at this
  rw [List.map_drop]; exact this
theorem SSat.drop {H h : Array Obj} {ao : Option Addr} {c : Nat} {yss : List (List Int)} (x : SSat H h (.slice ao yss.length c) yss) (k : Nat) (hk : k ≤ yss.length) : SSat H h (.slice (dropA ao c k) (yss.length - k) (c - k)) (yss.drop k) := by
  obtain ⟨vs, h1, h2, h3⟩ := x
  have := slAt_drop (k := k) (by rw [h2]; exact h1) (by omega)
  rw [h2] at this
  exact ⟨_, this, by simp [h2], fun i u ys hu hy => by
    rw [List.getElem?_drop] at hu hy
    exact h3 _ u ys hu hy⟩
theorem SSat.take {H h : Array Obj} {ao : Option Addr} {c : Nat} {yss : List (List Int)} (x : SSat H h (.slice ao yss.length c) yss) (k : Nat) (hk : k ≤ yss.length) : SSat H h (.slice ao k c) (yss.take k) := by
  obtain ⟨vs, h1, h2, h3⟩ := x
  have := slAt_take (m := k) (by rw [h2]; exact h1) (by omega)
  refine ⟨_, this, by simp [h2], fun i u ys hu hy => ?_⟩
  rw [List.getElem?_take] at hu hy
  split at hu
  · rename_i hi
    rw [if_pos hi] at hy
    exact h3 _ u ys hu hy
  · cases hu
/-- A row of references of the call's own: what they refer to reads as told in a heap h. -/
structure RefR (w : World) (B : Nat) (h : Array Obj) (v : Value) (us : List Value) (xss : List (List Int)) : Prop where
  row : w.ownsRow B 30 1 v xss.length us
  each : ∀ (i : Nat) u xs, us[i]? = some u → xss[i]? = some xs → IntS h u xs
theorem RefR.len {w : World} {B : Nat} {h : Array Obj} {v : Value} {us : List Value} {xss : List (List Int)} (a : RefR w B h v us xss) : us.length = xss.length := by simpa using a.row.1
theorem RefR.ints {w : World} {B : Nat} {h : Array Obj} {v : Value} {us : List Value} {xss : List (List Int)} (a : RefR w B h v us xss) (k : ∀ b, b < h.size → w.heap[b]? = h[b]?) : IntSS w.heap v xss :=
  ⟨us, slAt_of_own a.row, by simpa using a.row.1, fun i u xs hu hx => (a.each i u xs hu hx).same k⟩
theorem RefR.same {w w' : World} {B : Nat} {h : Array Obj} {v : Value} {us : List Value} {xss : List (List Int)} (a : RefR w B h v us xss) (k : ∀ b, b < w.heap.size → w'.heap[b]? = w.heap[b]?) : RefR w' B h v us xss := ⟨own_same a.row k, a.each⟩
theorem RefR.base {w : World} {B B' : Nat} {h : Array Obj} {v : Value} {us : List Value} {xss : List (List Int)} (a : RefR w B h v us xss) (k : B' ≤ B) : RefR w B' h v us xss := ⟨own_base a.row k, a.each⟩
theorem RefR.at2 {w : World} {B : Nat} {h : Array Obj} {v : Value} {us : List Value} {xss : List (List Int)} (a : RefR w B h v us xss) : SSat w.heap h v xss := ⟨us, slAt_of_own a.row, a.len, a.each⟩
theorem RefR.grow {w : World} {B : Nat} {h h' : Array Obj} {v : Value} {us : List Value} {xss : List (List Int)} (a : RefR w B h v us xss) (k : ∀ b, b < h.size → h'[b]? = h[b]?) : RefR w B h' v us xss := ⟨a.row, fun i u xs hu hx => (a.each i u xs hu hx).same k⟩
theorem ref_empty {w : World} {B : Nat} (h : Array Obj) (hB : B ≤ w.heap.size) : RefR (w.alloc (.cells #[] 30)) B h (.slice (some ⟨w.heap.size, 0, none⟩) 0 0) [] [] :=
  ⟨World.ownsRow_made w #[] 0 hB (Nat.zero_le _) rfl, fun i u xs hu => by simp at hu⟩
theorem ref_one {w : World} {B : Nat} {h : Array Obj} {u : Value} {xs : List Int} (hu : IntS h u xs) (hB : B ≤ w.heap.size) : RefR (w.alloc (.cells #[u] 30)) B h (.slice (some ⟨w.heap.size, 0, none⟩) 1 1) [u] [xs] :=
  ⟨World.ownsRow_lit (e := 30) (size := 1) w #[u] 1 hB (by unfold maxLen; omega) rfl, fun i x ys hx hy => by
    match i, hx, hy with
    | 0, hx, hy =>
      simp at hx hy
      subst hx; subst hy; exact hu⟩
theorem append_each {h : Array Obj} {us vs : List Value} {xss yss : List (List Int)} (hl : us.length = xss.length) (h1 : ∀ (i : Nat) u ys, us[i]? = some u → xss[i]? = some ys → IntS h u ys) (h2 : ∀ (i : Nat) u ys, vs[i]? = some u → yss[i]? = some ys → IntS h u ys) :
    ∀ (i : Nat) u ys, (us ++ vs)[i]? = some u → (xss ++ yss)[i]? = some ys → IntS h u ys := by
  intro i u ys hu hy
  by_cases hi : i < us.length
  · rw [List.getElem?_append_left hi] at hu
    rw [List.getElem?_append_left (by omega)] at hy
    exact h1 i u ys hu hy
  · rw [List.getElem?_append_right (by omega)] at hu hy
    rw [← hl] at hy
    exact h2 _ u ys hu hy
section
variable {ops : Array Oper} {rest : List Oper} {o : Oper} {a : Act} {Q : Exit → Act → World → Prop} {K : Act → World → Prop} {E : Prop}
/-- 'append(out, list...)', out a row of references of the call's own. -/
theorem append_refs {w w0 : World} (hg : o.guard = none) (s x : Operand)
    (ho : o.op = .call { callee := .builtin .append, args := #[s, x], argTypes := #[22, 22] })
    (B : Nat) (h : Array Obj) (v vx : Value) (us : List Value) (xss yss : List (List Int)) (hR : RefR w B h v us xss) (hs : a.eval s = v) (hX : SSat w.heap h vx yss) (hx : a.eval x = vx) (hbl : Below B w0 w) (hB : B ≤ w.heap.size)
    (hn : xss.length + yss.length ≤ 4398046511104)
    (hK : ∀ v' us' w', RefR w' B h v' us' (xss ++ yss) → Below B w0 w' → w.heap.size ≤ w'.heap.size → (∀ b, b < w.heap.size → some b ≠ v.ownBlock → w'.heap[b]? = w.heap[b]?) → wpList Tryz.prog ops Q rest (a.put o.dst v') w') :
    wpList Tryz.prog ops Q (o :: rest) a w := by
  obtain ⟨i0, hi, hz0, hz1, hz2⟩ := info_parts info_slI
  obtain ⟨vs, hS, hvl, hve⟩ := hX
  refine append_all hg s x _ ho B _ i0 _ 24 Tryz.underlying22 hi hz0 hz1 hz2 rfl (by omega) v vx _ _ _ hR.row hs hS hx hbl hB (fun u hu => ?_) (by omega) ?_
  · obtain ⟨i, hi, rfl⟩ := List.getElem_of_mem hu
    exact slAt_oneCell (hve i _ _ (List.getElem?_eq_getElem hi) (List.getElem?_eq_getElem (show i < yss.length by omega)))
  · intro v' w' h1 h2 h3 h4
    exact hK v' _ w' ⟨by rw [List.length_append, ← hvl]; exact h1, append_each hR.len hR.each hve⟩ h2 h3 h4
/-- The same at a step of a region that draws its order. -/
theorem step_append_refs {w w0 : World} (hg : o.guard = none) (s x : Operand)
    (ho : o.op = .call { callee := .builtin .append, args := #[s, x], argTypes := #[22, 22] })
    (B : Nat) (h : Array Obj) (v vx : Value) (us : List Value) (xss yss : List (List Int)) (hR : RefR w B h v us xss) (hs : a.eval s = v) (hX : SSat w.heap h vx yss) (hx : a.eval x = vx) (hbl : Below B w0 w) (hB : B ≤ w.heap.size)
    (hn : xss.length + yss.length ≤ 4398046511104)
    (hK : ∀ v' us' w', RefR w' B h v' us' (xss ++ yss) → Below B w0 w' → w.heap.size ≤ w'.heap.size → (∀ b, b < w.heap.size → some b ≠ v.ownBlock → w'.heap[b]? = w.heap[b]?) → K (a.put o.dst v') w') :
    if Region.wanted o (yielded ops a.tmps) = true then Oper.wp Tryz.prog o a w K Q else E := by
  obtain ⟨i0, hi, hz0, hz1, hz2⟩ := info_parts info_slI
  obtain ⟨vs, hS, hvl, hve⟩ := hX
  refine step_append_all hg s x _ ho B _ i0 _ 24 Tryz.underlying22 hi hz0 hz1 hz2 rfl (by omega) v vx _ _ _ hR.row hs hS hx hbl hB (fun u hu => ?_) (by omega) ?_
  · obtain ⟨i, hi, rfl⟩ := List.getElem_of_mem hu
    exact slAt_oneCell (hve i _ _ (List.getElem?_eq_getElem hi) (List.getElem?_eq_getElem (show i < yss.length by omega)))
  · intro v' w' h1 h2 h3 h4
    exact hK v' _ w' ⟨by rw [List.length_append, ← hvl]; exact h1, append_each hR.len hR.each hve⟩ h2 h3 h4
end
end Go.Proofs.YtalbbjhonkcbgaaGreatDoor

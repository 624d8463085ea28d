/- Slices of slices of slices of int64 that are read, and a row of references to slices of slices. Plain Lean over the model. -/
import Derived.Test.YtljfpkhgijangaaLRef
import Derived.Test.YtljfpkhgijangaaLib4
namespace Go.Proofs.Ytljfpkhgijangaa
open Go.RowKit Go.Sort

theorem info_slSS : (Try.prog.info? 36).map (fun i => (i.zero, i.size, i.bytes)) = some (some (.slice none 0 0), 1, 24) := by kernel_rfl
/-- A slice of slices of slices of int64 that is read. -/
def IntSSS (h : Array Obj) (v : Value) (xsss : List (List (List Int))) : Prop :=
  ∃ us, SlAt h 36 v us ∧ us.length = xsss.length ∧ ∀ (i : Nat) u xss, us[i]? = some u → xsss[i]? = some xss → IntSS h u xss
theorem IntSSS.same {h h' : Array Obj} {v : Value} {xsss : List (List (List Int))} (a : IntSSS h v xsss) (k : ∀ b, b < h.size → h'[b]? = h[b]?) : IntSSS h' v xsss := by
  obtain ⟨us, h1, h2, h3⟩ := a
  exact ⟨us, h1.same k, h2, fun i u xs hu hx => (h3 i u xs hu hx).same k⟩
theorem IntSSS.len {h : Array Obj} {v : Value} {xsss : List (List (List Int))} (a : IntSSS h v xsss) : ∃ ao cap, v = .slice ao xsss.length cap ∧ xsss.length ≤ 9223372036854775807 := by
  obtain ⟨us, h1, h2, h3⟩ := a
  obtain ⟨ao, cap, hv, h4, h5⟩ := SlAt.len h1
  rw [h2] at hv h4
  exact ⟨ao, cap, hv, by unfold maxLen at h5; omega⟩
theorem IntSSS.at {w : World} {v : Value} {xsss : List (List (List Int))} (a : IntSSS w.heap v xsss) (i : Nat) (hi : i < xsss.length) :
    ∃ b off cap u, v = .slice (some ⟨b, off, none⟩) xsss.length cap ∧ w.cell? ⟨b, off + i, none⟩ = some u ∧ IntSS w.heap u xsss[i] ∧ xsss.length ≤ 9223372036854775807 := by
  obtain ⟨us, h1, h2, h3⟩ := a
  obtain ⟨b, off, cap, cur, hv, hb, g1, g2, g3, g4⟩ := SlAt.at h1 i (by omega)
  rw [h2] at hv g1
  refine ⟨b, off, cap, us[i]'(by omega), hv, ?_, h3 i _ _ (List.getElem?_eq_getElem (by omega)) (List.getElem?_eq_getElem hi), by unfold maxLen at g2; omega⟩
  rw [World.cell?]; simp only [hb]
  simpa [show i < us.length by omega] using g4
/-- A row of references to slices of slices, of the call's own. -/
structure RefSS (w : World) (B : Nat) (h : Array Obj) (v : Value) (us : List Value) (xsss : List (List (List Int))) : Prop where
  row : w.ownsRow B 36 1 v xsss.length us
  each : ∀ (i : Nat) u xss, us[i]? = some u → xsss[i]? = some xss → IntSS h u xss
theorem RefSS.len {w : World} {B : Nat} {h : Array Obj} {v : Value} {us : List Value} {xsss : List (List (List Int))} (a : RefSS w B h v us xsss) : us.length = xsss.length := by simpa using a.row.1
theorem RefSS.ints {w : World} {B : Nat} {h : Array Obj} {v : Value} {us : List Value} {xsss : List (List (List Int))} (a : RefSS w B h v us xsss) (k : ∀ b, b < h.size → w.heap[b]? = h[b]?) : IntSSS w.heap v xsss :=
  ⟨us, slAt_of_own a.row, by simpa using a.row.1, fun i u xs hu hx => (a.each i u xs hu hx).same k⟩
theorem RefSS.same {w w' : World} {B : Nat} {h : Array Obj} {v : Value} {us : List Value} {xsss : List (List (List Int))} (a : RefSS w B h v us xsss) (k : ∀ b, b < w.heap.size → w'.heap[b]? = w.heap[b]?) : RefSS w' B h v us xsss := ⟨own_same a.row k, a.each⟩
theorem RefSS.grow {w : World} {B : Nat} {h h' : Array Obj} {v : Value} {us : List Value} {xsss : List (List (List Int))} (a : RefSS w B h v us xsss) (k : ∀ b, b < h.size → h'[b]? = h[b]?) : RefSS w B h' v us xsss := ⟨a.row, fun i u xs hu hx => (a.each i u xs hu hx).same k⟩
/-- Every row of a type other than t of w lies in w' as it was. -/
def KeepT (t : Nat) (w w' : World) : Prop := ∀ (b : Nat) cs e f, e ≠ t → w.heap[b]? = some (.cells cs e f) → w'.heap[b]? = some (.cells cs e f)
theorem KeepT.grown {w w' : World} {B e n : Nat} {v : Value} {us : List Value} (h : w.ownsRow B e 1 v n us) (k : ∀ b, b < w.heap.size → some b ≠ v.ownBlock → w'.heap[b]? = w.heap[b]?) : KeepT e w w' := by
  intro b cs t f ne hb
  refine (k b (Array.getElem?_eq_some_iff.1 hb).1 ?_).trans hb
  rcases h.2 with ⟨rfl, _⟩ | ⟨g, cap, cur, rfl, _, hg, _⟩
  · simp [Value.ownBlock]
  · intro e1
    simp only [Value.ownBlock, Option.some.injEq] at e1
    subst e1
    rw [hg] at hb
    simp only [Option.some.injEq, Obj.cells.injEq] at hb
    exact ne hb.2.1.symm
theorem SlAt.keepT {w w' : World} {t e : Nat} {v : Value} {us : List Value} (a : SlAt w.heap e v us) (ne : e ≠ t) (k : KeepT t w w') : SlAt w'.heap e v us := by
  rcases a with a | ⟨b, off, cap, cur, rfl, hb, r⟩
  · exact .inl a
  · exact .inr ⟨b, off, cap, cur, rfl, k b _ _ _ ne hb, r⟩
theorem IntSS.keepT {w w' : World} {t : Nat} {v : Value} {xss : List (List Int)} (a : IntSS w.heap v xss) (n1 : 27 ≠ t) (n2 : 2 ≠ t) (k : KeepT t w w') : IntSS w'.heap v xss := by
  obtain ⟨us, h1, h2, h3⟩ := a
  exact ⟨us, h1.keepT n1 k, h2, fun i u xs hu hx => SlAt.keepT (h3 i u xs hu hx) n2 k⟩
theorem refSS_empty {w : World} {B : Nat} (h : Array Obj) (hB : B ≤ w.heap.size) : RefSS (w.alloc (.cells #[] 36)) B h (.slice (some ⟨w.heap.size, 0, none⟩) 0 0) [] [] :=
  ⟨World.ownsRow_made w #[] 0 hB (Nat.zero_le _) rfl, fun i u xs hu => by simp at hu⟩
theorem refSS_one {w : World} {B : Nat} {h : Array Obj} {u : Value} {xss : List (List Int)} (hu : IntSS h u xss) (hB : B ≤ w.heap.size) : RefSS (w.alloc (.cells #[u] 36)) B h (.slice (some ⟨w.heap.size, 0, none⟩) 1 1) [u] [xss] :=
  ⟨World.ownsRow_lit (e := 36) (size := 1) w #[u] 1 hB (by unfold maxLen; omega) rfl, fun i x ys hx hy => by
    match i, hx, hy with
    | 0, hx, hy =>
      simp at hx hy
      subst hx; subst hy; exact hu⟩
theorem intSS_oneCell {h : Array Obj} {u : Value} {xss : List (List Int)} (a : IntSS h u xss) : u.oneCell' = true := by
  obtain ⟨ao, c, rfl, -⟩ := a.len
  cases ao <;> rfl
section
variable {ops : Array Oper} {rest : List Oper} {o : Oper} {a : Act} {Q : Exit → Act → World → Prop} {K : Act → World → Prop} {E : Prop}
/-- 'append(out, x)', out a row of references to slices of slices. -/
theorem append_refSS {w w0 : World} (hg : o.guard = none) (s x : Operand)
    (ho : o.op = .call { callee := .builtin .append, args := #[s, x], argTypes := #[47, 47] })
    (B : Nat) (v u : Value) (us : List Value) (xsss : List (List (List Int))) (xss : List (List Int)) (hR : RefSS w B w.heap v us xsss) (hs : a.eval s = v) (hu : IntSS w.heap u xss) (hbl : Below B w0 w) (hB : B ≤ w.heap.size)
    (b : Nat) (hx : a.eval x = .slice (some ⟨b, 0, none⟩) 1 1) (hb : b = w.heap.size) (hn : xsss.length ≤ 4398046511104)
    (hK : ∀ v' us' w', RefSS w' B w'.heap v' us' (xsss ++ [xss]) → Below B w0 w' → w.heap.size ≤ w'.heap.size → (∀ b, b < w.heap.size → some b ≠ v.ownBlock → w'.heap[b]? = w.heap[b]?) → wpList Try.prog ops Q rest (a.put o.dst v') w') :
    wpList Try.prog ops Q (o :: rest) a (w.alloc (.cells #[u] 36)) := by
  obtain ⟨i0, hi, hz0, hz1, hz2⟩ := info_parts info_slSS
  refine append_one hg s x _ ho B _ i0 _ 24 Try.underlying47 hi hz0 hz1 hz2 rfl (by omega) v _ us u hR.row hs hbl hB b hx hb (intSS_oneCell hu) hn ?_
  intro v' w' h1 h2 h3 h4
  have hk := KeepT.grown hR.row h4
  refine hK v' _ w' ⟨by simpa using h1, fun i y ys hy hz => ?_⟩ h2 h3 h4
  have hl := hR.len
  by_cases hi : i < us.length
  · rw [List.getElem?_append_left hi] at hy
    rw [List.getElem?_append_left (by omega)] at hz
    exact (hR.each i y ys hy hz).keepT (by decide) (by decide) hk
  · rw [List.getElem?_append_right (by omega)] at hy hz
    rw [← hl] at hz
    obtain ⟨m, hm⟩ : ∃ m, i - us.length = m := ⟨_, rfl⟩
    rw [hm] at hy hz
    match m, hy, hz with
    | 0, hy, hz =>
      simp at hy hz
      subst hy; subst hz; exact hu.keepT (by decide) (by decide) hk
end
/-- A row of slices of slices of the call's own: all their blocks lie from B on. -/
structure OwnRS (w : World) (B : Nat) (v : Value) (us : List Value) (xsss : List (List (List Int))) : Prop where
  row : w.ownsRow B 36 1 v xsss.length us
  each : ∀ (i : Nat) u xss, us[i]? = some u → xsss[i]? = some xss → ∃ us', OwnU w B u us' xss
theorem OwnRS.len {w : World} {B : Nat} {v : Value} {us : List Value} {xsss : List (List (List Int))} (a : OwnRS w B v us xsss) : us.length = xsss.length := by simpa using a.row.1
theorem OwnRS.ints {w : World} {B : Nat} {v : Value} {us : List Value} {xsss : List (List (List Int))} (a : OwnRS w B v us xsss) : IntSSS w.heap v xsss :=
  ⟨us, slAt_of_own a.row, a.len, fun i u xss hu hx => by obtain ⟨us', h⟩ := a.each i u xss hu hx; exact h.ints⟩
theorem OwnRS.same {w w' : World} {B : Nat} {v : Value} {us : List Value} {xsss : List (List (List Int))} (a : OwnRS w B v us xsss) (k : ∀ b, b < w.heap.size → w'.heap[b]? = w.heap[b]?) : OwnRS w' B v us xsss :=
  ⟨own_same a.row k, fun i u xss hu hx => by obtain ⟨us', h⟩ := a.each i u xss hu hx; exact ⟨us', h.same k⟩⟩
theorem own_far {w w' : World} {B e n : Nat} {v : Value} {us : List Value} (h : w.ownsRow B e 1 v n us) (k : ∀ b, B ≤ b → b < w.heap.size → w'.heap[b]? = w.heap[b]?) : w'.ownsRow B e 1 v n us := own_kept h fun b e => k b (World.ownsRow.lt h b e).1 (World.ownsRow.lt h b e).2
theorem OwnRS.far {w w' : World} {B : Nat} {v : Value} {us : List Value} {xsss : List (List (List Int))} (a : OwnRS w B v us xsss) (k : ∀ b, B ≤ b → b < w.heap.size → w'.heap[b]? = w.heap[b]?) : OwnRS w' B v us xsss :=
  ⟨own_far a.row k, fun i u xss hu hx => by
    obtain ⟨us', h⟩ := a.each i u xss hu hx
    exact ⟨us', own_far h.row k, fun i u xs hu hx => own_far (h.each i u xs hu hx) k, h.apart⟩⟩
theorem own_keepT {w w' : World} {t B e n : Nat} {v : Value} {us : List Value} (h : w.ownsRow B e 1 v n us) (ne : e ≠ t) (k : KeepT t w w') : w'.ownsRow B e 1 v n us := by
  refine ⟨h.1, ?_⟩
  rcases h.2 with h2 | ⟨g, cap, cur, hv, hb, hg, r⟩
  · exact .inl h2
  · exact .inr ⟨g, cap, cur, hv, hb, k g _ _ _ ne hg, r⟩
theorem OwnU.keepT {w w' : World} {t B : Nat} {v : Value} {us : List Value} {xss : List (List Int)} (a : OwnU w B v us xss) (n1 : 27 ≠ t) (n2 : 2 ≠ t) (k : KeepT t w w') : OwnU w' B v us xss :=
  ⟨own_keepT a.row n1 k, fun i u xs hu hx => own_keepT (a.each i u xs hu hx) n2 k, a.apart⟩
theorem ownRS_one {w : World} {B : Nat} {u : Value} {us' : List Value} {xss : List (List Int)} (hu : OwnU w B u us' xss) (hB : B ≤ w.heap.size) : OwnRS (w.alloc (.cells #[u] 36)) B (.slice (some ⟨w.heap.size, 0, none⟩) 1 1) [u] [xss] :=
  ⟨World.ownsRow_lit (e := 36) (size := 1) w #[u] 1 hB (by unfold maxLen; omega) rfl, fun i x ys hx hy => by
    match i, hx, hy with
    | 0, hx, hy =>
      simp at hx hy
      subst hx; subst hy; exact ⟨us', hu.same (alloc_old w _)⟩⟩
section
variable {ops : Array Oper} {rest : List Oper} {o : Oper} {a : Act} {Q : Exit → Act → World → Prop}
/-- 'append(out, x)', all of it the call's own. -/
theorem append_ownRS {w w0 : World} (hg : o.guard = none) (s x : Operand)
    (ho : o.op = .call { callee := .builtin .append, args := #[s, x], argTypes := #[47, 47] })
    (B : Nat) (v u : Value) (us us' : List Value) (xsss : List (List (List Int))) (xss : List (List Int)) (hR : OwnRS w B v us xsss) (hs : a.eval s = v) (hu : OwnU w B u us' xss) (hbl : Below B w0 w) (hB : B ≤ w.heap.size)
    (b : Nat) (hx : a.eval x = .slice (some ⟨b, 0, none⟩) 1 1) (hb : b = w.heap.size) (hn : xsss.length ≤ 4398046511104)
    (hK : ∀ v' us' w', OwnRS w' B v' us' (xsss ++ [xss]) → Below B w0 w' → w.heap.size ≤ w'.heap.size → (∀ b, b < w.heap.size → some b ≠ v.ownBlock → w'.heap[b]? = w.heap[b]?) → wpList Try.prog ops Q rest (a.put o.dst v') w') :
    wpList Try.prog ops Q (o :: rest) a (w.alloc (.cells #[u] 36)) := by
  obtain ⟨i0, hi, hz0, hz1, hz2⟩ := info_parts info_slSS
  refine append_one hg s x _ ho B _ i0 _ 24 Try.underlying47 hi hz0 hz1 hz2 rfl (by omega) v _ us u hR.row hs hbl hB b hx hb (intSS_oneCell hu.ints) hn ?_
  intro v' w' h1 h2 h3 h4
  have hk := KeepT.grown hR.row h4
  refine hK v' _ w' ⟨by simpa using h1, fun i y ys hy hz => ?_⟩ h2 h3 h4
  have hl := hR.len
  by_cases hi : i < us.length
  · rw [List.getElem?_append_left hi] at hy
    rw [List.getElem?_append_left (by omega)] at hz
    obtain ⟨us'', h⟩ := hR.each i y ys hy hz
    exact ⟨us'', h.keepT (by decide) (by decide) hk⟩
  · rw [List.getElem?_append_right (by omega)] at hy hz
    rw [← hl] at hz
    obtain ⟨m, hm⟩ : ∃ m, i - us.length = m := ⟨_, rfl⟩
    rw [hm] at hy hz
    match m, hy, hz with
    | 0, hy, hz =>
      simp at hy hz
      subst hy; subst hz; exact ⟨us', hu.keepT (by decide) (by decide) hk⟩
end
end Go.Proofs.Ytljfpkhgijangaa

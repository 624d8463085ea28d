/- Modules (a slice of degrees and a slice of rows) in the statements: words, and the contracts of the statements' helpers. -/
import Derived.Test.YtalbbjhonkcbgaaGreatDoorBase2
namespace Go.Proofs.YtalbbjhonkcbgaaGreatDoor
open Go.RowKit Go.Sort

/-- A module that is read. -/
def ModS (h : Array Obj) (d a : Value) (ds : List Int) (act : List (List Int)) : Prop := IntS h d ds ∧ IntSS h a act
theorem ModS.same {h h' : Array Obj} {d a : Value} {ds : List Int} {act : List (List Int)} (x : ModS h d a ds act) (k : ∀ b, b < h.size → h'[b]? = h[b]?) : ModS h' d a ds act := ⟨x.1.same k, x.2.same k⟩
/-- A module of the call's own; us: the values of the rows. -/
structure OwnM (w : World) (B : Nat) (d a : Value) (us : List Value) (ds : List Int) (act : List (List Int)) : Prop where
  deg : OwnI w B d ds
  act : OwnU w B a us act
  apart : ∀ u, u ∈ us → d.ownBlock = none ∨ d.ownBlock ≠ u.ownBlock
theorem OwnM.same {w w' : World} {B : Nat} {d a : Value} {us : List Value} {ds : List Int} {act : List (List Int)} (x : OwnM w B d a us ds act) (k : ∀ b, b < w.heap.size → w'.heap[b]? = w.heap[b]?) : OwnM w' B d a us ds act := ⟨x.deg.same k, x.act.same k, x.apart⟩
theorem OwnM.ints {w : World} {B : Nat} {d a : Value} {us : List Value} {ds : List Int} {act : List (List Int)} (x : OwnM w B d a us ds act) : ModS w.heap d a ds act := ⟨x.deg.ints, x.act.ints⟩
theorem OwnM.nil (w : World) (B : Nat) : OwnM w B (.slice none 0 0) (.slice none 0 0) [] [] [] :=
  ⟨OwnI.nil _ _, ⟨World.ownsRow_nil _ _ _ _, fun i u xs hu => by simp at hu, fun i j u u' _ hu => by simp at hu⟩, fun u hu => by simp at hu⟩
theorem ModS.nil (h : Array Obj) : ModS h (.slice none 0 0) (.slice none 0 0) [] [] := ⟨IntS.nil h, IntSS.nil h⟩

theorem OwnM.ne_new {w : World} {B : Nat} {d a : Value} {us : List Value} {ds : List Int} {act : List (List Int)} (x : OwnM w B d a us ds act) : d.ownBlock ≠ some w.heap.size ∧ ∀ u, u ∈ us → u.ownBlock ≠ some w.heap.size := by
  refine ⟨fun e => ?_, fun u hu e => ?_⟩
  · have := (World.ownsRow.lt x.deg _ e).2; omega
  · obtain ⟨i, hi, rfl⟩ := List.getElem_of_mem hu
    have hl := x.act.len
    have := (World.ownsRow.lt (x.act.each i _ _ (List.getElem?_eq_getElem hi) (List.getElem?_eq_getElem (show i < act.length by omega))) _ e).2; omega
theorem slAt_oneCell {h : Array Obj} {e : Nat} {v : Value} {us : List Value} (a : SlAt h e v us) : v.oneCell' = true := by
  rcases a with ⟨rfl, _⟩ | ⟨b, off, cap, cur, rfl, _⟩ <;> rfl
theorem store_of {v : Value} (h : v.oneCell' = true) : ∀ (P : Program) (w : World) (a : Addr) (m : Mode), (store a v m).run P w = stored P w a v m := fun P w a m => run_store P w a v m h
theorem ModS.stores {h : Array Obj} {d a : Value} {ds : List Int} {act : List (List Int)} (x : ModS h d a ds act) : (∀ (P : Program) (w : World) (b : Addr) (m : Mode), (store b d m).run P w = stored P w b d m) ∧ ∀ (P : Program) (w : World) (b : Addr) (m : Mode), (store b a m).run P w = stored P w b a m :=
  ⟨store_of (slAt_oneCell x.1), store_of (x.2.elim fun _ h => slAt_oneCell h.1)⟩
theorem two_new (w : World) (x y : Value) (t : Nat) : (w.alloc (.cells #[x, y] t)).cell? ⟨w.heap.size, 0, none⟩ = some x ∧ (w.alloc (.cells #[x, y] t)).cell? ⟨w.heap.size, 1, none⟩ = some y := by
  constructor <;> (rw [World.cell?]; simp only [heap_alloc_new]; rfl)

theorem eqModule_same (d1 a1 d2 a2 : Value) (ds : List Int) (act : List (List Int)) (w : World) (h1 : ModS w.heap d1 a1 ds act) (h2 : ModS w.heap d2 a2 ds act) :
    Calls Tryz.prog 12 #[.agg #[d1, a1], .agg #[d2, a2]] w fun e w' => e = .returned (.bool true) ∧ Below w.heap.size w w' := by
  have hk : ∀ b, b < w.heap.size → ((w.alloc (.cells #[d1, a1] 32)).alloc (.cells #[d2, a2] 32)).heap[b]? = w.heap[b]? := fun b hb => (alloc_old _ _ b (by simp; omega)).trans (alloc_old _ _ b hb)
  have H1 := Lib.hid (h1.same hk); have H2 := Lib.hid (h2.same hk); clear h1 h2 hk
  go_enter Tryz.func12, Tryz.ntmps12
  go_wp2_with fail
  refine (eqInt64S_same _ _ ds _ H1.out.1 H2.out.1).mono ?_
  rintro e w1 ⟨rfl, n1, rfl⟩
  go_wp2_with fail
  refine (eqInt64SS_same _ _ act _ (by exact H1.out.2) (by exact H2.out.2)).mono ?_
  rintro e w2 ⟨rfl, n2, rfl⟩
  go_wp2_with fail
  go_ret
  exact ⟨rfl, below_drewN _ (((Below.refl _ w).alloc (Nat.le_refl _) (.cells #[d1, a1] 32)).alloc (by simp) (.cells #[d2, a2] 32))⟩
theorem markModule_c (d a : Value) (us : List Value) (ds : List Int) (act : List (List Int)) (k : Int) (B : Nat) (w : World) (h : OwnM w B d a us ds act) (hB : B ≤ w.heap.size) (hk : 0 ≤ k) (hx : k + ds.length + cnt act ≤ 4611686018427387904) :
    Calls Tryz.prog 13 #[.agg #[d, a], .int .i64 k] w fun e w' => e = .returned (.int .i64 (k + ds.length + cnt act)) ∧ OwnM w' B d a us (marks k ds.length) (marksS (k + ds.length) act) ∧ Below B w w' ∧
      (∀ b, b < w.heap.size → d.ownBlock ≠ some b → (∀ u, u ∈ us → u.ownBlock ≠ some b) → w'.heap[b]? = w.heap[b]?) := by
  have hk1 : ∀ b, b < w.heap.size → (w.alloc (.cells #[d, a] 32)).heap[b]? = w.heap[b]? := alloc_old _ _
  have hc := two_new w d a 32
  have H := Lib.hid (h.same hk1); have HK := Lib.hid hk1; have HB := Lib.hid hB; have HP := Lib.hid h; clear h hk1 hB
  have hx1 : k + ds.length ≤ 4611686018427387904 := by omega
  go_enter Tryz.func13, Tryz.ntmps13
  go_wp2_with fail
  refine (markInt64S_c d ds k B _ H.out.deg hk hx1).mono ?_
  rintro e w1 ⟨rfl, h1, g1⟩
  have hlt := World.ownsRow.lt HP.out.deg
  have hk2 : ∀ b, b < w.heap.size → d.ownBlock ≠ some b → w1.heap[b]? = w.heap[b]? := fun b hb hne => (g1.block b (by simp; omega) (fun e => hne e.symm)).trans (HK.out b hb)
  have hs1 : w.heap.size + 1 ≤ w1.heap.size := by have := g1.size; simpa using this
  have hcell : w1.cell? ⟨w.heap.size, 1, none⟩ = some a := by
    rw [World.cell?_of_block (w := w.alloc (.cells #[d, a] 32)) (g1.block _ (by simp) (fun e => by have := (hlt _ e.symm).2; simp at this))]; exact hc.2
  have hact : OwnU w1 B a us act := by
    refine ⟨own_kept H.out.act.row fun b hb => g1.block b (World.ownsRow.lt H.out.act.row b hb).2 ?_, fun i u xs hu hxs => own_kept (H.out.act.each i u xs hu hxs) fun b hb => g1.block b (World.ownsRow.lt (H.out.act.each i u xs hu hxs) b hb).2 ?_, H.out.act.apart⟩
    · rcases own_ne_types H.out.deg H.out.act.row (by decide) with e | e
      · rw [e]; simp
      · rw [← hb]; exact fun z => e z.symm
    · rcases H.out.apart u (List.mem_of_getElem? hu) with e | e
      · rw [e]; simp
      · rw [← hb]; exact fun z => e z.symm
  have HA := Lib.hid hact; have HK2 := Lib.hid hk2; have HL := Lib.hid hlt; have HG := Lib.hid g1; have H1 := Lib.hid h1
  clear hact hk2 hlt g1 h1
  have hs1' := hs1
  go_wp2_with fail
  refine (markInt64SS_c a us act (k + ds.length) B w1 HA.out (Nat.le_trans HB.out (by omega)) (by omega) hx).mono ?_
  rintro e w2 ⟨rfl, h2, z2, b2, k2⟩
  clear hcell
  have K2 := Lib.hid k2; clear k2
  go_wp2_with fail
  go_ret
  refine ⟨rfl, ⟨?_, h2, HP.out.apart⟩, ?_, ?_⟩
  · refine own_kept H1.out fun b hb => K2.out b (by have := (HL.out b hb).2; omega) fun u hu e => ?_
    rcases HP.out.apart u hu with x | x
    · rw [x] at hb; cases hb
    · exact x (hb.trans e.symm)
  · exact ((Below.refl B w).alloc HB.out (.cells #[d, a] 32)).trans ((Below_of_grown HG.out (Nat.le_trans HB.out (by simp)) (fun b hb => (HL.out b hb).1)).trans b2)
  · intro b hb hne hus
    exact (K2.out b (by omega) hus).trans (HK2.out b hb hne)
theorem heldModule_c (d a : Value) (ds : List Int) (act : List (List Int)) (k : Int) (w : World) (h : ModS w.heap d a (marks k ds.length) (marksS (k + ds.length) act)) (hk : 0 ≤ k) (hx : k + ds.length + cnt act ≤ 4611686018427387904) :
    Calls Tryz.prog 14 #[.agg #[d, a], .int .i64 k] w fun e w' => e = .returned (.int .i64 (k + ds.length + cnt act)) ∧ Below w.heap.size w w' := by
  have hk1 : ∀ b, b < w.heap.size → (w.alloc (.cells #[d, a] 32)).heap[b]? = w.heap[b]? := alloc_old _ _
  have hx1 : k + ds.length ≤ 4611686018427387904 := by omega
  have H := Lib.hid (h.same hk1); clear h hk1
  go_enter Tryz.func14, Tryz.ntmps14
  go_wp2_with fail
  refine (heldInt64S_c d ds.length k _ H.out.1 hk hx1).mono ?_
  rintro e w1 ⟨rfl, rfl⟩
  go_wp2_with fail
  refine (heldInt64SS_c a act (k + ds.length) _ H.out.2 (by omega) hx).mono ?_
  rintro e w1 ⟨rfl, rfl⟩
  go_wp2_with fail
  go_ret
  exact ⟨rfl, (Below.refl _ w).alloc (Nat.le_refl _) (.cells #[d, a] 32)⟩
end Go.Proofs.YtalbbjhonkcbgaaGreatDoor

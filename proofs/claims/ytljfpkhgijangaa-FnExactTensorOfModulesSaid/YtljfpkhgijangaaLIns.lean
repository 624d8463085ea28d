/- The sort by insertion of places by their degrees: slices.insertionSortCmpFunc, stableCmpFunc, SortStableFunc at []int. -/
import Derived.Test.YtljfpkhgijangaaLOrd
import Derived.Test.YtljfpkhgijangaaLCmp
import Derived.Test.YtljfpkhgijangaaLib4
import Derived.Test.YtljfpkhgijangaaLInsLay
import Derived.Shelf.SlSortCmp.Insertion
namespace Go.Proofs.Ytljfpkhgijangaa
open Go.RowKit Go.Sort Go.Shelf

def natV (ns : List Nat) : List Value := ns.map fun (n : Nat) => Value.int .i64 (n : Int)
/-- A slice of int of the call's own. -/
def OwnN (w : World) (B : Nat) (v : Value) (ns : List Nat) : Prop := w.ownsRow B 3 1 v ns.length (natV ns)
def cfD (ds : List Int) (x y : Fin ds.length) : Int := cmpI (ds.getD x 0) (ds.getD y 0)
def encD (n : Nat) (x : Fin n) : Value := .int .i64 (x.val : Int)
theorem ltOf_cfD (ds : List Int) (x y : Fin ds.length) : ltOf (cfD ds) x y = decide (ds.getD x 0 < ds.getD y 0) := by
  unfold ltOf cfD
  refine decide_eq_decide.2 ?_
  generalize ds.getD x 0 = a
  generalize ds.getD y 0 = b
  unfold cmpI
  by_cases h : a < b
  · simp [h]
  · by_cases h2 : b < a
    · simp [h, h2]
    · simp [h, h2]
def arrL {n : Nat} (d : Array (Fin n)) : List Nat := d.toList.map Fin.val
theorem arrL_len {n : Nat} (d : Array (Fin n)) : (arrL d).length = d.size := by simp [arrL]
theorem arrL_at {n : Nat} [Inhabited (Fin n)] (d : Array (Fin n)) (j : Nat) (hj : j < d.size) : (d[j]!).val = (arrL d).getD j 0 := by
  rw [getElem!_pos d j hj]
  simp [arrL, hj]
theorem arrL_swp {n : Nat} [Inhabited (Fin n)] (d : Array (Fin n)) (j : Nat) (hj : j + 1 < d.size) : arrL (swp d (j + 1) j) = ((arrL d).set (j + 1) ((arrL d).getD j 0)).set j ((arrL d).getD (j + 1) 0) := by
  rw [← arrL_at d j (by omega), ← arrL_at d (j + 1) hj]
  unfold arrL swp
  simp only [Array.toList_setIfInBounds, List.map_set]
theorem inner_ins {ds : List Int} [Inhabited (Fin ds.length)] (i : Nat) (hi : i < ds.length) : ∀ (j : Nat) (d : Array (Fin ds.length)), d.size = ds.length → InsJ ds i j (arrL d) → (insInner (ltOf (cfD ds)) 0 j d).size = ds.length ∧ InsS ds (i + 1) (arrL (insInner (ltOf (cfD ds)) 0 j d))
  | 0, d, hd, h => by rw [insInner_stop _ _ _ _ (.inl (Nat.le_refl 0))]; exact ⟨hd, ins_stop h (.inl rfl)⟩
  | j + 1, d, hd, h => by
    have hj := (insJ_len h hi).2
    have e1 := arrL_at d (j + 1) (by omega); have e0 := arrL_at d j (by omega)
    have hx := insJ_at h
    cases hl : ltOf (cfD ds) d[j + 1]! d[j + 1 - 1]!
    · rw [insInner_stop _ _ _ _ (.inr hl)]
      refine ⟨hd, ins_stop h (.inr ⟨j, rfl, ?_⟩)⟩
      rw [Nat.add_sub_cancel, ltOf_cfD] at hl
      rw [e1, e0, hx] at hl
      simpa using hl
    · rw [insInner_go _ _ _ _ (by omega) hl, Nat.add_sub_cancel]
      refine inner_ins i hi j _ (by rw [size_swp]; exact hd) ?_
      rw [arrL_swp d j (by omega), hx]
      rw [Nat.add_sub_cancel, ltOf_cfD] at hl
      rw [e1, e0, hx] at hl
      exact ins_step h (by simpa using hl)
theorem outer_ins {ds : List Int} [Inhabited (Fin ds.length)] : ∀ (m i : Nat) (d : Array (Fin ds.length)), ds.length - i = m → i ≤ ds.length → d.size = ds.length → InsS ds i (arrL d) → (insOuter (ltOf (cfD ds)) 0 ds.length i d).size = ds.length ∧ InsS ds ds.length (arrL (insOuter (ltOf (cfD ds)) 0 ds.length i d))
  | 0, i, d, hm, hi, hd, h => by
    rw [insOuter_stop _ _ _ _ _ (by omega)]
    obtain rfl : i = ds.length := by omega
    exact ⟨hd, h⟩
  | m + 1, i, d, hm, hi, hd, h => by
    rw [insOuter_go _ _ _ _ _ (by omega)]
    obtain ⟨h1, h2⟩ := inner_ins i (by omega) i d hd (ins_begin h (by omega))
    exact outer_ins m (i + 1) _ (by omega) (by omega) h1 h2
theorem insSort_ord {ds : List Int} (hs : Stems ds) [Inhabited (Fin ds.length)] (d : Array (Fin ds.length)) (h0 : 0 < ds.length) (hd : d.size = ds.length) (h : arrL d = List.range ds.length) :
    (Sort.insertionSort (ltOf (cfD ds)) d 0 ds.length).size = ds.length ∧ arrL (Sort.insertionSort (ltOf (cfD ds)) d 0 ds.length) = ordL ds := by
  have := outer_ins (ds := ds) (ds.length - 1) 1 d rfl h0 hd (by rw [h]; exact ins_first ds h0)
  exact ⟨this.1, ins_end hs this.2⟩
theorem put_same {w : World} {g n T : Nat} {α : Type} [Inhabited α] {enc : α → Value} {d : Array α} {cur : Array Value} (hg : w.heap[g]? = some (.cells cur T (0, 0))) : ((putRow enc w g 0 d).drewN n).heap[g]? = some (.cells (putCells enc 0 d cur) T (0, 0)) := by
  show ((w.heap.modify g (onCells (putCells enc 0 d))))[g]? = _
  rw [Array.getElem?_modify, if_pos rfl, hg]; rfl
theorem put_far {w : World} {g n k : Nat} {α : Type} [Inhabited α] {enc : α → Value} {d : Array α} (ne : k ≠ g) : ((putRow enc w g 0 d).drewN n).heap[k]? = w.heap[k]? := by
  show ((w.heap.modify g (onCells (putCells enc 0 d))))[k]? = _
  rw [Array.getElem?_modify, if_neg (fun e => ne e.symm)]
theorem put_size {w : World} {g n : Nat} {α : Type} [Inhabited α] {enc : α → Value} {d : Array α} : ((putRow enc w g 0 d).drewN n).heap.size = w.heap.size := by
  show ((w.heap.modify g (onCells (putCells enc 0 d)))).size = _
  simp
theorem put_take {α : Type} [Inhabited α] {enc : α → Value} {d : Array α} {cur : Array Value} (h : d.size ≤ cur.size) : (putCells enc 0 d cur).toList.take d.size = d.toList.map enc := by
  apply List.ext_getElem?
  intro i
  by_cases hi : i < d.size
  · rw [List.getElem?_take, if_pos hi, List.getElem?_map]
    simp only [putCells, Array.toList_mapIdx, List.getElem?_mapIdx, Array.getElem?_toList]
    rw [Array.getElem?_eq_getElem (by omega), Array.getElem?_eq_getElem hi]
    simp [hi]
  · rw [List.getElem?_eq_none (by simp; omega), List.getElem?_eq_none (by simp; omega)]
theorem insN_c (ds : List Int) (hs : Stems ds) (K : Nat) (caps : Array Value) (g cap B : Nat) (w : World) (hn : 0 < ds.length) (hl : ds.length ≤ 16) (h : OwnN w B (.slice (some ⟨g, 0, none⟩) ds.length cap) (List.range ds.length)) (eg : Enters Try.prog K)
    (hf : ∀ w1 : World, KeepI w w1 → (∀ b, b < w.heap.size → b ≠ g → w1.heap[b]? = w.heap[b]?) → ∀ x y : Nat, x < ds.length → y < ds.length → Calls Try.prog K (#[.int .i64 x, .int .i64 y] ++ caps) w1 fun e w' => e = .returned (.int .i64 (cmpI (ds.getD x 0) (ds.getD y 0))) ∧ ∃ m, w' = w1.drewN m) :
    Calls Try.prog 239 #[.slice (some ⟨g, 0, none⟩) ds.length cap, .int .i64 0, .int .i64 ds.length, .func (.func K) #[] caps] w fun e w' => e = .returned (.tuple #[]) ∧ OwnN w' B (.slice (some ⟨g, 0, none⟩) ds.length cap) (ordL ds) ∧ Below B w w' := by
  have hrow : w.ownsRow B 3 1 (.slice (some ⟨g, 0, none⟩) ds.length cap) ds.length (natV (List.range ds.length)) := by have := h; unfold OwnN at this; rwa [List.length_range] at this
  rcases hrow.2 with ⟨_, h1⟩ | ⟨g', cap', cur, hv, hgB, hg, h2, h3, h4, h5⟩
  · omega
  simp only [Value.slice.injEq, Option.some.injEq, Addr.mk.injEq, and_true, true_and] at hv
  obtain ⟨rfl, rfl⟩ := hv
  rw [Nat.mul_one] at h4 h5
  let iI : Inhabited (Fin ds.length) := ⟨⟨0, hn⟩⟩
  let d : Array (Fin ds.length) := Array.ofFn fun i : Fin ds.length => i
  have hds : d.size = ds.length := Array.size_ofFn
  have hda : arrL d = List.range ds.length := by
    apply List.ext_getElem
    · simp [arrL_len, hds]
    · intro i h1 h2
      simp only [arrL, List.getElem_map, Array.getElem_toList, List.getElem_range]
      have e : d[i]'(by simpa [arrL_len] using h1) = _ := Array.getElem_ofFn _
      rw [e]
  have hat : ∀ j (hj : j < ds.length), d[j]! = ⟨j, hj⟩ := fun j hj => by
    rw [getElem!_pos d j (by omega)]
    exact Array.getElem_ofFn _
  have hH : Holds (encD ds.length) w g 0 d := fun j hj => by
    rw [hds] at hj
    refine ⟨?_, by rw [Nat.zero_add]; exact hrow.frozenAt j⟩
    rw [Nat.zero_add, hrow.cellAt j (by omega), hat j hj]
    simp [natV, encD, hj]
  have hcmp : CmpReads Try.prog K caps (encD ds.length) (cfD ds) g 0 d.size w := fun m os dk hdk x y => by
    have hfar : ∀ b, b < w.heap.size → b ≠ g → (sortWorld (encD ds.length) w g 0 m dk os).heap[b]? = w.heap[b]? := fun b hlt hb => by
      show ((w.heap.modify g (onCells (putCells (encD ds.length) 0 dk))) ++ os)[b]? = _
      rw [Array.getElem?_append_left (by simpa using hlt), Array.getElem?_modify, if_neg (fun e => hb e.symm)]
    have hk : KeepI w (sortWorld (encD ds.length) w g 0 m dk os) := by
      intro b cs f hb
      by_cases e : b = g
      · subst e
        rw [hg] at hb
        simp only [Option.some.injEq, Obj.cells.injEq] at hb
        exact absurd hb.2.1 (by decide)
      · rw [hfar b (Array.getElem?_eq_some_iff.1 hb).1 e]; exact hb
    exact hf _ hk hfar x.val y.val x.isLt y.isLt
  obtain ⟨q1, q2⟩ := insSort_ord hs d hn hds hda
  have hcon := Any.insertionSortCmpFunc_one insLay (encD ds.length) (fun _ => rfl) (cfD ds) K caps g 0 cap 0 ds.length d w eg hcmp hH (Nat.zero_le _) (by omega) (by omega)
  rw [hds] at hcon
  refine Calls.mono hcon fun e w' ⟨he, n, hw⟩ => ⟨he, ?_, by rw [hw]; exact ⟨rfl, rfl, rfl, by rw [put_size]; exact Nat.le_refl _, fun k hk => put_far (by omega)⟩⟩
  generalize Sort.insertionSort (ltOf (cfD ds)) d 0 ds.length = d' at *
  unfold OwnN
  rw [ordL_len hs]
  refine ⟨by simp [natV, ordL_len hs], .inr ⟨g, cap, putCells (encD ds.length) 0 d' cur, rfl, hgB, by rw [hw]; exact put_same hg, h2, h3, by simpa [putCells] using h4, ?_⟩⟩
  rw [Nat.mul_one]
  have := put_take (enc := encD ds.length) (d := d') (cur := cur) (by omega)
  rw [q1] at this
  rw [this, ← q2]
  simp [natV, arrL, encD]
end Go.Proofs.Ytljfpkhgijangaa

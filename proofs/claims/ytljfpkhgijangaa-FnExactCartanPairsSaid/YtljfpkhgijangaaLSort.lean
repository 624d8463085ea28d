/- slices.SortFunc at [][]int64 by slices.Compare. -/
import Derived.Test.YtljfpkhgijangaaLCmp
import Derived.Test.YtljfpkhgijangaaLib4
import Derived.Test.YtljfpkhgijangaaLMil2
import Derived.Test.YtljfpkhgijangaaLRef
import Derived.Test.YtljfpkhgijangaaLSortLay
import Derived.Shelf.SlSortCmp.NoneTotal
namespace Go.Proofs.Ytljfpkhgijangaa
open Go.RowKit Go.Sort Go.Shelf

/-- A slice with what it reads as. -/
def SElt (h : Array Obj) : Type := {p : Value × List Int // IntS h p.1 p.2}
instance (h : Array Obj) : Inhabited (SElt h) := ⟨⟨(.slice none 0 0, []), IntS.nil h⟩⟩
def encE {h : Array Obj} (x : SElt h) : Value := x.1.1
def cfE {h : Array Obj} (x y : SElt h) : Int := cmpL x.1.2 y.1.2
theorem encE_one {h : Array Obj} (x : SElt h) : (encE x).oneCell' = true := by
  rcases x.2 with ⟨hv, _⟩ | ⟨b, off, cap, cur, hv, _⟩
  · unfold encE; rw [hv]; rfl
  · unfold encE; rw [hv]; rfl
theorem ltOf_cfE {h : Array Obj} (x y : SElt h) : ltOf cfE x y = ltL x.1.2 y.1.2 := cmpL_neg _ _
theorem swo_cfE (h : Array Obj) : SWO (ltOf (cfE (h := h))) where
  irrefl x := by rw [ltOf_cfE]; exact ltL_irrefl _
  trans x y z h1 h2 := by rw [ltOf_cfE] at *; exact ltL_trans _ _ _ h1 h2
  ntrans x y z h1 h2 := by rw [ltOf_cfE] at *; exact ltL_ntrans _ _ _ h1 h2
theorem heap_sorted {w : World} {g m : Nat} {α : Type} [Inhabited α] {enc : α → Value} {d : Array α} {os : Array Obj} {cur : Array Value} {T : Nat} (hg : w.heap[g]? = some (.cells cur T (0, 0))) :
    (sortWorld enc w g 0 m d os).heap[g]? = some (.cells (putCells enc 0 d cur) T (0, 0)) := by
  have hlt := (Array.getElem?_eq_some_iff.1 hg).1
  show ((w.heap.modify g (onCells (putCells enc 0 d))) ++ os)[g]? = _
  rw [Array.getElem?_append_left (by simpa using hlt), Array.getElem?_modify, if_pos rfl, hg]
  rfl
theorem heap_sorted_far {w : World} {g m k : Nat} {α : Type} [Inhabited α] {enc : α → Value} {d : Array α} {os : Array Obj} (hk : k < w.heap.size) (ne : k ≠ g) :
    (sortWorld enc w g 0 m d os).heap[k]? = w.heap[k]? := by
  show ((w.heap.modify g (onCells (putCells enc 0 d))) ++ os)[k]? = _
  rw [Array.getElem?_append_left (by simpa using hk), Array.getElem?_modify, if_neg (fun e => ne e.symm)]
theorem size_sorted {w : World} {g m : Nat} {α : Type} [Inhabited α] {enc : α → Value} {d : Array α} {os : Array Obj} : w.heap.size ≤ (sortWorld enc w g 0 m d os).heap.size := by
  show w.heap.size ≤ ((w.heap.modify g (onCells (putCells enc 0 d))) ++ os).size
  simp
theorem keep_sorted {w : World} {g m : Nat} {α : Type} [Inhabited α] {enc : α → Value} {d : Array α} {os : Array Obj} {cur : Array Value} {T : Nat} (hg : w.heap[g]? = some (.cells cur T (0, 0))) (ne : T ≠ 2) : KeepI w (sortWorld enc w g 0 m d os) := by
  intro b cs f hb
  by_cases e : b = g
  · subst e
    rw [hg] at hb
    simp only [Option.some.injEq, Obj.cells.injEq] at hb
    exact absurd hb.2.1 ne
  · rw [heap_sorted_far (Array.getElem?_eq_some_iff.1 hb).1 e]; exact hb
theorem putCells_take {α : Type} [Inhabited α] {enc : α → Value} {d : Array α} {cur : Array Value} (h : d.size ≤ cur.size) : (putCells enc 0 d cur).toList.take d.size = d.toList.map enc := by
  apply List.ext_getElem?
  intro i
  by_cases hi : i < d.size
  · rw [List.getElem?_take, if_pos hi, List.getElem?_map]
    simp only [putCells, Array.toList_mapIdx, List.getElem?_mapIdx, Array.getElem?_toList]
    rw [Array.getElem?_eq_getElem (by omega), Array.getElem?_eq_getElem hi]
    simp [hi]
  · rw [List.getElem?_eq_none (by simp; omega), List.getElem?_eq_none (by simp; omega)]
theorem sortSS_c (v : Value) (us : List Value) (xss : List (List Int)) (B : Nat) (w : World) (hR : RefR w B w.heap v us xss) (hB : B ≤ w.heap.size) (hlen : xss.length < 4611686018427387904) :
    Calls Try.prog 148 #[v, .func (.func 149) #[] #[]] w fun e w' => e = .returned (.tuple #[]) ∧ ∃ us' xss', RefR w' B w.heap v us' xss' ∧ xss'.Perm xss ∧ xss'.Pairwise (fun a b => ltL b a = false) ∧ Below B w w' ∧ KeepI w w' := by
  by_cases h0 : xss.length = 0
  · obtain rfl : xss = [] := List.eq_nil_of_length_eq_zero h0
    have hus : us = [] := List.eq_nil_of_length_eq_zero hR.len
    subst hus
    obtain ⟨ao, l, c, rfl⟩ := own_shape hR.row
    have hl : l = 0 := by
      obtain ⟨_, _, hv, _⟩ := SlAt.len (slAt_of_own hR.row)
      simp only [Value.slice.injEq] at hv
      exact hv.2.1
    subst hl
    have h := AnyF.slices_SortFunc_none { sortLay with } ao c (.func (.func 149) #[] #[]) w
    exact h.mono fun e w' ⟨he, hw⟩ => ⟨he, [], [], by rw [hw]; exact hR, List.Perm.refl _, List.Pairwise.nil, by rw [hw]; exact Below.refl _ _, by rw [hw]; exact KeepI.refl _⟩
  · have hrow := hR.row
    rcases hrow.2 with ⟨_, h1⟩ | ⟨g, cap, cur, rfl, hgB, hg, h2, h3, h4, h5⟩
    · exact absurd h1 (by simpa using h0)
    rw [Nat.mul_one] at h4 h5
    have hus := hR.len
    let d : Array (SElt w.heap) := Array.ofFn fun i : Fin xss.length => ⟨(us[i]'(by have := i.2; omega), xss[i]), hR.each i _ _ (List.getElem?_eq_getElem (by have := i.2; omega)) (List.getElem?_eq_getElem i.2)⟩
    have hds : d.size = xss.length := Array.size_ofFn
    have hdu : d.toList.map encE = us := by
      apply List.ext_getElem
      · simp [hds, hus]
      · intro i h1 h2
        have e : d[i]'(by simpa using h1) = _ := Array.getElem_ofFn _
        simp only [List.getElem_map, Array.getElem_toList]
        rw [e]; rfl
    have hdx : d.toList.map (fun x => x.1.2) = xss := by
      apply List.ext_getElem
      · simp [hds]
      · intro i h1 h2
        have e : d[i]'(by simpa using h1) = _ := Array.getElem_ofFn _
        simp only [List.getElem_map, Array.getElem_toList]
        rw [e]; rfl
    have hH : Holds encE w g 0 d := fun j hj => by
      rw [hds] at hj
      refine ⟨?_, by rw [Nat.zero_add]; exact hrow.frozenAt j⟩
      rw [Nat.zero_add, hrow.cellAt j (by omega), getElem!_pos d j (by omega)]
      have := congrArg (fun l : List Value => l[j]?) hdu
      simp only [List.getElem?_map, Array.getElem?_toList] at this
      rw [← this, Array.getElem?_eq_getElem (by omega)]
      rfl
    have hcmp : CmpLays1 Try.prog 149 #[] (encE (h := w.heap)) cfE g 0 d.size w := fun m os dk _ x y => by
      have hk : KeepI w (sortWorld encE w g 0 m dk os) := keep_sorted hg (by decide)
      refine (compare_c (encE x) (encE y) x.1.2 y.1.2 _ (IntS.keep x.2 hk) (IntS.keep y.2 hk)).mono fun e w' ⟨he, hw⟩ => ⟨he, 0, #[], ?_⟩
      rw [← hw, grow_empty]; rfl
    have hcon := Any.slices_SortFunc sortLay (encE (h := w.heap)) encE_one cfE (swo_cfE _) 149 #[] g 0 cap d w enters_compare hcmp hH (Array.getElem?_eq_some_iff.1 hg).1 (by omega)
    rw [hds] at hcon
    refine Calls.mono hcon fun e w' ⟨he, d', n, os, hp, hs, hw⟩ => ⟨he, d'.toList.map encE, d'.toList.map (fun x => x.1.2), ?_⟩
    obtain ⟨hp1, hp2, hp3⟩ := hp
    have hd's : d'.size = xss.length := by rw [hp1, hds]
    have hperm : d'.toList.Perm d.toList := by
      rw [show d'.extract 0 xss.length = d' by rw [← hd's]; simp, show d.extract 0 xss.length = d by rw [← hds]; simp] at hp3
      exact hp3
    refine ⟨⟨⟨by simp [hd's], .inr ⟨g, cap, putCells encE 0 d' cur, by simp [hd's], hgB, by rw [hw]; exact heap_sorted hg, by simpa [hd's] using h2, h3, by simpa [putCells] using h4, ?_⟩⟩, fun i u xs hu hx => ?_⟩, ?_, ?_, ?_, ?_⟩
    · rw [Nat.mul_one, List.length_map, Array.length_toList, hd's, ← hd's]
      exact putCells_take (by omega)
    · simp only [List.getElem?_map, Option.map_eq_some_iff] at hu hx
      obtain ⟨z, hz, rfl⟩ := hu
      obtain ⟨z', hz', rfl⟩ := hx
      rw [hz] at hz'
      obtain rfl := Option.some.inj hz'
      exact z.2
    · rw [← hdx]; exact hperm.map _
    · rw [List.pairwise_iff_getElem]
      intro i j hi hj hij
      simp only [List.length_map, Array.length_toList] at hi hj
      have := hs i j (Nat.zero_le _) hij (by omega)
      rw [ltOf_cfE, getElem!_pos d' j hj, getElem!_pos d' i hi] at this
      simpa using this
    · rw [hw]
      exact ⟨rfl, rfl, rfl, size_sorted, fun k hk => heap_sorted_far (by omega) (by omega)⟩
    · rw [hw]; exact keep_sorted hg (by decide)
theorem sortSS_c2 (v : Value) (us : List Value) (xss : List (List Int)) (B : Nat) (w : World) (hR : RefR w B w.heap v us xss) (hB : B ≤ w.heap.size) (hlen : xss.length < 4611686018427387904) :
    Calls Try.prog 148 #[v, .func (.func 149) #[] #[]] w fun e w' => e = .returned (.tuple #[]) ∧ ∃ us' xss', RefR w' B w.heap v us' xss' ∧ (us'.zip xss').Perm (us.zip xss) ∧ xss'.Pairwise (fun a b => ltL b a = false) ∧ Below B w w' ∧ (∀ b, b < w.heap.size → some b ≠ v.ownBlock → w'.heap[b]? = w.heap[b]?) := by
  by_cases h0 : xss.length = 0
  · obtain rfl : xss = [] := List.eq_nil_of_length_eq_zero h0
    have hus : us = [] := List.eq_nil_of_length_eq_zero hR.len
    subst hus
    obtain ⟨ao, l, c, rfl⟩ := own_shape hR.row
    have hl : l = 0 := by
      obtain ⟨_, _, hv, _⟩ := SlAt.len (slAt_of_own hR.row)
      simp only [Value.slice.injEq] at hv
      exact hv.2.1
    subst hl
    have h := AnyF.slices_SortFunc_none { sortLay with } ao c (.func (.func 149) #[] #[]) w
    exact h.mono fun e w' ⟨he, hw⟩ => ⟨he, [], [], by rw [hw]; exact hR, List.Perm.refl _, List.Pairwise.nil, by rw [hw]; exact Below.refl _ _, fun b _ _ => by rw [hw]⟩
  · have hrow := hR.row
    rcases hrow.2 with ⟨_, h1⟩ | ⟨g, cap, cur, rfl, hgB, hg, h2, h3, h4, h5⟩
    · exact absurd h1 (by simpa using h0)
    rw [Nat.mul_one] at h4 h5
    have hus := hR.len
    let d : Array (SElt w.heap) := Array.ofFn fun i : Fin xss.length => ⟨(us[i]'(by have := i.2; omega), xss[i]), hR.each i _ _ (List.getElem?_eq_getElem (by have := i.2; omega)) (List.getElem?_eq_getElem i.2)⟩
    have hds : d.size = xss.length := Array.size_ofFn
    have hdu : d.toList.map encE = us := by
      apply List.ext_getElem
      · simp [hds, hus]
      · intro i h1 h2
        have e : d[i]'(by simpa using h1) = _ := Array.getElem_ofFn _
        simp only [List.getElem_map, Array.getElem_toList]
        rw [e]; rfl
    have hdx : d.toList.map (fun x => x.1.2) = xss := by
      apply List.ext_getElem
      · simp [hds]
      · intro i h1 h2
        have e : d[i]'(by simpa using h1) = _ := Array.getElem_ofFn _
        simp only [List.getElem_map, Array.getElem_toList]
        rw [e]; rfl
    have hH : Holds encE w g 0 d := fun j hj => by
      rw [hds] at hj
      refine ⟨?_, by rw [Nat.zero_add]; exact hrow.frozenAt j⟩
      rw [Nat.zero_add, hrow.cellAt j (by omega), getElem!_pos d j (by omega)]
      have := congrArg (fun l : List Value => l[j]?) hdu
      simp only [List.getElem?_map, Array.getElem?_toList] at this
      rw [← this, Array.getElem?_eq_getElem (by omega)]
      rfl
    have hcmp : CmpLays1 Try.prog 149 #[] (encE (h := w.heap)) cfE g 0 d.size w := fun m os dk _ x y => by
      have hk : KeepI w (sortWorld encE w g 0 m dk os) := keep_sorted hg (by decide)
      refine (compare_c (encE x) (encE y) x.1.2 y.1.2 _ (IntS.keep x.2 hk) (IntS.keep y.2 hk)).mono fun e w' ⟨he, hw⟩ => ⟨he, 0, #[], ?_⟩
      rw [← hw, grow_empty]; rfl
    have hcon := Any.slices_SortFunc sortLay (encE (h := w.heap)) encE_one cfE (swo_cfE _) 149 #[] g 0 cap d w enters_compare hcmp hH (Array.getElem?_eq_some_iff.1 hg).1 (by omega)
    rw [hds] at hcon
    refine Calls.mono hcon fun e w' ⟨he, d', n, os, hp, hs, hw⟩ => ⟨he, d'.toList.map encE, d'.toList.map (fun x => x.1.2), ?_⟩
    obtain ⟨hp1, hp2, hp3⟩ := hp
    have hd's : d'.size = xss.length := by rw [hp1, hds]
    have hperm : d'.toList.Perm d.toList := by
      rw [show d'.extract 0 xss.length = d' by rw [← hd's]; simp, show d.extract 0 xss.length = d by rw [← hds]; simp] at hp3
      exact hp3
    refine ⟨⟨⟨by simp [hd's], .inr ⟨g, cap, putCells encE 0 d' cur, by simp [hd's], hgB, by rw [hw]; exact heap_sorted hg, by simpa [hd's] using h2, h3, by simpa [putCells] using h4, ?_⟩⟩, fun i u xs hu hx => ?_⟩, ?_, ?_, ?_, ?_⟩
    · rw [Nat.mul_one, List.length_map, Array.length_toList, hd's, ← hd's]
      exact putCells_take (by omega)
    · simp only [List.getElem?_map, Option.map_eq_some_iff] at hu hx
      obtain ⟨z, hz, rfl⟩ := hu
      obtain ⟨z', hz', rfl⟩ := hx
      rw [hz] at hz'
      obtain rfl := Option.some.inj hz'
      exact z.2
    · have e : (us.zip xss) = d.toList.map fun x => (encE x, x.1.2) := by rw [← List.zip_map', hdu, hdx]
      rw [e, List.zip_map']; exact hperm.map _
    · rw [List.pairwise_iff_getElem]
      intro i j hi hj hij
      simp only [List.length_map, Array.length_toList] at hi hj
      have := hs i j (Nat.zero_le _) hij (by omega)
      rw [ltOf_cfE, getElem!_pos d' j hj, getElem!_pos d' i hi] at this
      simpa using this
    · rw [hw]
      exact ⟨rfl, rfl, rfl, size_sorted, fun k hk => heap_sorted_far (by omega) (by omega)⟩
    · intro b hb hne
      rw [hw]; exact heap_sorted_far hb (fun e => hne (by rw [e]; rfl))
end Go.Proofs.Ytljfpkhgijangaa

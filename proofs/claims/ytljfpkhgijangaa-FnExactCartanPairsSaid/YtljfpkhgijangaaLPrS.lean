/- slices.SortFunc at [][][]int64 by comparePairs. -/
import Derived.Test.YtljfpkhgijangaaLPrC
import Derived.Test.YtljfpkhgijangaaLSort
import Derived.Test.YtljfpkhgijangaaLSortLay3
import Derived.Shelf.SlSortCmp.NoneTotal
namespace Go.Proofs.Ytljfpkhgijangaa
open Go.RowKit Go.Sort Go.Shelf

/-- A slice with the pair that it reads as. -/
def PElt (h : Array Obj) : Type := {p : Value × List (List Int) // IntSS h p.1 p.2 ∧ IsPr p.2}
theorem isPr_nil : IsPr [[], []] := ⟨[], [], rfl, fun x h => by cases h⟩
def encQ {h : Array Obj} (x : PElt h) : Value := x.1.1
def cfQ {h : Array Obj} (x y : PElt h) : Int := cmpL (encP x.1.2) (encP y.1.2)
theorem encQ_one {h : Array Obj} (x : PElt h) : (encQ x).oneCell' = true := intSS_oneCell x.2.1
theorem ltOf_cfQ {h : Array Obj} (x y : PElt h) : ltOf cfQ x y = ltL (encP x.1.2) (encP y.1.2) := cmpL_neg _ _
theorem swo_cfQ (h : Array Obj) : SWO (ltOf (cfQ (h := h))) where
  irrefl x := by rw [ltOf_cfQ]; exact ltL_irrefl _
  trans x y z h1 h2 := by rw [ltOf_cfQ] at *; exact ltL_trans _ _ _ h1 h2
  ntrans x y z h1 h2 := by rw [ltOf_cfQ] at *; exact ltL_ntrans _ _ _ h1 h2
theorem keepT_sorted {w : World} {g m : Nat} {α : Type} [Inhabited α] {enc : α → Value} {d : Array α} {os : Array Obj} {cur : Array Value} {T : Nat} (hg : w.heap[g]? = some (.cells cur T (0, 0))) : KeepT T w (sortWorld enc w g 0 m d os) := by
  intro b cs t f ne hb
  by_cases e : b = g
  · subst e
    rw [hg] at hb
    simp only [Option.some.injEq, Obj.cells.injEq] at hb
    exact absurd hb.2.1.symm ne
  · rw [heap_sorted_far (Array.getElem?_eq_some_iff.1 hb).1 e]; exact hb
theorem sortSSS_c (v : Value) (us : List Value) (xss : List (List (List Int))) (B : Nat) (w : World) (hR : RefSS w B w.heap v us xss) (hB : B ≤ w.heap.size) (hlen : xss.length < 4611686018427387904) (hpr : ∀ x ∈ xss, IsPr x) :
    Calls Try.prog 162 #[v, .func (.func 163) #[] #[]] w fun e w' => e = .returned (.tuple #[]) ∧ ∃ us' xss', RefSS w' B w.heap v us' xss' ∧ xss'.Perm xss ∧ xss'.Pairwise (fun a b => ltL (encP b) (encP a) = false) ∧ Below B w w' ∧ KeepT 36 w w' := by
  by_cases h0 : xss.length = 0
  · have hxe : xss = [] := List.eq_nil_of_length_eq_zero h0
    subst hxe
    have hus : us = [] := List.eq_nil_of_length_eq_zero hR.len
    subst hus
    obtain ⟨ao, l, c, rfl⟩ := own_shape hR.row
    have hl : l = 0 := by
      obtain ⟨_, _, hv, _⟩ := SlAt.len (slAt_of_own hR.row)
      simp only [Value.slice.injEq] at hv
      exact hv.2.1
    subst hl
    have h := AnyF.slices_SortFunc_none { sortLay3 with } ao c (.func (.func 163) #[] #[]) w
    exact h.mono fun e w' ⟨he, hw⟩ => ⟨he, [], [], by rw [hw]; exact hR, List.Perm.refl _, List.Pairwise.nil, by rw [hw]; exact Below.refl _ _, by rw [hw]; exact fun _ _ _ _ _ h => h⟩
  · have hrow := hR.row
    rcases hrow.2 with ⟨_, h1⟩ | ⟨g, cap, cur, rfl, hgB, hg, h2, h3, h4, h5⟩
    · exact absurd h1 (by simpa using h0)
    rw [Nat.mul_one] at h4 h5
    have hus := hR.len
    have : Inhabited (PElt w.heap) := ⟨⟨(us[0]'(by have := hR.len; omega), xss[0]'(by omega)), ⟨hR.each 0 _ _ (List.getElem?_eq_getElem (by have := hR.len; omega)) (List.getElem?_eq_getElem (by omega)), hpr _ (List.getElem_mem _)⟩⟩⟩
    let d : Array (PElt w.heap) := Array.ofFn fun i : Fin xss.length => ⟨(us[i]'(by have := i.2; omega), xss[i]), ⟨hR.each i _ _ (List.getElem?_eq_getElem (by have := i.2; omega)) (List.getElem?_eq_getElem i.2), hpr _ (List.getElem_mem i.2)⟩⟩
    have hds : d.size = xss.length := Array.size_ofFn
    have hdu : d.toList.map encQ = us := by
      apply List.ext_getElem
      · simp [hds, hus]
      · intro i h1 h2
        have e : d[i]'(by simpa using h1) = _ := Array.getElem_ofFn _
        simp only [List.getElem_map, Array.getElem_toList]
        rw [e]; rfl
    have hdx : d.toList.map (fun x => x.1.2) = xss := by
      apply List.ext_getElem
      · simp [hds]
      · intro i h1 h2
        have e : d[i]'(by simpa using h1) = _ := Array.getElem_ofFn _
        simp only [List.getElem_map, Array.getElem_toList]
        rw [e]; rfl
    have hH : Holds encQ w g 0 d := fun j hj => by
      rw [hds] at hj
      refine ⟨?_, by rw [Nat.zero_add]; exact hrow.frozenAt j⟩
      rw [Nat.zero_add, hrow.cellAt j (by omega), getElem!_pos d j (by omega)]
      have := congrArg (fun l : List Value => l[j]?) hdu
      simp only [List.getElem?_map, Array.getElem?_toList] at this
      rw [← this, Array.getElem?_eq_getElem (by omega)]
      rfl
    have hcmp : CmpLays1 Try.prog 163 #[] (encQ (h := w.heap)) cfQ g 0 d.size w := fun m os dk _ x y => by
      have hk : KeepT 36 w (sortWorld encQ w g 0 m dk os) := keepT_sorted hg
      refine (comparePairs_c (encQ x) (encQ y) x.1.2 y.1.2 _ (x.2.1.keepT (by decide) (by decide) hk) (y.2.1.keepT (by decide) (by decide) hk) x.2.2 y.2.2).mono fun e w' ⟨he, hw⟩ => ⟨he, 0, #[], ?_⟩
      rw [← hw, grow_empty]; rfl
    have hcon := Any.slices_SortFunc sortLay3 (encQ (h := w.heap)) encQ_one cfQ (swo_cfQ _) 163 #[] g 0 cap d w enters_comparePairs hcmp hH (Array.getElem?_eq_some_iff.1 hg).1 (by omega)
    rw [hds] at hcon
    refine Calls.mono hcon fun e w' ⟨he, d', n, os, hp, hs, hw⟩ => ⟨he, d'.toList.map encQ, d'.toList.map (fun x => x.1.2), ?_⟩
    obtain ⟨hp1, hp2, hp3⟩ := hp
    have hd's : d'.size = xss.length := by rw [hp1, hds]
    have hperm : d'.toList.Perm d.toList := by
      rw [show d'.extract 0 xss.length = d' by rw [← hd's]; simp, show d.extract 0 xss.length = d by rw [← hds]; simp] at hp3
      exact hp3
    refine ⟨⟨⟨by simp [hd's], .inr ⟨g, cap, putCells encQ 0 d' cur, by simp [hd's], hgB, by rw [hw]; exact heap_sorted hg, by simpa [hd's] using h2, h3, by simpa [putCells] using h4, ?_⟩⟩, fun i u xs hu hx => ?_⟩, ?_, ?_, ?_, ?_⟩
    · rw [Nat.mul_one, List.length_map, Array.length_toList, hd's, ← hd's]
      exact putCells_take (by omega)
    · simp only [List.getElem?_map, Option.map_eq_some_iff] at hu hx
      obtain ⟨z, hz, rfl⟩ := hu
      obtain ⟨z', hz', rfl⟩ := hx
      rw [hz] at hz'
      obtain rfl := Option.some.inj hz'
      exact z.2.1
    · rw [← hdx]; exact hperm.map _
    · rw [List.pairwise_iff_getElem]
      intro i j hi hj hij
      simp only [List.length_map, Array.length_toList] at hi hj
      have := hs i j (Nat.zero_le _) hij (by omega)
      rw [ltOf_cfQ, getElem!_pos d' j hj, getElem!_pos d' i hi] at this
      simpa using this
    · rw [hw]
      exact ⟨rfl, rfl, rfl, size_sorted, fun k hk => heap_sorted_far (by omega) (by omega)⟩
    · rw [hw]; exact keepT_sorted hg
end Go.Proofs.Ytljfpkhgijangaa

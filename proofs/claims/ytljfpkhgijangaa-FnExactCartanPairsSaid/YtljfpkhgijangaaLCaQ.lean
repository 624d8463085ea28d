/- slices.SortFunc at [][][]int64 by comparePairs: pairs of the call's own stay apart. -/
import Derived.Test.YtljfpkhgijangaaLPrS
import Derived.Test.YtljfpkhgijangaaLSsq
namespace Go.Proofs.Ytljfpkhgijangaa
open Go.RowKit Go.Sort Go.Shelf

/-- A slice of the call's own with its rows and the pair that it reads as. -/
def QElt (w : World) (B : Nat) : Type := {p : (Value × List Value) × List (List Int) // OwnU w B p.1.1 p.1.2 p.2 ∧ IsPr p.2}
def encR {w : World} {B : Nat} (x : QElt w B) : Value := x.1.1.1
def cfR {w : World} {B : Nat} (x y : QElt w B) : Int := cmpL (encP x.1.2) (encP y.1.2)
theorem encR_one {w : World} {B : Nat} (x : QElt w B) : (encR x).oneCell' = true := intSS_oneCell x.2.1.ints
theorem ltOf_cfR {w : World} {B : Nat} (x y : QElt w B) : ltOf cfR x y = ltL (encP x.1.2) (encP y.1.2) := cmpL_neg _ _
theorem swo_cfR (w : World) (B : Nat) : SWO (ltOf (cfR (w := w) (B := B))) where
  irrefl x := by rw [ltOf_cfR]; exact ltL_irrefl _
  trans x y z h1 h2 := by rw [ltOf_cfR] at *; exact ltL_trans _ _ _ h1 h2
  ntrans x y z h1 h2 := by rw [ltOf_cfR] at *; exact ltL_ntrans _ _ _ h1 h2
def apartR (x y : List Value) : Prop := ∀ u ∈ x, ∀ u' ∈ y, u.ownBlock = none ∨ u.ownBlock ≠ u'.ownBlock
theorem apartR_symm {x y : List Value} (h : apartR x y) : apartR y x := fun u hu u' hu' => by
  rcases h u' hu' u hu with e | e
  · cases hb : u.ownBlock with
    | none => exact .inl rfl
    | some b => right; rw [e]; simp
  · exact .inr fun e2 => e e2.symm
theorem sortQ_c (v : Value) (us : List Value) (qs : List (List Value)) (xss : List (List (List Int))) (B : Nat) (w : World) (hR : OwnQ w B v us qs xss) (hB : B ≤ w.heap.size) (hlen : xss.length < 4611686018427387904) (hpr : ∀ x ∈ xss, IsPr x) :
    Calls Try.prog 162 #[v, .func (.func 163) #[] #[]] w fun e w' => e = .returned (.tuple #[]) ∧ ∃ us' qs' xss', OwnQ w' B v us' qs' xss' ∧ xss'.Perm xss ∧ xss'.Pairwise (fun a b => ltL (encP b) (encP a) = false) ∧ Below B w w' := by
  by_cases h0 : xss.length = 0
  · have hxe : xss = [] := List.eq_nil_of_length_eq_zero h0
    subst hxe
    obtain ⟨ao, l, c, rfl⟩ := own_shape hR.row
    have hl : l = 0 := by
      obtain ⟨_, _, hv, _⟩ := SlAt.len (slAt_of_own hR.row)
      simp only [Value.slice.injEq] at hv
      have := hR.len
      simp only [List.length_nil] at this
      omega
    subst hl
    have h := AnyF.slices_SortFunc_none { sortLay3 with } ao c (.func (.func 163) #[] #[]) w
    exact h.mono fun e w' ⟨he, hw⟩ => ⟨he, us, qs, [], by rw [hw]; exact hR, List.Perm.refl _, List.Pairwise.nil, by rw [hw]; exact Below.refl _ _⟩
  · have hrow := hR.row
    rcases hrow.2 with ⟨_, h1⟩ | ⟨g, cap, cur, rfl, hgB, hg, h2, h3, h4, h5⟩
    · exact absurd h1 (by simpa using h0)
    rw [Nat.mul_one] at h4 h5
    have hus := hR.len
    have hql := hR.qlen
    have hea : ∀ i (hi : i < xss.length), OwnU w B (us[i]'(by omega)) (qs[i]'(by omega)) xss[i] := fun i hi => hR.each i _ _ _ (List.getElem?_eq_getElem (by omega)) (List.getElem?_eq_getElem (by omega)) (List.getElem?_eq_getElem hi)
    have : Inhabited (QElt w B) := ⟨⟨((us[0]'(by omega), qs[0]'(by omega)), xss[0]'(by omega)), ⟨hea 0 (by omega), hpr _ (List.getElem_mem _)⟩⟩⟩
    let d : Array (QElt w B) := Array.ofFn fun i : Fin xss.length => ⟨((us[i]'(by have := i.2; omega), qs[i]'(by have := i.2; omega)), xss[i]), ⟨hea i i.2, hpr _ (List.getElem_mem i.2)⟩⟩
    have hds : d.size = xss.length := Array.size_ofFn
    have hdu : d.toList.map encR = us := by
      apply List.ext_getElem
      · simp [hds, hus]
      · intro i h1 h2
        have e : d[i]'(by simpa using h1) = _ := Array.getElem_ofFn _
        simp only [List.getElem_map, Array.getElem_toList]
        rw [e]; rfl
    have hdq : d.toList.map (fun x => x.1.1.2) = qs := by
      apply List.ext_getElem
      · simp [hds, hql]
      · intro i h1 h2
        have e : d[i]'(by simpa using h1) = _ := Array.getElem_ofFn _
        simp only [List.getElem_map, Array.getElem_toList]
        rw [e]; rfl
    have hdx : d.toList.map (fun x => x.1.2) = xss := by
      apply List.ext_getElem
      · simp [hds]
      · intro i h1 h2
        have e : d[i]'(by simpa using h1) = _ := Array.getElem_ofFn _
        simp only [List.getElem_map, Array.getElem_toList]
        rw [e]; rfl
    have hda : d.toList.Pairwise (fun x y => apartR x.1.1.2 y.1.1.2) := by
      have h : qs.Pairwise apartR := by
        rw [List.pairwise_iff_getElem]
        intro i j hi hj hij
        exact hR.apart i j _ _ hij (List.getElem?_eq_getElem hi) (List.getElem?_eq_getElem hj)
      rw [← hdq, List.pairwise_map] at h
      exact h
    have hH : Holds encR w g 0 d := fun j hj => by
      rw [hds] at hj
      refine ⟨?_, by rw [Nat.zero_add]; exact hrow.frozenAt j⟩
      rw [Nat.zero_add, hrow.cellAt j (by omega), getElem!_pos d j (by omega)]
      have := congrArg (fun l : List Value => l[j]?) hdu
      simp only [List.getElem?_map, Array.getElem?_toList] at this
      rw [← this, Array.getElem?_eq_getElem (by omega)]
      rfl
    have hcmp : CmpLays1 Try.prog 163 #[] (encR (w := w) (B := B)) cfR g 0 d.size w := fun m os dk _ x y => by
      have hk : KeepT 36 w (sortWorld encR w g 0 m dk os) := keepT_sorted hg
      refine (comparePairs_c (encR x) (encR y) x.1.2 y.1.2 _ (x.2.1.ints.keepT (by decide) (by decide) hk) (y.2.1.ints.keepT (by decide) (by decide) hk) x.2.2 y.2.2).mono fun e w' ⟨he, hw⟩ => ⟨he, 0, #[], ?_⟩
      rw [← hw, grow_empty]; rfl
    have hcon := Any.slices_SortFunc sortLay3 (encR (w := w) (B := B)) encR_one cfR (swo_cfR _ _) 163 #[] g 0 cap d w enters_comparePairs hcmp hH (Array.getElem?_eq_some_iff.1 hg).1 (by omega)
    rw [hds] at hcon
    refine Calls.mono hcon fun e w' ⟨he, d', n, os, hp, hs, hw⟩ => ⟨he, d'.toList.map encR, d'.toList.map (fun x => x.1.1.2), d'.toList.map (fun x => x.1.2), ?_⟩
    obtain ⟨hp1, hp2, hp3⟩ := hp
    have hd's : d'.size = xss.length := by rw [hp1, hds]
    have hperm : d'.toList.Perm d.toList := by
      rw [show d'.extract 0 xss.length = d' by rw [← hd's]; simp, show d.extract 0 xss.length = d by rw [← hds]; simp] at hp3
      exact hp3
    have hk : KeepT 36 w w' := by rw [hw]; exact keepT_sorted hg
    refine ⟨⟨⟨by simp [hd's], .inr ⟨g, cap, putCells encR 0 d' cur, by simp [hd's], hgB, by rw [hw]; exact heap_sorted hg, by simpa [hd's] using h2, h3, by simpa [putCells] using h4, ?_⟩⟩, by simp, fun i u q xs hu hq hx => ?_, fun i j q q' hij hq hq' => ?_⟩, ?_, ?_, ?_⟩
    · rw [Nat.mul_one, List.length_map, Array.length_toList, hd's, ← hd's]
      exact putCells_take (by omega)
    · simp only [List.getElem?_map, Option.map_eq_some_iff] at hu hq hx
      obtain ⟨z, hz, rfl⟩ := hu
      obtain ⟨z', hz', rfl⟩ := hx
      obtain ⟨z2, hz2, rfl⟩ := hq
      rw [hz] at hz' hz2
      obtain rfl := Option.some.inj hz'
      obtain rfl := Option.some.inj hz2
      exact z.2.1.keepT (by decide) (by decide) hk
    · have ha := (List.Perm.pairwise_iff (R := fun x y : QElt w B => apartR x.1.1.2 y.1.1.2) (fun h => apartR_symm h) hperm).2 hda
      rw [List.pairwise_iff_getElem] at ha
      simp only [List.getElem?_map, Option.map_eq_some_iff] at hq hq'
      obtain ⟨z, hz, rfl⟩ := hq
      obtain ⟨z', hz', rfl⟩ := hq'
      obtain ⟨hi, rfl⟩ := List.getElem?_eq_some_iff.1 hz
      obtain ⟨hj, rfl⟩ := List.getElem?_eq_some_iff.1 hz'
      exact ha i j hi hj hij
    · rw [← hdx]; exact hperm.map _
    · rw [List.pairwise_iff_getElem]
      intro i j hi hj hij
      simp only [List.length_map, Array.length_toList] at hi hj
      have := hs i j (Nat.zero_le _) hij (by omega)
      rw [ltOf_cfR, getElem!_pos d' j hj, getElem!_pos d' i hi] at this
      simpa using this
    · rw [hw]
      exact ⟨rfl, rfl, rfl, size_sorted, fun k hk => heap_sorted_far (by omega) (by omega)⟩
end Go.Proofs.Ytljfpkhgijangaa

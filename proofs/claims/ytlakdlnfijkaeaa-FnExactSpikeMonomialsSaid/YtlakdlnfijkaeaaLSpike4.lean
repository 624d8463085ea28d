/- slices.DeleteFunc at [][]int64, and SpikeMonomials of the program. -/
import Derived.Test.YtlakdlnfijkaeaaLSpike3
import Derived.Lib.SliceRun
namespace Go.Proofs.Ytlakdlnfijkaeaa
open Go.RowKit Go.Sort
/-- Some of the rows of an own slice of slices, in a row of their own, in the same order. -/
theorem OwnU.sub {w w' : World} {B : Nat} {v v' : Value} {us : List Value} {xss : List (List Int)} (h : OwnU w B v us xss) (ks : List (Value × List Int)) (hs : ks.Sublist (us.zip xss)) (k : KeepI w w') (row : w'.ownsRow B 25 1 v' ks.length (ks.map Prod.fst)) : OwnU w' B v' (ks.map Prod.fst) (ks.map Prod.snd) := by
  have hpw : (us.zip xss).Pairwise fun a b => a.1.ownBlock = none ∨ a.1.ownBlock ≠ b.1.ownBlock := by
    rw [List.pairwise_iff_getElem]
    intro i j hi hj hij
    simp only [List.length_zip] at hi hj
    simp only [List.getElem_zip]
    exact h.apart i j _ _ hij (List.getElem?_eq_getElem (by omega)) (List.getElem?_eq_getElem (by omega))
  refine ⟨by simpa using row, fun i u xs hu hx => ?_, fun i j u u' hij hu hu' => ?_⟩
  · simp only [List.getElem?_map, Option.map_eq_some_iff] at hu hx
    obtain ⟨z, hz, rfl⟩ := hu
    obtain ⟨z', hz', rfl⟩ := hx
    rw [hz] at hz'
    obtain rfl := Option.some.inj hz'
    have hm := hs.subset (List.mem_of_getElem? hz)
    obtain ⟨t, ht, e⟩ := List.mem_iff_getElem.1 hm
    simp only [List.length_zip] at ht
    simp only [List.getElem_zip] at e
    subst e
    exact (h.each t _ _ (List.getElem?_eq_getElem (by omega)) (List.getElem?_eq_getElem (by omega))).keep k
  · simp only [List.getElem?_map, Option.map_eq_some_iff] at hu hu'
    obtain ⟨z, hz, rfl⟩ := hu
    obtain ⟨z', hz', rfl⟩ := hu'
    have hp := List.Pairwise.sublist hs hpw
    rw [List.pairwise_iff_getElem] at hp
    obtain ⟨hi, e1⟩ := List.getElem?_eq_some_iff.1 hz
    obtain ⟨hj, e2⟩ := List.getElem?_eq_some_iff.1 hz'
    have := hp i j hi hj hij
    rw [e1, e2] at this
    exact this
/-- What is kept of the first j. -/
def keptZ (p : List Int → Bool) (us : List Value) (xss : List (List Int)) (j : Nat) : List (Value × List Int) := ((us.zip xss).take j).filter fun z => !p z.2
theorem keptZ_le (p : List Int → Bool) (us : List Value) (xss : List (List Int)) (j : Nat) : (keptZ p us xss j).length ≤ j := Nat.le_trans (List.length_filter_le _ _) (by rw [List.length_take]; omega)
theorem keptZ_succ (p : List Int → Bool) (us : List Value) (xss : List (List Int)) (j : Nat) (u : Value) (xs : List Int) (hu : us[j]? = some u) (hx : xss[j]? = some xs) : keptZ p us xss (j + 1) = keptZ p us xss j ++ if p xs then [] else [(u, xs)] := by
  obtain ⟨h1, e1⟩ := List.getElem?_eq_some_iff.1 hu
  obtain ⟨h2, e2⟩ := List.getElem?_eq_some_iff.1 hx
  have hz : j < (us.zip xss).length := by rw [List.length_zip]; omega
  unfold keptZ
  rw [List.take_succ_eq_append_getElem hz, List.filter_append]
  simp only [List.getElem_zip, e1, e2]
  cases hp : p xs <;> simp [hp]
theorem keptZ_snd (p : List Int → Bool) (us : List Value) (xss : List (List Int)) (h : us.length = xss.length) : (keptZ p us xss xss.length).map Prod.snd = xss.filter fun r => !p r := by
  unfold keptZ
  rw [List.take_of_length_le (by rw [List.length_zip]; omega)]
  have : xss = (us.zip xss).map Prod.snd := by rw [List.map_snd_zip (by omega)]
  conv => rhs; rw [this]
  rw [List.filter_map]
  rfl
theorem keptZ_sub (p : List Int → Bool) (us : List Value) (xss : List (List Int)) (j : Nat) : (keptZ p us xss j).Sublist (us.zip xss) := List.filter_sublist.trans (List.take_sublist _ _)
theorem own_setCells {g c e n B : Nat} (ne : e ≠ 2) : ∀ (vs : List Value) (o : Nat) (w : World) (us : List Value), w.ownsRow B e 1 (.slice (some ⟨g, 0, none⟩) n c) n us → ∃ us', (w.setCells g o vs).ownsRow B e 1 (.slice (some ⟨g, 0, none⟩) n c) n us' ∧ us'.take o = us.take o ∧ KeepI w (w.setCells g o vs)
  | [], o, w, us, h => ⟨us, h, rfl, KeepI.refl _⟩
  | v :: r, o, w, us, h => by
    obtain ⟨us', h1, h2, h3⟩ := own_setCells ne r (o + 1) (w.setCell ⟨g, o, none⟩ v) (us.set o v) (h.stored o v).1
    refine ⟨us', h1, ?_, (KeepI.grown h ne fun b _ hne => Below.heap_setCell _ _ _ _ (fun e => hne (by simp [Value.ownBlock, e]))).trans h3⟩
    have := congrArg (List.take o) h2
    rw [List.take_take, List.take_take, Nat.min_eq_left (by omega)] at this
    rw [this, List.take_set_of_le (Nat.le_refl _)]
theorem below_setCells {B g : Nat} {a : World} (hg : B ≤ g) : ∀ (vs : List Value) (o : Nat) (w : World), Below B a w → Below B a (w.setCells g o vs)
  | [], _, _, h => h
  | v :: r, o, w, h => below_setCells hg r (o + 1) _ (h.setCell (by exact hg) v)
theorem own_take {w : World} {B e n : Nat} {ao : Option Addr} {c : Nat} {us : List Value} (a : w.ownsRow B e 1 (.slice ao n c) n us) (m : Nat) (hm : m ≤ n) : w.ownsRow B e 1 (.slice ao m c) m (us.take m) := by
  obtain ⟨h1, h2⟩ := a
  rw [Nat.mul_one] at h1
  refine ⟨by rw [List.length_take]; omega, ?_⟩
  rcases h2 with ⟨hv, h0⟩ | ⟨g, cap, cur, hv, hb, hg, h3, h4, h5, h6⟩
  · simp only [Value.slice.injEq] at hv
    obtain ⟨rfl, -, rfl⟩ := hv
    exact .inl ⟨by rw [show m = 0 by omega], by omega⟩
  · simp only [Value.slice.injEq, true_and] at hv
    obtain ⟨rfl, rfl⟩ := hv
    refine .inr ⟨g, c, cur, rfl, hb, hg, by omega, h4, h5, ?_⟩
    rw [Nat.mul_one] at *
    rw [← h6, List.take_take, Nat.min_eq_left hm]
theorem zero_slI (w : World) : (zeroValue 25).run Try.prog w = .ok (.slice none 0 0) w := by kernel_rfl
theorem deleteFuncSS_c (v : Value) (us : List Value) (xss : List (List Int)) (K : Nat) (caps : Array Value) (p : List Int → Bool) (B : Nat) (w : World) (h : OwnU w B v us xss) (hB : B ≤ w.heap.size) (hcf : Enters Try.prog K)
    (hf : ∀ w1 : World, w.heap.size ≤ w1.heap.size → ∀ u xs, xs ∈ xss → IntS w1.heap u xs → Calls Try.prog K (#[u] ++ caps) w1 fun e w' => e = .returned (.bool (p xs)) ∧ Below w1.heap.size w1 w') :
    Calls Try.prog 74 #[v, .func (.func K) #[] caps] w fun e w' => ∃ v' us', e = .returned v' ∧ OwnU w' B v' us' (xss.filter fun r => !p r) ∧ Below B w w' := by
  obtain ⟨ao, c, rfl, hm⟩ := h.ints.len
  have C := indexFuncSS_c _ xss K caps p w h.ints hcf (fun w1 hb u xs hx hu => hf w1 hb.size u xs hx hu)
  have H := Lib.hid h; clear h
  have HF := Lib.hid hf; clear hf
  unfold Enters at hcf
  by_cases hall : ∀ r ∈ xss, p r = false
  · have hfl : xss.filter (fun r => !p r) = xss := List.filter_eq_self.2 fun r hr => by simp [hall r hr]
    rw [hfl]
    have C2 : Calls Try.prog 82 #[.slice ao xss.length c, .func (.func K) #[] caps] w fun e w' => e = .returned (.int .i64 (-1)) ∧ Below w.heap.size w w' := by
      refine C.mono ?_
      rintro e w1 ⟨⟨j, hj, hj1, hj2, rfl⟩, hb⟩
      by_cases hlt : j < xss.length
      · have := hj2 hlt
        rw [show xss.getD j [] = xss[j] by simp [hlt], hall _ (List.getElem_mem hlt)] at this
        cases this
      · rw [if_neg hlt]; exact ⟨rfl, hb⟩
    have HC := Lib.hid C2; clear C C2 hall hfl
    go_enter Try.func74, Try.ntmps74
    go_wp2_with (first | (go_at_call 82; refine HC.out.mono ?_; rintro e w1 ⟨rfl, hb1⟩))
    go_ret
    exact ⟨_, us, rfl, H.out.same hb1.block, hb1.mono hB⟩
  · have hex : ∃ r ∈ xss, p r = true := Classical.byContradiction fun hn => hall fun r hr => by
      cases h : p r
      · rfl
      · exact absurd ⟨r, hr, h⟩ hn
    obtain ⟨j0, hj0, hpre, hpj⟩ : ∃ j0, j0 < xss.length ∧ (∀ k, k < j0 → p (xss.getD k []) = false) ∧ p (xss.getD j0 []) = true := by
      have hl : xss.findIdx p < xss.length := List.findIdx_lt_length.2 hex
      refine ⟨xss.findIdx p, hl, fun k hk => ?_, ?_⟩
      · have := List.not_of_lt_findIdx hk
        simpa [Nat.lt_trans hk hl] using this
      · have := List.findIdx_getElem (w := hl)
        simpa [hl] using this
    have C2 : Calls Try.prog 82 #[.slice ao xss.length c, .func (.func K) #[] caps] w fun e w' => e = .returned (.int .i64 j0) ∧ Below w.heap.size w w' := by
      refine C.mono ?_
      rintro e w1 ⟨⟨j, hj, hj1, hj2, rfl⟩, hb⟩
      have hjj : j = j0 := by
        rcases Nat.lt_trichotomy j j0 with h | h | h
        · have h1 := hj2 (by omega); rw [hpre j h] at h1; cases h1
        · exact h
        · have h1 := hj1 j0 h; rw [hpj] at h1; cases h1
      subst hjj
      rw [if_pos hj0]; exact ⟨rfl, hb⟩
    have HC := Lib.hid C2; clear C C2 hall hex
    obtain ⟨g, cap, hv, hgB⟩ := own_open H.out.row (by omega)
    simp only [Value.slice.injEq, true_and] at hv
    obtain ⟨rfl, rfl⟩ := hv
    have t1 := (neB (show ((j0 : Nat) : Int) ≠ -1 by omega)).1
    go_enter Try.func74, Try.ntmps74
    go_wp2_with (first | (go_at_call 82; refine HC.out.mono ?_; rintro e w1 ⟨rfl, hb1⟩))
    have hk1 : KeepI w w1 := KeepI.of_same hb1.block
    go_loopw [5, 6] (fun i j wr => ∃ (jj : Nat) (cur : List Value), jj ≤ xss.length ∧ j0 < jj ∧ i = .int .i64 (keptZ p us xss jj).length ∧ j = .int .i64 jj ∧ wr.ownsRow B 25 1 (.slice (some ⟨g, 0, none⟩) xss.length c) xss.length cur ∧ cur.take (keptZ p us xss jj).length = (keptZ p us xss jj).map Prod.fst ∧ (∀ t, jj ≤ t → cur[t]? = us[t]?) ∧ KeepI w wr ∧ Below B w wr ∧ w.heap.size ≤ wr.heap.size) (fun _ j _ => xss.length - (intOf j).toNat)
    case atStart =>
      have hln := H.out.len
      have hkz : ∀ k, k ≤ j0 → keptZ p us xss k = (us.zip xss).take k := by
        intro k
        induction k with
        | zero => intro _; simp [keptZ]
        | succ k ih =>
          intro hk
          have hp := hpre k (by omega)
          rw [show xss.getD k [] = xss[k]'(by omega) by simp [show k < xss.length by omega]] at hp
          rw [keptZ_succ p us xss k us[k] xss[k] (List.getElem?_eq_getElem (by omega)) (List.getElem?_eq_getElem (by omega)), ih (by omega), hp, List.take_succ_eq_append_getElem (by rw [List.length_zip]; omega)]
          simp
      have hk0 : keptZ p us xss (j0 + 1) = (us.zip xss).take j0 := by
        rw [show xss.getD j0 [] = xss[j0] by simp [hj0]] at hpj
        rw [keptZ_succ p us xss j0 us[j0] xss[j0] (List.getElem?_eq_getElem (by omega)) (List.getElem?_eq_getElem hj0), hkz j0 (Nat.le_refl _), hpj]
        simp
      refine ⟨j0 + 1, us, by omega, by omega, ?_, by go_num, own_same H.out.row hb1.block, ?_, fun t _ => rfl, hk1, hb1.mono hB, hb1.size⟩
      · rw [hk0, List.length_take, List.length_zip]; congr 2; omega
      · rw [hk0, List.length_take, List.length_zip, List.map_take, List.map_fst_zip (by omega)]; congr 1; omega
    case round =>
      clear HC hk1 hb1 t1
      obtain ⟨jj, cur, hjn, hj0j, rfl, rfl, hrow, htk, hcur, hkp, hbl, hsz⟩ := hrel
      have hln := H.out.len
      by_cases hlt : jj < xss.length
      · have hu0 : us[jj]? = some (us[jj]'(by omega)) := List.getElem?_eq_getElem (by omega)
        have hx0 : xss[jj]? = some xss[jj] := List.getElem?_eq_getElem hlt
        have hcu := (hcur jj (Nat.le_refl _)).trans hu0
        have hc : wr.cell? ⟨g, jj, none⟩ = some (us[jj]'(by omega)) := (hrow.cellAt jj (by omega)).trans hcu
        have hri := (H.out.each jj _ _ hu0 hx0).ints.keep hkp
        have hki := keptZ_le p us xss jj
        have hst := keptZ_succ p us xss jj _ _ hu0 hx0
        obtain ⟨ra, rc, hsh, -⟩ := hri.len
        have hM := List.getElem_mem hlt
        generalize us[jj]'(by omega) = u at *
        subst hsh
        have HM := Lib.hid hM
        clear hM
        have HST := Lib.hid hst; have HRI := Lib.hid hri; have HROW := Lib.hid hrow; have HTK := Lib.hid htk; have HCUR := Lib.hid hcur; have HKP := Lib.hid hkp; have HB := Lib.hid hbl
        clear hst hri hrow htk hcur hkp hbl hu0 hx0
        cases hp : p xss[jj]
        · have HPJ := Lib.hid hp; clear hp
          have hi : (keptZ p us xss jj).length < xss.length := by omega
          go_wp2_with fail
          refine (HF.out wr hsz _ _ HM.out HRI.out).mono ?_
          rw [HPJ.out]
          rintro e w2 ⟨rfl, hb2⟩
          have hrow2 := own_same HROW.out hb2.block
          have hcl : cur.length = xss.length := by simpa using hrow2.1
          have c0 : w2.cell? ⟨g, (keptZ p us xss jj).length, none⟩ = some (cur[(keptZ p us xss jj).length]'(by omega)) := (hrow2.cellAt _ (by omega)).trans (List.getElem?_eq_getElem (by omega))
          have f0 := hrow2.frozenAt (keptZ p us xss jj).length
          have HROW2 := Lib.hid hrow2; have HB2 := Lib.hid hb2
          clear hrow2 hb2
          go_wp2_with fail
          go_roundw
          case rel =>
            have hk : keptZ p us xss (jj + 1) = keptZ p us xss jj ++ [(.slice ra xss[jj].length rc, xss[jj])] := by rw [HST.out, HPJ.out]; rfl
            have hz := HB2.out.size
            refine ⟨jj + 1, cur.set (keptZ p us xss jj).length (.slice ra xss[jj].length rc), by omega, by omega, by rw [hk]; simp, by go_num, (HROW2.out.stored _ _).1, ?_, fun t ht => ?_, ?_, ?_, ?_⟩
            · rw [hk, List.length_append, List.map_append, ← HTK.out, List.length_singleton, List.take_succ_eq_append_getElem (by rw [List.length_set]; omega), List.take_set_of_le (Nat.le_refl _)]
              simp
            · rw [List.getElem?_set_ne (by omega)]; exact HCUR.out t (by omega)
            · exact (HKP.out.trans (KeepI.of_same HB2.out.block)).trans (KeepI.grown HROW2.out (by decide) fun b _ hne => Below.heap_setCell _ _ _ _ (fun e => hne (by simp [Value.ownBlock, e])))
            · exact (HB.out.trans (HB2.out.mono (by have := HB.out.size; omega))).setCell hgB _
            · show w.heap.size ≤ (w2.setCell _ _).heap.size
              have := ((Below.refl 0 w2).setCell (p := ⟨g, (keptZ p us xss jj).length, none⟩) (Nat.zero_le _) (.slice ra xss[jj].length rc)).size
              omega
          case measure => simp [intOf]; omega
        · have HPJ := Lib.hid hp; clear hp
          go_wp2_with fail
          refine (HF.out wr hsz _ _ HM.out HRI.out).mono ?_
          rw [HPJ.out]
          rintro e w2 ⟨rfl, hb2⟩
          go_wp2_with fail
          go_roundw
          case rel =>
            have hk : keptZ p us xss (jj + 1) = keptZ p us xss jj := by rw [HST.out, HPJ.out]; simp
            exact ⟨jj + 1, cur, by omega, by omega, by rw [hk], by go_num, own_same HROW.out hb2.block, by rw [hk]; exact HTK.out, fun t ht => HCUR.out t (by omega), HKP.out.trans (KeepI.of_same hb2.block), HB.out.trans (hb2.mono (by have := HB.out.size; omega)), by have := hb2.size; omega⟩
          case measure => simp [intOf]; omega
      · obtain rfl : jj = xss.length := by omega
        have hks := keptZ_snd p us xss hln
        have hks2 := keptZ_sub p us xss xss.length
        have hki : (keptZ p us xss xss.length).length < xss.length := by
          have : (keptZ p us xss xss.length).length = (xss.filter fun r => !p r).length := by rw [← hks, List.length_map]
          rw [this]
          refine Nat.lt_of_le_of_ne (List.length_filter_le _ _) fun e => ?_
          have := List.length_filter_eq_length_iff.1 e xss[j0] (List.getElem_mem hj0)
          rw [show xss.getD j0 [] = xss[j0] by simp [hj0]] at hpj
          rw [hpj] at this
          cases this
        have FIN : ∀ w' us', w'.ownsRow B 25 1 (.slice (some ⟨g, 0, none⟩) xss.length c) xss.length us' → us'.take (keptZ p us xss xss.length).length = cur.take (keptZ p us xss xss.length).length → KeepI wr w' → OwnU w' B (.slice (some ⟨g, 0, none⟩) (keptZ p us xss xss.length).length c) ((keptZ p us xss xss.length).map Prod.fst) (xss.filter fun r => !p r) := by
          intro w' us' ho ht hk
          have := own_take ho _ (Nat.le_of_lt hki)
          rw [ht, htk] at this
          rw [← hks]
          exact OwnU.sub H.out _ hks2 (hkp.trans hk) this
        have HFIN := Lib.hid FIN; have HROW := Lib.hid hrow; have HB := Lib.hid hbl
        clear FIN hks hks2 htk hcur hkp hbl hln hpre hpj
        have hcn : xss.length ≤ c := by
          obtain ⟨_, _, _, e, _, _, h1, _⟩ := hrow.2.resolve_left (fun e => by omega)
          simp only [Value.slice.injEq, true_and] at e
          omega
        generalize (keptZ p us xss xss.length).length = m at *
        have hcell : ∀ j, j < xss.length - m → (wr.cell? ⟨g, m + j, none⟩).isSome = true := fun j hj => by
          have hl : cur.length = xss.length := by simpa using HROW.out.1
          rw [hrow.cellAt (m + j) (by omega), List.getElem?_eq_getElem (by omega)]; rfl
        have hfr : ∀ j, j < xss.length - m → wr.frozen? ⟨g, m + j, none⟩ = false := fun j hj => hrow.frozenAt (m + j)
        have hcl : ∀ ty, (Builtin.clear_ #[32] ty #[.slice (some ⟨g, m, none⟩) (xss.length - m) (c - m)]).run Try.prog wr = .ok (.tuple #[]) (wr.setCells g m (List.replicate (xss.length - m) (.slice none 0 0))) :=
          fun ty => Lib.run_clear_slice wr 32 25 ty (.slice none 0 0) Try.underlying32 zero_slI rfl rfl g m (xss.length - m) (c - m) (by omega) hcell hfr
        clear hcell hfr hrow
        obtain ⟨us', h1, h2, h3⟩ := own_setCells (e := 25) (by decide) (List.replicate (xss.length - m) (.slice none 0 0)) m wr cur HROW.out
        have H1 := Lib.hid h1; have H2 := Lib.hid h2; have H3 := Lib.hid h3
        clear h1 h2 h3
        go_wp2_with (simp only [hcl])
        go_ret
        exact ⟨_, _, rfl, HFIN.out _ us' H1.out H2.out H3.out, below_setCells hgB _ _ _ HB.out⟩
end Go.Proofs.Ytlakdlnfijkaeaa

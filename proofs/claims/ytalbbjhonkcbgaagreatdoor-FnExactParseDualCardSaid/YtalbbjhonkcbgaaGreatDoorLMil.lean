/- Elements and dual elements: of the program and of the reference. -/
import Derived.Test.YtalbbjhonkcbgaaGreatDoorLDeg
import Derived.Test.YtalbbjhonkcbgaaGreatDoorLCmp
import Derived.Test.YtalbbjhonkcbgaaGreatDoorLAllS
import Derived.Test.YtalbbjhonkcbgaaGreatDoorLArg
namespace Go.Proofs.YtalbbjhonkcbgaaGreatDoor
open Go.RowKit Go.Sort

def rowB (r : List Int) : Bool := isExp r && decide (deg r ≤ 40)
def sameB (xss : List (List Int)) : Bool := xss.all fun r => deg r == deg (xss.getD 0 [])
/-- The terms of an element. -/
def arT (xss : List (List Int)) : Bool := decide (xss.length ≤ 2000) && ascB xss && xss.all rowB && sameB xss
theorem arT_row {xss : List (List Int)} (h : arT xss = true) : ∀ r ∈ xss, isExp r = true ∧ 0 ≤ deg r ∧ deg r ≤ 40 := by
  simp only [arT, Bool.and_eq_true, List.all_eq_true, rowB, decide_eq_true_eq] at h
  intro r hr
  have := h.1.2 r hr
  exact ⟨this.1, (deg_bound this.1).1, this.2⟩
theorem arT_asc {xss : List (List Int)} (h : arT xss = true) : Asc xss := by
  simp only [arT, Bool.and_eq_true] at h; exact ascB_asc _ h.1.1.2
theorem arT_len {xss : List (List Int)} (h : arT xss = true) : xss.length ≤ 2000 := by
  simp only [arT, Bool.and_eq_true, decide_eq_true_eq] at h; exact h.1.1.1
theorem arT_deg {xss : List (List Int)} (h : arT xss = true) : ∀ r ∈ xss, deg r = deg (xss.getD 0 []) := by
  simp only [arT, Bool.and_eq_true, sameB, List.all_eq_true] at h
  intro r hr; simpa using h.2 r hr
theorem enters_degree : Enters Tryz.prog 64 := fun args w => by kernel_rfl
theorem degreeE_c (v : Value) (r : List Int) (w : World) (h : IntS w.heap v r) (hE : isExp r = true) :
    Calls Tryz.prog 64 #[v] w fun e w' => e = .returned (.int .i64 (deg r)) ∧ w = w' :=
  (degree_c v r w h).mono fun _ _ ⟨⟨d, he, hd⟩, hw⟩ => ⟨by rw [he, hd hE], hw⟩
theorem l01DegreeE_c (v : Value) (r : List Int) (w : World) (h : IntS w.heap v r) (hE : isExp r = true) :
    Calls Tryz.prog 56 #[v] w fun e w' => e = .returned (.int .i64 (deg r)) ∧ w = w' :=
  (l01Degree_c v r w h).mono fun _ _ ⟨⟨d, he, hd⟩, hw⟩ => ⟨by rw [he, hd hE], hw⟩
theorem areTerms1_c (v : Value) (r : List Int) (w : World) (h : IntS w.heap v r) :
    Calls Tryz.prog 62 #[v] w fun e w' => e = .returned (.bool (rowB r)) ∧ Below w.heap.size w w' := by
  have HC := Lib.hid (isExponents_c v r w h)
  obtain ⟨ao, c, rfl, hm⟩ := h.len
  have H := Lib.hid h; clear h
  have HB : Hid (rowB r = (isExp r && decide (deg r ≤ 40))) := rfl
  cases hE : isExp r
  · rw [hE] at HC HB
    clear hE
    go_enter Tryz.func62, Tryz.ntmps62
    go_wp2_with (go_at_call 63; refine HC.out.mono ?_; rintro e w1 ⟨rfl, hb⟩)
    go_ret
    exact ⟨by rw [HB.out]; rfl, hb⟩
  · have HD := Lib.hid (fun (w : World) (h : IntS w.heap (.slice ao r.length c) r) => degreeE_c _ r w h hE)
    rw [hE] at HC HB
    clear hE
    generalize deg r = d at *
    go_enter Tryz.func62, Tryz.ntmps62
    go_wp2_with (first | (go_at_call 63; refine HC.out.mono ?_; rintro e w1 ⟨rfl, hb⟩; have HB1 := Lib.hid hb; clear hb) | (go_at_call 64; refine (HD.out _ (H.out.same HB1.out.block)).mono ?_; rintro e w2 ⟨rfl, rfl⟩))
    go_ret
    exact ⟨by rw [HB.out]; rfl, HB1.out⟩
theorem enters_areTerms1 : Enters Tryz.prog 62 := fun args w => by kernel_rfl
theorem enters_sameDegree1 : Enters Tryz.prog 95 := fun args w => by kernel_rfl
theorem sameDegree1_c (u v : Value) (r : List Int) (xss : List (List Int)) (g h0 : Nat) (w : World) (h : IntS w.heap u r) (hX : IntSS w.heap v xss) (h1 : w.cell? ⟨g, 0, none⟩ = some (.func (.func 64) #[] #[])) (h2 : w.cell? ⟨h0, 0, none⟩ = some v)
    (hr : isExp r = true) (hl : 0 < xss.length) (hx : isExp (xss.getD 0 []) = true) :
    Calls Tryz.prog 95 #[u, .pointer (some ⟨g, 0, none⟩), .pointer (some ⟨h0, 0, none⟩)] w fun e w' => e = .returned (.bool (deg r == deg (xss.getD 0 []))) ∧ ∃ n, w' = w.drewN n := by
  obtain ⟨b, off, cap, u0, rfl, hc, hu0, hm⟩ := hX.at 0 hl
  rw [show xss[0] = xss.getD 0 [] by simp [hl]] at hu0
  have D1 := Lib.hid (fun (w : World) (h : IntS w.heap u r) => degreeE_c _ r w h hr)
  have D2 := Lib.hid (fun (w : World) (h : IntS w.heap u0 (xss.getD 0 [])) => degreeE_c _ _ w h hx)
  obtain ⟨a1, c1, rfl, m1⟩ := h.len
  obtain ⟨a2, c2, rfl, m2⟩ := hu0.len
  have HU := Lib.hid h; have HU0 := Lib.hid hu0; have HX := Lib.hid hX
  have hcf := enters_degree
  unfold Enters at hcf
  clear h hu0 hX hr hx
  have e0 : off + 0 = off := rfl
  rw [e0] at hc
  clear e0
  generalize xss.getD 0 [] = s at *
  generalize deg r = d at *
  generalize deg s = d' at *
  have hl1 : (0 : Int) < (xss.length : Int) := by omega
  have hl2 : decide (0 < xss.length) = true := by simpa using hl
  go_enter Tryz.func95, Tryz.ntmps95
  go_wp2_with fail
  go_quiet ((go_at_call 64; first | ((with_reducible refine quiet_same (D1.out _ ?_)); exact HU.out) | ((with_reducible refine quiet_same (D2.out _ ?_)); exact HU0.out)))
  go_wp2_with fail
  go_ret
  exact ⟨rfl, _, rfl⟩
theorem size_alloc_w (w : World) (o : Obj) : (w.alloc o).heap.size = w.heap.size + 1 := by
  show (w.heap.push o).size = _
  rw [Array.size_push]
theorem sameDegree_c (v : Value) (xss : List (List Int)) (w : World) (h : IntSS w.heap v xss) (hE : ∀ r ∈ xss, isExp r = true) :
    Calls Tryz.prog 66 #[v, .func (.func 64) #[] #[]] w fun e w' => e = .returned (.bool (sameB xss)) ∧ Below w.heap.size w w' := by
  obtain ⟨ao, c, hv, hm⟩ := h.len
  have hb : Below w.heap.size w ((w.alloc (.cells #[v] 22)).alloc (.cells #[.func (.func 64) #[] #[]] 75)) := ((Below.refl _ _).alloc (Nat.le_refl _) _).alloc (by simp) _
  have C := allSS_c v xss 95 #[.pointer (some ⟨w.heap.size + 1, 0, none⟩), .pointer (some ⟨w.heap.size, 0, none⟩)] (fun r => deg r == deg (xss.getD 0 [])) ((w.alloc (.cells #[v] 22)).alloc (.cells #[.func (.func 64) #[] #[]] 75))
    (h.same hb.block) enters_sameDegree1 (fun w1 hb1 u xs hx hu => by
      have hl : 0 < xss.length := List.length_pos_of_mem hx
      refine (sameDegree1_c u v xs xss (w.heap.size + 1) w.heap.size w1 hu ((h.same hb.block).same hb1.block) ?_ ?_ (hE xs hx) hl (hE _ ?_)).mono fun _ _ ⟨he, n, hn⟩ => ⟨he, by rw [hn]; exact below_drewN n (Below.refl _ _)⟩
      · rw [World.cell?_of_block (hb1.block _ (by simp)), World.cell?]
        simp only [show ∀ (W : World) (o : Obj), W.heap.size = w.heap.size + 1 → (W.alloc o).heap[w.heap.size + 1]? = some o from fun W o hW => by rw [← hW]; exact heap_alloc_new W o, size_alloc_w]
        rfl
      · rw [World.cell?_of_block (hb1.block _ (by simp; omega)), World.cell?]
        rw [alloc_old _ _ _ (by simp), heap_alloc_new]
        rfl
      · rw [show xss.getD 0 [] = xss[0] by simp [hl]]; exact List.getElem_mem _)
  subst hv
  have HC := Lib.hid C; have HB := Lib.hid hb; clear C h hE hb
  unfold sameB
  go_enter Tryz.func66, Tryz.ntmps66
  go_wp2_with (go_at_call 61; refine HC.out.mono ?_; rintro e w1 ⟨rfl, hb1⟩)
  go_ret
  exact ⟨rfl, HB.out.trans (hb1.mono HB.out.size)⟩
theorem areTerms_c (v : Value) (xss : List (List Int)) (w : World) (h : IntSS w.heap v xss) :
    Calls Tryz.prog 44 #[v] w fun e w' => e = .returned (.bool (arT xss)) ∧ Below w.heap.size w w' := by
  have A := allSS_c v xss 62 #[] rowB w h enters_areTerms1 (fun w1 _ u xs _ hu => areTerms1_c u xs w1 hu)
  have R := Lib.hid (fun (w : World) (h : IntSS w.heap v xss) => rising_c v xss w h)
  have hS : xss.all rowB = true → Hid (∀ (w : World), IntSS w.heap v xss → Calls Tryz.prog 66 #[v, .func (.func 64) #[] #[]] w fun e w' => e = .returned (.bool (sameB xss)) ∧ Below w.heap.size w w') := fun ha => Lib.hid fun w h => sameDegree_c v xss w h fun r hr => by
    have := List.all_eq_true.1 ha r hr
    simp only [rowB, Bool.and_eq_true] at this
    exact this.1
  have HT : Hid (arT xss = (decide (xss.length ≤ 2000) && ascB xss && xss.all rowB && sameB xss)) := rfl
  obtain ⟨ao, c, rfl, hm⟩ := h.len
  have H := Lib.hid h; have HA := Lib.hid A; clear h A
  by_cases hl : xss.length ≤ 2000
  · have t1 : decide (xss.length ≤ 2000) = true := by simpa using hl
    rw [t1, Bool.true_and] at HT
    cases hr : ascB xss
    · rw [hr] at R HT
      clear hr hS
      have HT2 : Hid (arT xss = false) := by show _ = _; rw [HT.out]; simp
      go_enter Tryz.func44, Tryz.ntmps44
      go_wp2_with (first | (go_at_call 61; refine HA.out.mono ?_; rintro e w1 ⟨rfl, hb⟩; have HB := Lib.hid hb; clear hb) | (go_at_call 65; refine (R.out _ (H.out.same HB.out.block)).mono ?_; rintro e w2 ⟨rfl, n, rfl⟩))
      go_ret
      exact ⟨by rw [HT2.out]; rfl, below_drewN n HB.out⟩
    · rw [hr, Bool.true_and] at HT
      rw [hr] at R
      clear hr
      cases ha : xss.all rowB
      · rw [ha] at HA HT
        clear ha hS
        have HT2 : Hid (arT xss = false) := by show _ = _; rw [HT.out]; simp
        go_enter Tryz.func44, Tryz.ntmps44
        go_wp2_with (first | (go_at_call 61; refine HA.out.mono ?_; rintro e w1 ⟨rfl, hb⟩; have HB := Lib.hid hb; clear hb) | (go_at_call 65; refine (R.out _ (H.out.same HB.out.block)).mono ?_; rintro e w2 ⟨rfl, n, rfl⟩))
        go_ret
        exact ⟨by rw [HT2.out]; rfl, below_drewN n HB.out⟩
      · have S := hS ha
        rw [ha, Bool.true_and] at HT
        rw [ha] at HA
        clear ha hS
        generalize sameB xss = sb at *
        go_enter Tryz.func44, Tryz.ntmps44
        go_wp2_with (first | (go_at_call 61; refine HA.out.mono ?_; rintro e w1 ⟨rfl, hb⟩; have HB := Lib.hid hb; clear hb) | (go_at_call 65; refine (R.out _ (H.out.same HB.out.block)).mono ?_; rintro e w2 ⟨rfl, n, rfl⟩; have HB2 := Lib.hid (below_drewN n HB.out)) | (go_at_call 66; refine (S.out _ (H.out.same HB2.out.block)).mono ?_; rintro e w3 ⟨rfl, hb3⟩))
        go_ret
        exact ⟨by rw [HT.out]; rfl, HB2.out.trans (hb3.mono HB2.out.size)⟩
  · have t1 : decide (xss.length ≤ 2000) = false := by simpa using hl
    have t2 : decide (2000 < xss.length) = true := by simp; omega
    have HT2 : Hid (arT xss = false) := by show _ = _; rw [HT.out, t1]; simp
    clear hS
    go_enter Tryz.func44, Tryz.ntmps44
    go_wp2_with (first | (go_at_call 61; refine HA.out.mono ?_; rintro e w1 ⟨rfl, hb⟩; have HB := Lib.hid hb; clear hb))
    go_ret
    exact ⟨by rw [HT2.out]; rfl, HB.out⟩
theorem isDual_c (v : Value) (xss : List (List Int)) (w : World) (h : IntSS w.heap v xss) :
    Calls Tryz.prog 21 #[.agg #[v]] w fun e w' => e = .returned (.bool (arT xss)) ∧ Below w.heap.size w w' := by
  have hb : Below w.heap.size w (w.alloc (.cells #[v] 24)) := (Below.refl _ _).alloc (Nat.le_refl _) _
  have C := Lib.hid (areTerms_c v xss _ (h.same hb.block))
  obtain ⟨ao, c, rfl, hm⟩ := h.len
  have HB := Lib.hid hb; clear hb h
  go_enter Tryz.func21, Tryz.ntmps21
  go_wp2_with (go_at_call 44; refine C.out.mono ?_; rintro e w1 ⟨rfl, hb1⟩)
  go_ret
  exact ⟨rfl, HB.out.trans (hb1.mono HB.out.size)⟩
theorem arT_yes (xss : List (List Int)) (h1 : xss.length ≤ 2000) (h2 : ascB xss = true) (h3 : ∀ j, j < xss.length → rowB (xss.getD j []) = true ∧ deg (xss.getD j []) = deg (xss.getD 0 [])) : arT xss = true := by
  simp only [arT, sameB, h2, h1, decide_true, Bool.true_and, Bool.and_eq_true, List.all_eq_true]
  constructor
  · intro r hr
    obtain ⟨j, hj, rfl⟩ := List.getElem_of_mem hr
    have := (h3 j hj).1
    simpa [hj] using this
  · intro r hr
    obtain ⟨j, hj, rfl⟩ := List.getElem_of_mem hr
    have := (h3 j hj).2
    rw [show xss.getD j [] = xss[j] by simp [hj]] at this
    simpa using this
theorem arT_no (xss : List (List Int)) (j : Nat) (hj : j < xss.length) (h : rowB (xss.getD j []) = false ∨ deg (xss.getD j []) ≠ deg (xss.getD 0 [])) : arT xss = false := by
  cases e : arT xss
  · rfl
  · have hm : xss.getD j [] ∈ xss := by rw [show xss.getD j [] = xss[j] by simp [hj]]; exact List.getElem_mem _
    have h1 := arT_row e _ hm
    have h2 := arT_deg e _ hm
    rcases h with h | h
    · have h3 : rowB (xss.getD j []) = true := by unfold rowB; rw [h1.1]; exact decide_eq_true h1.2.2
      rw [h3] at h; cases h
    · exact absurd h2 h
set_option maxRecDepth 100000 in
theorem l04Is_c (v : Value) (xss : List (List Int)) (w : World) (h : IntSS w.heap v xss) :
    Calls Tryz.prog 39 #[.agg #[v]] w fun e w' => e = .returned (.bool (arT xss)) ∧ Below w.heap.size w w' := by
  have hb : Below w.heap.size w (w.alloc (.cells #[v] 61)) := (Below.refl _ _).alloc (Nat.le_refl _) _
  have hA := h.same hb.block
  have C := Lib.hid (l01Ascending_c v xss _ hA)
  obtain ⟨ao, c, rfl, hm⟩ := h.len
  have H := Lib.hid hA
  have HB := Lib.hid hb; clear hb h hA
  by_cases hl : xss.length ≤ 2000
  · have t1 : decide (2000 < xss.length) = false := by simp; omega
    cases ha : ascB xss
    · have HR : Hid (arT xss = false) := by show _ = _; simp [arT, ha]
      rw [ha] at C
      clear ha
      go_enter Tryz.func39, Tryz.ntmps39
      go_wp2_with (go_at_call 54; refine C.out.mono ?_; rintro e w1 ⟨rfl, n, rfl⟩)
      go_ret
      exact ⟨by rw [HR.out]; rfl, below_drewN n HB.out⟩
    · rw [ha] at C
      have HY := Lib.hid (arT_yes xss hl ha); clear ha
      go_enter Tryz.func39, Tryz.ntmps39
      go_wp2_with (go_at_call 54; refine C.out.mono ?_; rintro e w1 ⟨rfl, n0, rfl⟩)
      go_loopw [3] (fun i wr => ∃ k n : Nat, k ≤ xss.length ∧ i = .int .i64 k ∧ wr = (w.alloc (.cells #[.slice ao xss.length c] 61)).drewN n ∧ Hid (∀ j, j < k → rowB (xss.getD j []) = true ∧ deg (xss.getD j []) = deg (xss.getD 0 []))) (fun i _ => xss.length - (intOf i).toNat)
      case atStart => exact ⟨0, n0, Nat.zero_le _, rfl, rfl, fun j hj => absurd hj (Nat.not_lt_zero _)⟩
      case round =>
        obtain ⟨k, n, hk, rfl, rfl, hp⟩ := hrel
        by_cases hlt : k < xss.length
        · obtain ⟨b1, o1, c1, u1, hv1, hc1, hu1, -⟩ := H.out.at k hlt
          obtain ⟨b2, o2, c2, u2, hv2, hc2, hu2, -⟩ := H.out.at 0 (by omega)
          simp only [Value.slice.injEq, true_and] at hv1 hv2
          obtain ⟨rfl, rfl⟩ := hv1
          obtain ⟨hv2, -⟩ := hv2
          simp only [Option.some.injEq, Addr.mk.injEq, and_true] at hv2
          obtain ⟨rfl, rfl⟩ := hv2
          rw [show xss[k] = xss.getD k [] by simp [hlt]] at hu1
          rw [show xss[0] = xss.getD 0 [] by simp [show 0 < xss.length by omega]] at hu2
          have e0 : o1 + 0 = o1 := rfl
          rw [e0] at hc2
          clear e0
          have HN := Lib.hid (arT_no xss k hlt)
          have HP2 : Hid (rowB (xss.getD k []) = true → deg (xss.getD k []) = deg (xss.getD 0 []) → ∀ j, j < k + 1 → rowB (xss.getD j []) = true ∧ deg (xss.getD j []) = deg (xss.getD 0 [])) := fun h1 h2 j hj => by
            by_cases e : j = k
            · subst e; exact ⟨h1, h2⟩
            · exact hp.out j (by omega)
          have H0 : Hid (isExp (xss.getD k []) = true → isExp (xss.getD 0 []) = true) := fun h => by
            by_cases e : k = 0
            · subst e; exact h
            · have := (hp.out 0 (by omega)).1
              simp only [rowB, Bool.and_eq_true] at this
              exact this.1
          obtain ⟨a1, d1, rfl, m1⟩ := hu1.len
          obtain ⟨a2, d2, rfl, m2⟩ := hu2.len
          have HU1 := Lib.hid hu1; have HU2 := Lib.hid hu2
          clear hu1 hu2 hp
          have CE := Lib.hid (fun (w : World) (h : IntS w.heap (.slice a1 (xss.getD k []).length d1) (xss.getD k [])) => l01Exponents_c _ _ w h)
          have D1 := fun he => Lib.hid (fun (w : World) (h : IntS w.heap (.slice a1 (xss.getD k []).length d1) (xss.getD k [])) => l01DegreeE_c _ _ w h he)
          have D2 := fun he => Lib.hid (fun (w : World) (h : IntS w.heap (.slice a2 (xss.getD 0 []).length d2) (xss.getD 0 [])) => l01DegreeE_c _ _ w h he)
          have hz : decide (0 < xss.length) = true := by simp; omega
          have HRB : Hid (rowB (xss.getD k []) = (isExp (xss.getD k []) && decide (deg (xss.getD k []) ≤ 40))) := rfl
          generalize xss.getD k [] = xs at *
          generalize xss.getD 0 [] = ys at *
          cases hE : isExp xs
          · have HR : Hid (arT xss = false) := HN.out (.inl (by rw [HRB.out, hE]; rfl))
            rw [hE] at CE
            clear hE D1 D2
            go_wp2_with fail
            go_quiet ((go_at_call 55; (with_reducible refine quiet_behind_same (CE.out _ ?_)); exact HU1.out))
            go_wp2_with fail
            go_ret
            exact ⟨by rw [HR.out]; rfl, by first | exact below_drewN _ HB.out | (simp only [World.drewN_drewN]; exact below_drewN _ HB.out)⟩
          · have D1 := D1 hE
            have D2 := D2 (H0.out hE)
            rw [hE] at CE
            rw [hE, Bool.true_and] at HRB
            clear hE
            generalize deg xs = d at *
            generalize deg ys = d' at *
            by_cases h40 : d ≤ 40
            · have t2 : decide (40 < d) = false := by simp; omega
              by_cases hdd : d = d'
              · have HH := Lib.hid (HP2.out (by rw [HRB.out]; simpa using h40) hdd)
                have t3 := (eqB hdd).2
                clear hdd
                go_wp2_with fail
                go_quiet (first | (go_at_call 55; (with_reducible refine quiet_behind_same (CE.out _ ?_)); exact HU1.out) | (go_at_call 56; first | ((with_reducible refine quiet_behind_same (D1.out _ ?_)); exact HU1.out) | ((with_reducible refine quiet_behind_same (D2.out _ ?_)); exact HU2.out)))
                go_wp2_with fail
                go_roundw
                case rel => exact ⟨k + 1, _, by omega, by go_num, rfl, HH⟩
                case measure => simp [intOf]; omega
              · have HR : Hid (arT xss = false) := HN.out (.inr hdd)
                have t3 := (neB hdd).2
                clear hdd
                go_wp2_with fail
                go_quiet (first | (go_at_call 55; (with_reducible refine quiet_behind_same (CE.out _ ?_)); exact HU1.out) | (go_at_call 56; first | ((with_reducible refine quiet_behind_same (D1.out _ ?_)); exact HU1.out) | ((with_reducible refine quiet_behind_same (D2.out _ ?_)); exact HU2.out)))
                go_wp2_with fail
                go_ret
                exact ⟨by rw [HR.out]; rfl, by first | exact below_drewN _ HB.out | (simp only [World.drewN_drewN]; exact below_drewN _ HB.out)⟩
            · have HR : Hid (arT xss = false) := HN.out (.inl (by rw [HRB.out]; simpa using h40))
              have t2 : decide (40 < d) = true := by simp; omega
              go_wp2_with fail
              go_quiet (first | (go_at_call 55; (with_reducible refine quiet_behind_same (CE.out _ ?_)); exact HU1.out) | (go_at_call 56; first | ((with_reducible refine quiet_behind_same (D1.out _ ?_)); exact HU1.out) | ((with_reducible refine quiet_behind_same (D2.out _ ?_)); exact HU2.out)))
              go_wp2_with fail
              go_ret
              exact ⟨by rw [HR.out]; rfl, by first | exact below_drewN _ HB.out | (simp only [World.drewN_drewN]; exact below_drewN _ HB.out)⟩
        · obtain rfl : k = xss.length := by omega
          have HR : Hid (arT xss = true) := HY.out hp.out
          go_wp2_with fail
          go_ret
          exact ⟨by rw [HR.out]; rfl, below_drewN _ HB.out⟩
  · have t1 : decide (2000 < xss.length) = true := by simp; omega
    have HR : Hid (arT xss = false) := by show _ = _; simp [arT, hl]
    go_enter Tryz.func39, Tryz.ntmps39
    go_wp2_with fail
    go_ret
    exact ⟨by rw [HR.out]; rfl, HB.out⟩
end Go.Proofs.YtalbbjhonkcbgaaGreatDoor

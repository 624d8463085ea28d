/- Decomposable elements: of the program and of the reference. -/
import Derived.Test.YthclhbjbimncpaaLPair
import Derived.Test.YthclhbjbimncpaaLMilArg
namespace Go.Proofs.Ythclhbjbimncpaa
open Go.RowKit Go.Sort

/-- How many of the six lowest binary digits are 1. -/
def ones6 (n : Nat) : Nat := ((List.range 6).filter fun i => n.testBit i).length
set_option maxRecDepth 100000 in
theorem onesCount_c (n : Nat) (w : World) (h : n ≤ 40) : Calls Try.prog 154 #[.int .u64 n] w fun e w' => e = .returned (.int .i64 (ones6 n)) ∧ w = w' := by
  obtain ⟨x, hx⟩ : ∃ x : Int, x = n := ⟨_, rfl⟩
  rw [← hx]
  have h0 : 0 ≤ x := by omega
  have h1 : x ≤ 40 := by omega
  have HX := Lib.hid hx; clear hx
  generalize hq : (ones6 n : Int) = q
  have HQ := Lib.hid hq; clear hq
  go_enter Try.func154, Try.ntmps154
  go_wp2_with fail
  go_ret
  refine ⟨?_, rfl⟩
  have hx := HX.out
  subst hx
  rw [← HQ.out]
  apply ret_int
  clear HQ HX h0 h1
  have hn : n < 41 := by omega
  clear h q
  revert n
  decide +kernel
theorem ones_c (n : Nat) (w : World) (h : n ≤ 40) : Calls Try.prog 113 #[.int .i64 n] w fun e w' => e = .returned (.int .i64 (ones6 n)) ∧ w = w' := by
  have C := Lib.hid (onesCount_c n w h)
  go_enter Try.func113, Try.ntmps113
  go_wp2_with (go_at_call 154; refine C.out.mono ?_; rintro e w1 ⟨rfl, rfl⟩)
  go_ret
  exact ⟨rfl, rfl⟩
def dcC (xss : List (List Int)) : Int := if arT xss then 0 else 1
def dcD (xss : List (List Int)) (d : Int) : Bool := decide (0 < d) && ((ones6 d.toNat != 1) || !decide ([d] ∈ xss))
def dcB (xss : List (List Int)) : Bool := arT xss && (decide (xss.length = 0) || dcD xss (degT xss))
theorem and_pow (n : Nat) (h : n < 41) : 0 < n → (bits BinOp.and IntKind.i64 n ((n : Int) - 1) != 0) = (ones6 n != 1) := by
  revert n; decide +kernel
theorem ownI_lit {w : World} {B : Nat} (hB : B ≤ w.heap.size) (x : Int) : OwnI (w.alloc (.cells #[.int .i64 x] 2)) B (.slice (some ⟨w.heap.size, 0, none⟩) 1 1) [x] :=
  World.ownsRow_lit (e := 2) (size := 1) w #[.int .i64 x] 1 hB (by unfold maxLen; omega) rfl
theorem specIsDecomposable_c (v : Value) (xss : List (List Int)) (w : World) (h : IntSS w.heap v xss) :
    Calls Try.prog 53 #[.agg #[v]] w fun e w' => e = .returned (.tuple #[.bool (dcB xss), .int .i64 (dcC xss)]) ∧ Below w.heap.size w w' := by
  have hb : Below w.heap.size w (w.alloc (.cells #[v] 42)) := (Below.refl _ _).alloc (Nat.le_refl _) _
  have hA := h.same hb.block
  have M := Lib.hid (l04Is_c v xss _ hA)
  have k0 := (Cell1.new w v 42).c0
  have K0 := Lib.hid k0; clear k0
  obtain ⟨ao, c, rfl, hm⟩ := h.len
  have H := Lib.hid hA
  have HB := Lib.hid hb; clear hb h hA
  cases hT : arT xss
  · have e1 : dcB xss = false := by simp [dcB, hT]
    have e2 : dcC xss = 1 := by simp [dcC, hT]
    rw [e1, e2]
    rw [hT] at M
    clear e1 e2 hT
    go_enter Try.func53, Try.ntmps53
    go_wp2_with (go_at_call 92; refine M.out.mono ?_; rintro e w1 ⟨rfl, hb1⟩; have HB1 := Lib.hid (HB.out.trans (hb1.mono HB.out.size)); clear hb1)
    go_ret2
    exact ⟨rfl, HB1.out⟩
  · have e2 : dcC xss = 0 := by simp [dcC, hT]
    rw [e2]
    rw [hT] at M
    clear e2
    by_cases h0 : xss.length = 0
    · have e1 : dcB xss = true := by simp [dcB, hT, h0]
      rw [e1]
      have t1 : ((xss.length : Int) == 0) = true := by simpa using h0
      clear e1 hT h0
      go_enter Try.func53, Try.ntmps53
      go_wp2_with (go_at_call 92; refine M.out.mono ?_; rintro e w1 ⟨rfl, hb1⟩; have k1 := (hb1.cell (p := ⟨w.heap.size, 0, none⟩) (by simp)).trans K0.out; have HB1 := Lib.hid (HB.out.trans (hb1.mono HB.out.size)); clear hb1)
      go_ret2
      exact ⟨rfl, HB1.out⟩
    · have e1 : dcB xss = dcD xss (degT xss) := by simp [dcB, hT, h0]
      rw [e1]
      have hm0 : xss.getD 0 [] ∈ xss := by rw [show xss.getD 0 [] = xss[0]'(by omega) by simp [show 0 < xss.length by omega]]; exact List.getElem_mem _
      have hr := arT_row hT _ hm0
      obtain ⟨b1, o1, c1, u1, hv1, hc1, hu1, -⟩ := H.out.at 0 (by omega)
      simp only [Value.slice.injEq, true_and] at hv1
      obtain ⟨rfl, rfl⟩ := hv1
      have e0 : o1 + 0 = o1 := rfl
      rw [e0] at hc1
      rw [show xss[0]'(by omega) = xss.getD 0 [] by simp [show 0 < xss.length by omega]] at hu1
      obtain ⟨ra, rc, rfl, -⟩ := hu1.len
      have D := Lib.hid (fun (W : World) (h : IntS W.heap (.slice ra (xss.getD 0 []).length rc) (xss.getD 0 [])) => l01DegreeE_c _ _ W h hr.1)
      obtain ⟨n, hn⟩ := Int.eq_ofNat_of_zero_le hr.2.1
      have hdT : degT xss = n := hn
      rw [hdT]
      rw [hn] at D
      have hn40 : n ≤ 40 := by omega
      have HC1 := Lib.hid hc1; have HU1 := Lib.hid hu1
      have t1 : ((xss.length : Int) == 0) = false := by simpa using h0
      have t2 : decide (0 < xss.length) = true := by simp; omega
      have hp : (0 : Int) < xss.length := by omega
      have HL := Lib.hid h0
      clear e1 e0 hc1 hu1 hr hn hdT hm0 hT h0
      generalize xss.getD 0 [] = ys at *
      by_cases hn0 : n = 0
      · subst hn0
        have e1 : dcD xss ((0 : Nat) : Int) = false := by simp [dcD]
        rw [e1]
        clear e1
        go_enter Try.func53, Try.ntmps53
        go_wp2_with (first | (go_at_call 92; refine M.out.mono ?_; rintro e w1 ⟨rfl, hb1⟩; have k1 := (hb1.cell (p := ⟨w.heap.size, 0, none⟩) (by simp)).trans K0.out; have hc2 := (hb1.cell (World.block_lt_of_cell? _ _ HC1.out)).trans HC1.out; have HU2 := Lib.hid (HU1.out.same hb1.block); have HB1 := Lib.hid (HB.out.trans (hb1.mono HB.out.size)); clear hb1) | (go_at_call 110; refine (D.out _ HU2.out).mono ?_; rintro e w2 ⟨rfl, rfl⟩))
        go_ret2
        exact ⟨rfl, HB1.out⟩
      · have hap := and_pow n (by omega) (by omega)
        have t3 : ((n : Int) == 0) = false := by simpa using hn0
        have e1 : dcD xss (n : Int) = ((ones6 n != 1) || !decide ([(n : Int)] ∈ xss)) := by simp [dcD]; omega
        rw [e1, ← hap]
        clear e1 hap
        have hn1 : (1 : Int) ≤ (n : Int) := by omega
        have P := Lib.hid (fun (W : World) (u : Value) (h : IntSS W.heap (.slice (some ⟨b1, o1, none⟩) xss.length c) xss) (hu : IntS W.heap u [(n : Int)]) => l01Place_c _ u xss [(n : Int)] W h hu)
        cases hbt : (bits BinOp.and IntKind.i64 n ((n : Int) - 1) != 0)
        · by_cases hin : [(n : Int)] ∈ xss
          · have hpl := (placeL_in hin).1
            rw [decide_eq_true hin]
            generalize placeL xss [(n : Int)] = q at *
            have t4 : decide (q < 0) = false := by simpa using hpl
            clear hin
            go_enter Try.func53, Try.ntmps53
            go_wp2_with (first | (go_at_call 92; refine M.out.mono ?_; rintro e w1 ⟨rfl, hb1⟩; have k1 := (hb1.cell (p := ⟨w.heap.size, 0, none⟩) (by simp)).trans K0.out; have hc2 := (hb1.cell (World.block_lt_of_cell? _ _ HC1.out)).trans HC1.out; have HU2 := Lib.hid (HU1.out.same hb1.block); have H2 := Lib.hid (H.out.same hb1.block); have HB1 := Lib.hid (HB.out.trans (hb1.mono HB.out.size)); clear hb1) | (go_at_call 110; refine (D.out _ HU2.out).mono ?_; rintro e w2 ⟨rfl, rfl⟩) | (go_at_call 111; refine (P.out _ _ (H2.out.same (alloc_old _ _)) (ownI_lit (Nat.zero_le _) _).ints).mono ?_; rintro e w3 ⟨rfl, m, rfl⟩))
            go_ret2
            exact ⟨rfl, below_drewN m (HB1.out.alloc HB1.out.size _)⟩
          · rw [decide_eq_false hin]
            rw [placeL_out hin] at P
            clear hin
            go_enter Try.func53, Try.ntmps53
            go_wp2_with (first | (go_at_call 92; refine M.out.mono ?_; rintro e w1 ⟨rfl, hb1⟩; have k1 := (hb1.cell (p := ⟨w.heap.size, 0, none⟩) (by simp)).trans K0.out; have hc2 := (hb1.cell (World.block_lt_of_cell? _ _ HC1.out)).trans HC1.out; have HU2 := Lib.hid (HU1.out.same hb1.block); have H2 := Lib.hid (H.out.same hb1.block); have HB1 := Lib.hid (HB.out.trans (hb1.mono HB.out.size)); clear hb1) | (go_at_call 110; refine (D.out _ HU2.out).mono ?_; rintro e w2 ⟨rfl, rfl⟩) | (go_at_call 111; refine (P.out _ _ (H2.out.same (alloc_old _ _)) (ownI_lit (Nat.zero_le _) _).ints).mono ?_; rintro e w3 ⟨rfl, m, rfl⟩))
            go_ret2
            exact ⟨rfl, below_drewN m (HB1.out.alloc HB1.out.size _)⟩
        · rw [Bool.true_or]
          go_enter Try.func53, Try.ntmps53
          go_wp2_with (first | (go_at_call 92; refine M.out.mono ?_; rintro e w1 ⟨rfl, hb1⟩; have k1 := (hb1.cell (p := ⟨w.heap.size, 0, none⟩) (by simp)).trans K0.out; have hc2 := (hb1.cell (World.block_lt_of_cell? _ _ HC1.out)).trans HC1.out; have HU2 := Lib.hid (HU1.out.same hb1.block); have HB1 := Lib.hid (HB.out.trans (hb1.mono HB.out.size)); clear hb1) | (go_at_call 110; refine (D.out _ HU2.out).mono ?_; rintro e w2 ⟨rfl, rfl⟩))
          go_ret2
          exact ⟨rfl, HB1.out⟩
theorem degreeOfT_c (v : Value) (xss : List (List Int)) (w : World) (h : IntSS w.heap v xss) (hT : arT xss = true) :
    Calls Try.prog 112 #[v] w fun e w' => e = .returned (.int .i64 (degT xss)) ∧ w = w' := by
  refine (degreeOf_c v xss w h).mono fun _ _ ⟨⟨d, he, hd⟩, hw⟩ => ⟨?_, hw⟩
  rw [he, hd]
  by_cases h0 : xss.length = 0
  · obtain rfl : xss = [] := List.eq_nil_of_length_eq_zero h0
    rfl
  · exact (arT_row hT _ (by rw [show xss.getD 0 [] = xss[0]'(by omega) by simp [show 0 < xss.length by omega]]; exact List.getElem_mem _)).1
theorem degT_bound {xss : List (List Int)} (hT : arT xss = true) : 0 ≤ degT xss ∧ degT xss ≤ 40 := by
  by_cases h0 : xss.length = 0
  · obtain rfl : xss = [] := List.eq_nil_of_length_eq_zero h0
    exact ⟨Int.le_refl 0, by decide⟩
  · exact (arT_row hT _ (by rw [show xss.getD 0 [] = xss[0]'(by omega) by simp [show 0 < xss.length by omega]]; exact List.getElem_mem _)).2
theorem implIsDecomposable_c (v : Value) (xss : List (List Int)) (w : World) (h : IntSS w.heap v xss) :
    Calls Try.prog 54 #[.agg #[v]] w fun e w' => e = .returned (.tuple #[.bool (dcB xss), .int .i64 (dcC xss)]) ∧ Below w.heap.size w w' := by
  have hb : Below w.heap.size w (w.alloc (.cells #[v] 42)) := (Below.refl _ _).alloc (Nat.le_refl _) _
  have hA := h.same hb.block
  have M := Lib.hid (isMilnor_c v xss _ hA)
  have k0 := (Cell1.new w v 42).c0
  have K0 := Lib.hid k0; clear k0
  obtain ⟨ao, c, rfl, hm⟩ := h.len
  have H := Lib.hid hA
  have HB := Lib.hid hb; clear hb h hA
  cases hT : arT xss
  · have e1 : dcB xss = false := by simp [dcB, hT]
    have e2 : dcC xss = 1 := by simp [dcC, hT]
    rw [e1, e2]
    rw [hT] at M
    clear e1 e2 hT
    go_enter Try.func54, Try.ntmps54
    go_wp2_with (go_at_call 95; refine M.out.mono ?_; rintro e w1 ⟨rfl, hb1⟩; have HB1 := Lib.hid (HB.out.trans (hb1.mono HB.out.size)); clear hb1)
    go_ret2
    exact ⟨rfl, HB1.out⟩
  · have e2 : dcC xss = 0 := by simp [dcC, hT]
    rw [e2]
    rw [hT] at M
    clear e2
    by_cases h0 : xss.length = 0
    · have e1 : dcB xss = true := by simp [dcB, hT, h0]
      rw [e1]
      have t1 : ((xss.length : Int) == 0) = true := by simpa using h0
      clear e1 hT h0
      go_enter Try.func54, Try.ntmps54
      go_wp2_with (go_at_call 95; refine M.out.mono ?_; rintro e w1 ⟨rfl, hb1⟩; have k1 := (hb1.cell (p := ⟨w.heap.size, 0, none⟩) (by simp)).trans K0.out; have HB1 := Lib.hid (HB.out.trans (hb1.mono HB.out.size)); clear hb1)
      go_ret2
      exact ⟨rfl, HB1.out⟩
    · have e1 : dcB xss = dcD xss (degT xss) := by simp [dcB, hT, h0]
      rw [e1]
      obtain ⟨hd1, hd2⟩ := degT_bound hT
      have D := Lib.hid (fun (W : World) (h : IntSS W.heap (.slice ao xss.length c) xss) => degreeOfT_c _ _ W h hT)
      have hl2 := arT_len hT
      have T := Lib.hid (fun (W : World) (u : Value) (xs : List Int) (h : IntSS W.heap (.slice ao xss.length c) xss) (hu : IntS W.heap u xs) => hasTerm_c _ u xss xs W h hu (arT_asc hT) (by omega))
      obtain ⟨n, hn⟩ := Int.eq_ofNat_of_zero_le hd1
      rw [hn] at D hd2 ⊢
      have hn40 : n ≤ 40 := by omega
      have O := Lib.hid (fun w => ones_c n w hn40)
      have t1 : ((xss.length : Int) == 0) = false := by simpa using h0
      clear e1 hn hT h0 hd1 hl2
      by_cases hn0 : n = 0
      · subst hn0
        have e1 : dcD xss ((0 : Nat) : Int) = false := by simp [dcD]
        rw [e1]
        clear e1
        go_enter Try.func54, Try.ntmps54
        go_wp2_with (first | (go_at_call 95; refine M.out.mono ?_; rintro e w1 ⟨rfl, hb1⟩; have k1 := (hb1.cell (p := ⟨w.heap.size, 0, none⟩) (by simp)).trans K0.out; have H2 := Lib.hid (H.out.same hb1.block); have HB1 := Lib.hid (HB.out.trans (hb1.mono HB.out.size)); clear hb1) | (go_at_call 112; refine (D.out _ H2.out).mono ?_; rintro e w2 ⟨rfl, rfl⟩))
        go_ret2
        exact ⟨rfl, HB1.out⟩
      · have e1 : dcD xss (n : Int) = ((ones6 n != 1) || !decide ([(n : Int)] ∈ xss)) := by simp [dcD]; omega
        rw [e1]
        clear e1
        have hn1 : (1 : Int) ≤ (n : Int) := by omega
        have t5 : decide (0 < (n : Int)) = true := by simp; omega
        have t6 : decide (0 < n) = true := by simp; omega
        by_cases hbt : ones6 n = 1
        · rw [hbt] at O
          rw [show (ones6 n != 1) = false by simp [hbt], Bool.false_or]
          clear hbt
          generalize hin : decide ([(n : Int)] ∈ xss) = r
          have T1 := Lib.hid (fun (W : World) (u : Value) (h : IntSS W.heap (.slice ao xss.length c) xss) (hu : IntS W.heap u [(n : Int)]) => T.out W u [(n : Int)] h hu)
          rw [hin] at T1
          clear hin
          go_enter Try.func54, Try.ntmps54
          go_wp2_with (first | (go_at_call 95; refine M.out.mono ?_; rintro e w1 ⟨rfl, hb1⟩; have k1 := (hb1.cell (p := ⟨w.heap.size, 0, none⟩) (by simp)).trans K0.out; have H2 := Lib.hid (H.out.same hb1.block); have HB1 := Lib.hid (HB.out.trans (hb1.mono HB.out.size)); clear hb1) | (go_at_call 112; refine (D.out _ H2.out).mono ?_; rintro e w2 ⟨rfl, rfl⟩) | (go_at_call 113; refine (O.out _).mono ?_; rintro e w2 ⟨rfl, rfl⟩) | (go_at_call 114; refine (T1.out _ _ (H2.out.same (alloc_old _ _)) (ownI_lit (Nat.zero_le _) _).ints).mono ?_; rintro e w3 ⟨rfl, rfl⟩))
          go_ret2
          exact ⟨rfl, HB1.out.alloc HB1.out.size _⟩
        · rw [show (ones6 n != 1) = true by simp [hbt], Bool.true_or]
          have t4 := (neB (show (ones6 n : Int) ≠ 1 by omega)).2
          clear hbt
          go_enter Try.func54, Try.ntmps54
          go_wp2_with (first | (go_at_call 95; refine M.out.mono ?_; rintro e w1 ⟨rfl, hb1⟩; have k1 := (hb1.cell (p := ⟨w.heap.size, 0, none⟩) (by simp)).trans K0.out; have H2 := Lib.hid (H.out.same hb1.block); have HB1 := Lib.hid (HB.out.trans (hb1.mono HB.out.size)); clear hb1) | (go_at_call 112; refine (D.out _ H2.out).mono ?_; rintro e w2 ⟨rfl, rfl⟩) | (go_at_call 113; refine (O.out _).mono ?_; rintro e w2 ⟨rfl, rfl⟩))
          go_ret2
          exact ⟨rfl, HB1.out⟩
end Go.Proofs.Ythclhbjbimncpaa

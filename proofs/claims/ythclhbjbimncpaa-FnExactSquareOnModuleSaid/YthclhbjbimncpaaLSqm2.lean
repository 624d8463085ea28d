/- SquareOnModule of the program and of the reference. -/
import Derived.Test.YthclhbjbimncpaaLSqm
namespace Go.Proofs.Ythclhbjbimncpaa
open Go.RowKit Go.Sort

set_option maxRecDepth 100000 in
set_option maxHeartbeats 1000000 in
theorem implSquareOnModule_c (d a v : Value) (ds : List Int) (act : List (List Int)) (n : Int) (xs : List Int) (w : World) (h : ModS w.heap d a ds act) (hv : IntS w.heap v xs) :
    Calls Try.prog 67 #[.agg #[d, a], .int .i64 n, v] w fun e w' => ∃ r, e = .returned (.tuple #[r, .int .i64 (sqmC ds act n xs)]) ∧ OwnI w' w.heap.size r (sqmL ds act n xs) ∧ Below w.heap.size w w' := by
  have hb : Below w.heap.size w (w.alloc (.cells #[d, a] 70)) := (Below.refl _ _).alloc (Nat.le_refl _) _
  have V := two_new w d a 70
  have I := Lib.hid (acted_c d a v ds act xs _ (h.same hb.block) (hv.same hb.block))
  obtain ⟨ao, ac, hdv, hm⟩ := h.1.len
  obtain ⟨bo, bc, hav, hm2⟩ := h.2.len
  obtain ⟨vo, vc, hvv, hm3⟩ := hv.len
  subst hdv; subst hav; subst hvv
  have H0 := Lib.hid h; have HV0 := Lib.hid hv; have HB := Lib.hid hb; have HV := Lib.hid V; clear h hb V hv
  have k1 := HV.out.1; have k2 := HV.out.2
  cases hT : isMod ds act
  · have e1 : sqmL ds act n xs = [] := by simp [sqmL, hT]
    have e2 : sqmC ds act n xs = 1 := by simp [sqmC, hT]
    rw [hT, if_neg (by simp)] at I
    rw [e1, e2]
    clear hT e1 e2
    go_enter Try.func67, Try.ntmps67
    go_wp2_with (go_at_call 126; refine I.out.mono ?_; rintro e w1 ⟨rfl, hb1⟩)
    go_ret2
    exact ⟨_, rfl, OwnI.nil _ _, HB.out.trans (hb1.mono HB.out.size)⟩
  · rw [hT, if_pos rfl] at I
    cases hV : vecB ds xs
    · have e1 : sqmL ds act n xs = [] := by simp [sqmL, hT, hV]
      have e2 : sqmC ds act n xs = 2 := by simp [sqmC, hT, hV]
      rw [hV, if_neg (by simp)] at I
      rw [e1, e2]
      clear hT hV e1 e2
      go_enter Try.func67, Try.ntmps67
      go_wp2_with (go_at_call 126; refine I.out.mono ?_; rintro e w1 ⟨rfl, hb1⟩)
      go_ret2
      exact ⟨_, rfl, OwnI.nil _ _, HB.out.trans (hb1.mono HB.out.size)⟩
    · rw [hV, if_pos rfl] at I
      have D := Lib.hid (isDegree_c n)
      cases hN : decide (0 ≤ n) && decide (n ≤ 40)
      · have hN2 : ¬ (0 ≤ n ∧ n ≤ 40) := by simpa using hN
        have e1 : sqmL ds act n xs = [] := by simp only [sqmL, hN, Bool.and_false]; rfl
        have e2 : sqmC ds act n xs = 2 := by simp only [sqmC, hT, hV, if_true, if_neg hN2]
        rw [hN] at D
        rw [e1, e2]
        clear hT hV e1 e2 hN hN2
        go_enter Try.func67, Try.ntmps67
        go_wp2_with (first | (go_at_call 126; refine I.out.mono ?_; rintro e w1 ⟨rfl, hb1⟩) | (go_at_call 127; refine (D.out _).mono ?_; rintro e w2 ⟨rfl, rfl⟩))
        go_ret2
        exact ⟨_, rfl, OwnI.nil _ _, HB.out.trans (hb1.mono HB.out.size)⟩
      · have hN2 : 0 ≤ n ∧ n ≤ 40 := by simpa using hN
        have hT1 := isMod_T hT
        have hm16 := modT_len hT1
        have hlen := vecB_len hV
        have e1 : sqmL ds act n xs = bitsL ds.length (actZ act n (maskN xs xs.length)) := by simp only [sqmL, hT, hV, hN, Bool.and_true]; rfl
        have e2 : sqmC ds act n xs = 0 := by simp only [sqmC, hT, hV, if_true, if_pos hN2]
        have hlt : maskN xs xs.length < 2 ^ ds.length := by rw [← hlen]; exact maskN_lt xs _
        have hlt2 : actZ act n (maskN xs xs.length) < 2 ^ 16 := Nat.lt_of_lt_of_le (actZ_lt hT1 n _ hlt) (Nat.pow_le_pow_right (by omega) hm16)
        obtain ⟨k, rfl⟩ := Int.eq_ofNat_of_zero_le hN2.1
        have T := Lib.hid (fun (W : World) (h : ModS W.heap (.slice ao ds.length ac) (.slice bo act.length bc) ds act) => tableOf_c _ _ ds act W h hT1)
        have M := Lib.hid (fun (W : World) (h : IntS W.heap (.slice vo xs.length vc) xs) => maskOf_c _ xs W h (vecB_bit hV) (by omega))
        have S := Lib.hid (fun (g : Nat) (us : List Value) (B : Nat) (W : World) (h : TabU W B g (.slice ao ds.length ac) us (tabL ds.length act)) => square_c g _ us ds act B k _ W h hT1 hlt)
        have O := Lib.hid (fun (W : World) (h : IntS W.heap (.slice ao ds.length ac) ds) => vectorOf_c (.slice ao ds.length ac) (.slice bo act.length bc) ds _ W h hm16 hlt2)
        rw [hN] at D
        rw [e1, e2]
        clear hT hV e1 e2 hN hN2 hT1 hlt hlt2 hm16 hlen
        generalize actZ act k (maskN xs xs.length) = Y at *
        generalize maskN xs xs.length = X at *
        go_enter Try.func67, Try.ntmps67
        go_wp2_with (first | (go_at_call 126; refine I.out.mono ?_; rintro e w1 ⟨rfl, hb1⟩; have k3 := (hb1.cell (World.block_lt_of_cell? _ _ k1)).trans k1; have k4 := (hb1.cell (World.block_lt_of_cell? _ _ k2)).trans k2; have HB1 := Lib.hid (HB.out.trans (hb1.mono HB.out.size)); clear hb1) | (go_at_call 127; refine (D.out _).mono ?_; rintro e w2 ⟨rfl, rfl⟩))
        go_region_held3 (fun W => W.cell? ⟨w.heap.size, 0, none⟩ = some (.slice ao ds.length ac) ∧ W.cell? ⟨w.heap.size, 1, none⟩ = some (.slice bo act.length bc) ∧ Below w1.heap.size w1 W) (first | exact ⟨k3, k4, (Below.refl _ _).drew⟩ | exact heldC2 (by assumption) hx | exact heldC2 (by assumption) hx4 | assumption) (first | (go_at_call 118; refine (T.out _ (H0.out.same (heldC2B HB1.out (by assumption) HB1.out.size).block)).mono ?_; rintro e W2 ⟨g, us, rfl, htu, hx⟩) | (go_at_call 130; refine (M.out _ (HV0.out.same (heldC2B HB1.out (by assumption) HB1.out.size).block)).mono ?_; rintro e W3 ⟨rfl, rfl⟩) | (go_at_call 129; refine (S.out g us _ _ htu).mono ?_; rintro e W3 ⟨rfl, rfl⟩) | (go_at_call 128; refine (O.out _ (H0.out.1.same (heldC2B HB1.out (by assumption) HB1.out.size).block)).mono ?_; rintro e W4 ⟨r, rfl, hr, hx4⟩; obtain ⟨ra, rn, rc, rfl⟩ := own_shape hr))
        all_goals
          rename_i hh
          have HB4 := Lib.hid (heldC2B HB1.out hh HB1.out.size)
          go_wp2_with fail
          go_ret2
          exact ⟨_, rfl, own_base hr (Nat.le_trans HB1.out.size hx.size), HB4.out⟩
set_option maxRecDepth 100000 in
set_option maxHeartbeats 1000000 in
theorem specSquareOnModule_c (d a v : Value) (ds : List Int) (act : List (List Int)) (n : Int) (xs : List Int) (w : World) (h : ModS w.heap d a ds act) (hv : IntS w.heap v xs) :
    Calls Try.prog 65 #[.agg #[d, a], .int .i64 n, v] w fun e w' => ∃ r, e = .returned (.tuple #[r, .int .i64 (sqmC ds act n xs)]) ∧ OwnI w' w.heap.size r (sqmL ds act n xs) ∧ Below w.heap.size w w' := by
  have hb : Below w.heap.size w (w.alloc (.cells #[d, a] 70)) := (Below.refl _ _).alloc (Nat.le_refl _) _
  have V := two_new w d a 70
  have I := Lib.hid (l11Is_c d a ds act _ (h.same hb.block))
  have J := Lib.hid (fun (W : World) (h : IntS W.heap d ds) (hv : IntS W.heap v xs) => l11Vector_c d a v ds xs W h hv)
  have D := Lib.hid (l01In_c n 0 40)
  have C := Lib.hid (fun (W : World) (h : ModS W.heap d a ds act) (hT : modT ds act = true) (hv : IntS W.heap v (bitsL ds.length (maskN xs xs.length))) => l11Act_c d a v ds act n (maskN xs xs.length) W h hT hv)
  obtain ⟨ao, ac, hdv, hm⟩ := h.1.len
  obtain ⟨bo, bc, hav, hm2⟩ := h.2.len
  obtain ⟨vo, vc, hvv, hm3⟩ := hv.len
  subst hdv; subst hav; subst hvv
  have H0 := Lib.hid h; have HV0 := Lib.hid hv; have HB := Lib.hid hb; have HV := Lib.hid V; clear h hb V hv
  have k1 := HV.out.1; have k2 := HV.out.2
  cases hT : isMod ds act
  · have e1 : sqmL ds act n xs = [] := by simp [sqmL, hT]
    have e2 : sqmC ds act n xs = 1 := by simp [sqmC, hT]
    rw [hT] at I
    rw [e1, e2]
    clear hT e1 e2
    go_enter Try.func65, Try.ntmps65
    go_wp2_with (go_at_call 116; refine I.out.mono ?_; rintro e w1 ⟨rfl, hb1⟩)
    go_ret2
    exact ⟨_, rfl, OwnI.nil _ _, HB.out.trans (hb1.mono HB.out.size)⟩
  · rw [hT] at I
    cases hV : vecB ds xs
    · have e1 : sqmL ds act n xs = [] := by simp [sqmL, hT, hV]
      have e2 : sqmC ds act n xs = 2 := by simp [sqmC, hT, hV]
      rw [hV] at J
      rw [e1, e2]
      clear hT hV e1 e2
      go_enter Try.func65, Try.ntmps65
      go_wp2_with (first | (go_at_call 116; refine I.out.mono ?_; rintro e w1 ⟨rfl, hb1⟩; have k3 := (hb1.cell (World.block_lt_of_cell? _ _ k1)).trans k1; have k4 := (hb1.cell (World.block_lt_of_cell? _ _ k2)).trans k2; have HB1 := Lib.hid (HB.out.trans (hb1.mono HB.out.size)); clear hb1) | (go_at_call 124; refine (J.out _ (H0.out.1.same HB1.out.block) (HV0.out.same HB1.out.block)).mono ?_; rintro e w2 ⟨rfl, hb2⟩; have HB2 := Lib.hid (HB1.out.trans (hb2.mono HB1.out.size)); clear hb2))
      go_ret2
      exact ⟨_, rfl, OwnI.nil _ _, HB2.out⟩
    · rw [hV] at J
      cases hN : decide (0 ≤ n) && decide (n ≤ 40)
      · have hN2 : ¬ (0 ≤ n ∧ n ≤ 40) := by simpa using hN
        have e1 : sqmL ds act n xs = [] := by simp only [sqmL, hN, Bool.and_false]; rfl
        have e2 : sqmC ds act n xs = 2 := by simp only [sqmC, hT, hV, if_true, if_neg hN2]
        rw [hN] at D
        rw [e1, e2]
        clear hT hV e1 e2 hN hN2 C
        go_enter Try.func65, Try.ntmps65
        go_wp2_with (first | (go_at_call 116; refine I.out.mono ?_; rintro e w1 ⟨rfl, hb1⟩; have k3 := (hb1.cell (World.block_lt_of_cell? _ _ k1)).trans k1; have k4 := (hb1.cell (World.block_lt_of_cell? _ _ k2)).trans k2; have HB1 := Lib.hid (HB.out.trans (hb1.mono HB.out.size)); clear hb1) | (go_at_call 124; refine (J.out _ (H0.out.1.same HB1.out.block) (HV0.out.same HB1.out.block)).mono ?_; rintro e w2 ⟨rfl, hb2⟩; have HB2 := Lib.hid (HB1.out.trans (hb2.mono HB1.out.size)); clear hb2) | (go_at_call 89; refine (D.out _).mono ?_; rintro e w3 ⟨rfl, rfl⟩))
        go_ret2
        exact ⟨_, rfl, OwnI.nil _ _, HB2.out⟩
      · have hN2 : 0 ≤ n ∧ n ≤ 40 := by simpa using hN
        have HT1 := Lib.hid (isMod_T hT)
        have e1 : sqmL ds act n xs = bitsL ds.length (actZ act n (maskN xs xs.length)) := by simp only [sqmL, hT, hV, hN, Bool.and_true]; rfl
        have e2 : sqmC ds act n xs = 0 := by simp only [sqmC, hT, hV, if_true, if_pos hN2]
        rw [vecB_mask hV] at C
        rw [hN] at D
        rw [e1, e2]
        clear hT hV e1 e2 hN hN2
        generalize bitsL ds.length (actZ act n (maskN xs xs.length)) = Y at *
        go_enter Try.func65, Try.ntmps65
        go_wp2_with (first | (go_at_call 116; refine I.out.mono ?_; rintro e w1 ⟨rfl, hb1⟩; have k3 := (hb1.cell (World.block_lt_of_cell? _ _ k1)).trans k1; have k4 := (hb1.cell (World.block_lt_of_cell? _ _ k2)).trans k2; have HB1 := Lib.hid (HB.out.trans (hb1.mono HB.out.size)); clear hb1) | (go_at_call 124; refine (J.out _ (H0.out.1.same HB1.out.block) (HV0.out.same HB1.out.block)).mono ?_; rintro e w2 ⟨rfl, hb2⟩; have k5 := (hb2.cell (World.block_lt_of_cell? _ _ k3)).trans k3; have k6 := (hb2.cell (World.block_lt_of_cell? _ _ k4)).trans k4; have HB2 := Lib.hid (HB1.out.trans (hb2.mono HB1.out.size)); clear hb2) | (go_at_call 89; refine (D.out _).mono ?_; rintro e w3 ⟨rfl, rfl⟩) | (go_at_call 125; refine (C.out _ (H0.out.same HB2.out.block) HT1.out (HV0.out.same HB2.out.block)).mono ?_; rintro e w4 ⟨r, rfl, hr, hb4⟩; obtain ⟨ra, rn, rc, rfl⟩ := own_shape hr))
        go_ret2
        exact ⟨_, rfl, own_base hr HB2.out.size, HB2.out.trans (hb4.mono HB2.out.size)⟩
end Go.Proofs.Ythclhbjbimncpaa

/- Whether a module is a table: of the program and of the reference. -/
import Derived.Test.YtalbbjhonkcbgaaGreatDoorLVec
import Derived.Test.YtalbbjhonkcbgaaGreatDoorLMil
import Derived.Test.YtalbbjhonkcbgaaGreatDoorBaseM
namespace Go.Proofs.YtalbbjhonkcbgaaGreatDoor
open Go.RowKit Go.Sort

theorem lessI_c (x y : Int) (w : World) : Calls Tryz.prog 108 #[.int .i64 x, .int .i64 y] w fun e w' => e = .returned (.bool (decide (x < y))) ∧ w = w' := by
  go_enter Tryz.func108, Tryz.ntmps108
  go_wp2_with (go_at_call 129; refine (isNaN_c _ _).mono ?_; rintro e w' ⟨rfl, rfl⟩)
  go_ret
  exact ⟨rfl, rfl⟩
theorem sortB_false (ds : List Int) (m : Nat) (h : m + 1 < ds.length) (hlt : ds.getD (m + 1) 0 < ds.getD m 0) : sortB ds = false := by
  cases e : sortB ds
  · rfl
  · simp only [sortB, List.all_eq_true, List.mem_range, decide_eq_true_eq] at e
    have := e m (by omega); omega
theorem sortB_true (ds : List Int) (h : ∀ j, j + 1 < ds.length → ds.getD j 0 ≤ ds.getD (j + 1) 0) : sortB ds = true := by
  simp only [sortB, List.all_eq_true, List.mem_range, decide_eq_true_eq]
  intro i hi; exact h i (by omega)
theorem sortedI_c (v : Value) (ds : List Int) (w : World) (h : IntS w.heap v ds) :
    Calls Tryz.prog 78 #[v] w fun e w' => e = .returned (.bool (sortB ds)) ∧ ∃ n, w' = w.drewN n := by
  obtain ⟨ao, c, rfl, hm⟩ := h.len
  have H := Lib.hid h; clear h
  by_cases h1 : ds.length = 0
  · have hs := Lib.hid (sortB_true ds fun j hj => by omega)
    rw [h1]
    clear h1
    go_enter Tryz.func78, Tryz.ntmps78
    go_wp2_with fail
    go_loopw [3] (fun i wr => i = .int .i64 (-1) ∧ w = wr) (fun i _ => 0)
    case atStart => exact ⟨rfl, rfl⟩
    case round =>
      obtain ⟨rfl, rfl⟩ := hrel
      go_wp2_with fail
      go_ret
      exact ⟨by rw [hs.out]; rfl, 0, rfl⟩
  · obtain ⟨l, hl⟩ : ∃ l, ds.length = l + 1 := ⟨ds.length - 1, by omega⟩
    have HL := Lib.hid hl
    have hm' : l + 1 ≤ 9223372036854775807 := by omega
    rw [hl]
    clear h1 hl hm
    go_enter Tryz.func78, Tryz.ntmps78
    go_wp2_with fail
    go_loopw [3] (fun i wr => ∃ k n : Nat, i = .int .i64 k ∧ k ≤ l ∧ wr = w.drewN n ∧ ∀ j, k ≤ j → j < l → ds.getD j 0 ≤ ds.getD (j + 1) 0) (fun i _ => (intOf i).toNat)
    case atStart => exact ⟨l, 0, by go_num, Nat.le_refl _, rfl, fun j h1 h2 => by omega⟩
    case round =>
      obtain ⟨k, n, rfl, hk, rfl, hpre⟩ := hrel
      have HP := Lib.hid hpre; clear hpre
      rcases k with _ | m
      · have hs := Lib.hid (sortB_true ds fun j hj => HP.out j (Nat.zero_le _) (by have := HL.out; omega))
        go_wp2_with fail
        go_ret
        exact ⟨by rw [hs.out]; rfl, _, rfl⟩
      · have hml : m + 1 < ds.length := by have := HL.out; omega
        obtain ⟨b1, o1, c1, hv1, hc1, -⟩ := H.out.at m (by omega)
        obtain ⟨b2, o2, c2, hv2, hc2, -⟩ := H.out.at (m + 1) hml
        simp only [Value.slice.injEq, true_and] at hv1 hv2
        obtain ⟨rfl, rfl⟩ := hv1
        obtain ⟨hv2, -⟩ := hv2
        simp only [Option.some.injEq, Addr.mk.injEq, and_true] at hv2
        obtain ⟨rfl, rfl⟩ := hv2
        rw [show ds[m] = ds.getD m 0 by simp [show m < ds.length by omega]] at hc1
        rw [show ds[m + 1] = ds.getD (m + 1) 0 by simp [hml]] at hc2
        have HN := Lib.hid (sortB_false ds m hml)
        have HPS : Hid (¬ ds.getD (m + 1) 0 < ds.getD m 0 → ∀ j, m ≤ j → j < l → ds.getD j 0 ≤ ds.getD (j + 1) 0) := fun h j h1 h2 => by
          by_cases e : j = m
          · subst e; omega
          · exact HP.out j (by omega) h2
        have e0 : (((m + 1 : Nat)) : Int) = (m : Int) + 1 := rfl
        rw [e0]
        clear e0 hml
        have s1 : IntKind.i64.wrap ((m : Int) + 1 - 1) = m := by rw [IntWalk.i64_in _ (by omega)]; omega
        have s2 : (0 : Int) ≤ (m : Int) + 1 := by omega
        have s3 : ((m : Int) + 1).toNat = m + 1 := by omega
        have s4 : m < l := by omega
        have s5 : m < l + 1 := by omega
        have s6 : (m : Int) < (l : Int) + 1 := by omega
        generalize ds.getD m 0 = x at *
        generalize ds.getD (m + 1) 0 = y at *
        cases hlt : decide (y < x)
        · have HR := Lib.hid (HPS.out (by simpa using hlt))
          have L := Lib.hid (fun w => lessI_c y x w)
          rw [hlt] at L
          clear hlt
          go_wp2_with fail
          go_quiet ((go_at_call 108; exact quiet_behind_same (L.out _)))
          go_wp2_with fail
          go_roundw
          case rel => exact ⟨m, _, by go_num, by omega, rfl, HR.out⟩
          case measure => simp [intOf]
        · have HR := Lib.hid (HN.out (by simpa using hlt))
          have L := Lib.hid (fun w => lessI_c y x w)
          rw [hlt] at L
          clear hlt
          go_wp2_with fail
          go_quiet ((go_at_call 108; exact quiet_behind_same (L.out _)))
          go_wp2_with fail
          go_ret
          exact ⟨by rw [HR.out]; rfl, _, by first | rfl | (simp only [World.drewN_drewN]; rfl)⟩
theorem isStem_c (d : Int) (w : World) : Calls Tryz.prog 77 #[.int .i64 d] w fun e w' => e = .returned (.bool (stemB d)) ∧ w = w' := by
  go_enter Tryz.func77, Tryz.ntmps77
  go_wp2_with (go_at_call 80; refine (in_c _ _ _ _).mono ?_; rintro e w' ⟨rfl, rfl⟩)
  go_ret
  exact ⟨rfl, rfl⟩
theorem enters_isStem : Enters Tryz.prog 77 := fun args w => by kernel_rfl
set_option maxRecDepth 100000 in
set_option maxHeartbeats 1000000 in
theorem isTable1_c (u d : Value) (r ds : List Int) (gl gm : Nat) (w : World) (h : IntS w.heap u r) (hD : IntS w.heap d ds) (hl : w.cell? ⟨gl, 0, none⟩ = some (.int .i64 ((ds.length : Int) - 1))) (hm : w.cell? ⟨gm, 0, none⟩ = some d)
    (hst : ds.all stemB = true) :
    Calls Tryz.prog 79 #[u, .pointer (some ⟨gl, 0, none⟩), .pointer (some ⟨gm, 0, none⟩)] w fun e w' => e = .returned (.bool (cellB ds r)) ∧ ∃ n, w' = w.drewN n := by
  obtain ⟨ao, c, rfl, hm1⟩ := h.len
  by_cases h3 : r.length = 3
  · obtain ⟨p, q, s, rfl⟩ : ∃ p q s, r = [p, q, s] := by
      match r, h3 with
      | [p, q, s], _ => exact ⟨p, q, s, rfl⟩
    obtain ⟨b, off, cap, hv, hc0, -⟩ := h.at 0 (by simp)
    obtain ⟨b1, o1, c1, hv1, hc1, -⟩ := h.at 1 (by simp)
    obtain ⟨b2, o2, c2, hv2, hc2, -⟩ := h.at 2 (by simp)
    simp only [Value.slice.injEq, true_and] at hv hv1 hv2
    obtain ⟨rfl, rfl⟩ := hv
    obtain ⟨hv1, -⟩ := hv1
    obtain ⟨hv2, -⟩ := hv2
    simp only [Option.some.injEq, Addr.mk.injEq, and_true] at hv1 hv2
    obtain ⟨rfl, rfl⟩ := hv1
    obtain ⟨rfl, rfl⟩ := hv2
    simp only [List.getElem_cons_zero, List.getElem_cons_succ, Nat.add_zero] at hc0 hc1 hc2
    have HC : Hid (cellB ds [p, q, s] = (decide (1 ≤ p) && decide (0 ≤ q) && decide (q < ds.length) && decide (0 ≤ s) && decide (s < ds.length) && decide (ds.getD s.toNat 0 = ds.getD q.toNat 0 + p))) := by
      show _ = _
      simp [cellB]
    have HP := Lib.hid (fun (w : World) => in_c p 1 20 w)
    have HQ := Lib.hid (fun (w : World) => in_c q 0 ((ds.length : Int) - 1) w)
    have HS := Lib.hid (fun (w : World) => in_c s 0 ((ds.length : Int) - 1) w)
    have HX : Hid (cellB ds [p, q, s] = true → p ≤ 20) := fun hh => by
      rw [HC.out] at hh
      simp only [Bool.and_eq_true, decide_eq_true_eq] at hh
      have st : ∀ i : Nat, 0 ≤ ds.getD i 0 ∧ ds.getD i 0 ≤ 20 := fun i => by
        by_cases hi : i < ds.length
        · have := List.all_eq_true.1 hst ds[i] (List.getElem_mem hi)
          simp only [stemB, Bool.and_eq_true, decide_eq_true_eq] at this
          rw [show ds.getD i 0 = ds[i] by simp [hi]]; exact this
        · rw [show ds.getD i 0 = 0 by simp [show ds.length ≤ i by omega]]; omega
      have a1 := st s.toNat; have a2 := st q.toNat
      omega
    have HD := Lib.hid hD
    have HST := Lib.hid hst
    have HM1 := Lib.hid hm1
    clear h hD hst hm1 h3
    cases hA : (decide (1 ≤ p) && decide (p ≤ 20))
    · have e1 : cellB ds [p, q, s] = false := by
        cases e : cellB ds [p, q, s]
        · rfl
        · have h1 := HX.out e
          rw [HC.out] at e
          simp only [Bool.and_eq_true, decide_eq_true_eq] at e
          simp only [Bool.and_eq_false_iff, decide_eq_false_iff_not] at hA
          omega
      rw [e1]
      rw [hA] at HP
      clear e1 hA HX HC
      go_enter Tryz.func79, Tryz.ntmps79
      go_wp2_with fail
      go_quiet ((go_at_call 80; exact quiet_same (HP.out _)))
      go_wp2_with fail
      go_ret
      exact ⟨rfl, _, rfl⟩
    · cases hB : (decide (0 ≤ q) && decide (q ≤ (ds.length : Int) - 1))
      · have e1 : cellB ds [p, q, s] = false := by
          cases e : cellB ds [p, q, s]
          · rfl
          · rw [HC.out] at e
            simp only [Bool.and_eq_true, decide_eq_true_eq] at e
            simp only [Bool.and_eq_false_iff, decide_eq_false_iff_not] at hB
            omega
        rw [e1]
        rw [hA] at HP
        rw [hB] at HQ
        clear e1 hA hB HX HC
        go_enter Tryz.func79, Tryz.ntmps79
        go_wp2_with fail
        go_quiet ((go_at_call 80; first | (with_reducible exact quiet_same (HP.out _)) | (with_reducible exact quiet_same (HQ.out _))))
        go_wp2_with fail
        go_ret
        exact ⟨rfl, _, rfl⟩
      · cases hC : (decide (0 ≤ s) && decide (s ≤ (ds.length : Int) - 1))
        · have e1 : cellB ds [p, q, s] = false := by
            cases e : cellB ds [p, q, s]
            · rfl
            · rw [HC.out] at e
              simp only [Bool.and_eq_true, decide_eq_true_eq] at e
              simp only [Bool.and_eq_false_iff, decide_eq_false_iff_not] at hC
              omega
          rw [e1]
          rw [hA] at HP
          rw [hB] at HQ
          rw [hC] at HS
          clear e1 hA hB hC HX HC
          go_enter Tryz.func79, Tryz.ntmps79
          go_wp2_with fail
          go_quiet ((go_at_call 80; first | (with_reducible exact quiet_same (HP.out _)) | (with_reducible exact quiet_same (HQ.out _)) | (with_reducible exact quiet_same (HS.out _))))
          go_wp2_with fail
          go_ret
          exact ⟨rfl, _, rfl⟩
        · rw [hA] at HP
          rw [hB] at HQ
          rw [hC] at HS
          simp only [Bool.and_eq_true, decide_eq_true_eq] at hA hB hC
          obtain ⟨x, rfl⟩ := Int.eq_ofNat_of_zero_le hB.1
          obtain ⟨y, rfl⟩ := Int.eq_ofNat_of_zero_le hC.1
          have hx : x < ds.length := by omega
          have hy : y < ds.length := by omega
          have e1 : Hid (cellB ds [p, (x : Int), (y : Int)] = (ds.getD y 0 == ds.getD x 0 + p)) := by
            show _ = _
            rw [HC.out]
            simp [hA.1, hx, hy]
            exact rfl
          have hst := HST.out
          have st : ∀ i : Nat, i < ds.length → 0 ≤ ds.getD i 0 ∧ ds.getD i 0 ≤ 20 := fun i hi => by
            have := List.all_eq_true.1 hst ds[i] (List.getElem_mem hi)
            simp only [stemB, Bool.and_eq_true, decide_eq_true_eq] at this
            rw [show ds.getD i 0 = ds[i] by simp [hi]]; exact this
          have sx := st x hx
          have sy := st y hy
          obtain ⟨b3, o3, c3, hv3, hd1, -⟩ := HD.out.at x hx
          obtain ⟨b4, o4, c4, hv4, hd2, -⟩ := HD.out.at y hy
          subst hv3
          simp only [Value.slice.injEq, true_and] at hv4
          obtain ⟨hv4, -⟩ := hv4
          simp only [Option.some.injEq, Addr.mk.injEq, and_true] at hv4
          obtain ⟨rfl, rfl⟩ := hv4
          rw [show ds[x] = ds.getD x 0 by simp [hx]] at hd1
          rw [show ds[y] = ds.getD y 0 by simp [hy]] at hd2
          have hp1 := hA.1; have hp2 := hA.2
          clear hA hB hC HX HC HST HD hst st
          generalize ds.getD x 0 = X at *
          generalize ds.getD y 0 = Y at *
          have t1 : IntKind.i64.wrap (X + p) = X + p := IntWalk.i64_in _ (by omega)
          have hxi : (x : Int) < ds.length := by omega
          have hyi : (y : Int) < ds.length := by omega
          go_enter Tryz.func79, Tryz.ntmps79
          go_wp2_with fail
          go_quiet ((go_at_call 80; first | (with_reducible exact quiet_same (HP.out _)) | (with_reducible exact quiet_same (HQ.out _)) | (with_reducible exact quiet_same (HS.out _))))
          go_wp2_with fail
          go_quiet (fail)
          go_wp2_with fail
          go_ret
          exact ⟨by rw [e1.out]; rfl, _, by first | rfl | (simp only [World.drewN_drewN]; rfl)⟩
  · have t1 := (neB (show ((r.length : Nat) : Int) ≠ 3 by omega)).2
    have e1 : cellB ds r = false := by simp [cellB, h3]
    rw [e1]
    clear e1
    go_enter Tryz.func79, Tryz.ntmps79
    go_wp2_with fail
    go_quiet (fail)
    go_wp2_with fail
    go_ret
    exact ⟨rfl, _, rfl⟩
theorem enters_isTable1 : Enters Tryz.prog 79 := fun args w => by kernel_rfl
set_option maxHeartbeats 1000000 in
theorem isTable_c (d a : Value) (ds : List Int) (act : List (List Int)) (w : World) (h : ModS w.heap d a ds act) :
    Calls Tryz.prog 49 #[.agg #[d, a]] w fun e w' => e = .returned (.bool (modT ds act)) ∧ Below w.heap.size w w' := by
  have hb : Below w.heap.size w (w.alloc (.cells #[d, a] 32)) := (Below.refl _ _).alloc (Nat.le_refl _) _
  have V := two_new w d a 32
  have hM := h.same hb.block
  have hv := h.1.len
  obtain ⟨ao, ac, hv, hm⟩ := hv
  obtain ⟨bo, bc, hv2, hm2⟩ := h.2.len
  have HT : Hid (modT ds act = (decide (ds.length ≤ 16) && ds.all stemB && sortB ds && ascB act && act.all (cellB ds))) := rfl
  have A := Lib.hid (fun (w : World) (h : IntS w.heap d ds) => all_c d ds 77 #[] stemB w h enters_isStem (fun w1 _ x _ => (isStem_c x w1).mono fun _ _ ⟨he, hw⟩ => ⟨he, 0, hw.symm⟩))
  have S := Lib.hid (fun (w : World) (h : IntS w.heap d ds) => (sortedI_c d ds w h).mono fun e w' ⟨he, n, hn⟩ => (⟨he, by rw [hn]; exact below_drewN n (Below.refl _ _)⟩ : e = _ ∧ Below w.heap.size w w'))
  have R := Lib.hid (fun (w : World) (h : IntSS w.heap a act) => (rising_c a act w h).mono fun e w' ⟨he, n, hn⟩ => (⟨he, by rw [hn]; exact below_drewN n (Below.refl _ _)⟩ : e = _ ∧ Below w.heap.size w w'))
  have C := Lib.hid (fun (w1 : World) (gl : Nat) (h1 : IntS w1.heap d ds) (h2 : IntSS w1.heap a act) (hl : w1.cell? ⟨gl, 0, none⟩ = some (.int .i64 ((ds.length : Int) - 1))) (hm : w1.cell? ⟨w.heap.size, 0, none⟩ = some d) (hst : ds.all stemB = true) =>
    allSS_c a act 79 #[.pointer (some ⟨gl, 0, none⟩), .pointer (some ⟨w.heap.size, 0, none⟩)] (cellB ds) w1 h2 enters_isTable1 (fun w2 hb2 u xs hx hu =>
      (isTable1_c u d xs ds gl w.heap.size w2 hu (h1.same hb2.block) ((hb2.cell (World.block_lt_of_cell? _ _ hl)).trans hl) ((hb2.cell (World.block_lt_of_cell? _ _ hm)).trans hm) hst).mono fun _ _ ⟨he, n, hn⟩ => ⟨he, by rw [hn]; exact below_drewN n (Below.refl _ _)⟩))
  subst hv; subst hv2
  have HM := Lib.hid hM; have HB := Lib.hid hb; have HV := Lib.hid V; clear h hM hb V
  by_cases h1 : ds.length ≤ 16
  · have t1 : decide (ds.length ≤ 16) = true := by simpa using h1
    rw [t1, Bool.true_and] at HT
    have t2 : decide ((16 : Int) < (ds.length : Int)) = false := by simp; omega
    have t3 : decide (16 < ds.length) = false := by simp; omega
    cases hA : ds.all stemB
    · rw [hA] at A HT
      have e : modT ds act = false := by rw [HT.out]; rfl
      rw [e]
      clear hA e C
      have k1 := HV.out.1; have k2 := HV.out.2
      go_enter Tryz.func49, Tryz.ntmps49
      go_wp2_with (first | (go_at_call 76; refine (A.out _ HM.out.1).mono ?_; rintro e w1 ⟨rfl, hb1⟩; have k3 := (hb1.cell (World.block_lt_of_cell? _ _ k1)).trans k1; have k4 := (hb1.cell (World.block_lt_of_cell? _ _ k2)).trans k2; have HB1 := Lib.hid (HB.out.trans (hb1.mono HB.out.size)); have HM1 := Lib.hid (HM.out.same hb1.block); clear hb1))
      go_ret
      exact ⟨rfl, HB1.out⟩
    · have HA := Lib.hid hA
      rw [hA] at A HT
      rw [Bool.true_and] at HT
      clear hA
      cases hS : sortB ds
      · rw [hS] at S HT
        have e : modT ds act = false := by rw [HT.out]; rfl
        rw [e]
        clear hS e C
        have k1 := HV.out.1; have k2 := HV.out.2
        go_enter Tryz.func49, Tryz.ntmps49
        go_wp2_with (first | (go_at_call 76; refine (A.out _ HM.out.1).mono ?_; rintro e w1 ⟨rfl, hb1⟩; have k3 := (hb1.cell (World.block_lt_of_cell? _ _ k1)).trans k1; have k4 := (hb1.cell (World.block_lt_of_cell? _ _ k2)).trans k2; have HB1 := Lib.hid (HB.out.trans (hb1.mono HB.out.size)); have HM1 := Lib.hid (HM.out.same hb1.block); clear hb1) | (go_at_call 78; refine (S.out _ HM1.out.1).mono ?_; rintro e w2 ⟨rfl, hb2⟩; have k5 := (hb2.cell (World.block_lt_of_cell? _ _ k3)).trans k3; have k6 := (hb2.cell (World.block_lt_of_cell? _ _ k4)).trans k4; have HB2 := Lib.hid (HB1.out.trans (hb2.mono HB1.out.size)); have HM2 := Lib.hid (HM1.out.same hb2.block); clear hb2))
        go_ret
        exact ⟨rfl, HB2.out⟩
      · rw [hS] at S HT
        rw [Bool.true_and] at HT
        clear hS
        cases hR : ascB act
        · rw [hR] at R HT
          have e : modT ds act = false := by rw [HT.out]; rfl
          rw [e]
          clear hR e C
          have k1 := HV.out.1; have k2 := HV.out.2
          go_enter Tryz.func49, Tryz.ntmps49
          go_wp2_with (first | (go_at_call 76; refine (A.out _ HM.out.1).mono ?_; rintro e w1 ⟨rfl, hb1⟩; have k3 := (hb1.cell (World.block_lt_of_cell? _ _ k1)).trans k1; have k4 := (hb1.cell (World.block_lt_of_cell? _ _ k2)).trans k2; have HB1 := Lib.hid (HB.out.trans (hb1.mono HB.out.size)); have HM1 := Lib.hid (HM.out.same hb1.block); clear hb1) | (go_at_call 78; refine (S.out _ HM1.out.1).mono ?_; rintro e w2 ⟨rfl, hb2⟩; have k5 := (hb2.cell (World.block_lt_of_cell? _ _ k3)).trans k3; have k6 := (hb2.cell (World.block_lt_of_cell? _ _ k4)).trans k4; have HB2 := Lib.hid (HB1.out.trans (hb2.mono HB1.out.size)); have HM2 := Lib.hid (HM1.out.same hb2.block); clear hb2) | (go_at_call 65; refine (R.out _ HM2.out.2).mono ?_; rintro e w3 ⟨rfl, hb3⟩; have k7 := (hb3.cell (World.block_lt_of_cell? _ _ k5)).trans k5; have k8 := (hb3.cell (World.block_lt_of_cell? _ _ k6)).trans k6; have hsz := World.block_lt_of_cell? _ _ k7; simp only at hsz; have HB3 := Lib.hid (HB2.out.trans (hb3.mono HB2.out.size)); have HM3 := Lib.hid (HM2.out.same hb3.block); clear hb3))
          go_ret
          exact ⟨rfl, HB3.out⟩
        · rw [hR] at R HT
          rw [Bool.true_and] at HT
          clear hR
          have k1 := HV.out.1; have k2 := HV.out.2
          go_enter Tryz.func49, Tryz.ntmps49
          go_wp2_with (first | (go_at_call 76; refine (A.out _ HM.out.1).mono ?_; rintro e w1 ⟨rfl, hb1⟩; have k3 := (hb1.cell (World.block_lt_of_cell? _ _ k1)).trans k1; have k4 := (hb1.cell (World.block_lt_of_cell? _ _ k2)).trans k2; have HB1 := Lib.hid (HB.out.trans (hb1.mono HB.out.size)); have HM1 := Lib.hid (HM.out.same hb1.block); clear hb1) | (go_at_call 78; refine (S.out _ HM1.out.1).mono ?_; rintro e w2 ⟨rfl, hb2⟩; have k5 := (hb2.cell (World.block_lt_of_cell? _ _ k3)).trans k3; have k6 := (hb2.cell (World.block_lt_of_cell? _ _ k4)).trans k4; have HB2 := Lib.hid (HB1.out.trans (hb2.mono HB1.out.size)); have HM2 := Lib.hid (HM1.out.same hb2.block); clear hb2) | (go_at_call 65; refine (R.out _ HM2.out.2).mono ?_; rintro e w3 ⟨rfl, hb3⟩; have k7 := (hb3.cell (World.block_lt_of_cell? _ _ k5)).trans k5; have k8 := (hb3.cell (World.block_lt_of_cell? _ _ k6)).trans k6; have hsz := World.block_lt_of_cell? _ _ k7; simp only at hsz; have HB3 := Lib.hid (HB2.out.trans (hb3.mono HB2.out.size)); have HM3 := Lib.hid (HM2.out.same hb3.block); clear hb3))
          have HY := alloc_old w3 (.cells #[.int .i64 ((ds.length : Int) - 1)] 2)
          have hcl : (w3.alloc (.cells #[.int .i64 ((ds.length : Int) - 1)] 2)).cell? ⟨w3.heap.size, 0, none⟩ = some (.int .i64 ((ds.length : Int) - 1)) := by rw [World.cell?]; simp only [heap_alloc_new]; rfl
          refine (C.out _ w3.heap.size (HM3.out.1.same HY) (HM3.out.2.same HY) hcl ?_ HA.out).mono ?_
          · rw [World.cell?_of_block (HY _ hsz)]; exact k7
          rintro e w4 ⟨rfl, hb4⟩
          have HB4 := Lib.hid (((HB3.out.alloc HB3.out.size (.cells #[.int .i64 ((ds.length : Int) - 1)] 2))).trans (hb4.mono (by have := HB3.out.size; simp; omega)))
          clear hb4 HY hcl
          go_wp2_with fail
          go_ret
          exact ⟨by rw [HT.out]; rfl, HB4.out⟩
  · have t1 : decide (ds.length ≤ 16) = false := by simpa using h1
    have t2 : decide (16 < ds.length) = true := by simp; omega
    have e : modT ds act = false := by rw [HT.out, t1]; rfl
    rw [e]
    clear e C
    have k1 := HV.out.1; have k2 := HV.out.2
    go_enter Tryz.func49, Tryz.ntmps49
    go_wp2_with fail
    go_ret
    exact ⟨rfl, HB.out⟩
theorem modT_no1 (ds : List Int) (act : List (List Int)) (j : Nat) (hj : j < ds.length) (h : stemB (ds.getD j 0) = false) : modT ds act = false := by
  have : ds.all stemB = false := by
    rw [List.all_eq_false]
    exact ⟨ds[j], List.getElem_mem hj, by rw [show ds[j] = ds.getD j 0 by simp [hj], h]; decide⟩
  simp [modT, this]
theorem modT_no2 (ds : List Int) (act : List (List Int)) (m : Nat) (h : m + 1 < ds.length) (hlt : ds.getD (m + 1) 0 < ds.getD m 0) : modT ds act = false := by
  simp [modT, sortB_false ds m h hlt]
theorem modT_no3 (ds : List Int) (act : List (List Int)) (j : Nat) (hj : j < act.length) (h : cellB ds (act.getD j []) = false) : modT ds act = false := by
  have : act.all (cellB ds) = false := by
    rw [List.all_eq_false]
    exact ⟨act[j], List.getElem_mem hj, by rw [show act[j] = act.getD j [] by simp [hj], h]; decide⟩
  simp only [modT, this, Bool.and_false]
theorem all_getD {α : Type} (l : List α) (z : α) (p : α → Bool) (h : ∀ j, j < l.length → p (l.getD j z) = true) : l.all p = true := by
  rw [List.all_eq_true]
  intro x hx
  obtain ⟨j, hj, rfl⟩ := List.getElem_of_mem hx
  have := h j hj
  rwa [show l.getD j z = l[j] by simp [hj]] at this
theorem modT_yes (ds : List Int) (act : List (List Int)) (h1 : ds.length ≤ 16) (h2 : ascB act = true) (h3 : ∀ j, j < ds.length → stemB (ds.getD j 0) = true) (h4 : ∀ j, j + 1 < ds.length → ds.getD j 0 ≤ ds.getD (j + 1) 0) (h5 : ∀ j, j < act.length → cellB ds (act.getD j []) = true) : modT ds act = true := by
  simp only [modT, h1, h2, all_getD ds 0 stemB h3, sortB_true ds h4, all_getD act [] (cellB ds) h5]; rfl
set_option maxRecDepth 100000 in
set_option maxHeartbeats 2000000 in
theorem l11Shape_c (d a : Value) (ds : List Int) (act : List (List Int)) (w : World) (h : ModS w.heap d a ds act) :
    Calls Tryz.prog 45 #[.agg #[d, a]] w fun e w' => e = .returned (.bool (modT ds act)) ∧ Below w.heap.size w w' := by
  have hb : Below w.heap.size w (w.alloc (.cells #[d, a] 32)) := (Below.refl _ _).alloc (Nat.le_refl _) _
  have V := two_new w d a 32
  have hM := h.same hb.block
  obtain ⟨ao, ac, hv, hm⟩ := h.1.len
  obtain ⟨bo, bc, hv2, hm2⟩ := h.2.len
  have R := Lib.hid (fun (w : World) (h : IntSS w.heap a act) => l01Ascending_c a act w h)
  subst hv; subst hv2
  have HM := Lib.hid hM; have HB := Lib.hid hb; have HV := Lib.hid V; clear h hM hb V
  by_cases h1 : ds.length ≤ 16
  · have t2 : decide ((16 : Int) < (ds.length : Int)) = false := by simp; omega
    have t3 : decide (16 < ds.length) = false := by simp; omega
    cases hR : ascB act
    · have e : modT ds act = false := by simp [modT, hR]
      rw [hR] at R
      rw [e]
      clear hR e
      have k1 := HV.out.1; have k2 := HV.out.2
      go_enter Tryz.func45, Tryz.ntmps45
      go_wp2_with (go_at_call 54; refine (R.out _ HM.out.2).mono ?_; rintro e w1 ⟨rfl, n1, rfl⟩)
      go_ret
      exact ⟨rfl, below_drewN _ HB.out⟩
    · have HR := Lib.hid hR
      rw [hR] at R
      clear hR
      have k1 := HV.out.1; have k2 := HV.out.2
      go_enter Tryz.func45, Tryz.ntmps45
      go_wp2_with (go_at_call 54; refine (R.out _ HM.out.2).mono ?_; rintro e w1 ⟨rfl, n1, rfl⟩)
      go_loopw [3] (fun i wr => ∃ k n : Nat, i = .int .i64 k ∧ k ≤ ds.length ∧ wr = (w.alloc (.cells #[.slice ao ds.length ac, .slice bo act.length bc] 32)).drewN n ∧ (∀ j, j < k → stemB (ds.getD j 0) = true) ∧ ∀ j, j + 1 < k → ds.getD j 0 ≤ ds.getD (j + 1) 0) (fun i _ => ds.length - (intOf i).toNat)
      case atStart => exact ⟨0, n1, rfl, Nat.zero_le _, rfl, fun j hj => by omega, fun j hj => by omega⟩
      case round =>
        obtain ⟨k, n, rfl, hk, rfl, hq1, hq2⟩ := hrel
        have Q1 := Lib.hid hq1; have Q2 := Lib.hid hq2; clear hq1 hq2
        by_cases hlt : k < ds.length
        · obtain ⟨b1, o1, c1, hv1, hc1, -⟩ := HM.out.1.at k hlt
          simp only [Value.slice.injEq, true_and] at hv1
          obtain ⟨rfl, rfl⟩ := hv1
          rw [show ds[k] = ds.getD k 0 by simp [hlt]] at hc1
          have HI := Lib.hid (fun (w : World) => l01In_c (ds.getD k 0) 0 20 w)
          cases hst : stemB (ds.getD k 0)
          · have HE := Lib.hid (modT_no1 ds act k hlt hst)
            unfold stemB at hst
            rw [hst] at HI
            clear hst
            generalize ds.getD k 0 = x at *
            go_wp2_with fail
            go_quiet ((go_at_call 36; exact quiet_behind_same (HI.out _)))
            go_wp2_with fail
            go_ret
            exact ⟨by rw [HE.out]; rfl, below_drewN _ (below_drewN _ HB.out)⟩
          · have HST := Lib.hid hst
            unfold stemB at hst
            rw [hst] at HI
            clear hst
            rcases k with _ | m
            · have E : Hid ((∀ j, j < 0 + 1 → stemB (ds.getD j 0) = true) ∧ ∀ j, j + 1 < 0 + 1 → ds.getD j 0 ≤ ds.getD (j + 1) 0) := ⟨(fun j hj => by rw [show j = 0 by omega]; exact HST.out), fun j hj => by omega⟩
              generalize ds.getD 0 0 = x at *
              rw [Nat.add_zero] at hc1
              go_wp2_with fail
              go_quiet ((go_at_call 36; exact quiet_behind_same (HI.out _)))
              go_wp2_with fail
              go_roundw
              case rel => exact ⟨0 + 1, _, by go_num, by omega, by first | rfl | (simp only [World.drewN_drewN]; rfl), E.out.1, E.out.2⟩
              case measure => simp [intOf]; omega
            · obtain ⟨b2, o2, c2, hv2, hc2, -⟩ := HM.out.1.at m (by omega)
              simp only [Value.slice.injEq, true_and] at hv2
              obtain ⟨hv2, -⟩ := hv2
              simp only [Option.some.injEq, Addr.mk.injEq, and_true] at hv2
              obtain ⟨rfl, rfl⟩ := hv2
              rw [show ds[m]'(by omega) = ds.getD m 0 by simp [show m < ds.length by omega]] at hc2
              have E : Hid (¬ ds.getD (m + 1) 0 < ds.getD m 0 → (∀ j, j < m + 1 + 1 → stemB (ds.getD j 0) = true) ∧ ∀ j, j + 1 < m + 1 + 1 → ds.getD j 0 ≤ ds.getD (j + 1) 0) := fun hh => ⟨(fun j hj => by
                by_cases e : j = m + 1
                · rw [e]; exact HST.out
                · exact Q1.out j (by omega)), (fun j hj => by
                by_cases e : j = m
                · subst e; omega
                · exact Q2.out j (by omega))⟩
              have HN := Lib.hid (modT_no2 ds act m hlt)
              have e0 : (((m + 1 : Nat)) : Int) = (m : Int) + 1 := rfl
              rw [e0]
              clear e0
              have s1 : IntKind.i64.wrap ((m : Int) + 1 - 1) = m := by rw [IntWalk.i64_in _ (by omega)]; omega
              have s2 : (0 : Int) ≤ (m : Int) + 1 := by omega
              have s3 : ((m : Int) + 1).toNat = m + 1 := by omega
              have s4 : (m : Int) + 1 < ds.length := by omega
              have s5 : decide ((0 : Int) < (m : Int) + 1) = true := by simp
              have s6 : (m : Int) < ds.length := by omega
              have s7 : m < ds.length := by omega
              generalize ds.getD (m + 1) 0 = y at *
              generalize ds.getD m 0 = x at *
              cases hyx : decide (y < x)
              · have E2 := Lib.hid (E.out (by simpa using hyx))
                clear E
                go_wp2_with fail
                go_quiet ((go_at_call 36; exact quiet_behind_same (HI.out _)))
                go_wp2_with fail
                go_roundw
                case rel => exact ⟨m + 1 + 1, _, by go_num, by omega, by first | rfl | (simp only [World.drewN_drewN]; rfl), E2.out.1, E2.out.2⟩
                case measure => simp [intOf]; omega
              · have E2 := Lib.hid (HN.out (by simpa using hyx))
                clear E
                go_wp2_with fail
                go_quiet ((go_at_call 36; exact quiet_behind_same (HI.out _)))
                go_wp2_with fail
                go_ret
                exact ⟨by rw [E2.out]; rfl, below_drewN _ (below_drewN _ HB.out)⟩
        · obtain rfl : k = ds.length := by omega
          go_wp2_with fail
          obtain ⟨n0, hn0⟩ : ∃ n0, n0 = n := ⟨n, rfl⟩
          go_loopw [5, 6] (fun i _ wr => ∃ k n : Nat, i = .int .i64 k ∧ k ≤ act.length ∧ wr = (w.alloc (.cells #[.slice ao ds.length ac, .slice bo act.length bc] 32)).drewN n ∧ (∀ j, j < k → cellB ds (act.getD j []) = true)) (fun i _ _ => act.length - (intOf i).toNat)
          case atStart => exact ⟨0, n, rfl, Nat.zero_le _, rfl, fun j hj => by omega⟩
          case round =>
            obtain ⟨k, n, rfl, hk, rfl, hq⟩ := hrel
            have Q := Lib.hid hq; clear hq hn0
            by_cases hlt : k < act.length
            · obtain ⟨b1, o1, c1, u, hv1, hc1, hu, -⟩ := HM.out.2.at k hlt
              simp only [Value.slice.injEq, true_and] at hv1
              obtain ⟨rfl, rfl⟩ := hv1
              rw [show act[k] = act.getD k [] by simp [hlt]] at hu
              have HE := Lib.hid (modT_no3 ds act k hlt)
              have HQS : Hid (cellB ds (act.getD k []) = true → ∀ j, j < k + 1 → cellB ds (act.getD j []) = true) := fun hh j hj => by
                by_cases e : j = k
                · rw [e]; exact hh
                · exact Q.out j (by omega)
              generalize act.getD k [] = r at *
              obtain ⟨ua, uc, rfl, hm1⟩ := hu.len
              have HU := Lib.hid hu; have HM1 := Lib.hid hm1
              clear hu hm1
              by_cases h3 : r.length = 3
              · obtain ⟨p, q, s, rfl⟩ : ∃ p q s, r = [p, q, s] := by
                  match r, h3 with
                  | [p, q, s], _ => exact ⟨p, q, s, rfl⟩
                obtain ⟨b, off, cap, hv, hc0, -⟩ := HU.out.at 0 (by simp)
                obtain ⟨b1, o1, c1, hv1, hc2, -⟩ := HU.out.at 1 (by simp)
                obtain ⟨b2, o2, c2, hv2, hc3, -⟩ := HU.out.at 2 (by simp)
                simp only [Value.slice.injEq, true_and] at hv hv1 hv2
                obtain ⟨rfl, rfl⟩ := hv
                obtain ⟨hv1, -⟩ := hv1
                obtain ⟨hv2, -⟩ := hv2
                simp only [Option.some.injEq, Addr.mk.injEq, and_true] at hv1 hv2
                obtain ⟨rfl, rfl⟩ := hv1
                obtain ⟨rfl, rfl⟩ := hv2
                simp only [List.getElem_cons_zero, List.getElem_cons_succ, Nat.add_zero] at hc0 hc2 hc3
                have HC : Hid (cellB ds [p, q, s] = (decide (1 ≤ p) && decide (0 ≤ q) && decide (q < ds.length) && decide (0 ≤ s) && decide (s < ds.length) && decide (ds.getD s.toNat 0 = ds.getD q.toNat 0 + p))) := by
                  show _ = _
                  simp [cellB]
                have HQ := Lib.hid (fun (w : World) => l01In_c q 0 ((ds.length : Int) - 1) w)
                have HS := Lib.hid (fun (w : World) => l01In_c s 0 ((ds.length : Int) - 1) w)
                have sl : IntKind.i64.wrap ((ds.length : Int) - 1) = (ds.length : Int) - 1 := IntWalk.i64_in _ (by omega)
                clear HU h3
                by_cases hA : 1 ≤ p
                · have a1 : decide (p < 1) = false := by simp; omega
                  cases hB : (decide (0 ≤ q) && decide (q ≤ (ds.length : Int) - 1))
                  · have HE2 : Hid (modT ds act = false) := HE.out (by
                      cases e : cellB ds [p, q, s]
                      · rfl
                      · rw [HC.out] at e
                        simp only [Bool.and_eq_true, decide_eq_true_eq] at e
                        simp only [Bool.and_eq_false_iff, decide_eq_false_iff_not] at hB
                        omega)
                    rw [hB] at HQ
                    clear hB HC hA
                    go_wp2_with fail
                    go_quiet ((go_at_call 36; first | (with_reducible exact quiet_behind_same (HQ.out _)) | (with_reducible exact quiet_behind_same (HS.out _))))
                    go_wp2_with fail
                    go_ret
                    exact ⟨by rw [HE2.out]; rfl, below_drewN _ (below_drewN _ HB.out)⟩
                  · cases hC : (decide (0 ≤ s) && decide (s ≤ (ds.length : Int) - 1))
                    · have HE2 : Hid (modT ds act = false) := HE.out (by
                        cases e : cellB ds [p, q, s]
                        · rfl
                        · rw [HC.out] at e
                          simp only [Bool.and_eq_true, decide_eq_true_eq] at e
                          simp only [Bool.and_eq_false_iff, decide_eq_false_iff_not] at hC
                          omega)
                      rw [hB] at HQ
                      rw [hC] at HS
                      clear hB hC HC hA
                      go_wp2_with fail
                      go_quiet ((go_at_call 36; first | (with_reducible exact quiet_behind_same (HQ.out _)) | (with_reducible exact quiet_behind_same (HS.out _))))
                      go_wp2_with fail
                      go_ret
                      exact ⟨by rw [HE2.out]; rfl, below_drewN _ (below_drewN _ HB.out)⟩
                    · rw [hB] at HQ
                      rw [hC] at HS
                      simp only [Bool.and_eq_true, decide_eq_true_eq] at hB hC
                      obtain ⟨x, rfl⟩ := Int.eq_ofNat_of_zero_le hB.1
                      obtain ⟨y, rfl⟩ := Int.eq_ofNat_of_zero_le hC.1
                      have hx : x < ds.length := by omega
                      have hy : y < ds.length := by omega
                      have e1 : Hid (cellB ds [p, (x : Int), (y : Int)] = decide (ds.getD y 0 = ds.getD x 0 + p)) := by
                        show _ = _
                        rw [HC.out]
                        simp [hA, hx, hy]
                      have st : ∀ i : Nat, i < ds.length → 0 ≤ ds.getD i 0 ∧ ds.getD i 0 ≤ 20 := fun i hi => by
                        have := Q1.out i hi
                        simpa only [stemB, Bool.and_eq_true, decide_eq_true_eq] using this
                      have sx := st x hx
                      have sy := st y hy
                      obtain ⟨b3, o3, c3, hv3, hd1, -⟩ := HM.out.1.at x hx
                      obtain ⟨b4, o4, c4, hv4, hd2, -⟩ := HM.out.1.at y hy
                      simp only [Value.slice.injEq, true_and] at hv3
                      obtain ⟨rfl, rfl⟩ := hv3
                      simp only [Value.slice.injEq, true_and] at hv4
                      obtain ⟨hv4, -⟩ := hv4
                      simp only [Option.some.injEq, Addr.mk.injEq, and_true] at hv4
                      obtain ⟨rfl, rfl⟩ := hv4
                      rw [show ds[x] = ds.getD x 0 by simp [hx]] at hd1
                      rw [show ds[y] = ds.getD y 0 by simp [hy]] at hd2
                      clear hB hC st
                      generalize ds.getD x 0 = X at *
                      generalize ds.getD y 0 = Y at *
                      have tw : IntKind.i64.wrap (Y - X) = Y - X := IntWalk.i64_in _ (by omega)
                      have hxi : (x : Int) < ds.length := by omega
                      have hyi : (y : Int) < ds.length := by omega
                      by_cases hF : Y - X = p
                      · have f1 := (eqB hF).2
                        have E2 : Hid (∀ j, j < k + 1 → cellB ds (act.getD j []) = true) := HQS.out (by rw [e1.out]; simp; omega)
                        clear HC HQS HE hF
                        go_wp2_with fail
                        go_quiet ((go_at_call 36; first | (with_reducible exact quiet_behind_same (HQ.out _)) | (with_reducible exact quiet_behind_same (HS.out _))))
                        go_wp2_with fail
                        go_roundw
                        case rel => exact ⟨k + 1, _, by go_num, by omega, by first | rfl | (simp only [World.drewN_drewN]; rfl), E2.out⟩
                        case measure => simp [intOf]; omega
                      · have f1 := (neB hF).2
                        have HE2 : Hid (modT ds act = false) := HE.out (by rw [e1.out]; simp; omega)
                        clear HC HQS HE hF
                        go_wp2_with fail
                        go_quiet ((go_at_call 36; first | (with_reducible exact quiet_behind_same (HQ.out _)) | (with_reducible exact quiet_behind_same (HS.out _))))
                        go_wp2_with fail
                        go_ret
                        exact ⟨by rw [HE2.out]; rfl, below_drewN _ (below_drewN _ HB.out)⟩
                · have a1 : decide (p < 1) = true := by simp; omega
                  have HE2 : Hid (modT ds act = false) := HE.out (by simp [HC.out, hA])
                  clear HC hA HE HQS
                  go_wp2_with fail
                  go_quiet (fail)
                  go_wp2_with fail
                  go_ret
                  exact ⟨by rw [HE2.out]; rfl, below_drewN _ (below_drewN _ HB.out)⟩
              · have a1 := (neB (show ((r.length : Nat) : Int) ≠ 3 by omega)).2
                have HE2 : Hid (modT ds act = false) := HE.out (by simp [cellB, h3])
                clear h3 HE HQS
                go_wp2_with fail
                go_quiet (fail)
                go_wp2_with fail
                go_ret
                exact ⟨by rw [HE2.out]; rfl, below_drewN _ (below_drewN _ HB.out)⟩

            · obtain rfl : k = act.length := by omega
              have HE := Lib.hid (modT_yes ds act h1 HR.out Q1.out Q2.out Q.out)
              go_wp2_with fail
              go_ret
              exact ⟨by rw [HE.out]; rfl, below_drewN _ HB.out⟩
  · have e : modT ds act = false := by simp [modT, h1]
    have t2 : decide (16 < ds.length) = true := by simp; omega
    rw [e]
    clear e
    have k1 := HV.out.1; have k2 := HV.out.2
    go_enter Tryz.func45, Tryz.ntmps45
    go_wp2_with fail
    go_ret
    exact ⟨rfl, HB.out⟩
end Go.Proofs.YtalbbjhonkcbgaaGreatDoor

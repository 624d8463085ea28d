/- Going through all tables: of the program. -/
import Derived.Test.YtalbbjhonkcbgaaGreatLFill0
import Derived.Test.YtalbbjhonkcbgaaGreatLFin
import Derived.Deep.DeepCutAuto
namespace Go.Proofs.YtalbbjhonkcbgaaGreat
open Go.RowKit Go.Sort

theorem enters_finish : Enters Tryz.prog 128 := fun args w => by kernel_rfl
set_option maxRecDepth 100000 in
set_option maxHeartbeats 4000000 in
theorem fill_c {B D g m n : Nat} {rv sv cv : Value} {cus : List Value} (hm : m ≤ 20) (hn : n ≤ 20) : ∀ (k i j : Nat) (R S : List Int) (C O : List (List Int)) (ov : Value) (ous : List Value) (w : World), TabV w B D g rv sv cv ov cus ous R S C O →
    R.length = m → S.length = n → C.length = m → (∀ x ∈ C, x.length = n) → ZeroFrom n C (i * n + j) → Sm 1000000000000 R → Sm 1000000000000 S → (∀ x ∈ C, Sm 1000000000000 x) → k = m * n - (i * n + j) → (i < m ∨ m = 0) → i ≤ 20 → j ≤ n → O.length + (fillT m n k R S C).length < 4398046511104 →
    Calls Tryz.prog 114 #[.pointer (some ⟨g, 0, none⟩), .int .i64 i, .int .i64 j] w fun e w' => e = .returned (.tuple #[]) ∧ ∃ ov' ous', TabV w' B D g rv sv cv ov' cus ous' R S C (O ++ fillT m n k R S C) ∧ Below B w w' := by
  intro k
  induction k with
  | zero => 
    intro i j R S C O ov ous w h hR hS hC hrow hz sR sS sC hk hi hi2 hj hO
    have F := Lib.hid (finish_c w h (by omega) (fun x hx => by rw [hrow x hx, hS]) (by omega) (by omega) sR sS sC (by omega))
    rw [hR, hS] at F
    have c0 := h.c0; have c1 := h.c1
    obtain ⟨ra, rc, rfl, -⟩ := h.r.ints.len
    obtain ⟨sa, sc, rfl, -⟩ := h.s.ints.len
    rw [hR] at c0; rw [hS] at c1
    by_cases hjn : j = n
    · have t1 := (eqB (show (j : Int) = n by omega)).1
      have hw : IntKind.i64.wrap ((i : Int) + 1) = i + 1 := IntWalk.i64_in _ (by omega)
      have hge : m ≤ i + 1 ∨ n = 0 := by
        by_cases h0 : n = 0
        · exact .inr h0
        · by_cases hm0 : m ≤ i + 1
          · exact .inl hm0
          · have := place_lt (n := n) (j := 0) (show i + 1 < m by omega) (by omega); rw [Nat.add_mul] at this; omega
      clear hk hi hz hrow sR sS sC hO h
      by_cases hmi : m ≤ i + 1
      · have t2 : decide ((m : Int) ≤ (i : Int) + 1) = true := decide_eq_true (by omega)
        clear hge
        go_enter Tryz.func114, Tryz.ntmps114
        go_wp2_with (go_at_call 128; refine F.out.mono ?_; rintro e w2 ⟨rfl, ov', ous', hT', hb'⟩)
        refine bodyPost_ret (results_none rfl _ _ _) rfl ?_
        exact ⟨rfl, ov', ous', hT', hb'⟩
      · have t2 : decide ((m : Int) ≤ (i : Int) + 1) = false := decide_eq_false (by omega)
        have t3 := (eqB (show (n : Int) = 0 by omega)).1
        clear hge
        go_enter Tryz.func114, Tryz.ntmps114
        go_wp2_with (go_at_call 128; refine F.out.mono ?_; rintro e w2 ⟨rfl, ov', ous', hT', hb'⟩)
        refine bodyPost_ret (results_none rfl _ _ _) rfl ?_
        exact ⟨rfl, ov', ous', hT', hb'⟩
    · have t1 := (neB (show (j : Int) ≠ n by omega)).1
      have hmi : m ≤ i := by
        rcases Nat.lt_or_ge i m with e | e
        · have := place_lt (n := n) (j := j) e (by omega); omega
        · exact e
      have t2 : decide ((m : Int) ≤ (i : Int)) = true := decide_eq_true (by omega)
      clear hk hi hz hrow sR sS sC hO h
      go_enter Tryz.func114, Tryz.ntmps114
      go_wp2_with (go_at_call 128; refine F.out.mono ?_; rintro e w2 ⟨rfl, ov', ous', hT', hb'⟩)
      refine bodyPost_ret (results_none rfl _ _ _) rfl ?_
      exact ⟨rfl, ov', ous', hT', hb'⟩
  | succ k ih =>
    intro i j R S C O ov ous w h hR hS hC hrow hz sR sS sC hk hi hi2 hj hO
    have hP : i * n + j < m * n := by omega
    have hn0 : 0 < n := by
      rcases Nat.eq_zero_or_pos n with e | e
      · rw [e] at hP; omega
      · exact e
    have hm0 : 0 < m := by
      rcases Nat.eq_zero_or_pos m with e | e
      · rw [e] at hP; omega
      · exact e
    obtain ⟨I, J, hIJ, hI, hJ, hcase⟩ : ∃ I J : Nat, I * n + J = i * n + j ∧ I < m ∧ J < n ∧ ((j = n ∧ I = i + 1 ∧ J = 0) ∨ (j ≠ n ∧ I = i ∧ J = j)) := by
      by_cases e : j = n
      · refine ⟨i + 1, 0, by rw [e, Nat.add_mul]; omega, ?_, hn0, .inl ⟨e, rfl, rfl⟩⟩
        rcases Nat.lt_or_ge (i + 1) m with e2 | e2
        · exact e2
        · have := Nat.mul_le_mul_right n e2; rw [Nat.add_mul] at this; omega
      · exact ⟨i, j, rfl, by omega, by omega, .inr ⟨e, rfl, rfl⟩⟩
    have hpl := place I n J hJ
    have hpk : m * n - (k + 1) = I * n + J := by omega
    have HF : Hid (fillT m n (k + 1) R S C = (List.range (minX R S I J + 1)).flatMap fun (x : Nat) => fillT m n k (R.set I (R.getD I 0 - 2 ^ (J + 1) * (x : Int))) (S.set J (S.getD J 0 - x)) (setC C I J x)) := by
      show _ = _
      rw [fillT, hpk, hpl.1, hpl.2]
    obtain ⟨st, hst⟩ : ∃ st : Int, st = 2 ^ (J + 1) := ⟨_, rfl⟩
    have hst2 : 2 ≤ st ∧ st ≤ 2199023255552 := by rw [hst]; exact pow_in J (by omega)
    have hsh := sh2_wrap J (by omega)
    rw [← hst] at hsh
    have HST := Lib.hid hst; have HSH := Lib.hid hsh
    clear hsh
    have c0 := h.c0; have c1 := h.c1
    obtain ⟨⟨kr, cr, er⟩, ⟨ks, cs, es⟩, ⟨kc, cc, ec⟩, ku, cu, eu⟩ := h.shapes (by omega) (by omega) (by omega) (fun x hx => by rw [hrow x hx, hS]) I (by omega)
    rw [hR] at er; rw [hS] at es eu; rw [hC] at ec
    subst er; subst es; subst ec
    have HT := Lib.hid h; have HEU := Lib.hid eu; have HZ := Lib.hid (hIJ ▸ hz); have HO := Lib.hid hO; have HROW := Lib.hid hrow; have HSR := Lib.hid sR; have HSS := Lib.hid sS; have HSC := Lib.hid sC; have IH := Lib.hid ih
    clear h eu hz hO hrow sR sS sC ih hpl hst
    have r1 := (HT.out.rAt rfl I (by omega)).1
    have s1 := (HT.out.sAt rfl J (by omega)).1
    have hx0 := HSR.out.at (by omega) I
    have hy0 := HSS.out.at (by omega) J
    obtain ⟨mx, hmx⟩ : ∃ mx : Nat, minX R S I J = mx := ⟨_, rfl⟩
    have HMX := Lib.hid hmx
    unfold minX at hmx
    rw [← HST.out] at hmx
    obtain ⟨q, hq⟩ : ∃ q : Nat, R.getD I 0 / st = q := ⟨(R.getD I 0 / st).toNat, by have := Int.ediv_nonneg hx0.1 (show 0 ≤ st by omega); omega⟩
    have hqx : (q : Int) ≤ R.getD I 0 := by rw [← hq]; exact Int.ediv_le_self _ hx0.1
    have htd : (R.getD I 0).tdiv st = q := by rw [Int.tdiv_eq_ediv_of_nonneg hx0.1]; exact hq
    have HQ := Lib.hid hq
    rw [hq] at hmx
    generalize hxr : R.getD I 0 = xr at *
    generalize hys : S.getD J 0 = ys at *
    have HXR := Lib.hid hxr; have HYS := Lib.hid hys
    have hmq : (mx : Int) = min (q : Int) ys := by omega
    have hwq : IntKind.i64.wrap (q : Int) = q := IntWalk.i64_in _ (by omega)
    have hst0 := (neB (show st ≠ 0 by omega)).1
    have hst1 : ¬ st = 0 := by omega
    clear hq hxr hys hmx
    go_enter Tryz.func114, Tryz.ntmps114
    go_upto_if 15 with fail
    go_cut [1, 2] (fun s1 s2 wx => w = wx ∧ s1 = .int .i64 (I : Int) ∧ s2 = .int .i64 (J : Int))
    case first =>
      have hw : IntKind.i64.wrap ((i : Int) + 1) = i + 1 := IntWalk.i64_in _ (by omega)
      rcases hcase with ⟨e1, e2, e3⟩ | ⟨e1, e2, e3⟩
      · have t1 := (eqB (show (j : Int) = n by omega)).1
        have g1 : ((i : Int) + 1) = (I : Int) := by omega
        have g2 : (0 : Int) = (J : Int) := by omega
        have G1 := Lib.hid g1; have G2 := Lib.hid g2
        clear g1 g2 e1 e2 e3 hIJ
        go_wp2_with fail
        go_meet
        exact ⟨rfl, by rw [G1.out], by rw [← G2.out]⟩
      · have t1 := (neB (show (j : Int) ≠ n by omega)).1
        subst e2; subst e3
        clear e1
        go_wp2_with fail
        go_meet
        exact ⟨rfl, rfl, rfl⟩
    case rest =>
      obtain ⟨rfl, rfl, rfl⟩ := hcut
      have t2 : decide ((m : Int) ≤ (I : Int)) = false := decide_eq_false (by omega)
      have t3 := (neB (show (n : Int) ≠ 0 by omega)).1
      go_upto_region 4 with fail
      go_cut [6] (fun s6 wx => w = wx ∧ s6 = .int .i64 st)
      case first =>
        go_wp2_with fail
        go_meet
        exact ⟨rfl, by rw [← HSH.out]⟩
      case rest =>
      obtain ⟨rfl, rfl⟩ := hcut
      go_upto_region 5 with fail
      clear HSH
      go_cut [7] (fun s7 wx => ∃ nq, w.drewN nq = wx ∧ s7 = .int .i64 (mx : Int))
      case first =>
        by_cases hqy : (q : Int) < ys
        · have hm1 : (mx : Int) = q := by omega
          have hqn : ¬ ys < (q : Int) := by omega
          have hqd : xr / st = q := HQ.out
          have HM1 := Lib.hid hm1
          clear hm1 hmq
          go_region
          go_wp2_with fail
          go_meet
          exact ⟨1, rfl, by rw [HM1.out]⟩
        · by_cases hyq : ys < (q : Int)
          · have hm1 : (mx : Int) = ys := by omega
            have HM1 := Lib.hid hm1
            have hqd : xr / st = q := HQ.out
            clear hm1 hmq hqy
            go_region
            go_wp2_with fail
            go_meet
            exact ⟨1, rfl, by rw [HM1.out]⟩
          · have hm1 : (mx : Int) = q := by omega
            have HM1 := Lib.hid hm1
            have hqd : xr / st = q := HQ.out
            clear hm1 hmq hqy
            go_region
            go_wp2_with fail
            go_meet
            exact ⟨1, rfl, by rw [HM1.out]⟩
      case rest =>
      obtain ⟨nq, rfl, rfl⟩ := hcut
      have hmy : (mx : Int) ≤ ys := by omega
      have hmx2 : (mx : Int) ≤ q := by omega
      have HPX : Hid (∀ X : Nat, (X : Int) ≤ mx → 0 ≤ st * (X : Int) ∧ st * (X : Int) ≤ xr) := fun X hX => by
        refine ⟨Int.mul_nonneg (by omega) (by omega), ?_⟩
        have h1 : (X : Int) ≤ xr / st := by rw [HQ.out]; omega
        rw [Int.mul_comm]
        exact (Int.le_ediv_iff_mul_le (by omega)).1 h1
      obtain ⟨W, hW⟩ : ∃ W, W = w.drewN nq := ⟨_, rfl⟩
      have T0 : Hid (TabV W B D g (.slice (some ⟨kr, 0, none⟩) m cr) (.slice (some ⟨ks, 0, none⟩) n cs) (.slice (some ⟨kc, 0, none⟩) m cc) ov cus ous R S C O) := by show TabV _ _ _ _ _ _ _ _ _ _ _ _ _ _; rw [hW]; exact HT.out.drewN nq
      have BW : Hid (Below B w W) := by show Below _ _ _; rw [hW]; exact below_drewN nq (Below.refl _ _)
      rw [← hW]
      obtain ⟨F, hF⟩ : ∃ F : Nat → List (List Int), F = fun (X : Nat) => fillT m n k (R.set I (xr - st * (X : Int))) (S.set J (ys - X)) (setC C I J X) := ⟨_, rfl⟩
      have HFF : Hid (fillT m n (k + 1) R S C = (List.range (mx + 1)).flatMap F) := by
        show _ = _
        rw [HF.out, hF]
        simp only [HMX.out, ← HST.out]
      have HFX := Lib.hid (fun X : Nat => congrFun hF X)
      clear hW hF c0 c1 r1 s1 htd hqx hwq hmq HF HMX HQ
      go_wp2_with fail
      go_loopw [8] (fun x wr => ∃ (X : Nat) (y : Int) (ov' : Value) (ous' : List Value), X ≤ mx + 1 ∧ x = .int .i64 X ∧ TabV wr B D g (.slice (some ⟨kr, 0, none⟩) m cr) (.slice (some ⟨ks, 0, none⟩) n cs) (.slice (some ⟨kc, 0, none⟩) m cc) ov' cus ous' R S (setC C I J y) (O ++ (List.range X).flatMap F) ∧ Below B w wr) (fun x _ => mx + 1 - (intOf x).toNat)
      case atStart => exact ⟨0, 0, ov, ous, by omega, rfl, by rw [setC_zero (by omega) hJ HZ.out]; simpa using T0.out, BW.out⟩
      case round =>
        obtain ⟨X, y, ov1, ous1, hX, rfl, hT1, hB1⟩ := hrel
        rename World => w1
        have hCl : (setC C I J y).length = m := by rw [setC_length]; exact hC
        have hrw := setC_rows HROW.out I J y
        have hli : I < (setC C I J y).length := by omega
        have hlr := hrw _ (List.getElem_mem hli)
        have c2 := hT1.c2
        have cvI := (hT1.cvAt rfl I hli).trans HEU.out
        have cA := hT1.cAt HEU.out hli J (by omega)
        obtain ⟨cA1, cA2⟩ := cA
        have hBu : B ≤ ku := own_base_le (hT1.c.each I _ _ HEU.out (List.getElem?_eq_getElem hli))
        have T2 := hT1.setCC HEU.out hli J (X : Int)
        have T2z := hT1.setCC HEU.out hli J 0
        rw [setC_setC] at T2 T2z
        have B2 := hB1.setCell (p := ⟨ku, J, none⟩) hBu (.int .i64 (X : Int))
        have B2z := hB1.setCell (p := ⟨ku, J, none⟩) hBu (.int .i64 0)
        have HT2 := Lib.hid T2; have HB2 := Lib.hid B2; have HT2z := Lib.hid T2z; have HB2z := Lib.hid B2z
        clear T2 T2z B2 B2z hrw hCl
        generalize (setC C I J y)[I].getD J 0 = yo at *
        clear hlr
        by_cases hXm : X ≤ mx
        · have hp := HPX.out X (by omega)
          have hle : decide ((X : Int) ≤ (mx : Int)) = true := decide_eq_true (by omega)
          have hOX : Hid ((O ++ (List.range X).flatMap F).length + (F X).length < 4398046511104) := by
            show _ < _
            have h1 := flat_prefix F (mx + 1) X (by omega)
            have h2 := HO.out
            rw [HFF.out] at h2
            rw [List.length_append]; omega
          obtain ⟨p, hpp⟩ : ∃ p, st * (X : Int) = p := ⟨_, rfl⟩
          have HFX1 := Lib.hid (HFX.out X)
          rw [hpp] at hp HFX1
          have e1 : IntKind.i64.wrap (st * (X : Int)) = p := by rw [hpp]; exact IntWalk.i64_in _ (by omega)
          have e2 : IntKind.i64.wrap (xr - p) = xr - p := IntWalk.i64_in _ (by omega)
          have e3 : IntKind.i64.wrap (xr - p + p) = xr := by rw [IntWalk.i64_in _ (by omega)]; omega
          have e4 : IntKind.i64.wrap (ys - (X : Int)) = ys - X := IntWalk.i64_in _ (by omega)
          have e5 : IntKind.i64.wrap (ys - (X : Int) + X) = ys := by rw [IntWalk.i64_in _ (by omega)]; omega
          have e6 : IntKind.i64.wrap ((J : Int) + 1) = J + 1 := IntWalk.i64_in _ (by omega)
          clear HT2z HB2z
          go_upto_region 10 with fail
          generalize w1.setCell ⟨ku, J, none⟩ (.int .i64 (X : Int)) = w2 at *
          have c0b := HT2.out.c0
          obtain ⟨rA1, rA2⟩ := HT2.out.rAt rfl I (by omega)
          rw [HXR.out] at rA1
          have HT3 := Lib.hid (HT2.out.setR rfl I (xr - p))
          have HB3 := Lib.hid (HB2.out.setCell (p := ⟨kr, I, none⟩) (own_base_le HT2.out.r) (.int .i64 (xr - p)))
          clear c2 cvI cA1 cA2 hT1 hB1 hle
          go_upto_region 11 with fail
          generalize w2.setCell ⟨kr, I, none⟩ (.int .i64 (xr - p)) = w3 at *
          have c1b := HT3.out.c1
          obtain ⟨sA1, sA2⟩ := HT3.out.sAt rfl J (by omega)
          rw [HYS.out] at sA1
          have HT4 := Lib.hid (HT3.out.setS rfl J (ys - (X : Int)))
          have HB4 := Lib.hid (HB3.out.setCell (p := ⟨ks, J, none⟩) (own_base_le HT3.out.s) (.int .i64 (ys - (X : Int))))
          clear c0b rA1 rA2 HT2 HB2
          go_upto_region 12 with fail
          generalize w3.setCell ⟨ks, J, none⟩ (.int .i64 (ys - (X : Int))) = w4 at *
          clear c1b sA1 sA2 HT3 HB3
          have C4 := Lib.hid (IH.out I (J + 1) (R.set I (xr - p)) (S.set J (ys - (X : Int))) (setC C I J X) (O ++ (List.range X).flatMap F) ov1 ous1 w4 HT4.out (by rw [List.length_set]; exact hR) (by rw [List.length_set]; exact hS) (by rw [setC_length]; exact hC) (setC_rows HROW.out I J X)
            (zero_setC (by omega) HZ.out X) (HSR.out.setI I _ (by omega) (by omega)) (HSS.out.setI J _ (by omega) (by omega)) (setC_sm HSC.out I J X (by omega) (by omega)) (by omega) (.inl hI) (by omega) (by omega) (by rw [← HFX1.out]; exact hOX.out))
          rw [← HFX1.out, List.append_assoc, ← flat_succ] at C4
          go_upto_region 13 with (go_at_call 114; refine C4.out.mono ?_; rintro e w5 ⟨rfl, ov5, ous5, hT5, hB5⟩)
          have c0b := hT5.c0
          obtain ⟨rA1, rA2⟩ := hT5.rAt rfl I (by rw [List.length_set]; omega)
          rw [getD_set_self R I _ (by omega)] at rA1
          have HT6 := Lib.hid (hT5.setR rfl I xr)
          have HB6 := Lib.hid ((HB4.out.trans (hB5.mono (Nat.le_refl _))).setCell (p := ⟨kr, I, none⟩) (own_base_le hT5.r) (.int .i64 xr))
          rw [set_back R I xr _ HXR.out] at HT6
          clear hT5 hB5
          go_upto_region 14 with fail
          generalize w5.setCell ⟨kr, I, none⟩ (.int .i64 xr) = w6 at *
          have c1b := HT6.out.c1
          obtain ⟨sA1, sA2⟩ := HT6.out.sAt rfl J (by rw [List.length_set]; omega)
          rw [getD_set_self S J _ (by omega)] at sA1
          have HT7 := Lib.hid (HT6.out.setS rfl J ys)
          have HB7 := Lib.hid (HB6.out.setCell (p := ⟨ks, J, none⟩) (own_base_le HT6.out.s) (.int .i64 ys))
          rw [set_back S J ys _ HYS.out] at HT7
          clear c0b rA1 rA2 HT4 HB4 HT6 HB6
          go_wp2_with fail
          go_roundw
          case rel => exact ⟨X + 1, X, ov5, ous5, by omega, by go_num, HT7.out, HB7.out⟩
          case measure => simp [intOf]; omega
        · obtain rfl : X = mx + 1 := by omega
          rw [← HFF.out] at HT2z
          have hle : decide (((mx + 1 : Nat) : Int) ≤ (mx : Int)) = false := decide_eq_false (by omega)
          have hle2 : decide ((mx : Int) + 1 ≤ (mx : Int)) = false := decide_eq_false (by omega)
          rw [setC_zero (by omega) hJ HZ.out] at HT2z
          go_wp2_with fail
          go_end0
          exact ⟨rfl, _, _, HT2z.out, HB2z.out⟩
end Go.Proofs.YtalbbjhonkcbgaaGreat

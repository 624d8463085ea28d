/- Products of dual elements: of the reference. -/
import Derived.Test.YtljpjoegeincoaaLMulD2
import Derived.Test.YtljpjoegeincoaaLAdd4
namespace Go.Proofs.Ytljpjoegeincoaa
open Go.RowKit Go.Sort
theorem joinsL_nil_right (a : List (List Int)) : joinsL a [] = [] := List.eq_nil_of_length_eq_zero (by rw [joinsL_length]; rfl)
set_option maxRecDepth 100000 in
set_option maxHeartbeats 1000000 in
theorem specMultiplyDual_c (v u : Value) (xss yss : List (List Int)) (w : World) (h : IntSS w.heap v xss) (hu : IntSS w.heap u yss) :
    Calls Try.prog 33 #[.agg #[v], .agg #[u]] w fun e w' => ∃ r us, e = .returned (.tuple #[.agg #[r], .int .i64 (mdC xss yss)]) ∧ OwnU w' w.heap.size r us (mdL xss yss) ∧ Below w.heap.size w w' := by
  have hb : Below w.heap.size w (((w.alloc (.cells #[v] 35)).alloc (.cells #[u] 35)).alloc (.cells #[.slice none 0 0] 35)) := (((Below.refl _ _).alloc (Nat.le_refl _) _).alloc (by simp) _).alloc (by simp; omega) _
  have k0 := (((Cell1.new w v 35).kept (alloc_old _ (.cells #[u] 35))).kept (alloc_old _ (.cells #[.slice none 0 0] 35)))
  have k1 := ((Cell1.new (w.alloc (.cells #[v] 35)) u 35).kept (alloc_old _ (.cells #[.slice none 0 0] 35)))
  have k2 := Cell1.new ((w.alloc (.cells #[v] 35)).alloc (.cells #[u] 35)) (.slice none 0 0) 35
  simp only [size_alloc_w] at k1 k2
  have hsz : (((w.alloc (.cells #[v] 35)).alloc (.cells #[u] 35)).alloc (.cells #[.slice none 0 0] 35)).heap.size = w.heap.size + 3 := by simp
  have C := Lib.hid (l06Is_c v xss _ (h.same hb.block))
  have C2 := Lib.hid (fun (W : World) (h : IntSS W.heap u yss) => l06Is_c u yss W h)
  obtain ⟨ao, c, rfl, hm⟩ := h.len
  obtain ⟨bo, d, rfl, hn⟩ := hu.len
  have H := Lib.hid h; have HU := Lib.hid hu; clear h hu
  obtain ⟨w0, hw0⟩ : ∃ w0, w0 = ((w.alloc (.cells #[.slice ao xss.length c] 35)).alloc (.cells #[.slice bo yss.length d] 35)).alloc (.cells #[.slice none 0 0] 35) := ⟨_, rfl⟩
  have q0 := k0.c0; have q1 := k1.c0
  rw [← hw0] at k0 k1 k2 hb hsz C
  have HW := Lib.hid hw0; clear hw0
  have HB0 := Lib.hid hb; have K0 := Lib.hid k0; have K1 := Lib.hid k1; have K2 := Lib.hid k2; have HSZ := Lib.hid hsz
  clear hb k0 k1 k2 hsz
  cases hT1 : arT xss
  · have e1 : mdL xss yss = [] := by simp [mdL, multC, hT1]
    have e2 : mdC xss yss = 1 := by simp [mdC, multC, hT1]
    rw [e1, e2]
    rw [hT1] at C
    clear hT1 e1 e2 C2
    go_enter Try.func33, Try.ntmps33
    go_wp2_with fail
    rw [← HW.out]
    refine C.out.mono ?_
    rintro e w1 ⟨rfl, hb1⟩
    have K21 := Lib.hid (K2.out.kept hb1.block)
    have q2 := K21.out.c0; have f2 := K21.out.free 0
    have HB1 := Lib.hid (HB0.out.trans (hb1.mono HB0.out.size))
    clear hb1 HW q0 q1
    go_wp2_with fail
    have g0 := (K21.out.set (.slice none 0 0)).c0
    exact bodyPost_ret (v := .tuple #[.agg #[.slice none 0 0], .int .i64 1]) (by simp [results, Try.results33, go_sem, g0]) rfl
      ⟨_, [], rfl, own_u_nil _ _, HB1.out.setCell (by show w.heap.size ≤ w.heap.size + 1 + 1; omega) _⟩
  · rw [hT1] at C
    cases hT2 : arT yss
    · have e1 : mdL xss yss = [] := by simp [mdL, multC, hT2]
      have e2 : mdC xss yss = 1 := by simp [mdC, multC, hT2]
      rw [e1, e2]
      rw [hT2] at C2
      clear hT1 hT2 e1 e2
      go_enter Try.func33, Try.ntmps33
      go_wp2_with fail
      rw [← HW.out]
      refine C.out.mono ?_
      rintro e w1 ⟨rfl, hb1⟩
      have q1' := (K1.out.kept hb1.block).c0
      have K21 := Lib.hid (K2.out.kept hb1.block)
      have HB1 := Lib.hid (HB0.out.trans (hb1.mono HB0.out.size))
      clear hb1 HW q0 q1
      go_wp2_with fail
      refine (C2.out _ (HU.out.same HB1.out.block)).mono ?_
      rintro e w2 ⟨rfl, hb2⟩
      have K22 := Lib.hid (K21.out.kept hb2.block)
      have q2 := K22.out.c0; have f2 := K22.out.free 0
      have HB2 := Lib.hid (HB1.out.trans (hb2.mono HB1.out.size))
      clear hb2 q1'
      go_wp2_with fail
      have g0 := (K22.out.set (.slice none 0 0)).c0
      exact bodyPost_ret (v := .tuple #[.agg #[.slice none 0 0], .int .i64 1]) (by simp [results, Try.results33, go_sem, g0]) rfl
        ⟨_, [], rfl, own_u_nil _ _, HB2.out.setCell (by show w.heap.size ≤ w.heap.size + 1 + 1; omega) _⟩
    · rw [hT2] at C2
      have F1 := Lib.hid (arT_first' hT1); have F2 := Lib.hid (arT_first' hT2)
      have hd1 := degT_in hT1; have hd2 := degT_in hT2
      have HE : Hid (multC xss yss = if sumD xss yss then 0 else 3) := by show _ = _; simp [multC, hT1, hT2]
      have HSD : Hid (sumD xss yss = (decide (xss.length = 0) || decide (yss.length = 0) || decide (degT xss + degT yss ≤ 40))) := rfl
      have l1 := arT_len hT1; have l2 := arT_len hT2
      have S := Lib.hid (fun (W : World) (h : IntSS W.heap (.slice ao xss.length c) xss) (hu : IntSS W.heap (.slice bo yss.length d) yss) => l06Times_c _ _ xss yss W h hu (arT_sm hT1) (arT_sm hT2) (Nat.le_trans (Nat.mul_le_mul l1 l2) (by omega)))
      have HML : Hid ((oddL (joinsL xss yss)).length ≤ 4000000) := by show _ ≤ _; have h1 := oddL_length (joinsL xss yss); rw [joinsL_length] at h1; have h2 := Nat.mul_le_mul l1 l2; omega
      clear hT1 hT2
      go_enter Try.func33, Try.ntmps33
      go_wp2_with fail
      rw [← HW.out]
      refine C.out.mono ?_
      rintro e w1 ⟨rfl, hb1⟩
      have q1' := (K1.out.kept hb1.block).c0
      have K01 := Lib.hid (K0.out.kept hb1.block); have K11 := Lib.hid (K1.out.kept hb1.block); have K21 := Lib.hid (K2.out.kept hb1.block)
      have HB1 := Lib.hid (HB0.out.trans (hb1.mono HB0.out.size))
      have HS1 := Lib.hid hb1.size
      clear hb1 HW q0 q1
      go_wp2_with fail
      refine (C2.out _ (HU.out.same HB1.out.block)).mono ?_
      rintro e w2 ⟨rfl, hb2⟩
      have K02 := Lib.hid (K01.out.kept hb2.block); have K12 := Lib.hid (K11.out.kept hb2.block); have K22 := Lib.hid (K21.out.kept hb2.block)
      have HB2 := Lib.hid (HB1.out.trans (hb2.mono HB1.out.size))
      have HS2 := Lib.hid hb2.size
      have q0'' := K02.out.c0; have q1'' := K12.out.c0
      clear hb2 q1' C C2
      by_cases h0 : xss.length = 0
      · have hx : xss = [] := List.eq_nil_of_length_eq_zero h0
        have HF : Hid (multC xss yss = 0) := by show _ = _; rw [HE.out, HSD.out, h0]; simp
        have e1 : mdL xss yss = [] := by unfold mdL; simp [joinsL, hx, oddL]
        have e2 : mdC xss yss = 0 := by unfold mdC; rw [if_pos HF.out]; simp [joinsL, hx, oddL]
        have E1 := Lib.hid e1; have E2 := Lib.hid e2
        have t1 := (eqB (show (xss.length : Int) = 0 by omega)).1
        have q2 := K22.out.c0; have f2 := K22.out.free 0
        clear HSD HE hx HF e1 e2
        go_wp2_with fail
        have g0 := (K22.out.set (.slice none 0 0)).c0
        exact bodyPost_ret (v := .tuple #[.agg #[.slice none 0 0], .int .i64 0]) (by simp [results, Try.results33, go_sem, g0]) rfl
          ⟨_, [], by rw [E2.out], by rw [E1.out]; exact own_u_nil _ _, HB2.out.setCell (by show w.heap.size ≤ w.heap.size + 1 + 1; omega) _⟩
      · have t1 := (neB (show (xss.length : Int) ≠ 0 by omega)).1
        by_cases h1 : yss.length = 0
        · have hx : yss = [] := List.eq_nil_of_length_eq_zero h1
          have HF : Hid (multC xss yss = 0) := by show _ = _; rw [HE.out, HSD.out, h1]; simp
          have e1 : mdL xss yss = [] := by unfold mdL; rw [hx, joinsL_nil_right]; simp [oddL]
          have e2 : mdC xss yss = 0 := by unfold mdC; rw [if_pos HF.out, hx, joinsL_nil_right]; simp [oddL]
          have E1 := Lib.hid e1; have E2 := Lib.hid e2
          have t2 := (eqB (show (yss.length : Int) = 0 by omega)).1
          have q2 := K22.out.c0; have f2 := K22.out.free 0
          clear HSD HE hx HF e1 e2
          go_wp2_with fail
          have g0 := (K22.out.set (.slice none 0 0)).c0
          exact bodyPost_ret (v := .tuple #[.agg #[.slice none 0 0], .int .i64 0]) (by simp [results, Try.results33, go_sem, g0]) rfl
            ⟨_, [], by rw [E2.out], by rw [E1.out]; exact own_u_nil _ _, HB2.out.setCell (by show w.heap.size ≤ w.heap.size + 1 + 1; omega) _⟩
        · have t2 := (neB (show (yss.length : Int) ≠ 0 by omega)).1
          have hp : (0 : Int) < xss.length := by omega
          have hq : (0 : Int) < yss.length := by omega
          obtain ⟨b1, o1, c1, u1, hv1, hc1, hu1, -⟩ := (H.out.same HB2.out.block).at 0 (by omega)
          simp only [Value.slice.injEq, true_and] at hv1
          obtain ⟨rfl, rfl⟩ := hv1
          rw [show o1 + 0 = o1 from rfl] at hc1
          rw [show xss[0] = xss.getD 0 [] by simp [show 0 < xss.length by omega]] at hu1
          obtain ⟨b2, o2, c2, u2, hv2, hc2, hu2, -⟩ := (HU.out.same HB2.out.block).at 0 (by omega)
          simp only [Value.slice.injEq, true_and] at hv2
          obtain ⟨rfl, rfl⟩ := hv2
          rw [show o2 + 0 = o2 from rfl] at hc2
          rw [show yss[0] = yss.getD 0 [] by simp [show 0 < yss.length by omega]] at hu2
          have D1 := Lib.hid (fun (W : World) (h : IntS W.heap u1 (xss.getD 0 [])) => l01DegreeE_c u1 _ W h F1.out)
          have D2 := Lib.hid (fun (W : World) (h : IntS W.heap u2 (yss.getD 0 [])) => l01DegreeE_c u2 _ W h F2.out)
          have HU1 := Lib.hid hu1; have HU2 := Lib.hid hu2
          obtain ⟨ua, uc, rfl, -⟩ := hu1.len
          obtain ⟨ub, ud, rfl, -⟩ := hu2.len
          have HF : Hid (multC xss yss = if deg (xss.getD 0 []) + deg (yss.getD 0 []) ≤ 40 then 0 else 3) := by
            show _ = _
            rw [HE.out, HSD.out, decide_eq_false h0, decide_eq_false h1]; simp [degT]
          unfold degT at hd1 hd2
          clear h0 h1 HSD HE hu1 hu2
          generalize deg (xss.getD 0 []) = p at *
          generalize deg (yss.getD 0 []) = q at *
          generalize xss.getD 0 [] = ys at *
          generalize yss.getD 0 [] = zs at *
          have hw : IntKind.i64.wrap (p + q) = p + q := IntWalk.i64_in _ (by omega)
          by_cases hpq : p + q ≤ 40
          · have t5 : decide (40 < p + q) = false := decide_eq_false (by omega)
            have HM : Hid (multC xss yss = 0) := by show _ = _; rw [HF.out, if_pos hpq]
            have d1 : mdL xss yss = if (oddL (joinsL xss yss)).length ≤ 2000 then oddL (joinsL xss yss) else [] := by unfold mdL; simp only [HM.out, true_and]
            have d2 : mdC xss yss = if (oddL (joinsL xss yss)).length ≤ 2000 then 0 else 3 := by unfold mdC; rw [if_pos HM.out]
            have DD1 := Lib.hid d1; have DD2 := Lib.hid d2
            clear hpq HF d1 d2 HM
            go_wp2_with fail
            go_quiet ((go_at_call 67; first | ((with_reducible refine quiet_same (D1.out _ ?_)); exact HU1.out) | ((with_reducible refine quiet_same (D2.out _ ?_)); exact HU2.out)))
            go_wp2_with fail
            refine (S.out (w2.drewN nq) (H.out.same (below_drewN nq HB2.out).block) (HU.out.same (below_drewN nq HB2.out).block)).mono ?_
            rintro e w3 ⟨r, us, rfl, hU, hb3⟩
            obtain ⟨ra, rc, rfl, -⟩ := hU.ints.len
            have hb3' := (below_drewN _ (Below.refl w2.heap.size w2)).trans hb3
            have K23 := Lib.hid (K22.out.kept hb3'.block)
            have HU3 := Lib.hid hU
            have HB3 := Lib.hid (HB2.out.trans (hb3'.mono HB2.out.size))
            clear hU hb3 hb3' q0'' q1''
            have F := Lib.hid (l06Fit_c ra (oddL (joinsL xss yss)).length rc w3 (by have := HML.out; omega))
            by_cases hbig : (oddL (joinsL xss yss)).length ≤ 2000
            · have E1 : Hid (mdL xss yss = oddL (joinsL xss yss)) := by show _ = _; rw [DD1.out, if_pos hbig]
              have E2 : Hid (mdC xss yss = 0) := by show _ = _; rw [DD2.out, if_pos hbig]
              rw [if_pos hbig, if_pos hbig] at F
              clear hbig DD1 DD2 HML
              generalize (oddL (joinsL xss yss)).length = rn at *
              go_wp2_with fail
              refine F.out.mono ?_
              rintro e w4 ⟨rfl, hb4⟩
              have K24 := Lib.hid (K23.out.kept hb4.block)
              have K25 := Lib.hid (K24.out.kept (alloc_old w4 (.cells #[.slice ra rn rc] 35)))
              have q2 := K25.out.c0; have f2 := K25.out.free 0
              have HU4 := Lib.hid ((HU3.out.same hb4.block).same (alloc_old w4 (.cells #[.slice ra rn rc] 35)))
              have HB4 := Lib.hid (HB3.out.trans (hb4.mono HB3.out.size))
              clear hb4
              go_wp2_with fail
              have g0 := (K25.out.set (.slice ra rn rc)).c0
              exact bodyPost_ret (v := .tuple #[.agg #[.slice ra rn rc], .int .i64 0]) (by simp [results, Try.results33, go_sem, g0]) rfl
                ⟨_, us, by rw [E2.out], by rw [E1.out]; exact own_var1 (w1 := w2) HU4.out (by have := HS1.out; have := HS2.out; have := HSZ.out; omega) _ HB2.out.size K25.out, (HB4.out.alloc HB4.out.size _).setCell (by show w.heap.size ≤ w.heap.size + 1 + 1; omega) _⟩
            · have E1 : Hid (mdL xss yss = []) := by show _ = _; rw [DD1.out, if_neg hbig]
              have E2 : Hid (mdC xss yss = 3) := by show _ = _; rw [DD2.out, if_neg hbig]
              rw [if_neg hbig, if_neg hbig] at F
              clear hbig DD1 DD2 HML
              generalize (oddL (joinsL xss yss)).length = rn at *
              go_wp2_with fail
              refine F.out.mono ?_
              rintro e w4 ⟨rfl, hb4⟩
              have K24 := Lib.hid (K23.out.kept hb4.block)
              have K25 := Lib.hid (K24.out.kept (alloc_old w4 (.cells #[.slice none 0 0] 35)))
              have q2 := K25.out.c0; have f2 := K25.out.free 0
              have HB4 := Lib.hid (HB3.out.trans (hb4.mono HB3.out.size))
              clear hb4
              go_wp2_with fail
              have g0 := (K25.out.set (.slice none 0 0)).c0
              exact bodyPost_ret (v := .tuple #[.agg #[.slice none 0 0], .int .i64 3]) (by simp [results, Try.results33, go_sem, g0]) rfl
                ⟨_, [], by rw [E2.out], by rw [E1.out]; exact own_u_nil _ _, (HB4.out.alloc HB4.out.size _).setCell (by show w.heap.size ≤ w.heap.size + 1 + 1; omega) _⟩
          · have t5 : decide (40 < p + q) = true := decide_eq_true (by omega)
            have e1 : mdL xss yss = [] := by unfold mdL; rw [if_neg]; rw [HF.out, if_neg hpq]; simp
            have e2 : mdC xss yss = 3 := by unfold mdC; rw [HF.out, if_neg hpq]; simp
            have E1 := Lib.hid e1; have E2 := Lib.hid e2
            have q2 := K22.out.c0; have f2 := K22.out.free 0
            clear hpq HF e1 e2
            go_wp2_with fail
            go_quiet ((go_at_call 67; first | ((with_reducible refine quiet_same (D1.out _ ?_)); exact HU1.out) | ((with_reducible refine quiet_same (D2.out _ ?_)); exact HU2.out)))
            go_wp2_with fail
            have KN : Cell1 (w2.drewN nq) (w.heap.size + 1 + 1) (.slice none 0 0) 35 := K22.out
            have g0 := (KN.set (.slice none 0 0)).c0
            exact bodyPost_ret (v := .tuple #[.agg #[.slice none 0 0], .int .i64 3]) (by simp [results, Try.results33, go_sem, g0]) rfl
              ⟨_, [], by rw [E2.out], by rw [E1.out]; exact own_u_nil _ _, (below_drewN _ HB2.out).setCell (by show w.heap.size ≤ w.heap.size + 1 + 1; omega) _⟩
theorem cnt_le {l : List (List Int)} {k : Nat} (h : ∀ r ∈ l, r.length ≤ k) : cnt l ≤ l.length * k := by
  induction l with
  | nil => simp [cnt]
  | cons x l ih =>
    rw [cnt_cons, List.length_cons, Nat.add_mul]
    have := h x (List.mem_cons_self ..)
    have := ih fun r hr => h r (List.mem_cons_of_mem _ hr)
    omega
theorem mdL_cnt (xss yss : List (List Int)) : cnt (mdL xss yss) ≤ 40000 := by
  unfold mdL
  split
  · rename_i h
    obtain ⟨hT1, hT2, -⟩ := multC_zero h.1
    refine Nat.le_trans (cnt_le (k := 10) fun r hr => ?_) (by omega)
    obtain ⟨x, hx, y, hy, rfl⟩ := mem_joinsL (mem_oddL_sub hr)
    have := exp_len (arT_row hT1 x hx).1; have := exp_len (arT_row hT2 y hy).1
    rw [joinL_length]; omega
  · simp [cnt]
end Go.Proofs.Ytljpjoegeincoaa

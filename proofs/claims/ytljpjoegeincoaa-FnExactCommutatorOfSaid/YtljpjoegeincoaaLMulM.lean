/- Products of elements of the Milnor basis: of the program and of the reference. -/
import Derived.Test.YtljpjoegeincoaaLProdT
import Derived.Test.YtljpjoegeincoaaLBound
namespace Go.Proofs.Ytljpjoegeincoaa
open Go.RowKit Go.Sort

set_option maxRecDepth 100000 in
set_option maxHeartbeats 1000000 in
theorem l04Code_c (v u : Value) (xss yss : List (List Int)) (w : World) (h : IntSS w.heap v xss) (hu : IntSS w.heap u yss) :
    Calls Try.prog 78 #[.agg #[v], .agg #[u]] w fun e w' => e = .returned (.int .i64 (multC xss yss)) ∧ Below w.heap.size w w' := by
  have hb : Below w.heap.size w ((w.alloc (.cells #[v] 26)).alloc (.cells #[u] 26)) := ((Below.refl _ _).alloc (Nat.le_refl _) _).alloc (by simp) _
  have k0 := (Cell1.new w v 26).kept (alloc_old _ (.cells #[u] 26))
  have k1 := Cell1.new (w.alloc (.cells #[v] 26)) u 26
  rw [size_alloc_w] at k1
  have C := Lib.hid (l04Is_c v xss _ (h.same hb.block))
  have C2 := Lib.hid (fun (W : World) (h : IntSS W.heap u yss) => l04Is_c u yss W h)
  obtain ⟨ao, c, rfl, hm⟩ := h.len
  obtain ⟨bo, d, rfl, hn⟩ := hu.len
  have H := Lib.hid h; have HU := Lib.hid hu; clear h hu
  obtain ⟨w0, hw0⟩ : ∃ w0, w0 = (w.alloc (.cells #[.slice ao xss.length c] 26)).alloc (.cells #[.slice bo yss.length d] 26) := ⟨_, rfl⟩
  have q0 := k0.c0; have q1 := k1.c0
  rw [← hw0] at k0 k1 hb C
  have HW := Lib.hid hw0; clear hw0
  have HB0 := Lib.hid hb; have K0 := Lib.hid k0; have K1 := Lib.hid k1
  clear hb k0 k1
  cases hT1 : arT xss
  · have e2 : multC xss yss = 1 := by simp [multC, hT1]
    rw [e2]
    rw [hT1] at C
    clear hT1 e2 C2
    go_enter Try.func78, Try.ntmps78
    go_wp2_with fail
    rw [← HW.out]
    refine C.out.mono ?_
    rintro e w1 ⟨rfl, hb1⟩
    have HB1 := Lib.hid (HB0.out.trans (hb1.mono HB0.out.size))
    clear hb1 HW q0 q1
    go_wp2_with fail
    go_ret
    exact ⟨rfl, HB1.out⟩
  · rw [hT1] at C
    cases hT2 : arT yss
    · have e2 : multC xss yss = 1 := by simp [multC, hT2]
      rw [e2]
      rw [hT2] at C2
      clear hT1 hT2 e2
      go_enter Try.func78, Try.ntmps78
      go_wp2_with fail
      rw [← HW.out]
      refine C.out.mono ?_
      rintro e w1 ⟨rfl, hb1⟩
      have q1' := (K1.out.kept hb1.block).c0
      have HB1 := Lib.hid (HB0.out.trans (hb1.mono HB0.out.size))
      clear hb1 HW q0 q1
      go_wp2_with fail
      refine (C2.out _ (HU.out.same HB1.out.block)).mono ?_
      rintro e w2 ⟨rfl, hb2⟩
      have HB2 := Lib.hid (HB1.out.trans (hb2.mono HB1.out.size))
      clear hb2 q1'
      go_wp2_with fail
      go_ret
      exact ⟨rfl, HB2.out⟩
    · rw [hT2] at C2
      have F1 := Lib.hid (arT_first' hT1); have F2 := Lib.hid (arT_first' hT2)
      have hd1 := degT_in hT1; have hd2 := degT_in hT2
      have HE : Hid (multC xss yss = if sumD xss yss then 0 else 3) := by show _ = _; simp [multC, hT1, hT2]
      have HSD : Hid (sumD xss yss = (decide (xss.length = 0) || decide (yss.length = 0) || decide (degT xss + degT yss ≤ 40))) := rfl
      clear hT1 hT2
      go_enter Try.func78, Try.ntmps78
      go_wp2_with fail
      rw [← HW.out]
      refine C.out.mono ?_
      rintro e w1 ⟨rfl, hb1⟩
      have q1' := (K1.out.kept hb1.block).c0
      have K01 := Lib.hid (K0.out.kept hb1.block); have K11 := Lib.hid (K1.out.kept hb1.block)
      have HB1 := Lib.hid (HB0.out.trans (hb1.mono HB0.out.size))
      clear hb1 HW q0 q1
      go_wp2_with fail
      refine (C2.out _ (HU.out.same HB1.out.block)).mono ?_
      rintro e w2 ⟨rfl, hb2⟩
      have K02 := Lib.hid (K01.out.kept hb2.block); have K12 := Lib.hid (K11.out.kept hb2.block)
      have HB2 := Lib.hid (HB1.out.trans (hb2.mono HB1.out.size))
      have q0'' := K02.out.c0; have q1'' := K12.out.c0
      clear hb2 q1' C C2
      by_cases h0 : xss.length = 0
      · have HF : Hid (multC xss yss = 0) := by show _ = _; rw [HE.out, HSD.out, h0]; simp
        have t1 : decide (0 < xss.length) = false := decide_eq_false (by omega)
        have t2 : decide ((0 : Int) < (xss.length : Int)) = false := decide_eq_false (by omega)
        clear HSD HE h0
        go_wp2_with fail
        go_quiet (fail)
        go_wp2_with fail
        go_ret
        exact ⟨by rw [HF.out]; rfl, below_drewN _ HB2.out⟩
      · have t1 : decide (0 < xss.length) = true := decide_eq_true (by omega)
        have t2 : decide ((0 : Int) < (xss.length : Int)) = true := decide_eq_true (by omega)
        have hp : (0 : Int) < xss.length := by omega
        by_cases h1 : yss.length = 0
        · have HF : Hid (multC xss yss = 0) := by show _ = _; rw [HE.out, HSD.out, h1]; simp
          have t3 : decide (0 < yss.length) = false := decide_eq_false (by omega)
          have t4 : decide ((0 : Int) < (yss.length : Int)) = false := decide_eq_false (by omega)
          clear HSD HE h0 h1
          go_wp2_with fail
          go_quiet (fail)
          go_wp2_with fail
          go_ret
          exact ⟨by rw [HF.out]; rfl, below_drewN _ HB2.out⟩
        · have t3 : decide (0 < yss.length) = true := decide_eq_true (by omega)
          have t4 : decide ((0 : Int) < (yss.length : Int)) = true := decide_eq_true (by omega)
          have hq : (0 : Int) < yss.length := by omega
          obtain ⟨b1, o1, c1, u1, hv1, hc1, hu1, -⟩ := (H.out.same HB2.out.block).at 0 (by omega)
          simp only [Value.slice.injEq, true_and] at hv1
          obtain ⟨rfl, rfl⟩ := hv1
          rw [show o1 + 0 = o1 from rfl] at hc1
          rw [show xss[0] = xss.getD 0 [] by simp [show 0 < xss.length by omega]] at hu1
          obtain ⟨b2, o2, c2, u2, hv2, hc2, hu2, -⟩ := (HU.out.same HB2.out.block).at 0 (by omega)
          simp only [Value.slice.injEq, true_and] at hv2
          obtain ⟨rfl, rfl⟩ := hv2
          rw [show o2 + 0 = o2 from rfl] at hc2
          rw [show yss[0] = yss.getD 0 [] by simp [show 0 < yss.length by omega]] at hu2
          have D1 := Lib.hid (fun (W : World) (h : IntS W.heap u1 (xss.getD 0 [])) => l01DegreeE_c u1 _ W h F1.out)
          have D2 := Lib.hid (fun (W : World) (h : IntS W.heap u2 (yss.getD 0 [])) => l01DegreeE_c u2 _ W h F2.out)
          have HU1 := Lib.hid hu1; have HU2 := Lib.hid hu2
          obtain ⟨ua, uc, rfl, -⟩ := hu1.len
          obtain ⟨ub, ud, rfl, -⟩ := hu2.len
          have HF : Hid (multC xss yss = if deg (xss.getD 0 []) + deg (yss.getD 0 []) ≤ 40 then 0 else 3) := by
            show _ = _
            rw [HE.out, HSD.out, decide_eq_false h0, decide_eq_false h1]; simp [degT]
          unfold degT at hd1 hd2
          clear h0 h1 HSD HE hu1 hu2
          generalize deg (xss.getD 0 []) = p at *
          generalize deg (yss.getD 0 []) = q at *
          generalize xss.getD 0 [] = ys at *
          generalize yss.getD 0 [] = zs at *
          have hw : IntKind.i64.wrap (p + q) = p + q := IntWalk.i64_in _ (by omega)
          by_cases hpq : p + q ≤ 40
          · have t5 : decide (40 < p + q) = false := decide_eq_false (by omega)
            have HF2 : Hid (multC xss yss = 0) := by show _ = _; rw [HF.out, if_pos hpq]
            clear hpq HF
            go_wp2_with fail
            go_quiet ((go_at_call 67; first | ((with_reducible refine quiet_same (D1.out _ ?_)); exact HU1.out) | ((with_reducible refine quiet_same (D2.out _ ?_)); exact HU2.out)))
            go_wp2_with fail
            go_ret
            exact ⟨by rw [HF2.out]; rfl, below_drewN _ HB2.out⟩
          · have t5 : decide (40 < p + q) = true := decide_eq_true (by omega)
            have HF2 : Hid (multC xss yss = 3) := by show _ = _; rw [HF.out, if_neg hpq]
            clear hpq HF
            go_wp2_with fail
            go_quiet ((go_at_call 67; first | ((with_reducible refine quiet_same (D1.out _ ?_)); exact HU1.out) | ((with_reducible refine quiet_same (D2.out _ ?_)); exact HU2.out)))
            go_wp2_with fail
            go_ret
            exact ⟨by rw [HF2.out]; rfl, below_drewN _ HB2.out⟩
set_option maxRecDepth 100000 in
set_option maxHeartbeats 1000000 in
theorem implMultiplyMilnor_of (SO : SortOk) (v u : Value) (xss yss : List (List Int)) (w : World) (h : IntSS w.heap v xss) (hu : IntSS w.heap u yss) :
    Calls Try.prog 36 #[.agg #[v], .agg #[u]] w fun e w' => ∃ r us, e = .returned (.tuple #[.agg #[r], .int .i64 (multC xss yss)]) ∧ OwnU w' w.heap.size r us (mmL xss yss) ∧ Below w.heap.size w w' := by
  have hb : Below w.heap.size w (((w.alloc (.cells #[v] 26)).alloc (.cells #[u] 26)).alloc (.cells #[.slice none 0 0] 26)) := (((Below.refl _ _).alloc (Nat.le_refl _) _).alloc (by simp) _).alloc (by simp; omega) _
  have k0 := (((Cell1.new w v 26).kept (alloc_old _ (.cells #[u] 26))).kept (alloc_old _ (.cells #[.slice none 0 0] 26)))
  have k1 := ((Cell1.new (w.alloc (.cells #[v] 26)) u 26).kept (alloc_old _ (.cells #[.slice none 0 0] 26)))
  have k2 := Cell1.new ((w.alloc (.cells #[v] 26)).alloc (.cells #[u] 26)) (.slice none 0 0) 26
  simp only [size_alloc_w] at k1 k2
  have hsz : (((w.alloc (.cells #[v] 26)).alloc (.cells #[u] 26)).alloc (.cells #[.slice none 0 0] 26)).heap.size = w.heap.size + 3 := by simp
  have C := Lib.hid (multiplicable_c v u xss yss _ (h.same hb.block) (hu.same hb.block))
  obtain ⟨ao, c, rfl, hm⟩ := h.len
  obtain ⟨bo, d, rfl, hn⟩ := hu.len
  have H := Lib.hid h; have HU := Lib.hid hu; clear h hu
  obtain ⟨w0, hw0⟩ : ∃ w0, w0 = ((w.alloc (.cells #[.slice ao xss.length c] 26)).alloc (.cells #[.slice bo yss.length d] 26)).alloc (.cells #[.slice none 0 0] 26) := ⟨_, rfl⟩
  have q0 := k0.c0; have q1 := k1.c0
  rw [← hw0] at k0 k1 k2 hb hsz C
  have HW := Lib.hid hw0; clear hw0
  have HB0 := Lib.hid hb; have K0 := Lib.hid k0; have K1 := Lib.hid k1; have K2 := Lib.hid k2; have HSZ := Lib.hid hsz
  clear hb k0 k1 k2 hsz
  by_cases hc : multC xss yss = 0
  rotate_left
  · have e1 : mmL xss yss = [] := by unfold mmL; rw [if_neg hc]
    rw [e1]
    have t1 := (neB hc).1; have t1' := (neB hc).2
    clear e1 hc SO
    generalize multC xss yss = pc at *
    go_enter Try.func36, Try.ntmps36
    go_wp2_with fail
    rw [← HW.out]
    refine C.out.mono ?_
    rintro e w1 ⟨rfl, hb1⟩
    have K21 := Lib.hid (K2.out.kept hb1.block)
    have q2 := K21.out.c0; have f2 := K21.out.free 0
    have HB1 := Lib.hid (HB0.out.trans (hb1.mono HB0.out.size))
    clear hb1 HW q0 q1
    go_wp2_with fail
    have g0 := (K21.out.set (.slice none 0 0)).c0
    exact bodyPost_ret (v := .tuple #[.agg #[.slice none 0 0], .int .i64 pc]) (by simp [results, Try.results36, go_sem, g0]) rfl
      ⟨_, [], rfl, own_u_nil _ _, HB1.out.setCell (by show w.heap.size ≤ w.heap.size + 1 + 1; omega) _⟩
  · have e1 : mmL xss yss = oddL (prodsL xss yss) := by unfold mmL; rw [if_pos hc]
    obtain ⟨m1, m2, m3, m4⟩ := mult_ok hc
    rw [e1, hc]
    rw [hc] at C
    have S := Lib.hid (fun (W : World) (h : IntSS W.heap (.slice ao xss.length c) xss) (hu : IntSS W.heap (.slice bo yss.length d) yss) => multiplied_of SO _ _ xss yss W h hu m1 m2 (by omega) (fun x hx => by have := m4 x hx; omega))
    clear m1 m2 m3 m4 e1 hc SO
    go_enter Try.func36, Try.ntmps36
    go_wp2_with fail
    rw [← HW.out]
    refine C.out.mono ?_
    rintro e w1 ⟨rfl, hb1⟩
    have q0' := (K0.out.kept hb1.block).c0; have q1' := (K1.out.kept hb1.block).c0
    have K21 := Lib.hid (K2.out.kept hb1.block)
    have HB1 := Lib.hid (HB0.out.trans (hb1.mono HB0.out.size))
    have HS1 := Lib.hid hb1.size
    clear hb1 HW q0 q1
    go_wp2_with fail
    refine (S.out _ (H.out.same HB1.out.block) (HU.out.same HB1.out.block)).mono ?_
    rintro e w2 ⟨r, us, rfl, hU, hb2⟩
    obtain ⟨ra, rn, rc, rfl⟩ := own_shape hU.row
    have K22 := Lib.hid (K21.out.kept hb2.block)
    have q2 := K22.out.c0; have f2 := K22.out.free 0
    have HU2 := Lib.hid hU
    have HB2 := Lib.hid (HB1.out.trans (hb2.mono HB1.out.size))
    clear hU hb2 q0' q1'
    go_wp2_with fail
    have g0 := (K22.out.set (.slice ra rn rc)).c0
    exact bodyPost_ret (v := .tuple #[.agg #[.slice ra rn rc], .int .i64 0]) (by simp [results, Try.results36, go_sem, g0]) rfl
      ⟨_, us, rfl, own_var1 HU2.out (by have := HS1.out; have := HSZ.out; omega) _ HB1.out.size K22.out, HB2.out.setCell (by show w.heap.size ≤ w.heap.size + 1 + 1; omega) _⟩
set_option maxRecDepth 100000 in
set_option maxHeartbeats 1000000 in
theorem specMultiplyMilnor_c (v u : Value) (xss yss : List (List Int)) (w : World) (h : IntSS w.heap v xss) (hu : IntSS w.heap u yss) :
    Calls Try.prog 35 #[.agg #[v], .agg #[u]] w fun e w' => ∃ r us, e = .returned (.tuple #[.agg #[r], .int .i64 (multC xss yss)]) ∧ OwnU w' w.heap.size r us (mmL xss yss) ∧ Below w.heap.size w w' := by
  have hb : Below w.heap.size w (((w.alloc (.cells #[v] 26)).alloc (.cells #[u] 26)).alloc (.cells #[.slice none 0 0] 26)) := (((Below.refl _ _).alloc (Nat.le_refl _) _).alloc (by simp) _).alloc (by simp; omega) _
  have k0 := (((Cell1.new w v 26).kept (alloc_old _ (.cells #[u] 26))).kept (alloc_old _ (.cells #[.slice none 0 0] 26)))
  have k1 := ((Cell1.new (w.alloc (.cells #[v] 26)) u 26).kept (alloc_old _ (.cells #[.slice none 0 0] 26)))
  have k2 := Cell1.new ((w.alloc (.cells #[v] 26)).alloc (.cells #[u] 26)) (.slice none 0 0) 26
  simp only [size_alloc_w] at k1 k2
  have hsz : (((w.alloc (.cells #[v] 26)).alloc (.cells #[u] 26)).alloc (.cells #[.slice none 0 0] 26)).heap.size = w.heap.size + 3 := by simp
  have C := Lib.hid (l04Code_c v u xss yss _ (h.same hb.block) (hu.same hb.block))
  obtain ⟨ao, c, rfl, hm⟩ := h.len
  obtain ⟨bo, d, rfl, hn⟩ := hu.len
  have H := Lib.hid h; have HU := Lib.hid hu; clear h hu
  obtain ⟨w0, hw0⟩ : ∃ w0, w0 = ((w.alloc (.cells #[.slice ao xss.length c] 26)).alloc (.cells #[.slice bo yss.length d] 26)).alloc (.cells #[.slice none 0 0] 26) := ⟨_, rfl⟩
  have q0 := k0.c0; have q1 := k1.c0
  rw [← hw0] at k0 k1 k2 hb hsz C
  have HW := Lib.hid hw0; clear hw0
  have HB0 := Lib.hid hb; have K0 := Lib.hid k0; have K1 := Lib.hid k1; have K2 := Lib.hid k2; have HSZ := Lib.hid hsz
  clear hb k0 k1 k2 hsz
  by_cases hc : multC xss yss = 0
  rotate_left
  · have e1 : mmL xss yss = [] := by unfold mmL; rw [if_neg hc]
    rw [e1]
    have t1 := (neB hc).1; have t1' := (neB hc).2
    clear e1 hc
    generalize multC xss yss = pc at *
    go_enter Try.func35, Try.ntmps35
    go_wp2_with fail
    rw [← HW.out]
    refine C.out.mono ?_
    rintro e w1 ⟨rfl, hb1⟩
    have K21 := Lib.hid (K2.out.kept hb1.block)
    have q2 := K21.out.c0; have f2 := K21.out.free 0
    have HB1 := Lib.hid (HB0.out.trans (hb1.mono HB0.out.size))
    clear hb1 HW q0 q1
    go_wp2_with fail
    have g0 := (K21.out.set (.slice none 0 0)).c0
    exact bodyPost_ret (v := .tuple #[.agg #[.slice none 0 0], .int .i64 pc]) (by simp [results, Try.results35, go_sem, g0]) rfl
      ⟨_, [], rfl, own_u_nil _ _, HB1.out.setCell (by show w.heap.size ≤ w.heap.size + 1 + 1; omega) _⟩
  · have e1 : mmL xss yss = oddL (prodsL xss yss) := by unfold mmL; rw [if_pos hc]
    obtain ⟨m1, m2, m3, m4⟩ := mult_ok hc
    rw [e1, hc]
    rw [hc] at C
    have S := Lib.hid (fun (W : World) (h : IntSS W.heap (.slice ao xss.length c) xss) (hu : IntSS W.heap (.slice bo yss.length d) yss) => l04Times_c _ _ xss yss W h hu m1 m2 (by omega))
    clear m1 m2 m3 m4 e1 hc
    go_enter Try.func35, Try.ntmps35
    go_wp2_with fail
    rw [← HW.out]
    refine C.out.mono ?_
    rintro e w1 ⟨rfl, hb1⟩
    have q0' := (K0.out.kept hb1.block).c0; have q1' := (K1.out.kept hb1.block).c0
    have K21 := Lib.hid (K2.out.kept hb1.block)
    have HB1 := Lib.hid (HB0.out.trans (hb1.mono HB0.out.size))
    have HS1 := Lib.hid hb1.size
    clear hb1 HW q0 q1
    go_wp2_with fail
    refine (S.out _ (H.out.same HB1.out.block) (HU.out.same HB1.out.block)).mono ?_
    rintro e w2 ⟨r, us, rfl, hU, hb2⟩
    obtain ⟨ra, rn, rc, rfl⟩ := own_shape hU.row
    have K22 := Lib.hid (K21.out.kept hb2.block)
    have q2 := K22.out.c0; have f2 := K22.out.free 0
    have HU2 := Lib.hid hU
    have HB2 := Lib.hid (HB1.out.trans (hb2.mono HB1.out.size))
    clear hU hb2 q0' q1'
    go_wp2_with fail
    have g0 := (K22.out.set (.slice ra rn rc)).c0
    exact bodyPost_ret (v := .tuple #[.agg #[.slice ra rn rc], .int .i64 0]) (by simp [results, Try.results35, go_sem, g0]) rfl
      ⟨_, us, rfl, own_var1 HU2.out (by have := HS1.out; have := HSZ.out; omega) _ HB1.out.size K22.out, HB2.out.setCell (by show w.heap.size ≤ w.heap.size + 1 + 1; omega) _⟩
end Go.Proofs.Ytljpjoegeincoaa

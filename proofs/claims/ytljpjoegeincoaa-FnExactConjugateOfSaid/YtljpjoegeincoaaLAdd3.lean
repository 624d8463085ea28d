/- Sums of dual elements: AddDual of the program and of the reference. -/
import Derived.Test.YtljpjoegeincoaaLAdd2
import Derived.Test.YtljpjoegeincoaaLCopy
namespace Go.Proofs.Ytljpjoegeincoaa
open Go.RowKit Go.Sort

def addDL (xss yss : List (List Int)) : List (List Int) := if (addL xss yss).length ≤ 2000 then addL xss yss else []
def addDC (xss yss : List (List Int)) : Int := if addC xss yss = 0 then (if (addL xss yss).length ≤ 2000 then 0 else 3) else addC xss yss
theorem addDL_cnt (xss yss : List (List Int)) : cnt (addDL xss yss) ≤ cnt xss + cnt yss := by
  unfold addDL; split
  · exact addL_cnt _ _
  · simp [cnt]
theorem addC_cases (xss yss : List (List Int)) : (addC xss yss = 0 ∧ arT xss = true ∧ arT yss = true ∧ addL xss yss = mrg xss yss) ∨ (addC xss yss ≠ 0 ∧ addL xss yss = []) := by
  cases h1 : arT xss && arT yss
  · exact .inr ⟨by simp [addC, h1], by simp [addL, h1]⟩
  · cases h2 : sameD xss yss
    · exact .inr ⟨by simp [addC, h1, h2], by simp [addL, h1, h2]⟩
    · have h3 := h1
      simp only [Bool.and_eq_true] at h3
      exact .inl ⟨by simp [addC, h1, h2], h3.1, h3.2, by simp [addL, h1, h2]⟩
set_option maxRecDepth 100000 in
set_option maxHeartbeats 1000000 in
theorem l06Two_c (v u : Value) (xss yss : List (List Int)) (w : World) (h : IntSS w.heap v xss) (hu : IntSS w.heap u yss) :
    Calls Try.prog 62 #[.agg #[v], .agg #[u]] w fun e w' => e = .returned (.int .i64 (addC xss yss)) ∧ Below w.heap.size w w' := by
  have hb : Below w.heap.size w ((w.alloc (.cells #[v] 35)).alloc (.cells #[u] 35)) := ((Below.refl _ _).alloc (Nat.le_refl _) _).alloc (by simp) _
  have k0 := (Cell1.new w v 35).kept (alloc_old _ (.cells #[u] 35))
  have k1 := Cell1.new (w.alloc (.cells #[v] 35)) u 35
  rw [size_alloc_w] at k1
  have C := Lib.hid (l06Is_c v xss _ (h.same hb.block))
  have C2 := Lib.hid (fun (W : World) (h : IntSS W.heap u yss) => l06Is_c u yss W h)
  obtain ⟨ao, c, rfl, hm⟩ := h.len
  obtain ⟨bo, d, rfl, hn⟩ := hu.len
  have H := Lib.hid h; have HU := Lib.hid hu; clear h hu
  obtain ⟨w0, hw0⟩ : ∃ w0, w0 = (w.alloc (.cells #[.slice ao xss.length c] 35)).alloc (.cells #[.slice bo yss.length d] 35) := ⟨_, rfl⟩
  have q0 := k0.c0; have q1 := k1.c0
  rw [← hw0] at k0 k1 hb C
  have HW := Lib.hid hw0; clear hw0
  have HB0 := Lib.hid hb; have K0 := Lib.hid k0; have K1 := Lib.hid k1
  clear hb k0 k1
  cases hT1 : arT xss
  · have e2 : addC xss yss = 1 := by simp [addC, hT1]
    rw [e2]
    rw [hT1] at C
    clear hT1 e2 C2
    go_enter Try.func62, Try.ntmps62
    go_wp2_with fail
    rw [← HW.out]
    refine C.out.mono ?_
    rintro e w1 ⟨rfl, hb1⟩
    have HB1 := Lib.hid (HB0.out.trans (hb1.mono HB0.out.size))
    clear hb1 HW q0 q1
    go_wp2_with fail
    go_ret
    exact ⟨rfl, HB1.out⟩
  · rw [hT1] at C
    cases hT2 : arT yss
    · have e2 : addC xss yss = 1 := by simp [addC, hT2]
      rw [e2]
      rw [hT2] at C2
      clear hT1 hT2 e2
      go_enter Try.func62, Try.ntmps62
      go_wp2_with fail
      rw [← HW.out]
      refine C.out.mono ?_
      rintro e w1 ⟨rfl, hb1⟩
      have q1' := (K1.out.kept hb1.block).c0
      have HB1 := Lib.hid (HB0.out.trans (hb1.mono HB0.out.size))
      clear hb1 HW q0 q1
      go_wp2_with fail
      refine (C2.out _ (HU.out.same HB1.out.block)).mono ?_
      rintro e w2 ⟨rfl, hb2⟩
      have HB2 := Lib.hid (HB1.out.trans (hb2.mono HB1.out.size))
      clear hb2 q1'
      go_wp2_with fail
      go_ret
      exact ⟨rfl, HB2.out⟩
    · rw [hT2] at C2
      have F1 := Lib.hid (arT_first' hT1); have F2 := Lib.hid (arT_first' hT2)
      have HE : Hid (addC xss yss = if sameD xss yss then 0 else 2) := by show _ = _; simp [addC, hT1, hT2]
      have HSD : Hid (sameD xss yss = (decide (xss.length = 0) || decide (yss.length = 0) || deg (xss.getD 0 []) == deg (yss.getD 0 []))) := rfl
      clear hT1 hT2
      go_enter Try.func62, Try.ntmps62
      go_wp2_with fail
      rw [← HW.out]
      refine C.out.mono ?_
      rintro e w1 ⟨rfl, hb1⟩
      have q1' := (K1.out.kept hb1.block).c0
      have K01 := Lib.hid (K0.out.kept hb1.block); have K11 := Lib.hid (K1.out.kept hb1.block)
      have HB1 := Lib.hid (HB0.out.trans (hb1.mono HB0.out.size))
      clear hb1 HW q0 q1
      go_wp2_with fail
      refine (C2.out _ (HU.out.same HB1.out.block)).mono ?_
      rintro e w2 ⟨rfl, hb2⟩
      have K02 := Lib.hid (K01.out.kept hb2.block); have K12 := Lib.hid (K11.out.kept hb2.block)
      have HB2 := Lib.hid (HB1.out.trans (hb2.mono HB1.out.size))
      have q0'' := K02.out.c0; have q1'' := K12.out.c0
      clear hb2 q1' C C2
      by_cases h0 : xss.length = 0
      · have HF : Hid (addC xss yss = 0) := by show _ = _; rw [HE.out, HSD.out, h0]; simp
        have t1 : decide (0 < xss.length) = false := decide_eq_false (by omega)
        have t2 : decide ((0 : Int) < (xss.length : Int)) = false := decide_eq_false (by omega)
        clear HSD HE h0
        go_wp2_with fail
        go_quiet (fail)
        go_wp2_with fail
        go_ret
        exact ⟨by rw [HF.out]; rfl, below_drewN _ HB2.out⟩
      · have t1 : decide (0 < xss.length) = true := decide_eq_true (by omega)
        have t2 : decide ((0 : Int) < (xss.length : Int)) = true := decide_eq_true (by omega)
        have hp : (0 : Int) < xss.length := by omega
        by_cases h1 : yss.length = 0
        · have HF : Hid (addC xss yss = 0) := by show _ = _; rw [HE.out, HSD.out, h1]; simp
          have t3 : decide (0 < yss.length) = false := decide_eq_false (by omega)
          have t4 : decide ((0 : Int) < (yss.length : Int)) = false := decide_eq_false (by omega)
          clear HSD HE h0 h1
          go_wp2_with fail
          go_quiet (fail)
          go_wp2_with fail
          go_ret
          exact ⟨by rw [HF.out]; rfl, below_drewN _ HB2.out⟩
        · have t3 : decide (0 < yss.length) = true := decide_eq_true (by omega)
          have t4 : decide ((0 : Int) < (yss.length : Int)) = true := decide_eq_true (by omega)
          have hq : (0 : Int) < yss.length := by omega
          obtain ⟨b1, o1, c1, u1, hv1, hc1, hu1, -⟩ := (H.out.same HB2.out.block).at 0 (by omega)
          simp only [Value.slice.injEq, true_and] at hv1
          obtain ⟨rfl, rfl⟩ := hv1
          rw [show o1 + 0 = o1 from rfl] at hc1
          rw [show xss[0] = xss.getD 0 [] by simp [show 0 < xss.length by omega]] at hu1
          obtain ⟨b2, o2, c2, u2, hv2, hc2, hu2, -⟩ := (HU.out.same HB2.out.block).at 0 (by omega)
          simp only [Value.slice.injEq, true_and] at hv2
          obtain ⟨rfl, rfl⟩ := hv2
          rw [show o2 + 0 = o2 from rfl] at hc2
          rw [show yss[0] = yss.getD 0 [] by simp [show 0 < yss.length by omega]] at hu2
          have D1 := Lib.hid (fun (W : World) (h : IntS W.heap u1 (xss.getD 0 [])) => l01DegreeE_c u1 _ W h F1.out)
          have D2 := Lib.hid (fun (W : World) (h : IntS W.heap u2 (yss.getD 0 [])) => l01DegreeE_c u2 _ W h F2.out)
          have HU1 := Lib.hid hu1; have HU2 := Lib.hid hu2
          obtain ⟨ua, uc, rfl, -⟩ := hu1.len
          obtain ⟨ub, ud, rfl, -⟩ := hu2.len
          have HF : Hid (addC xss yss = if deg (xss.getD 0 []) = deg (yss.getD 0 []) then 0 else 2) := by
            show _ = _
            rw [HE.out, HSD.out, decide_eq_false h0, decide_eq_false h1]; simp
          clear h0 h1 HSD HE hu1 hu2
          generalize deg (xss.getD 0 []) = p at *
          generalize deg (yss.getD 0 []) = q at *
          generalize xss.getD 0 [] = ys at *
          generalize yss.getD 0 [] = zs at *
          by_cases hpq : p = q
          · have t5 := (eqB hpq).2
            have HF2 : Hid (addC xss yss = 0) := by show _ = _; rw [HF.out, if_pos hpq]
            clear hpq HF
            go_wp2_with fail
            go_quiet ((go_at_call 67; first | ((with_reducible refine quiet_same (D1.out _ ?_)); exact HU1.out) | ((with_reducible refine quiet_same (D2.out _ ?_)); exact HU2.out)))
            go_wp2_with fail
            go_ret
            exact ⟨by rw [HF2.out]; rfl, below_drewN _ HB2.out⟩
          · have t5 := (neB hpq).2
            have HF2 : Hid (addC xss yss = 2) := by show _ = _; rw [HF.out, if_neg hpq]
            clear hpq HF
            go_wp2_with fail
            go_quiet ((go_at_call 67; first | ((with_reducible refine quiet_same (D1.out _ ?_)); exact HU1.out) | ((with_reducible refine quiet_same (D2.out _ ?_)); exact HU2.out)))
            go_wp2_with fail
            go_ret
            exact ⟨by rw [HF2.out]; rfl, below_drewN _ HB2.out⟩
end Go.Proofs.Ytljpjoegeincoaa

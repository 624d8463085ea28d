/- Products of elements and of dual elements: whether two have one, of the program. -/
import Derived.Test.YtmnkccjddahcjaaGreatLAdd2
import Derived.Test.YtmnkccjddahcjaaGreatLMulD
namespace Go.Proofs.YtmnkccjddahcjaaGreat
open Go.RowKit Go.Sort

def sumD (xss yss : List (List Int)) : Bool := decide (xss.length = 0) || decide (yss.length = 0) || decide (degT xss + degT yss ≤ 40)
def multC (xss yss : List (List Int)) : Int := if arT xss && arT yss then (if sumD xss yss then 0 else 3) else 1
theorem degT_in {xss : List (List Int)} (h : arT xss = true) : 0 ≤ degT xss ∧ degT xss ≤ 40 := by
  unfold degT
  by_cases h0 : 0 < xss.length
  · rw [show xss.getD 0 [] = xss[0] by simp [h0]]; exact (arT_row h _ (List.getElem_mem _)).2
  · rw [show xss = [] from List.eq_nil_of_length_eq_zero (by omega)]; decide
theorem multC_zero {xss yss : List (List Int)} (h : multC xss yss = 0) : arT xss = true ∧ arT yss = true ∧ sumD xss yss = true := by
  unfold multC at h
  cases h1 : arT xss && arT yss
  · rw [h1] at h; simp at h
  · rw [h1] at h
    simp only [Bool.and_eq_true] at h1
    cases h2 : sumD xss yss
    · rw [h2] at h; simp at h
    · exact ⟨h1.1, h1.2, rfl⟩
theorem arT_sm {xss : List (List Int)} (h : arT xss = true) : SmS 1000000000000000 4398046511104 xss := fun r hr => by
  have h1 := (arT_row h r hr).1
  refine ⟨fun x hx => ?_, arT_rows h r hr⟩
  have := exp_num h1 x hx
  omega
set_option maxHeartbeats 400000 in
theorem multiplicable_c (v u : Value) (xss yss : List (List Int)) (w : World) (h : IntSS w.heap v xss) (hu : IntSS w.heap u yss) :
    Calls Tryz.prog 127 #[v, u] w fun e w' => e = .returned (.int .i64 (multC xss yss)) ∧ Below w.heap.size w w' := by
  have I := Lib.hid (areTerms_c v xss w h)
  have J := Lib.hid (fun (W : World) (h : IntSS W.heap u yss) => areTerms_c u yss W h)
  obtain ⟨ao, c, rfl, hm⟩ := h.len
  obtain ⟨bo, d, rfl, hn⟩ := hu.len
  have H := Lib.hid h; have HU := Lib.hid hu; clear h hu
  cases hT : arT xss
  · have e : multC xss yss = 1 := by simp [multC, hT]
    rw [e]; rw [hT] at I
    clear hT e J
    go_enter Tryz.func127, Tryz.ntmps127
    go_wp2_with (go_at_call 183; refine I.out.mono ?_; rintro e w1 ⟨rfl, hb1⟩)
    go_ret
    exact ⟨rfl, hb1⟩
  · rw [hT] at I
    cases hT2 : arT yss
    · have e : multC xss yss = 1 := by simp [multC, hT2]
      rw [e]; rw [hT2] at J
      clear hT hT2 e
      go_enter Tryz.func127, Tryz.ntmps127
      go_wp2_with (first | (go_at_call 183; first | ((with_reducible refine I.out.mono ?_); rintro e w1 ⟨rfl, hb1⟩; have HB1 := Lib.hid hb1; clear hb1) | ((with_reducible refine (J.out _ (HU.out.same HB1.out.block)).mono ?_); rintro e w2 ⟨rfl, hb2⟩)))
      go_ret
      exact ⟨rfl, HB1.out.trans (hb2.mono HB1.out.size)⟩
    · rw [hT2] at J
      have HE : Hid (multC xss yss = if sumD xss yss then 0 else 3) := by show _ = _; simp [multC, hT, hT2]
      have HSD : Hid (sumD xss yss = (decide (xss.length = 0) || decide (yss.length = 0) || decide (degT xss + degT yss ≤ 40))) := rfl
      have D1 := Lib.hid (fun (W : World) (h : IntSS W.heap (.slice ao xss.length c) xss) => degreeOfE_c _ xss W h hT)
      have D2 := Lib.hid (fun (W : World) (h : IntSS W.heap (.slice bo yss.length d) yss) => degreeOfE_c _ yss W h hT2)
      have hd1 := degT_in hT; have hd2 := degT_in hT2
      clear hT hT2
      by_cases h0 : xss.length = 0
      · have HF : Hid (multC xss yss = 0) := by show _ = _; rw [HE.out, HSD.out, h0]; simp
        rw [HF.out]
        have t1 : decide (0 < xss.length) = false := decide_eq_false (by omega)
        have t2 : decide ((0 : Int) < (xss.length : Int)) = false := decide_eq_false (by omega)
        clear h0 HE HSD HF
        go_enter Tryz.func127, Tryz.ntmps127
        go_wp2_with (first | (go_at_call 183; first | ((with_reducible refine I.out.mono ?_); rintro e w1 ⟨rfl, hb1⟩; have HB1 := Lib.hid hb1; clear hb1) | ((with_reducible refine (J.out _ (HU.out.same HB1.out.block)).mono ?_); rintro e w2 ⟨rfl, hb2⟩)))
        go_ret
        exact ⟨rfl, HB1.out.trans (hb2.mono HB1.out.size)⟩
      · by_cases h1 : yss.length = 0
        · have HF : Hid (multC xss yss = 0) := by show _ = _; rw [HE.out, HSD.out, h1]; simp
          rw [HF.out]
          have t1 : decide (0 < xss.length) = true := decide_eq_true (by omega)
          have t2 : decide ((0 : Int) < (xss.length : Int)) = true := decide_eq_true (by omega)
          have t3 : decide (0 < yss.length) = false := decide_eq_false (by omega)
          have t4 : decide ((0 : Int) < (yss.length : Int)) = false := decide_eq_false (by omega)
          clear h0 h1 HE HSD HF
          go_enter Tryz.func127, Tryz.ntmps127
          go_wp2_with (first | (go_at_call 183; first | ((with_reducible refine I.out.mono ?_); rintro e w1 ⟨rfl, hb1⟩; have HB1 := Lib.hid hb1; clear hb1) | ((with_reducible refine (J.out _ (HU.out.same HB1.out.block)).mono ?_); rintro e w2 ⟨rfl, hb2⟩)))
          go_ret
          exact ⟨rfl, HB1.out.trans (hb2.mono HB1.out.size)⟩
        · have t1 : decide (0 < xss.length) = true := decide_eq_true (by omega)
          have t2 : decide ((0 : Int) < (xss.length : Int)) = true := decide_eq_true (by omega)
          have t3 : decide (0 < yss.length) = true := decide_eq_true (by omega)
          have t4 : decide ((0 : Int) < (yss.length : Int)) = true := decide_eq_true (by omega)
          have HF : Hid (multC xss yss = if degT xss + degT yss ≤ 40 then 0 else 3) := by
            show _ = _
            rw [HE.out, HSD.out, decide_eq_false h0, decide_eq_false h1]
            simp
          rw [HF.out]
          clear h0 h1 HE HSD HF
          generalize degT xss = p at *
          generalize degT yss = q at *
          have hw : IntKind.i64.wrap (p + q) = p + q := IntWalk.i64_in _ (by omega)
          by_cases hpq : p + q ≤ 40
          · have t5 : decide (40 < p + q) = false := decide_eq_false (by omega)
            rw [if_pos hpq]
            clear hpq
            go_enter Tryz.func127, Tryz.ntmps127
            go_wp2_with (first | (go_at_call 183; first | ((with_reducible refine I.out.mono ?_); rintro e w1 ⟨rfl, hb1⟩; have HB1 := Lib.hid hb1; clear hb1) | ((with_reducible refine (J.out _ (HU.out.same HB1.out.block)).mono ?_); rintro e w2 ⟨rfl, hb2⟩; have HB2 := Lib.hid (HB1.out.trans (hb2.mono HB1.out.size)); clear hb2)) | (go_at_call 122; first | ((with_reducible refine (D1.out _ (H.out.same HB2.out.block)).mono ?_); rintro e w3 ⟨rfl, rfl⟩) | ((with_reducible refine (D2.out _ (HU.out.same HB2.out.block)).mono ?_); rintro e w4 ⟨rfl, rfl⟩)))
            go_ret
            exact ⟨rfl, HB2.out⟩
          · have t5 : decide (40 < p + q) = true := decide_eq_true (by omega)
            rw [if_neg hpq]
            clear hpq
            go_enter Tryz.func127, Tryz.ntmps127
            go_wp2_with (first | (go_at_call 183; first | ((with_reducible refine I.out.mono ?_); rintro e w1 ⟨rfl, hb1⟩; have HB1 := Lib.hid hb1; clear hb1) | ((with_reducible refine (J.out _ (HU.out.same HB1.out.block)).mono ?_); rintro e w2 ⟨rfl, hb2⟩; have HB2 := Lib.hid (HB1.out.trans (hb2.mono HB1.out.size)); clear hb2)) | (go_at_call 122; first | ((with_reducible refine (D1.out _ (H.out.same HB2.out.block)).mono ?_); rintro e w3 ⟨rfl, rfl⟩) | ((with_reducible refine (D2.out _ (HU.out.same HB2.out.block)).mono ?_); rintro e w4 ⟨rfl, rfl⟩)))
            go_ret
            exact ⟨rfl, HB2.out⟩
def mdC (xss yss : List (List Int)) : Int := if multC xss yss = 0 then (if (oddL (joinsL xss yss)).length ≤ 2000 then 0 else 3) else multC xss yss
def mdL (xss yss : List (List Int)) : List (List Int) := if multC xss yss = 0 ∧ (oddL (joinsL xss yss)).length ≤ 2000 then oddL (joinsL xss yss) else []
set_option maxRecDepth 100000 in
set_option maxHeartbeats 1000000 in
theorem implMultiplyDual_of (SO : SortOk) (v u : Value) (xss yss : List (List Int)) (w : World) (h : IntSS w.heap v xss) (hu : IntSS w.heap u yss) :
    Calls Tryz.prog 38 #[.agg #[v], .agg #[u]] w fun e w' => ∃ r us, e = .returned (.tuple #[.agg #[r], .int .i64 (mdC xss yss)]) ∧ OwnU w' w.heap.size r us (mdL xss yss) ∧ Below w.heap.size w w' := by
  have hb : Below w.heap.size w (((w.alloc (.cells #[v] 28)).alloc (.cells #[u] 28)).alloc (.cells #[.slice none 0 0] 28)) := (((Below.refl _ _).alloc (Nat.le_refl _) _).alloc (by simp) _).alloc (by simp; omega) _
  have k0 := (((Cell1.new w v 28).kept (alloc_old _ (.cells #[u] 28))).kept (alloc_old _ (.cells #[.slice none 0 0] 28)))
  have k1 := ((Cell1.new (w.alloc (.cells #[v] 28)) u 28).kept (alloc_old _ (.cells #[.slice none 0 0] 28)))
  have k2 := Cell1.new ((w.alloc (.cells #[v] 28)).alloc (.cells #[u] 28)) (.slice none 0 0) 28
  simp only [size_alloc_w] at k1 k2
  have hsz : (((w.alloc (.cells #[v] 28)).alloc (.cells #[u] 28)).alloc (.cells #[.slice none 0 0] 28)).heap.size = w.heap.size + 3 := by simp
  have C := Lib.hid (multiplicable_c v u xss yss _ (h.same hb.block) (hu.same hb.block))
  obtain ⟨ao, c, rfl, hm⟩ := h.len
  obtain ⟨bo, d, rfl, hn⟩ := hu.len
  have H := Lib.hid h; have HU := Lib.hid hu; clear h hu
  obtain ⟨w0, hw0⟩ : ∃ w0, w0 = ((w.alloc (.cells #[.slice ao xss.length c] 28)).alloc (.cells #[.slice bo yss.length d] 28)).alloc (.cells #[.slice none 0 0] 28) := ⟨_, rfl⟩
  have q0 := k0.c0; have q1 := k1.c0
  rw [← hw0] at k0 k1 k2 hb hsz C
  have HW := Lib.hid hw0; clear hw0
  have HB0 := Lib.hid hb; have K0 := Lib.hid k0; have K1 := Lib.hid k1; have K2 := Lib.hid k2; have HSZ := Lib.hid hsz
  clear hb k0 k1 k2 hsz
  by_cases hc : multC xss yss = 0
  rotate_left
  · have d1 : mdL xss yss = [] := by unfold mdL; rw [if_neg (fun x => hc x.1)]
    have d2 : mdC xss yss = multC xss yss := by unfold mdC; rw [if_neg hc]
    rw [d1, d2]
    have t1 := (neB hc).1; have t1' := (neB hc).2
    clear hc SO d1 d2
    generalize multC xss yss = pc at *
    go_enter Tryz.func38, Tryz.ntmps38
    go_wp2_with fail
    rw [← HW.out]
    refine C.out.mono ?_
    rintro e w1 ⟨rfl, hb1⟩
    have K21 := Lib.hid (K2.out.kept hb1.block)
    have q2 := K21.out.c0; have f2 := K21.out.free 0
    have HB1 := Lib.hid (HB0.out.trans (hb1.mono HB0.out.size))
    clear hb1 HW q0 q1
    go_wp2_with fail
    have g0 := (K21.out.set (.slice none 0 0)).c0
    exact bodyPost_ret (v := .tuple #[.agg #[.slice none 0 0], .int .i64 pc]) (by simp [results, Tryz.results38, go_sem, g0]) rfl
      ⟨_, [], rfl, own_u_nil _ _, HB1.out.setCell (by show w.heap.size ≤ w.heap.size + 1 + 1; omega) _⟩
  · obtain ⟨hT1, hT2, -⟩ := multC_zero hc
    have d1 : mdL xss yss = if (oddL (joinsL xss yss)).length ≤ 2000 then oddL (joinsL xss yss) else [] := by unfold mdL; simp only [hc, true_and]
    have d2 : mdC xss yss = if (oddL (joinsL xss yss)).length ≤ 2000 then 0 else 3 := by unfold mdC; rw [if_pos hc]
    have DD1 := Lib.hid d1; have DD2 := Lib.hid d2
    rw [hc] at C
    have l1 := arT_len hT1; have l2 := arT_len hT2
    have S := Lib.hid (fun (W : World) (h : IntSS W.heap (.slice ao xss.length c) xss) (hu : IntSS W.heap (.slice bo yss.length d) yss) => multiplyDual_of SO _ _ xss yss W h hu (arT_sm hT1) (arT_sm hT2) (Nat.le_trans (Nat.mul_le_mul l1 l2) (by omega)))
    clear hT1 hT2 hc SO d1 d2
    go_enter Tryz.func38, Tryz.ntmps38
    go_wp2_with fail
    rw [← HW.out]
    refine C.out.mono ?_
    rintro e w1 ⟨rfl, hb1⟩
    have q0' := (K0.out.kept hb1.block).c0; have q1' := (K1.out.kept hb1.block).c0
    have K21 := Lib.hid (K2.out.kept hb1.block)
    have HB1 := Lib.hid (HB0.out.trans (hb1.mono HB0.out.size))
    have HS1 := Lib.hid hb1.size
    clear hb1 HW q0 q1
    go_wp2_with fail
    refine (S.out _ (H.out.same HB1.out.block) (HU.out.same HB1.out.block)).mono ?_
    rintro e w2 ⟨r, us, rfl, hU, hb2⟩
    obtain ⟨ra, rc, rfl, -⟩ := hU.ints.len
    have K22 := Lib.hid (K21.out.kept hb2.block)
    have q2 := K22.out.c0; have f2 := K22.out.free 0
    have HU2 := Lib.hid hU
    have HB2 := Lib.hid (HB1.out.trans (hb2.mono HB1.out.size))
    clear hU hb2 q0' q1'
    by_cases hbig : (oddL (joinsL xss yss)).length ≤ 2000
    · have E1 : Hid (mdL xss yss = oddL (joinsL xss yss)) := by show _ = _; rw [DD1.out, if_pos hbig]
      have E2 : Hid (mdC xss yss = 0) := by show _ = _; rw [DD2.out, if_pos hbig]
      have t3 : decide (2000 < (oddL (joinsL xss yss)).length) = false := decide_eq_false (by omega)
      have t4 : decide ((2000 : Int) < ((oddL (joinsL xss yss)).length : Int)) = false := decide_eq_false (by omega)
      clear hbig DD1 DD2
      generalize (oddL (joinsL xss yss)).length = rn at *
      go_wp2_with fail
      have g0 := (K22.out.set (.slice ra rn rc)).c0
      exact bodyPost_ret (v := .tuple #[.agg #[.slice ra rn rc], .int .i64 0]) (by simp [results, Tryz.results38, go_sem, g0]) rfl
        ⟨_, us, by rw [E2.out], by rw [E1.out]; exact own_var1 HU2.out (by have := HS1.out; have := HSZ.out; omega) _ HB1.out.size K22.out, HB2.out.setCell (by show w.heap.size ≤ w.heap.size + 1 + 1; omega) _⟩
    · have E1 : Hid (mdL xss yss = []) := by show _ = _; rw [DD1.out, if_neg hbig]
      have E2 : Hid (mdC xss yss = 3) := by show _ = _; rw [DD2.out, if_neg hbig]
      have t3 : decide (2000 < (oddL (joinsL xss yss)).length) = true := decide_eq_true (by omega)
      have t4 : decide ((2000 : Int) < ((oddL (joinsL xss yss)).length : Int)) = true := decide_eq_true (by omega)
      clear hbig DD1 DD2
      generalize (oddL (joinsL xss yss)).length = rn at *
      go_wp2_with fail
      have g0 := (K22.out.set (.slice none 0 0)).c0
      exact bodyPost_ret (v := .tuple #[.agg #[.slice none 0 0], .int .i64 3]) (by simp [results, Tryz.results38, go_sem, g0]) rfl
        ⟨_, [], by rw [E2.out], by rw [E1.out]; exact own_u_nil _ _, HB2.out.setCell (by show w.heap.size ≤ w.heap.size + 1 + 1; omega) _⟩
end Go.Proofs.YtmnkccjddahcjaaGreat

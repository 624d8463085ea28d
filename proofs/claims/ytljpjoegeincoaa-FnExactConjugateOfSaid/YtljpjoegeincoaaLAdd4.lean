/- AddDual of the program and of the reference. -/
import Derived.Test.YtljpjoegeincoaaLAdd3
namespace Go.Proofs.Ytljpjoegeincoaa
open Go.RowKit Go.Sort

set_option maxRecDepth 100000 in
set_option maxHeartbeats 1000000 in
theorem implAddDual_of (SO : SortOk) (v u : Value) (xss yss : List (List Int)) (w : World) (h : IntSS w.heap v xss) (hu : IntSS w.heap u yss) :
    Calls Try.prog 24 #[.agg #[v], .agg #[u]] w fun e w' => ∃ r us, e = .returned (.tuple #[.agg #[r], .int .i64 (addDC xss yss)]) ∧ OwnU w' w.heap.size r us (addDL xss yss) ∧ Below w.heap.size w w' := by
  have hb : Below w.heap.size w (((w.alloc (.cells #[v] 35)).alloc (.cells #[u] 35)).alloc (.cells #[.slice none 0 0] 35)) := (((Below.refl _ _).alloc (Nat.le_refl _) _).alloc (by simp) _).alloc (by simp; omega) _
  have k0 := (((Cell1.new w v 35).kept (alloc_old _ (.cells #[u] 35))).kept (alloc_old _ (.cells #[.slice none 0 0] 35)))
  have k1 := ((Cell1.new (w.alloc (.cells #[v] 35)) u 35).kept (alloc_old _ (.cells #[.slice none 0 0] 35)))
  have k2 := Cell1.new ((w.alloc (.cells #[v] 35)).alloc (.cells #[u] 35)) (.slice none 0 0) 35
  simp only [size_alloc_w] at k1 k2
  have hsz : (((w.alloc (.cells #[v] 35)).alloc (.cells #[u] 35)).alloc (.cells #[.slice none 0 0] 35)).heap.size = w.heap.size + 3 := by simp
  have C := Lib.hid (addable_c v u xss yss _ (h.same hb.block) (hu.same hb.block))
  obtain ⟨ao, c, rfl, hm⟩ := h.len
  obtain ⟨bo, d, rfl, hn⟩ := hu.len
  have H := Lib.hid h; have HU := Lib.hid hu; clear h hu
  obtain ⟨w0, hw0⟩ : ∃ w0, w0 = ((w.alloc (.cells #[.slice ao xss.length c] 35)).alloc (.cells #[.slice bo yss.length d] 35)).alloc (.cells #[.slice none 0 0] 35) := ⟨_, rfl⟩
  have q0 := k0.c0; have q1 := k1.c0
  rw [← hw0] at k0 k1 k2 hb hsz C
  have HW := Lib.hid hw0; clear hw0
  have HB0 := Lib.hid hb; have K0 := Lib.hid k0; have K1 := Lib.hid k1; have K2 := Lib.hid k2; have HSZ := Lib.hid hsz
  clear hb k0 k1 k2 hsz
  cases hT : (arT xss && arT yss && sameD xss yss)
  · have e1 : addL xss yss = [] := by simp only [addL, hT]; rfl
    have hc : addC xss yss ≠ 0 := by
      unfold addC
      cases h1 : arT xss && arT yss
      · simp
      · rw [h1, Bool.true_and] at hT; rw [hT]; simp
    have d1 : addDL xss yss = [] := by unfold addDL; rw [e1]; rfl
    have d2 : addDC xss yss = addC xss yss := by unfold addDC; rw [if_neg hc]
    rw [d1, d2]
    have t1 := (neB hc).1; have t1' := (neB hc).2
    clear hT e1 hc SO d1 d2
    generalize addC xss yss = pc at *
    go_enter Try.func24, Try.ntmps24
    go_wp2_with fail
    rw [← HW.out]
    refine C.out.mono ?_
    rintro e w1 ⟨rfl, hb1⟩
    have K21 := Lib.hid (K2.out.kept hb1.block)
    have q2 := K21.out.c0; have f2 := K21.out.free 0
    have HB1 := Lib.hid (HB0.out.trans (hb1.mono HB0.out.size))
    clear hb1 HW q0 q1
    go_wp2_with fail
    have g0 := (K21.out.set (.slice none 0 0)).c0
    exact bodyPost_ret (v := .tuple #[.agg #[.slice none 0 0], .int .i64 pc]) (by simp [results, Try.results24, go_sem, g0]) rfl
      ⟨_, [], rfl, own_u_nil _ _, HB1.out.setCell (by show w.heap.size ≤ w.heap.size + 1 + 1; omega) _⟩
  · have e1 : addL xss yss = mrg xss yss := by simp only [addL, hT]; rfl
    simp only [Bool.and_eq_true] at hT
    obtain ⟨⟨hT1, hT2⟩, hT3⟩ := hT
    have e2 : addC xss yss = 0 := by simp [addC, hT1, hT2, hT3]
    have d1 : addDL xss yss = if (mrg xss yss).length ≤ 2000 then mrg xss yss else [] := by unfold addDL; rw [e1]
    have d2 : addDC xss yss = if (mrg xss yss).length ≤ 2000 then 0 else 3 := by unfold addDC; rw [e1, if_pos e2]
    have DD1 := Lib.hid d1; have DD2 := Lib.hid d2
    rw [e2] at C
    have l1 := arT_len hT1; have l2 := arT_len hT2
    have S := Lib.hid (fun (W : World) (h : IntSS W.heap (.slice ao xss.length c) xss) (hu : IntSS W.heap (.slice bo yss.length d) yss) => sumOf_of SO _ _ xss yss W h hu (arT_asc hT1) (arT_asc hT2) (by omega) (arT_rows hT1) (arT_rows hT2))
    clear hT1 hT2 hT3 e1 e2 SO d1 d2
    go_enter Try.func24, Try.ntmps24
    go_wp2_with fail
    rw [← HW.out]
    refine C.out.mono ?_
    rintro e w1 ⟨rfl, hb1⟩
    have q0' := (K0.out.kept hb1.block).c0; have q1' := (K1.out.kept hb1.block).c0
    have K21 := Lib.hid (K2.out.kept hb1.block)
    have HB1 := Lib.hid (HB0.out.trans (hb1.mono HB0.out.size))
    have HS1 := Lib.hid hb1.size
    clear hb1 HW q0 q1
    go_wp2_with fail
    refine (S.out _ (H.out.same HB1.out.block) (HU.out.same HB1.out.block)).mono ?_
    rintro e w2 ⟨r, us, rfl, hU, hb2⟩
    obtain ⟨ra, rc, rfl, -⟩ := hU.ints.len
    have K22 := Lib.hid (K21.out.kept hb2.block)
    have q2 := K22.out.c0; have f2 := K22.out.free 0
    have HU2 := Lib.hid hU
    have HB2 := Lib.hid (HB1.out.trans (hb2.mono HB1.out.size))
    clear hU hb2 q0' q1'
    by_cases hbig : (mrg xss yss).length ≤ 2000
    · have E1 : Hid (addDL xss yss = mrg xss yss) := by show _ = _; rw [DD1.out, if_pos hbig]
      have E2 : Hid (addDC xss yss = 0) := by show _ = _; rw [DD2.out, if_pos hbig]
      have t3 : decide (2000 < (mrg xss yss).length) = false := decide_eq_false (by omega)
      have t4 : decide ((2000 : Int) < ((mrg xss yss).length : Int)) = false := decide_eq_false (by omega)
      clear hbig DD1 DD2
      generalize (mrg xss yss).length = rn at *
      go_wp2_with fail
      have g0 := (K22.out.set (.slice ra rn rc)).c0
      exact bodyPost_ret (v := .tuple #[.agg #[.slice ra rn rc], .int .i64 0]) (by simp [results, Try.results24, go_sem, g0]) rfl
        ⟨_, us, by rw [E2.out], by rw [E1.out]; exact own_var1 HU2.out (by have := HS1.out; have := HSZ.out; omega) _ HB1.out.size K22.out, HB2.out.setCell (by show w.heap.size ≤ w.heap.size + 1 + 1; omega) _⟩
    · have E1 : Hid (addDL xss yss = []) := by show _ = _; rw [DD1.out, if_neg hbig]
      have E2 : Hid (addDC xss yss = 3) := by show _ = _; rw [DD2.out, if_neg hbig]
      have t3 : decide (2000 < (mrg xss yss).length) = true := decide_eq_true (by omega)
      have t4 : decide ((2000 : Int) < ((mrg xss yss).length : Int)) = true := decide_eq_true (by omega)
      clear hbig DD1 DD2
      generalize (mrg xss yss).length = rn at *
      go_wp2_with fail
      have g0 := (K22.out.set (.slice none 0 0)).c0
      exact bodyPost_ret (v := .tuple #[.agg #[.slice none 0 0], .int .i64 3]) (by simp [results, Try.results24, go_sem, g0]) rfl
        ⟨_, [], by rw [E2.out], by rw [E1.out]; exact own_u_nil _ _, HB2.out.setCell (by show w.heap.size ≤ w.heap.size + 1 + 1; omega) _⟩
theorem l06Fit_c (a : Option Addr) (n c : Nat) (w : World) (hn : n ≤ 9223372036854775807) :
    Calls Try.prog 63 #[.slice a n c] w fun e w' => e = .returned (.tuple #[.agg #[if n ≤ 2000 then .slice a n c else .slice none 0 0], .int .i64 (if n ≤ 2000 then 0 else 3)]) ∧ Below w.heap.size w w' := by
  have hb : Below w.heap.size w (w.alloc (.cells #[.slice none 0 0] 35)) := (Below.refl _ _).alloc (Nat.le_refl _) _
  have K := Cell1.new w (.slice none 0 0) 35
  have q := K.c0; have f := K.free 0
  have HB := Lib.hid hb; have HK := Lib.hid K
  clear hb K
  by_cases h : n ≤ 2000
  · rw [if_pos h, if_pos h]
    have t3 : decide (2000 < n) = false := decide_eq_false (by omega)
    have t4 : decide ((2000 : Int) < (n : Int)) = false := decide_eq_false (by omega)
    clear h
    go_enter Try.func63, Try.ntmps63
    go_wp2_with fail
    exact bodyPost_ret (v := .tuple #[.agg #[.slice a n c], .int .i64 0]) (by simp [results, Try.results63, go_sem]) rfl ⟨rfl, (Below.refl _ _).alloc (Nat.le_refl _) _⟩
  · rw [if_neg h, if_neg h]
    have t3 : decide (2000 < n) = true := decide_eq_true (by omega)
    have t4 : decide ((2000 : Int) < (n : Int)) = true := decide_eq_true (by omega)
    clear h
    go_enter Try.func63, Try.ntmps63
    go_wp2_with fail
    exact bodyPost_ret (v := .tuple #[.agg #[.slice none 0 0], .int .i64 3]) (by simp [results, Try.results63, go_sem]) rfl ⟨rfl, (Below.refl _ _).alloc (Nat.le_refl _) _⟩
end Go.Proofs.Ytljpjoegeincoaa

/- Sums of elements: AddMilnor of the program and of the reference. -/
import Derived.Test.YtmnkccjddahcjaaGreatLAdd
import Derived.Test.YtmnkccjddahcjaaGreatLOdd2
import Derived.Test.YtmnkccjddahcjaaGreatLGen
namespace Go.Proofs.YtmnkccjddahcjaaGreat
open Go.RowKit Go.Sort

theorem own_u_nil (w : World) (B : Nat) : OwnU w B (.slice none 0 0) [] [] := ⟨World.ownsRow_nil _ _ _ _, fun i u xs hu => by simp at hu, fun i j u u' _ hu => by simp at hu⟩
theorem arT_rows {xss : List (List Int)} (h : arT xss = true) : ∀ r ∈ xss, r.length ≤ 4398046511104 := fun r hr => by
  have := (arT_row h r hr).1
  simp only [isExp, Bool.and_eq_true, decide_eq_true_eq] at this
  omega
theorem sumOf_of (SO : SortOk) (v u : Value) (xss yss : List (List Int)) (w : World) (h : IntSS w.heap v xss) (hu : IntSS w.heap u yss) (ha : Asc xss) (hb : Asc yss) (hl : xss.length + yss.length ≤ 4398046511104) (hr : ∀ x ∈ xss, x.length ≤ 4398046511104) (hr2 : ∀ x ∈ yss, x.length ≤ 4398046511104) :
    Calls Tryz.prog 134 #[v, u] w fun e w' => ∃ r us, e = .returned r ∧ OwnU w' w.heap.size r us (mrg xss yss) ∧ Below w.heap.size w w' := by
  have C := Lib.hid (joined_c v u xss yss w h hu hl)
  have O := Lib.hid (fun (v : Value) (W : World) (h : IntSS W.heap v (xss ++ yss)) => oddOnes_of SO v (xss ++ yss) W h (by rw [List.length_append]; exact hl) (fun x hx => (List.mem_append.1 hx).elim (hr x) (hr2 x)))
  rw [← mrg_odd ha hb] at O
  obtain ⟨ao, c, rfl, -⟩ := h.len
  obtain ⟨bo, d, rfl, -⟩ := hu.len
  clear h hu SO
  go_enter Tryz.func134, Tryz.ntmps134
  go_wp2_with (first | (go_at_call 208; refine C.out.mono ?_; rintro e w1 ⟨r, us, rfl, hR, hb1⟩; obtain ⟨ra, rn, rc, rfl⟩ := own_shape hR.row) | (go_at_call 107; refine (O.out _ _ (hR.ints hb1.block)).mono ?_; rintro e w2 ⟨r2, us2, rfl, hU, hb2⟩; obtain ⟨sa, sn, sc, rfl⟩ := own_shape hU.row))
  go_ret
  exact ⟨_, _, rfl, own_u_base hU hb1.size, hb1.trans (hb2.mono hb1.size)⟩
theorem l04Same_c (v u : Value) (xss yss : List (List Int)) (w : World) (h : IntSS w.heap v xss) (hu : IntSS w.heap u yss) (hT : arT xss = true) (hT2 : arT yss = true) :
    Calls Tryz.prog 135 #[.agg #[v], .agg #[u]] w fun e w' => e = .returned (.bool (sameD xss yss)) ∧ Below w.heap.size w w' := by
  have hb : Below w.heap.size w ((w.alloc (.cells #[v] 31)).alloc (.cells #[u] 31)) := ((Below.refl _ _).alloc (Nat.le_refl _) _).alloc (by simp) _
  have k0 := ((Cell1.new w v 31).kept (alloc_old _ (.cells #[u] 31))).c0
  have k1 := (Cell1.new (w.alloc (.cells #[v] 31)) u 31).c0
  rw [size_alloc_w] at k1
  have H := Lib.hid (h.same hb.block); have HU := Lib.hid (hu.same hb.block); have HB := Lib.hid hb
  have F1 := Lib.hid (arT_first' hT); have F2 := Lib.hid (arT_first' hT2)
  obtain ⟨ao, c, rfl, hm⟩ := h.len
  obtain ⟨bo, d, rfl, hn⟩ := hu.len
  have HSD : Hid (sameD xss yss = (decide (xss.length = 0) || decide (yss.length = 0) || deg (xss.getD 0 []) == deg (yss.getD 0 []))) := rfl
  clear h hu hb hT hT2
  by_cases h0 : xss.length = 0
  · have HF : Hid (sameD xss yss = true) := by show _ = _; rw [HSD.out, h0]; simp
    rw [HF.out]
    have t1 := (eqB (show ((xss.length : Nat) : Int) = 0 by omega)).1
    rw [h0] at k0 t1 HB ⊢
    clear h0 HSD HF
    go_enter Tryz.func135, Tryz.ntmps135
    go_wp2_with fail
    go_quiet (fail)
    go_wp2_with fail
    go_ret
    exact ⟨rfl, below_drewN _ HB.out⟩
  · obtain ⟨b1, o1, c1, u1, hv1, hc1, hu1, -⟩ := H.out.at 0 (by omega)
    simp only [Value.slice.injEq, true_and] at hv1
    obtain ⟨rfl, rfl⟩ := hv1
    rw [show o1 + 0 = o1 from rfl] at hc1
    rw [show xss[0] = xss.getD 0 [] by simp [show 0 < xss.length by omega]] at hu1
    have t1 := (neB (show ((xss.length : Nat) : Int) ≠ 0 by omega)).1
    have hp : (0 : Int) < xss.length := by omega
    by_cases h1 : yss.length = 0
    · have HF : Hid (sameD xss yss = true) := by show _ = _; rw [HSD.out, h1]; simp
      rw [HF.out]
      have t2 := (eqB (show ((yss.length : Nat) : Int) = 0 by omega)).1
      rw [h1] at k1 t2 HB ⊢
      clear h0 h1 HSD HF hu1
      go_enter Tryz.func135, Tryz.ntmps135
      go_wp2_with fail
      go_quiet (fail)
      go_wp2_with fail
      go_ret
      exact ⟨rfl, below_drewN _ HB.out⟩
    · obtain ⟨b2, o2, c2, u2, hv2, hc2, hu2, -⟩ := HU.out.at 0 (by omega)
      simp only [Value.slice.injEq, true_and] at hv2
      obtain ⟨rfl, rfl⟩ := hv2
      rw [show o2 + 0 = o2 from rfl] at hc2
      rw [show yss[0] = yss.getD 0 [] by simp [show 0 < yss.length by omega]] at hu2
      have t2 := (neB (show ((yss.length : Nat) : Int) ≠ 0 by omega)).1
      have hq : (0 : Int) < yss.length := by omega
      have D1 := Lib.hid (fun (W : World) (h : IntS W.heap u1 (xss.getD 0 [])) => l01DegreeE_c u1 _ W h F1.out)
      have D2 := Lib.hid (fun (W : World) (h : IntS W.heap u2 (yss.getD 0 [])) => l01DegreeE_c u2 _ W h F2.out)
      have HU1 := Lib.hid hu1; have HU2 := Lib.hid hu2
      obtain ⟨ua, uc, rfl, -⟩ := hu1.len
      obtain ⟨ub, ud, rfl, -⟩ := hu2.len
      have HF : Hid (sameD xss yss = (deg (xss.getD 0 []) == deg (yss.getD 0 []))) := by
        show _ = _
        rw [HSD.out, decide_eq_false h0, decide_eq_false h1]; simp
      rw [HF.out]
      clear h0 h1 HSD HF hu1 hu2
      generalize deg (xss.getD 0 []) = p at *
      generalize deg (yss.getD 0 []) = q at *
      generalize xss.getD 0 [] = ys at *
      generalize yss.getD 0 [] = zs at *
      go_enter Tryz.func135, Tryz.ntmps135
      go_wp2_with fail
      go_quiet ((go_at_call 118; first | ((with_reducible refine quiet_same (D1.out _ ?_)); exact HU1.out) | ((with_reducible refine quiet_same (D2.out _ ?_)); exact HU2.out)))
      go_wp2_with fail
      go_ret
      exact ⟨rfl, below_drewN _ HB.out⟩
theorem l04Add_c (v u : Value) (a b : List (List Int)) (w : World) (h : IntSS w.heap v a) (hu : IntSS w.heap u b) (hl : a.length + b.length ≤ 4398046511104) (ha : ∀ r ∈ a, r.length ≤ 4398046511104) (hb : ∀ r ∈ b, r.length ≤ 4398046511104) :
    Calls Tryz.prog 136 #[v, u] w fun e w' => ∃ r, e = .returned r ∧ OwnII w' w.heap.size r (mrg a b) ∧ Below w.heap.size w w' := by
  have S := Lib.hid (l01Sum_c v u a b w h hu hl ha hb)
  obtain ⟨ao, c, rfl, -⟩ := h.len
  obtain ⟨bo, d, rfl, -⟩ := hu.len
  clear h hu
  go_enter Tryz.func136, Tryz.ntmps136
  go_wp2_with (go_at_call 101; refine S.out.mono ?_; rintro e w1 ⟨r, rfl, ⟨us, hU⟩, hb1⟩; obtain ⟨ra, rn, rc, rfl⟩ := own_shape hU.row)
  go_ret
  exact ⟨_, rfl, ⟨us, hU⟩, hb1⟩
/-- A result variable that has been given a sum. -/
theorem own_var1 {w1 w2 : World} {B g : Nat} {v x : Value} {us : List Value} {xss : List (List Int)} {t : Nat} (hU : OwnU w2 w1.heap.size v us xss) (hg : g < w1.heap.size) (u : Value) (hB : B ≤ w1.heap.size) (_ : Cell1 w2 g x t) : OwnU (w2.setCell ⟨g, 0, none⟩ u) B v us xss :=
  own_u_base (hU.far fun b h1 _ => Below.heap_setCell _ _ _ _ (by show b ≠ g; omega)) hB
set_option maxRecDepth 100000 in
set_option maxHeartbeats 1000000 in
theorem implAddMilnor_of (SO : SortOk) (v u : Value) (xss yss : List (List Int)) (w : World) (h : IntSS w.heap v xss) (hu : IntSS w.heap u yss) :
    Calls Tryz.prog 44 #[.agg #[v], .agg #[u]] w fun e w' => ∃ r us, e = .returned (.tuple #[.agg #[r], .int .i64 (addC xss yss)]) ∧ OwnU w' w.heap.size r us (addL xss yss) ∧ Below w.heap.size w w' := by
  have hb : Below w.heap.size w (((w.alloc (.cells #[v] 31)).alloc (.cells #[u] 31)).alloc (.cells #[.slice none 0 0] 31)) := (((Below.refl _ _).alloc (Nat.le_refl _) _).alloc (by simp) _).alloc (by simp; omega) _
  have k0 := (((Cell1.new w v 31).kept (alloc_old _ (.cells #[u] 31))).kept (alloc_old _ (.cells #[.slice none 0 0] 31)))
  have k1 := ((Cell1.new (w.alloc (.cells #[v] 31)) u 31).kept (alloc_old _ (.cells #[.slice none 0 0] 31)))
  have k2 := Cell1.new ((w.alloc (.cells #[v] 31)).alloc (.cells #[u] 31)) (.slice none 0 0) 31
  simp only [size_alloc_w] at k1 k2
  have hsz : (((w.alloc (.cells #[v] 31)).alloc (.cells #[u] 31)).alloc (.cells #[.slice none 0 0] 31)).heap.size = w.heap.size + 3 := by simp
  have C := Lib.hid (addable_c v u xss yss _ (h.same hb.block) (hu.same hb.block))
  obtain ⟨ao, c, rfl, hm⟩ := h.len
  obtain ⟨bo, d, rfl, hn⟩ := hu.len
  have H := Lib.hid h; have HU := Lib.hid hu; clear h hu
  obtain ⟨w0, hw0⟩ : ∃ w0, w0 = ((w.alloc (.cells #[.slice ao xss.length c] 31)).alloc (.cells #[.slice bo yss.length d] 31)).alloc (.cells #[.slice none 0 0] 31) := ⟨_, rfl⟩
  have q0 := k0.c0; have q1 := k1.c0
  rw [← hw0] at k0 k1 k2 hb hsz C
  have HW := Lib.hid hw0; clear hw0
  have HB0 := Lib.hid hb; have K0 := Lib.hid k0; have K1 := Lib.hid k1; have K2 := Lib.hid k2; have HSZ := Lib.hid hsz
  clear hb k0 k1 k2 hsz
  cases hT : (arT xss && arT yss && sameD xss yss)
  · have e1 : addL xss yss = [] := by simp only [addL, hT]; rfl
    have hc : addC xss yss ≠ 0 := by
      unfold addC
      cases h1 : arT xss && arT yss
      · simp
      · rw [h1, Bool.true_and] at hT; rw [hT]; simp
    rw [e1]
    have t1 := (neB hc).1; have t1' := (neB hc).2
    clear hT e1 hc SO
    generalize addC xss yss = pc at *
    go_enter Tryz.func44, Tryz.ntmps44
    go_wp2_with fail
    rw [← HW.out]
    refine C.out.mono ?_
    rintro e w1 ⟨rfl, hb1⟩
    have K21 := Lib.hid (K2.out.kept hb1.block)
    have q2 := K21.out.c0; have f2 := K21.out.free 0
    have HB1 := Lib.hid (HB0.out.trans (hb1.mono HB0.out.size))
    clear hb1 HW q0 q1
    go_wp2_with fail
    have g0 := (K21.out.set (.slice none 0 0)).c0
    exact bodyPost_ret (v := .tuple #[.agg #[.slice none 0 0], .int .i64 pc]) (by simp [results, Tryz.results44, go_sem, g0]) rfl
      ⟨_, [], rfl, own_u_nil _ _, HB1.out.setCell (by show w.heap.size ≤ w.heap.size + 1 + 1; omega) _⟩
  · have e1 : addL xss yss = mrg xss yss := by simp only [addL, hT]; rfl
    simp only [Bool.and_eq_true] at hT
    obtain ⟨⟨hT1, hT2⟩, hT3⟩ := hT
    have e2 : addC xss yss = 0 := by simp [addC, hT1, hT2, hT3]
    rw [e1, e2]
    rw [e2] at C
    have l1 := arT_len hT1; have l2 := arT_len hT2
    have S := Lib.hid (fun (W : World) (h : IntSS W.heap (.slice ao xss.length c) xss) (hu : IntSS W.heap (.slice bo yss.length d) yss) => sumOf_of SO _ _ xss yss W h hu (arT_asc hT1) (arT_asc hT2) (by omega) (arT_rows hT1) (arT_rows hT2))
    clear hT1 hT2 hT3 e1 e2 SO
    go_enter Tryz.func44, Tryz.ntmps44
    go_wp2_with fail
    rw [← HW.out]
    refine C.out.mono ?_
    rintro e w1 ⟨rfl, hb1⟩
    have q0' := (K0.out.kept hb1.block).c0; have q1' := (K1.out.kept hb1.block).c0
    have K21 := Lib.hid (K2.out.kept hb1.block)
    have HB1 := Lib.hid (HB0.out.trans (hb1.mono HB0.out.size))
    have HS1 := Lib.hid hb1.size
    clear hb1 HW q0 q1
    go_wp2_with fail
    refine (S.out _ (H.out.same HB1.out.block) (HU.out.same HB1.out.block)).mono ?_
    rintro e w2 ⟨r, us, rfl, hU, hb2⟩
    obtain ⟨ra, rn, rc, rfl⟩ := own_shape hU.row
    have K22 := Lib.hid (K21.out.kept hb2.block)
    have q2 := K22.out.c0; have f2 := K22.out.free 0
    have HU2 := Lib.hid hU
    have HB2 := Lib.hid (HB1.out.trans (hb2.mono HB1.out.size))
    clear hU hb2 q0' q1'
    go_wp2_with fail
    have g0 := (K22.out.set (.slice ra rn rc)).c0
    exact bodyPost_ret (v := .tuple #[.agg #[.slice ra rn rc], .int .i64 0]) (by simp [results, Tryz.results44, go_sem, g0]) rfl
      ⟨_, us, rfl, own_var1 HU2.out (by have := HS1.out; have := HSZ.out; omega) _ HB1.out.size K22.out, HB2.out.setCell (by show w.heap.size ≤ w.heap.size + 1 + 1; omega) _⟩
set_option maxRecDepth 100000 in
set_option maxHeartbeats 1000000 in
theorem specAddMilnor_c (v u : Value) (xss yss : List (List Int)) (w : World) (h : IntSS w.heap v xss) (hu : IntSS w.heap u yss) :
    Calls Tryz.prog 45 #[.agg #[v], .agg #[u]] w fun e w' => ∃ r us, e = .returned (.tuple #[.agg #[r], .int .i64 (addC xss yss)]) ∧ OwnU w' w.heap.size r us (addL xss yss) ∧ Below w.heap.size w w' := by
  have hb : Below w.heap.size w (((w.alloc (.cells #[v] 31)).alloc (.cells #[u] 31)).alloc (.cells #[.slice none 0 0] 31)) := (((Below.refl _ _).alloc (Nat.le_refl _) _).alloc (by simp) _).alloc (by simp; omega) _
  have k0 := (((Cell1.new w v 31).kept (alloc_old _ (.cells #[u] 31))).kept (alloc_old _ (.cells #[.slice none 0 0] 31)))
  have k1 := ((Cell1.new (w.alloc (.cells #[v] 31)) u 31).kept (alloc_old _ (.cells #[.slice none 0 0] 31)))
  have k2 := Cell1.new ((w.alloc (.cells #[v] 31)).alloc (.cells #[u] 31)) (.slice none 0 0) 31
  simp only [size_alloc_w] at k1 k2
  have hsz : (((w.alloc (.cells #[v] 31)).alloc (.cells #[u] 31)).alloc (.cells #[.slice none 0 0] 31)).heap.size = w.heap.size + 3 := by simp
  have C := Lib.hid (l04Is_c v xss _ (h.same hb.block))
  have C2 := Lib.hid (fun (W : World) (h : IntSS W.heap u yss) => l04Is_c u yss W h)
  obtain ⟨ao, c, rfl, hm⟩ := h.len
  obtain ⟨bo, d, rfl, hn⟩ := hu.len
  have H := Lib.hid h; have HU := Lib.hid hu; clear h hu
  obtain ⟨w0, hw0⟩ : ∃ w0, w0 = ((w.alloc (.cells #[.slice ao xss.length c] 31)).alloc (.cells #[.slice bo yss.length d] 31)).alloc (.cells #[.slice none 0 0] 31) := ⟨_, rfl⟩
  have q0 := k0.c0; have q1 := k1.c0
  rw [← hw0] at k0 k1 k2 hb hsz C
  have HW := Lib.hid hw0; clear hw0
  have HB0 := Lib.hid hb; have K0 := Lib.hid k0; have K1 := Lib.hid k1; have K2 := Lib.hid k2; have HSZ := Lib.hid hsz
  clear hb k0 k1 k2 hsz
  cases hT1 : arT xss
  · have e1 : addL xss yss = [] := by simp [addL, hT1]
    have e2 : addC xss yss = 1 := by simp [addC, hT1]
    rw [e1, e2]
    rw [hT1] at C
    clear hT1 e1 e2 C2
    go_enter Tryz.func45, Tryz.ntmps45
    go_wp2_with fail
    rw [← HW.out]
    refine C.out.mono ?_
    rintro e w1 ⟨rfl, hb1⟩
    have K21 := Lib.hid (K2.out.kept hb1.block)
    have q2 := K21.out.c0; have f2 := K21.out.free 0
    have HB1 := Lib.hid (HB0.out.trans (hb1.mono HB0.out.size))
    clear hb1 HW q0 q1
    go_wp2_with fail
    have g0 := (K21.out.set (.slice none 0 0)).c0
    exact bodyPost_ret (v := .tuple #[.agg #[.slice none 0 0], .int .i64 1]) (by simp [results, Tryz.results45, go_sem, g0]) rfl
      ⟨_, [], rfl, own_u_nil _ _, HB1.out.setCell (by show w.heap.size ≤ w.heap.size + 1 + 1; omega) _⟩
  · rw [hT1] at C
    cases hT2 : arT yss
    · have e1 : addL xss yss = [] := by simp [addL, hT2]
      have e2 : addC xss yss = 1 := by simp [addC, hT2]
      rw [e1, e2]
      rw [hT2] at C2
      clear hT1 hT2 e1 e2
      go_enter Tryz.func45, Tryz.ntmps45
      go_wp2_with fail
      rw [← HW.out]
      refine C.out.mono ?_
      rintro e w1 ⟨rfl, hb1⟩
      have q1' := (K1.out.kept hb1.block).c0
      have K21 := Lib.hid (K2.out.kept hb1.block)
      have HB1 := Lib.hid (HB0.out.trans (hb1.mono HB0.out.size))
      clear hb1 HW q0 q1
      go_wp2_with fail
      refine (C2.out _ (HU.out.same HB1.out.block)).mono ?_
      rintro e w2 ⟨rfl, hb2⟩
      have K22 := Lib.hid (K21.out.kept hb2.block)
      have q2 := K22.out.c0; have f2 := K22.out.free 0
      have HB2 := Lib.hid (HB1.out.trans (hb2.mono HB1.out.size))
      clear hb2 q1'
      go_wp2_with fail
      have g0 := (K22.out.set (.slice none 0 0)).c0
      exact bodyPost_ret (v := .tuple #[.agg #[.slice none 0 0], .int .i64 1]) (by simp [results, Tryz.results45, go_sem, g0]) rfl
        ⟨_, [], rfl, own_u_nil _ _, HB2.out.setCell (by show w.heap.size ≤ w.heap.size + 1 + 1; omega) _⟩
    · rw [hT2] at C2
      have l1 := arT_len hT1; have l2 := arT_len hT2
      have L := Lib.hid (fun (W : World) (h : IntSS W.heap (.slice ao xss.length c) xss) (hu : IntSS W.heap (.slice bo yss.length d) yss) => l04Same_c _ _ xss yss W h hu hT1 hT2)
      have S := Lib.hid (fun (W : World) (h : IntSS W.heap (.slice ao xss.length c) xss) (hu : IntSS W.heap (.slice bo yss.length d) yss) => l04Add_c _ _ xss yss W h hu (by omega) (arT_rows hT1) (arT_rows hT2))
      cases hT3 : sameD xss yss
      · have e1 : addL xss yss = [] := by simp [addL, hT3]
        have e2 : addC xss yss = 2 := by simp [addC, hT1, hT2, hT3]
        rw [e1, e2]
        rw [hT3] at L
        clear hT1 hT2 hT3 e1 e2 S
        go_enter Tryz.func45, Tryz.ntmps45
        go_wp2_with fail
        rw [← HW.out]
        refine C.out.mono ?_
        rintro e w1 ⟨rfl, hb1⟩
        have q1' := (K1.out.kept hb1.block).c0
        have K21 := Lib.hid (K2.out.kept hb1.block); have K01 := Lib.hid (K0.out.kept hb1.block); have K11 := Lib.hid (K1.out.kept hb1.block)
        have HB1 := Lib.hid (HB0.out.trans (hb1.mono HB0.out.size))
        clear hb1 HW q0 q1
        go_wp2_with fail
        refine (C2.out _ (HU.out.same HB1.out.block)).mono ?_
        rintro e w2 ⟨rfl, hb2⟩
        have q0'' := (K01.out.kept hb2.block).c0; have q1'' := (K11.out.kept hb2.block).c0
        have K22 := Lib.hid (K21.out.kept hb2.block)
        have HB2 := Lib.hid (HB1.out.trans (hb2.mono HB1.out.size))
        clear hb2 q1'
        go_wp2_with fail
        refine (L.out _ (H.out.same HB2.out.block) (HU.out.same HB2.out.block)).mono ?_
        rintro e w3 ⟨rfl, hb3⟩
        have K23 := Lib.hid (K22.out.kept hb3.block)
        have q2 := K23.out.c0; have f2 := K23.out.free 0
        have HB3 := Lib.hid (HB2.out.trans (hb3.mono HB2.out.size))
        clear hb3 q0'' q1''
        go_wp2_with fail
        have g0 := (K23.out.set (.slice none 0 0)).c0
        exact bodyPost_ret (v := .tuple #[.agg #[.slice none 0 0], .int .i64 2]) (by simp [results, Tryz.results45, go_sem, g0]) rfl
          ⟨_, [], rfl, own_u_nil _ _, HB3.out.setCell (by show w.heap.size ≤ w.heap.size + 1 + 1; omega) _⟩
      · have e1 : addL xss yss = mrg xss yss := by simp [addL, hT1, hT2, hT3]
        have e2 : addC xss yss = 0 := by simp [addC, hT1, hT2, hT3]
        rw [e1, e2]
        rw [hT3] at L
        clear hT1 hT2 hT3 e1 e2
        go_enter Tryz.func45, Tryz.ntmps45
        go_wp2_with fail
        rw [← HW.out]
        refine C.out.mono ?_
        rintro e w1 ⟨rfl, hb1⟩
        have q1' := (K1.out.kept hb1.block).c0
        have K21 := Lib.hid (K2.out.kept hb1.block); have K01 := Lib.hid (K0.out.kept hb1.block); have K11 := Lib.hid (K1.out.kept hb1.block)
        have HB1 := Lib.hid (HB0.out.trans (hb1.mono HB0.out.size))
        have HS1 := Lib.hid hb1.size
        clear hb1 HW q0 q1
        go_wp2_with fail
        refine (C2.out _ (HU.out.same HB1.out.block)).mono ?_
        rintro e w2 ⟨rfl, hb2⟩
        have q0'' := (K01.out.kept hb2.block).c0; have q1'' := (K11.out.kept hb2.block).c0
        have K22 := Lib.hid (K21.out.kept hb2.block); have K02 := Lib.hid (K01.out.kept hb2.block); have K12 := Lib.hid (K11.out.kept hb2.block)
        have HB2 := Lib.hid (HB1.out.trans (hb2.mono HB1.out.size))
        have HS2 := Lib.hid hb2.size
        clear hb2 q1'
        go_wp2_with fail
        refine (L.out _ (H.out.same HB2.out.block) (HU.out.same HB2.out.block)).mono ?_
        rintro e w3 ⟨rfl, hb3⟩
        have K23 := Lib.hid (K22.out.kept hb3.block)
        have q0 := (K02.out.kept hb3.block).c0; have q1 := (K12.out.kept hb3.block).c0
        have HB3 := Lib.hid (HB2.out.trans (hb3.mono HB2.out.size))
        have HS3 := Lib.hid hb3.size
        clear hb3 q0'' q1''
        go_wp2_with fail
        refine (S.out _ (H.out.same HB3.out.block) (HU.out.same HB3.out.block)).mono ?_
        rintro e w4 ⟨r, rfl, ⟨us, hU⟩, hb4⟩
        obtain ⟨ra, rn, rc, rfl⟩ := own_shape hU.row
        have K24 := Lib.hid (K23.out.kept hb4.block)
        have q2 := K24.out.c0; have f2 := K24.out.free 0
        have HU2 := Lib.hid hU
        have HB4 := Lib.hid (HB3.out.trans (hb4.mono HB3.out.size))
        clear hU hb4 q0 q1
        go_wp2_with fail
        have g0 := (K24.out.set (.slice ra rn rc)).c0
        exact bodyPost_ret (v := .tuple #[.agg #[.slice ra rn rc], .int .i64 0]) (by simp [results, Tryz.results45, go_sem, g0]) rfl
          ⟨_, us, rfl, own_var1 HU2.out (by have := HS1.out; have := HS2.out; have := HS3.out; have := HSZ.out; omega) _ HB3.out.size K24.out, HB4.out.setCell (by show w.heap.size ≤ w.heap.size + 1 + 1; omega) _⟩
end Go.Proofs.YtmnkccjddahcjaaGreat

/- SuspendModule of the reference. -/
import Derived.Test.YthclhbjbimncpaaLSus
namespace Go.Proofs.Ythclhbjbimncpaa
open Go.RowKit Go.Sort

set_option maxRecDepth 100000 in
set_option maxHeartbeats 2000000 in
theorem specSuspendModule_c (d a : Value) (ds : List Int) (act : List (List Int)) (n : Int) (w : World) (h : ModS w.heap d a ds act) :
    Calls Try.prog 68 #[.agg #[d, a], .int .i64 n] w fun e w' => ∃ d' a' us, e = .returned (.tuple #[.agg #[d', a'], .int .i64 (susC ds act n)]) ∧ OwnM w' w.heap.size d' a' us (susD ds act n) (susA ds act n) ∧ Below w.heap.size w w' := by
  have V1 := Var2.new w d a 70
  have V2 := Var2.new (w.alloc (.cells #[d, a] 70)) (.slice none 0 0) (.slice none 0 0) 70
  rw [size_alloc_w] at V2
  have hb : Below w.heap.size w ((w.alloc (.cells #[d, a] 70)).alloc (.cells #[.slice none 0 0, .slice none 0 0] 70)) := ((Below.refl _ _).alloc (Nat.le_refl _) _).alloc (by simp) _
  have V1' := V1.kept (alloc_old _ (.cells #[.slice none 0 0, .slice none 0 0] 70))
  have hsz : ((w.alloc (.cells #[d, a] 70)).alloc (.cells #[.slice none 0 0, .slice none 0 0] 70)).heap.size = w.heap.size + 2 := by simp
  have I := Lib.hid (l11Is_c d a ds act _ (h.same hb.block))
  obtain ⟨ao, ac, hdv, hm⟩ := h.1.len
  obtain ⟨bo, bc, hav, hm2⟩ := h.2.len
  subst hdv; subst hav
  have H0 := Lib.hid h; clear h V1
  obtain ⟨w0, hw0⟩ : ∃ w0, w0 = (w.alloc (.cells #[.slice ao ds.length ac, .slice bo act.length bc] 70)).alloc (.cells #[.slice none 0 0, .slice none 0 0] 70) := ⟨_, rfl⟩
  rw [← hw0] at V1' V2 hb hsz I
  have HW := Lib.hid hw0; clear hw0
  have HB0 := Lib.hid hb; have HV1 := Lib.hid V1'; have HV2 := Lib.hid V2; have HSZ := Lib.hid hsz
  clear hb V1' V2 hsz
  have k1 := HV1.out.c0; have k2 := HV1.out.c1
  cases hT : isMod ds act
  · have e1 : susC ds act n = 1 := by simp [susC, hT]
    have e2 : susD ds act n = [] := by simp [susD, susOk, hT]
    have e3 : susA ds act n = [] := by simp [susA, susOk, hT]
    rw [e1, e2, e3]; clear e1 e2 e3
    rw [hT] at I
    clear hT
    go_enter Try.func68, Try.ntmps68
    go_wp2_with fail
    rw [← HW.out]
    refine I.out.mono ?_
    rintro e w1 ⟨rfl, hb1⟩
    have W2 := HV2.out.kept hb1.block
    have c0 := W2.c0; have c1 := W2.c1; have f0 := W2.free 0; have f1 := W2.free 1
    have HB1 := Lib.hid (HB0.out.trans (hb1.mono HB0.out.size)); have HW2 := Lib.hid W2
    clear hb1 W2 HW
    go_wp2_with fail
    have g0 := (HW2.out.set0 (.slice none 0 0)).c0
    have g1 := ((HW2.out.set0 (.slice none 0 0)).set1 (.slice none 0 0)).c1
    exact bodyPost_ret (v := .tuple #[.agg #[.slice none 0 0, .slice none 0 0], .int .i64 1]) (by simp [results, Try.results68, go_sem, g0, g1]) rfl
      ⟨_, _, [], rfl, OwnM.nil _ _, (HB1.out.setCell (by show w.heap.size ≤ w.heap.size + 1; omega) _).setCell (by show w.heap.size ≤ w.heap.size + 1; omega) _⟩
  · have HT := Lib.hid (isMod_T hT)
    have D := Lib.hid (l01In_c n (-20) 20)
    rw [hT] at I
    cases hN : decide (-20 ≤ n) && decide (n ≤ 20)
    · have e1 : susC ds act n = 2 := by simp only [susC, hT, hN]; rfl
      have e2 : susD ds act n = [] := by simp only [susD, susOk, hT, hN]; rfl
      have e3 : susA ds act n = [] := by simp only [susA, susOk, hT, hN]; rfl
      rw [e1, e2, e3]; clear e1 e2 e3
      rw [hN] at D
      clear hT hN
      go_enter Try.func68, Try.ntmps68
      go_wp2_with fail
      rw [← HW.out]
      refine I.out.mono ?_
      rintro e w1 ⟨rfl, hb1⟩
      have W2 := HV2.out.kept hb1.block
      have c0 := W2.c0; have c1 := W2.c1; have f0 := W2.free 0; have f1 := W2.free 1
      have HB1 := Lib.hid (HB0.out.trans (hb1.mono HB0.out.size)); have HW2 := Lib.hid W2
      clear hb1 W2 HW
      go_wp2_with (go_at_call 89; refine (D.out _).mono ?_; rintro e w2 ⟨rfl, rfl⟩)
      have g0 := (HW2.out.set0 (.slice none 0 0)).c0
      have g1 := ((HW2.out.set0 (.slice none 0 0)).set1 (.slice none 0 0)).c1
      exact bodyPost_ret (v := .tuple #[.agg #[.slice none 0 0, .slice none 0 0], .int .i64 2]) (by simp [results, Try.results68, go_sem, g0, g1]) rfl
        ⟨_, _, [], rfl, OwnM.nil _ _, (HB1.out.setCell (by show w.heap.size ≤ w.heap.size + 1; omega) _).setCell (by show w.heap.size ≤ w.heap.size + 1; omega) _⟩
    · have hn20 : -20 ≤ n ∧ n ≤ 20 := by simpa using hN
      have HE1 : Hid (susC ds act n = if susB ds n then 0 else 3) := by show _ = _; simp only [susC, hT, hN]; rfl
      have HE2 : Hid (susD ds act n = if susB ds n then ds.map (· + n) else []) := by show _ = _; simp only [susD, susOk, hT, hN]; rfl
      have HE3 : Hid (susA ds act n = if susB ds n then act else []) := by show _ = _; simp only [susA, susOk, hT, hN]; rfl
      have C := Lib.hid (fun (W : World) (h : IntSS W.heap (.slice bo act.length bc) act) => l01Own2_c (.slice bo act.length bc) act W h (by have := modT_actlen HT.out; omega) (fun x hx => by have := (modT_cell HT.out x hx).1; omega))
      have hl16 := modT_len HT.out
      rw [hN] at D
      clear hT hN
      go_enter Try.func68, Try.ntmps68
      go_wp2_with fail
      rw [← HW.out]
      refine I.out.mono ?_
      rintro e w1 ⟨rfl, hb1⟩
      have HB1 := Lib.hid (HB0.out.trans (hb1.mono HB0.out.size)); have HW2 := Lib.hid (HV2.out.kept hb1.block); have HW1 := Lib.hid (HV1.out.kept hb1.block)
      have c0 := HW1.out.c0; have c1 := HW1.out.c1
      clear hb1 HW k1 k2
      go_wp2_with (first | (go_at_call 89; refine (D.out _).mono ?_; rintro e w2 ⟨rfl, rfl⟩) | (go_at_call 131; refine (C.out _ (H0.out.2.same HB1.out.block)).mono ?_; rintro e w2 ⟨av, us, rfl, hU, hb2⟩; obtain ⟨va, vn, vc, rfl⟩ := own_shape hU.row; have k1 := ((HW1.out.kept hb2.block).kept (alloc_old w2 (.cells #[.slice none 0 0, .slice va vn vc] 70))).c0))
      have HB2 := Lib.hid (HB1.out.trans (hb2.mono HB1.out.size)); have HW3 := Lib.hid (HW2.out.kept hb2.block); have HW4 := Lib.hid (HW1.out.kept hb2.block); have HU := Lib.hid hU
      have HS12 := Lib.hid hb2.size
      clear hb2 hU c0 c1 k1
      have hs2 := HB2.out.size
      have hlt3 := HW3.out.lt
      go_loopw [7] (fun i wr => ∃ (k : Nat) (dv : Value), k ≤ ds.length ∧ i = .int .i64 k ∧ OwnI wr w2.heap.size dv ((ds.take k).map (· + n)) ∧ Var2 wr w2.heap.size dv (.slice va vn vc) 70 ∧ Below w2.heap.size w2 wr ∧ ∀ i (hi : i < ds.length), i < k → stemB (ds[i] + n) = true) (fun i _ => ds.length - (intOf i).toNat)
      case atStart =>
        exact ⟨0, .slice none 0 0, Nat.zero_le _, rfl, OwnI.nil _ _, Var2.new w2 _ _ _, (Below.refl _ _).alloc (Nat.le_refl _) _, fun i _ h => by omega⟩
      case round =>
        obtain ⟨k, dv, hk, rfl, hO, hV, hbl, hst⟩ := hrel
        obtain ⟨pd, nd, cd, rfl⟩ := own_shape hO
        have HST := Lib.hid hst
        have k1' := (HW4.out.kept hbl.block).c0; have k2' := (HW4.out.kept hbl.block).c1
        have HR3 := Lib.hid (HW3.out.kept hbl.block)
        have HO := Lib.hid hO; have HV := Lib.hid hV; have HBL := Lib.hid hbl; have hsz := hbl.size
        clear hst hO hV hbl
        by_cases hlt : k < ds.length
        · obtain ⟨b1, o1, c1, hv1, hc1, -⟩ := H0.out.1.at k hlt
          simp only [Value.slice.injEq, true_and] at hv1
          obtain ⟨rfl, rfl⟩ := hv1
          have hc2 := (HB2.out.cell (World.block_lt_of_cell? _ _ hc1)).trans hc1
          have hc := (HBL.out.cell (World.block_lt_of_cell? _ _ hc2)).trans hc2
          clear hc1 hc2
          have hx := modT_stem HT.out k
          rw [show ds.getD k 0 = ds[k] by simp [hlt]] at hx
          have HSB := Lib.hid (fun (h : stemB (ds[k] + n) = false) => susB_false k hlt h)
          have HSN : Hid (stemB (ds[k] + n) = true → ∀ i (hi : i < ds.length), i < k + 1 → stemB (ds[i] + n) = true) := fun hq i hi hik => by
            by_cases e : i = k
            · subst e; exact hq
            · exact HST.out i hi (by omega)
          have HTK := Lib.hid (show (ds.take (k + 1)).map (· + n) = (ds.take k).map (· + n) ++ [ds[k] + n] by rw [List.take_succ_eq_append_getElem hlt, List.map_append]; rfl)
          have hln : ((ds.take k).map (· + n)).length < 4398046511104 := by rw [List.length_map, List.length_take]; omega
          generalize ds[k] = x at *
          have s1 : IntKind.i64.wrap (x + n) = x + n := IntWalk.i64_in _ (by omega)
          have SS0 := l01In_c (x + n) 0 20
          rw [show (decide (0 ≤ x + n) && decide (x + n ≤ 20)) = stemB (x + n) from rfl] at SS0
          have SS := Lib.hid SS0
          clear SS0
          cases hq : stemB (x + n)
          · have HF := Lib.hid (HSB.out hq)
            rw [hq] at SS
            clear hq HSN
            have c0 := HR3.out.c0; have c1 := HR3.out.c1; have f0 := HR3.out.free 0; have f1 := HR3.out.free 1
            have HE1' : Hid (susC ds act n = 3) := by show _ = _; rw [HE1.out, HF.out]; rfl
            have HE2' : Hid (susD ds act n = []) := by show _ = _; rw [HE2.out, HF.out]; rfl
            have HE3' : Hid (susA ds act n = []) := by show _ = _; rw [HE3.out, HF.out]; rfl
            go_wp2_with (go_at_call 89; refine (SS.out _).mono ?_; rintro e w4 ⟨rfl, rfl⟩)
            have g0 := (HR3.out.set0 (.slice none 0 0)).c0
            have g1 := ((HR3.out.set0 (.slice none 0 0)).set1 (.slice none 0 0)).c1
            exact bodyPost_ret (v := .tuple #[.agg #[.slice none 0 0, .slice none 0 0], .int .i64 3]) (by simp [results, Try.results68, go_sem, g0, g1]) rfl
              ⟨_, _, [], by rw [HE1'.out], by rw [HE2'.out, HE3'.out]; exact OwnM.nil _ _, ((HB2.out.trans (HBL.out.mono hs2)).setCell (by show w.heap.size ≤ w.heap.size + 1; omega) _).setCell (by show w.heap.size ≤ w.heap.size + 1; omega) _⟩
          · have HSN2 := Lib.hid (HSN.out hq)
            rw [hq] at SS
            clear hq HSN HSB
            have d0 := HV.out.c0; have d1 := HV.out.c1
            have HNA := Lib.hid (own_ne_var HO.out HV.out (by decide))
            go_wp2_with (go_at_call 89; refine (SS.out _).mono ?_; rintro e w4 ⟨rfl, rfl⟩)
            have d0a := (HV.out.kept (alloc_old wr (.cells #[.int .i64 (x + n)] 2))).c0
            go_region_law (first | (refine step_append_int (by rfl) _ _ (by rfl) w2.heap.size _ _ (by exact HO.out.same (alloc_old wr (.cells #[.int .i64 (x + n)] 2))) (by rfl) wr.heap.size (x + n) (by rfl) (by exact heap_alloc_new wr _) (by exact below_drewN 1 (HBL.out.alloc hsz _)) (by simp; omega) hln ?_; intro v' w' hown' hbl' _ hk'; obtain ⟨pv, nv, cv, rfl⟩ := own_shape hown'; have V5' := HV.out.same ((hk' _ (by have := HV.out.lt; simp; omega) (fun e => HNA.out e.symm)).trans (alloc_old wr _ _ HV.out.lt)); have d0' := V5'.c0; have fr := V5'.free 0; have HO' := Lib.hid hown'; have H5' := Lib.hid V5'; have HB' := Lib.hid hbl'; clear hown' V5' hbl' hk'))
            all_goals
              go_wp2_with fail
              go_roundw
              case rel => exact ⟨k + 1, .slice pv nv cv, by omega, by go_num, by rw [HTK.out]; exact HO'.out.setVar H5'.out (by decide) _, H5'.out.set0 _, HB'.out.setCell (Nat.le_refl _) _, HSN2.out⟩
              case measure => simp [intOf]; omega
        · obtain rfl : k = ds.length := by omega
          rw [List.take_length] at HO
          have HF := Lib.hid (susB_true fun i hi => HST.out i hi hi)
          have HE1' : Hid (susC ds act n = 0) := by show _ = _; rw [HE1.out, HF.out]; rfl
          have HE2' : Hid (susD ds act n = ds.map (· + n)) := by show _ = _; rw [HE2.out, HF.out]; rfl
          have HE3' : Hid (susA ds act n = act) := by show _ = _; rw [HE3.out, HF.out]; rfl
          have d0 := HV.out.c0; have d1 := HV.out.c1
          have c0 := HR3.out.c0; have c1 := HR3.out.c1; have f0 := HR3.out.free 0; have f1 := HR3.out.free 1
          go_wp2_with fail
          have W5 := HR3.out.set0 (.slice pd nd cd)
          have g0 := W5.c0
          have g1 := (W5.set1 (.slice va vn vc)).c1
          exact bodyPost_ret (v := .tuple #[.agg #[.slice pd nd cd, .slice va vn vc], .int .i64 0]) (by simp [results, Try.results68, go_sem, g0, g1]) rfl
            ⟨_, _, us, by rw [HE1'.out], by rw [HE2'.out, HE3'.out]; exact (((ownM_of HO.out HU.out HS12.out HBL.out).base HB1.out.size).setVar HR3.out (by decide) (by decide) _).setVar W5 (by decide) (by decide) _, ((HB2.out.trans (HBL.out.mono hs2)).setCell (by show w.heap.size ≤ w.heap.size + 1; omega) _).setCell (by show w.heap.size ≤ w.heap.size + 1; omega) _⟩
end Go.Proofs.Ythclhbjbimncpaa

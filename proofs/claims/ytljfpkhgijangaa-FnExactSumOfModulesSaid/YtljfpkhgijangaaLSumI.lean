/- The sum of two modules: of the program. -/
import Derived.Test.YtljfpkhgijangaaLSumP
import Derived.Test.YtljfpkhgijangaaLOrdX
import Derived.Test.YtljfpkhgijangaaLMt4
import Derived.Test.YtljfpkhgijangaaLGen
import Derived.Test.YtljfpkhgijangaaLInv
namespace Go.Proofs.Ytljfpkhgijangaa
open Go.RowKit Go.Sort

theorem joinedI_c (v u : Value) (xs ys : List Int) (w : World) (h : IntS w.heap v xs) (hu : IntS w.heap u ys) (hl : xs.length + ys.length ≤ 4398046511104) :
    Calls Try.prog 125 #[v, u] w fun e w' => ∃ r, e = .returned r ∧ OwnI w' w.heap.size r (xs ++ ys) ∧ Below w.heap.size w w' := by
  have C := Lib.hid (copyOf_c v xs w h (by omega))
  have HU := Lib.hid hu
  obtain ⟨ao, c, rfl, -⟩ := h.len
  obtain ⟨bo, d, rfl, -⟩ := hu.len
  clear h hu
  go_enter Try.func125, Try.ntmps125
  go_wp2_with (first | (go_at_call 146; refine C.out.mono ?_; rintro e w1 ⟨r, rfl, hR, hb1⟩; obtain ⟨ra, rn, rc, rfl⟩ := own_shape hR) | (at_builtin; refine append_ints rfl _ _ rfl w.heap.size _ _ xs ys hR rfl (HU.out.same hb1.block) rfl hb1 hb1.size hl ?_; intro v' w' hown' hbl' _ _; obtain ⟨q1, q2, q3, rfl⟩ := own_shape hown'))
  go_ret
  exact ⟨_, rfl, hown', hbl'⟩
theorem tab_row {w : World} {B g : Nat} {d : Value} {us : List Value} {size : Nat} {act : List (List Int)} (h : TabU w B g d us (tabL size act)) (n : Nat) (hn : n ≤ 20) :
    ∃ u, w.cell? ⟨g, 1 + n, none⟩ = some u ∧ IntS w.heap u ((List.range size).map fun b => ((rowZ act n b : Nat) : Int)) := by
  have hg := gridL_at (rowZ act) size 21 n (by omega)
  obtain ⟨u, hu⟩ : ∃ u, us[n]? = some u := ⟨_, List.getElem?_eq_getElem (show n < us.length by rw [h.len, tabL]; simp [gridL]; omega)⟩
  exact ⟨u, by rw [h.cell n, hu], (h.each n _ _ hu hg).ints⟩
theorem heldC4A {x1 x2 x3 x4 : Value} {g1 g2 g3 g4 : Addr} {w0 W : World} (h : W.cell? g1 = some x1 ∧ W.cell? g2 = some x2 ∧ W.cell? g3 = some x3 ∧ W.cell? g4 = some x4 ∧ Below w0.heap.size w0 W) (o : Obj) : (W.alloc o).cell? g1 = some x1 ∧ (W.alloc o).cell? g2 = some x2 ∧ (W.alloc o).cell? g3 = some x3 ∧ (W.alloc o).cell? g4 = some x4 ∧ Below w0.heap.size w0 (W.alloc o) :=
  ⟨Go.Lib.cell?_alloc_some o h.1, Go.Lib.cell?_alloc_some o h.2.1, Go.Lib.cell?_alloc_some o h.2.2.1, Go.Lib.cell?_alloc_some o h.2.2.2.1, h.2.2.2.2.alloc h.2.2.2.2.size o⟩
theorem cell2 (W : World) (x y : Value) (t1 t2 : Nat) : Cell1 ((W.alloc (.cells #[x] t1)).alloc (.cells #[y] t2)) W.heap.size x t1 ∧ Cell1 ((W.alloc (.cells #[x] t1)).alloc (.cells #[y] t2)) (W.heap.size + 1) y t2 := by
  refine ⟨(Cell1.new W x t1).kept (alloc_old _ _), ?_⟩
  have := Cell1.new (W.alloc (.cells #[x] t1)) y t2
  rwa [size_alloc_w] at this
theorem cell3 (W : World) (x y z : Value) (t1 t2 t3 : Nat) : Cell1 (((W.alloc (.cells #[x] t1)).alloc (.cells #[y] t2)).alloc (.cells #[z] t3)) W.heap.size x t1 ∧ Cell1 (((W.alloc (.cells #[x] t1)).alloc (.cells #[y] t2)).alloc (.cells #[z] t3)) (W.heap.size + 1) y t2 ∧ Cell1 (((W.alloc (.cells #[x] t1)).alloc (.cells #[y] t2)).alloc (.cells #[z] t3)) (W.heap.size + 1 + 1) z t3 := by
  refine ⟨((Cell1.new W x t1).kept (alloc_old _ _)).kept (alloc_old _ _), ?_, ?_⟩
  · have := (Cell1.new (W.alloc (.cells #[x] t1)) y t2).kept (alloc_old _ (.cells #[z] t3))
    rwa [size_alloc_w] at this
  · have := Cell1.new ((W.alloc (.cells #[x] t1)).alloc (.cells #[y] t2)) z t3
    rwa [size_alloc_w, size_alloc_w] at this
theorem enters_sum1 : Enters Try.prog 126 := fun args w => by kernel_rfl
set_option maxRecDepth 100000 in
set_option maxHeartbeats 1000000 in
theorem sum1_c (d1 d2 : List Int) (a1 a2 : List (List Int)) (h1 : modT d1 a1 = true) (h2 : modT d2 a2 = true) (hl : (d1 ++ d2).length ≤ 16) (gz gs gt g1 g2 B1 B2 n b : Nat) (v1 v2 : Value) (u1 u2 : List Value) (w : World)
    (hz : w.cell? ⟨gz, 0, none⟩ = some (.int .i64 d1.length)) (hs : w.cell? ⟨gs, 0, none⟩ = some (.pointer (some ⟨g1, 0, none⟩))) (ht : w.cell? ⟨gt, 0, none⟩ = some (.pointer (some ⟨g2, 0, none⟩)))
    (t1 : TabU w B1 g1 v1 u1 (tabL d1.length a1)) (t2 : TabU w B2 g2 v2 u2 (tabL d2.length a2)) (hn1 : 1 ≤ n) (hn2 : n ≤ 20) (hb : b < (d1 ++ d2).length) :
    Calls Try.prog 126 #[.int .i64 n, .int .i64 b, .pointer (some ⟨gz, 0, none⟩), .pointer (some ⟨gs, 0, none⟩), .pointer (some ⟨gt, 0, none⟩)] w fun e w' => e = .returned (.int .i64 (sumQ d1 a1 a2 n b : Nat)) ∧ ∃ m, w' = w.drewN m := by
  have hni : (n : Int) < 21 := by omega
  have hq := sumQ_lt h1 h2 hl n b hn1
  rw [List.length_append] at hl hb
  by_cases hlt : b < d1.length
  · obtain ⟨u, hcu, hu⟩ := tab_row t1 n hn2
    obtain ⟨b1, o1, c1, hv1, hc1, -⟩ := hu.at b (by simpa using hlt)
    subst hv1
    simp only [List.getElem_map, List.getElem_range] at hc1
    simp only [List.length_map, List.length_range] at hcu
    have hb2 : (b : Int) < (d1.length : Int) := by omega
    have e : sumQ d1 a1 a2 n b = rowZ a1 n b := by unfold sumQ; rw [if_pos hlt]
    rw [e]
    clear e t1 t2 hu ht h1 h2 hq hl hb
    generalize rowZ a1 n b = X at *
    generalize d1.length = L at *
    go_enter Try.func126, Try.ntmps126
    go_wp2_with fail
    go_ret
    exact ⟨rfl, 0, rfl⟩
  · obtain ⟨u, hcu, hu⟩ := tab_row t2 n hn2
    obtain ⟨i, hi⟩ : ∃ i, i = b - d1.length := ⟨_, rfl⟩
    obtain ⟨b1, o1, c1, hv1, hc1, -⟩ := hu.at i (by simp; omega)
    subst hv1
    simp only [List.getElem_map, List.getElem_range] at hc1
    simp only [List.length_map, List.length_range] at hcu
    have hb2 : ¬ (b : Int) < (d1.length : Int) := by omega
    have hb3 : decide ((b : Int) < (d1.length : Int)) = false := by simp; omega
    have s1 : IntKind.i64.wrap ((b : Int) - d1.length) = (i : Int) := by rw [IntWalk.i64_in _ (by omega)]; omega
    have i1 : (i : Int) < (d2.length : Int) := by omega
    have e : sumQ d1 a1 a2 n b = rowZ a2 n i <<< d1.length := by unfold sumQ; rw [if_neg hlt, hi]
    rw [e] at hq ⊢
    have hs16 : d1.length ≤ 16 := by omega
    clear e t1 t2 hu hs h1 h2 hl hb hi
    rw [Nat.shiftLeft_eq] at hq ⊢
    generalize rowZ a2 n i = X at *
    generalize d1.length = L at *
    generalize d2.length = L2 at *
    obtain ⟨Y, hY⟩ : ∃ Y, Y = X * 2 ^ L := ⟨_, rfl⟩
    have hw : wrap64 ((X : Int) * 2 ^ L) = (Y : Int) := by
      rw [show ((X : Int) * 2 ^ L) = ((X * 2 ^ L : Nat) : Int) by simp, ← hY]
      unfold wrap64; omega
    rw [← hY]
    clear hY hq
    have HWY := Lib.hid hw
    clear hw
    go_enter Try.func126, Try.ntmps126
    go_wp2_with fail
    go_quiet (fail)
    go_wp2_with fail
    go_ret
    exact ⟨by rw [← HWY.out]; rfl, _, rfl⟩
set_option linter.unusedSimpArgs false in
set_option maxRecDepth 100000 in
set_option maxHeartbeats 4000000 in
theorem implSumOfModules_c (d a d' a' : Value) (d1 : List Int) (a1 : List (List Int)) (d2 : List Int) (a2 : List (List Int)) (w : World) (h : ModS w.heap d a d1 a1) (h' : ModS w.heap d' a' d2 a2) :
    Calls Try.prog 52 #[.agg #[d, a], .agg #[d', a']] w fun e w' => ∃ r s us, e = .returned (.tuple #[.agg #[r, s], .int .i64 (sumC d1 a1 d2 a2)]) ∧ OwnM w' w.heap.size r s us (sumD d1 a1 d2 a2) (sumA d1 a1 d2 a2) ∧ Below w.heap.size w w' := by
  obtain ⟨w0, hw0⟩ : ∃ w0, w0 = ((w.alloc (.cells #[d, a] 60)).alloc (.cells #[d', a'] 60)).alloc (.cells #[.slice none 0 0, .slice none 0 0] 60) := ⟨_, rfl⟩
  have hb : Below w.heap.size w w0 := by rw [hw0]; exact (((Below.refl _ _).alloc (Nat.le_refl _) _).alloc (by simp) _).alloc (by simp; omega) _
  have hsz : w0.heap.size = w.heap.size + 3 := by rw [hw0]; simp
  have V1 : Var2 w0 w.heap.size d a 60 := by rw [hw0]; exact ((Var2.new w _ _ _).kept (alloc_old _ _)).kept (alloc_old _ _)
  have V2 : Var2 w0 (w.heap.size + 1) d' a' 60 := by
    rw [hw0]
    have := (Var2.new (w.alloc (.cells #[d, a] 60)) d' a' 60).kept (alloc_old _ (.cells #[.slice none 0 0, .slice none 0 0] 60))
    rwa [size_alloc_w] at this
  have V3 : Var2 w0 (w.heap.size + 1 + 1) (.slice none 0 0) (.slice none 0 0) 60 := by
    rw [hw0]
    have := Var2.new ((w.alloc (.cells #[d, a] 60)).alloc (.cells #[d', a'] 60)) (.slice none 0 0) (.slice none 0 0) 60
    rwa [size_alloc_w, size_alloc_w] at this
  have I1 := Lib.hid (isModule_c d a d1 a1 w0 (h.same hb.block))
  have I2 := Lib.hid (fun (W : World) (h : ModS W.heap d' a' d2 a2) => isModule_c d' a' d2 a2 W h)
  have T1 := Lib.hid (fun (W : World) (h : ModS W.heap d a d1 a1) (hT : modT d1 a1 = true) => tableOf_c d a d1 a1 W h hT)
  have T2 := Lib.hid (fun (W : World) (h : ModS W.heap d' a' d2 a2) (hT : modT d2 a2 = true) => tableOf_c d' a' d2 a2 W h hT)
  obtain ⟨ao, ac, hdv, -⟩ := h.1.len
  obtain ⟨bo, bc, hav, -⟩ := h.2.len
  obtain ⟨ao', ac', hdv', -⟩ := h'.1.len
  obtain ⟨bo', bc', hav', -⟩ := h'.2.len
  subst hdv; subst hav; subst hdv'; subst hav'
  have H1 := Lib.hid h; have H2 := Lib.hid h'; have HB0 := Lib.hid hb; have HSZ := Lib.hid hsz; have HV1 := Lib.hid V1; have HV2 := Lib.hid V2; have HV3 := Lib.hid V3; have HW := Lib.hid hw0
  clear h h' hb hsz V1 V2 V3 hw0
  have k1 := HV1.out.c0; have k2 := HV1.out.c1; have k3 := HV2.out.c0; have k4 := HV2.out.c1
  cases hM1 : isMod d1 a1
  · have e1 : sumC d1 a1 d2 a2 = 1 := by simp [sumC, sumOk, hM1]
    have e2 : sumD d1 a1 d2 a2 = [] := by simp [sumD, sumOk, hM1]
    have e3 : sumA d1 a1 d2 a2 = [] := by simp [sumA, sumOk, hM1]
    rw [hM1] at I1
    rw [e1, e2, e3]
    clear hM1 e1 e2 e3 T1 T2 I2
    go_enter Try.func52, Try.ntmps52
    go_wp2_with fail
    rw [← HW.out]
    refine I1.out.mono ?_
    rintro e w1 ⟨rfl, hb1⟩
    have HR := Lib.hid (HV3.out.kept hb1.block)
    have e0 := HR.out.c0; have e1 := HR.out.c1; have f0 := HR.out.free 0; have f1 := HR.out.free 1
    have HB1 := Lib.hid (HB0.out.trans (hb1.mono HB0.out.size))
    clear hb1 HW
    go_wp2_with fail
    have g0 := (HR.out.set0 (.slice none 0 0)).c0
    have g1 := ((HR.out.set0 (.slice none 0 0)).set1 (.slice none 0 0)).c1
    exact bodyPost_ret (v := .tuple #[.agg #[.slice none 0 0, .slice none 0 0], .int .i64 1]) (by simp [results, Try.results52, go_sem, g0, g1]) rfl
      ⟨_, _, [], rfl, OwnM.nil _ _, (HB1.out.setCell (by show w.heap.size ≤ w.heap.size + 1 + 1; omega) _).setCell (by show w.heap.size ≤ w.heap.size + 1 + 1; omega) _⟩
  · have HT1 := Lib.hid (isMod_T2 hM1)
    rw [hM1] at I1
    cases hM2 : isMod d2 a2
    · have e1 : sumC d1 a1 d2 a2 = 1 := by simp [sumC, sumOk, hM2]
      have e2 : sumD d1 a1 d2 a2 = [] := by simp [sumD, sumOk, hM2]
      have e3 : sumA d1 a1 d2 a2 = [] := by simp [sumA, sumOk, hM2]
      rw [hM2] at I2
      rw [e1, e2, e3]
      clear hM1 hM2 e1 e2 e3 T1 T2
      go_enter Try.func52, Try.ntmps52
      go_wp2_with fail
      rw [← HW.out]
      refine I1.out.mono ?_
      rintro e w1 ⟨rfl, hb1⟩
      have HB1 := Lib.hid (HB0.out.trans (hb1.mono HB0.out.size))
      have V2 := HV2.out.kept hb1.block
      have c3 := V2.c0; have c4 := V2.c1
      have HR := Lib.hid (HV3.out.kept hb1.block)
      clear hb1 HW V2 k3 k4
      go_wp2_with fail
      refine (I2.out _ (H2.out.same HB1.out.block)).mono ?_
      rintro e w2 ⟨rfl, hb2⟩
      have HR2 := Lib.hid (HR.out.kept hb2.block)
      have e0 := HR2.out.c0; have e1 := HR2.out.c1; have f0 := HR2.out.free 0; have f1 := HR2.out.free 1
      have HB2 := Lib.hid (HB1.out.trans (hb2.mono HB1.out.size))
      clear hb2
      go_wp2_with fail
      have g0 := (HR2.out.set0 (.slice none 0 0)).c0
      have g1 := ((HR2.out.set0 (.slice none 0 0)).set1 (.slice none 0 0)).c1
      exact bodyPost_ret (v := .tuple #[.agg #[.slice none 0 0, .slice none 0 0], .int .i64 1]) (by simp [results, Try.results52, go_sem, g0, g1]) rfl
        ⟨_, _, [], rfl, OwnM.nil _ _, (HB2.out.setCell (by show w.heap.size ≤ w.heap.size + 1 + 1; omega) _).setCell (by show w.heap.size ≤ w.heap.size + 1 + 1; omega) _⟩
    · have HT2 := Lib.hid (isMod_T2 hM2)
      rw [hM2] at I2
      have hl1 := modT_len HT1.out; have hl2 := modT_len HT2.out
      have HOK : Hid (sumOk d1 a1 d2 a2 = true) := by show _ = _; simp [sumOk, hM1, hM2]
      clear hM1 hM2
      by_cases hl : (d1 ++ d2).length ≤ 16
      · have e1 : sumC d1 a1 d2 a2 = 0 := by unfold sumC; rw [HOK.out, if_pos rfl, if_pos hl]
        have e2 : sumD d1 a1 d2 a2 = srtD (d1 ++ d2) := by unfold sumD; rw [HOK.out, decide_eq_true hl]; rfl
        have e3 : sumA d1 a1 d2 a2 = modN (oSq (d1 ++ d2) (sumQ d1 a1 a2)) (d1 ++ d2).length 20 := by unfold sumA; rw [HOK.out, decide_eq_true hl]; rfl
        rw [e1, e2, e3]
        clear e1 e2 e3
        have HL := Lib.hid hl
        rw [List.length_append] at hl
        have tl : decide ((16 : Int) < (d1.length : Int) + (d2.length : Int)) = false := by simp; omega
        go_enter Try.func52, Try.ntmps52
        go_wp2_with fail
        rw [← HW.out]
        refine I1.out.mono ?_
        rintro e w1 ⟨rfl, hb1⟩
        have HB1 := Lib.hid (HB0.out.trans (hb1.mono HB0.out.size))
        have HV1b := Lib.hid (HV1.out.kept hb1.block); have HV2b := Lib.hid (HV2.out.kept hb1.block); have HV3b := Lib.hid (HV3.out.kept hb1.block)
        have c3 := HV2b.out.c0; have c4 := HV2b.out.c1
        clear hb1 HW k1 k2 k3 k4
        go_wp2_with fail
        refine (I2.out _ (H2.out.same HB1.out.block)).mono ?_
        rintro e w2 ⟨rfl, hb2⟩
        have HB2 := Lib.hid (HB1.out.trans (hb2.mono HB1.out.size))
        have HV1c := Lib.hid (HV1b.out.kept hb2.block); have HV2c := Lib.hid (HV2b.out.kept hb2.block); have HV3c := Lib.hid (HV3b.out.kept hb2.block)
        have k1 := HV1c.out.c0; have k2 := HV1c.out.c1; have k3 := HV2c.out.c0; have k4 := HV2c.out.c1
        clear hb2 c3 c4
        have hs2 := HB2.out.size
        go_upto_region 5 with fail
        go_cut [6, 7, 8] (fun p q r wx => ∃ (W : World) (gs gt gz g1 g2 : Nat) (u1 u2 : List Value), W = wx ∧ p = .pointer (some ⟨gs, 0, none⟩) ∧ q = .pointer (some ⟨gt, 0, none⟩) ∧ r = .pointer (some ⟨gz, 0, none⟩) ∧ wx.cell? ⟨gs, 0, none⟩ = some (.pointer (some ⟨g1, 0, none⟩)) ∧ wx.cell? ⟨gt, 0, none⟩ = some (.pointer (some ⟨g2, 0, none⟩)) ∧ wx.cell? ⟨gz, 0, none⟩ = some (.int .i64 d1.length) ∧ TabU wx w2.heap.size g1 (.slice ao d1.length ac) u1 (tabL d1.length a1) ∧ TabU wx w2.heap.size g2 (.slice ao' d2.length ac') u2 (tabL d2.length a2) ∧ Below w2.heap.size w2 wx)
        case first =>
          have F1 := Lib.hid (fun (W : World) (hW : W.cell? ⟨w.heap.size, 0, none⟩ = some (.slice ao d1.length ac) ∧ W.cell? ⟨w.heap.size, 1, none⟩ = some (.slice bo a1.length bc) ∧ W.cell? ⟨w.heap.size + 1, 0, none⟩ = some (.slice ao' d2.length ac') ∧ W.cell? ⟨w.heap.size + 1, 1, none⟩ = some (.slice bo' a2.length bc') ∧ Below w2.heap.size w2 W) => (And.intro (H1.out.same (heldC4B HB2.out hW hs2).block) (H2.out.same (heldC4B HB2.out hW hs2).block)))
          have kk := And.intro k1 (And.intro k2 (And.intro k3 k4))
          refine wp_region_held_drew (S := fun W => W.cell? ⟨w.heap.size, 0, none⟩ = some (.slice ao d1.length ac) ∧ W.cell? ⟨w.heap.size, 1, none⟩ = some (.slice bo a1.length bc) ∧ W.cell? ⟨w.heap.size + 1, 0, none⟩ = some (.slice ao' d2.length ac') ∧ W.cell? ⟨w.heap.size + 1, 1, none⟩ = some (.slice bo' a2.length bc') ∧ Below w2.heap.size w2 W) (by kernel_rfl) ⟨k1, k2, k3, k4, (Below.refl _ _).drew⟩ (fun hHeld => ?_)
          refine wpAnyH_take (i := 0) (oi := ?_) (v := ?_) ?_ (by kernel_rfl) (by kernel_rfl) (by kernel_rfl) ?_ (Or.inl ⟨?_, ?_⟩) (by assumption) ?_
          case refine_3 => (simp only [List.getElem?_toArray, List.getElem?_cons_succ, List.getElem?_cons_zero]; rfl)
          case refine_4 => exact fun _ _ _ h => h
          case refine_5 => rfl
          case refine_6 => (intro w hSw; (try dsimp only at hSw); go_simp; try with_reducible rfl)
          simp only [Act.put, List.setIfInBounds_toArray, List.set_cons_zero, List.set_cons_succ]
          refine wpAnyH_take (i := 2) (oi := ?_) (v := ?_) ?_ (by kernel_rfl) (by kernel_rfl) (by kernel_rfl) ?_ (Or.inl ⟨?_, ?_⟩) (by assumption) ?_
          case refine_3 => (simp only [List.getElem?_toArray, List.getElem?_cons_succ, List.getElem?_cons_zero]; rfl)
          case refine_4 => exact fun _ _ _ h => h
          case refine_5 => rfl
          case refine_6 => (intro w hSw; (try dsimp only at hSw); go_simp; try with_reducible rfl)
          simp only [Act.put, List.setIfInBounds_toArray, List.set_cons_zero, List.set_cons_succ]
          refine wpAnyH_take (i := 4) (oi := ?_) (v := ?_) ?_ (by kernel_rfl) (by kernel_rfl) (by kernel_rfl) ?_ (Or.inl ⟨?_, ?_⟩) (by assumption) ?_
          case refine_3 => (simp only [List.getElem?_toArray, List.getElem?_cons_succ, List.getElem?_cons_zero]; rfl)
          case refine_4 => exact fun _ _ _ h => h
          case refine_5 => rfl
          case refine_6 => (intro w hSw; (try dsimp only at hSw); go_simp; try with_reducible rfl)
          simp only [Act.put, List.setIfInBounds_toArray, List.set_cons_zero, List.set_cons_succ]
          refine wpAnyH_take (i := 5) (oi := ?_) (v := ?_) ?_ (by kernel_rfl) (by kernel_rfl) (by kernel_rfl) ?_ (Or.inl ⟨?_, ?_⟩) (by assumption) ?_
          case refine_3 => (simp only [List.getElem?_toArray, List.getElem?_cons_succ, List.getElem?_cons_zero]; rfl)
          case refine_4 => exact fun _ _ _ h => h
          case refine_5 => rfl
          case refine_6 => (intro w hSw; (try dsimp only at hSw); go_simp; try with_reducible rfl)
          simp only [Act.put, List.setIfInBounds_toArray, List.set_cons_zero, List.set_cons_succ]
          refine wpAnyH_take (i := 6) (oi := ?_) (v := ?_) ?_ (by kernel_rfl) (by kernel_rfl) (by kernel_rfl) ?_ (Or.inl ⟨?_, ?_⟩) (by assumption) ?_
          case refine_3 => (simp only [List.getElem?_toArray, List.getElem?_cons_succ, List.getElem?_cons_zero]; rfl)
          case refine_4 => exact fun _ _ _ h => h
          case refine_5 => rfl
          case refine_6 => (intro w hSw; (try dsimp only at hSw); go_simp; try with_reducible rfl)
          simp only [Act.put, List.setIfInBounds_toArray, List.set_cons_zero, List.set_cons_succ]
          have KK := Lib.hid kk
          clear k1 k2 k3 k4 kk
          refine wpAnyH_inv5 1 3 7 8 9 30 32 6 7 8 (fun b1 b2 b3 b4 b5 => #[true, b1, true, b2, true, true, true, b3, b4, b5, false, false, false]) (PrepJ w2.heap.size (.slice ao d1.length ac) (tabL d1.length a1) (.slice ao' d2.length ac') (tabL d2.length a2)) 3 ?_ ?_ (by intro b1 b2 b3 b4 b5; cases b1 <;> cases b2 <;> cases b3 <;> cases b4 <;> cases b5 <;> kernel_rfl) (fun _ _ _ _ => rfl) (fun _ _ _ _ => rfl) (fun _ _ _ _ => rfl) (fun _ _ _ _ => rfl) (fun _ _ _ _ => rfl) hHeld (fun _ _ _ _ _ => PrepJ.start _) ?_ ?_ ?_ ?_ ?_ ?_
          case refine_1 => kernel_rfl
          case refine_2 =>
            refine ⟨undef, undef, undef, undef, undef, ?_⟩
            simp only [put5, Act.put, List.setIfInBounds_toArray, List.set_cons_zero, List.set_cons_succ]
          all_goals clear hHeld
          case refine_3 =>
            intro b2 b3 b4 b5 x1 x2 x3 x4 x5 W hS hJ
            have HJ := Lib.hid hJ; clear hJ
            refine wpOp_step rfl (fun K hK => ?_)
            simp only [put5, Act.put, List.setIfInBounds_toArray, List.set_cons_zero, List.set_cons_succ]
            have HK := Lib.hid hK
            clear hK
            go_simp
            go_at_call 117
            refine (T1.out _ (F1.out _ hS).1 HT1.out).mono ?_
            rintro e W7 ⟨g1, u1, rfl, hT1, hx1⟩
            go_wp2_with fail
            exact HK.out _ _ ⟨heldC4 hS hx1, _, rfl, HJ.out.one hx1.block ⟨_, _, rfl, hT1.low hS.2.2.2.2.size⟩⟩
          case refine_4 =>
            intro b3 b4 b5 x1 x2 x3 x4 x5 W hS hJ
            have HJ := Lib.hid hJ; clear hJ
            refine wpOp_step rfl (fun K hK => ?_)
            simp only [put5, Act.put, List.setIfInBounds_toArray, List.set_cons_zero, List.set_cons_succ]
            have HK := Lib.hid hK
            clear hK
            go_simp
            go_at_call 117
            refine (T2.out _ (F1.out _ hS).2 HT2.out).mono ?_
            rintro e W7 ⟨g1, u1, rfl, hT1, hx1⟩
            go_wp2_with fail
            exact HK.out _ _ ⟨heldC4 hS hx1, _, rfl, HJ.out.two hx1.block ⟨_, _, rfl, hT1.low hS.2.2.2.2.size⟩⟩
          case refine_5 =>
            intro b1 b2 b4 b5 x1 x2 x3 x4 x5 W hS hJ
            have HJ := Lib.hid hJ; clear hJ
            refine wpOp_step rfl (fun K hK => ?_)
            simp only [put5, Act.put, List.setIfInBounds_toArray, List.set_cons_zero, List.set_cons_succ]
            have HK := Lib.hid hK
            clear hK
            go_simp
            exact HK.out _ _ ⟨heldC4A hS _, _, rfl, HJ.out.three hS.2.2.2.2.size⟩
          case refine_6 =>
            intro b1 b2 b3 b5 x1 x2 x3 x4 x5 W hS hJ
            have HJ := Lib.hid hJ; clear hJ
            refine wpOp_step rfl (fun K hK => ?_)
            simp only [put5, Act.put, List.setIfInBounds_toArray, List.set_cons_zero, List.set_cons_succ]
            have HK := Lib.hid hK
            clear hK
            go_simp
            exact HK.out _ _ ⟨heldC4A hS _, _, rfl, HJ.out.four hS.2.2.2.2.size⟩
          case refine_7 =>
            intro b1 b2 b3 b4 x1 x2 x3 x4 x5 W hS hJ
            have HJ := Lib.hid hJ; clear hJ
            refine wpOp_step rfl (fun K hK => ?_)
            simp only [put5, Act.put, List.setIfInBounds_toArray, List.set_cons_zero, List.set_cons_succ]
            have HK := Lib.hid hK
            clear hK
            go_simp
            exact HK.out _ _ ⟨heldC4A hS _, _, rfl, HJ.out.five hS.2.2.2.2.size⟩
          case refine_8 =>
            intro x1 x2 x3 x4 x5 W hHeld hJ
            obtain ⟨gs, gt, gz, g1, g2, u1, u2, rfl, rfl, rfl, rfl, rfl, l3, l4, l5, q3, q4, q5, c3, c4, c5, T1', T2'⟩ := hJ.stop (.int .i64 d1.length)
            have z3 := q3.c0; have z4 := q4.c0; have z5 := q5.c0
            have y3 := q3.free 0; have y4 := q4.free 0; have y5 := q5.free 0
            clear hJ
            simp only [put5, Act.put, List.setIfInBounds_toArray, List.set_cons_zero, List.set_cons_succ]
            refine wpAnyH_ready (rs := [10]) (by kernel_rfl) (by simp) ?_
            refine AllReadyH.cons rfl (fun K hK => ?_) AllReadyH.nil
            go_simp
            refine hK.out _ _ (heldC4S KK.out hHeld _ l3 _) (fun hHeld => ?_)
            clear hK K
            try simp only [Act.put, List.setIfInBounds_toArray, List.set_cons_zero, List.set_cons_succ]
            refine wpAnyH_ready (rs := [11]) (by kernel_rfl) (by simp) ?_
            refine AllReadyH.cons rfl (fun K hK => ?_) AllReadyH.nil
            go_simp
            refine hK.out _ _ (heldC4S KK.out hHeld _ l4 _) (fun hHeld => ?_)
            clear hK K
            try simp only [Act.put, List.setIfInBounds_toArray, List.set_cons_zero, List.set_cons_succ]
            refine wpAnyH_ready (rs := [12]) (by kernel_rfl) (by simp) ?_
            refine AllReadyH.cons rfl (fun K hK => ?_) AllReadyH.nil
            go_simp
            refine hK.out _ _ (heldC4S KK.out hHeld _ l5 _) (fun hHeld => ?_)
            clear hK K
            try simp only [Act.put, List.setIfInBounds_toArray, List.set_cons_zero, List.set_cons_succ]
            refine wpAnyH_done (by kernel_rfl) ?_ _
            have hbx := hHeld.2.2.2.2
            clear hHeld z3 z4 z5 y3 y4 y5
            go_wp2_with fail
            go_meet
            exact ⟨_, gs, gt, gz, g1, g2, u1, u2, rfl, rfl, rfl, rfl, c3.c0, c4.c0, c5.c0, T1', T2', hbx⟩
        case rest =>
          obtain ⟨W, gs, gt, gz, g1, g2, u1, u2, rfl, rfl, rfl, rfl, c3, c4, c5, T1', T2', hbx⟩ := hcut
          have V1 := HV1c.out.kept hbx.block; have V2 := HV2c.out.kept hbx.block; have VR := HV3c.out.kept hbx.block
          have J := Lib.hid (joinedI_c _ _ d1 d2 W ((H1.out.1.same HB2.out.block).same hbx.block) ((H2.out.1.same HB2.out.block).same hbx.block) (by omega))
          have k1 := V1.c0; have k3 := V2.c0
          have HVR := Lib.hid VR; have HBX := Lib.hid hbx; have C3 := Lib.hid c3; have C4 := Lib.hid c4; have C5 := Lib.hid c5; have HT1' := Lib.hid T1'; have HT2' := Lib.hid T2'
          clear V1 V2 VR hbx c3 c4 c5 T1' T2' T1 T2 I1 I2
          go_wp2_with fail
          refine J.out.mono ?_
          rintro e W3 ⟨r, rfl, hr, hb3⟩
          obtain ⟨ra, rn, rc, rfl⟩ := own_shape hr
          have HF := Lib.hid (fun (W4 : World) (h4 : Below W3.heap.size W3 W4) (n b : Nat) (hn1 : 1 ≤ n) (hn2 : n ≤ 20) (hb : b < (d1 ++ d2).length) =>
            have h5 : Below W.heap.size W W4 := hb3.trans (h4.mono hb3.size)
            sum1_c d1 d2 a1 a2 HT1.out HT2.out HL.out gz gs gt g1 g2 _ _ n b _ _ _ _ W4 ((h5.cell (World.block_lt_of_cell? _ _ C5.out)).trans C5.out) ((h5.cell (World.block_lt_of_cell? _ _ C3.out)).trans C3.out) ((h5.cell (World.block_lt_of_cell? _ _ C4.out)).trans C4.out) (HT1'.out.same h5.block) (HT2'.out.same h5.block) hn1 hn2 hb)
          have MO := Lib.hid (ordered_c (.slice ra rn rc) (d1 ++ d2) 126 #[.pointer (some ⟨gz, 0, none⟩), .pointer (some ⟨gs, 0, none⟩), .pointer (some ⟨gt, 0, none⟩)] (sumQ d1 a1 a2) W3 hr.ints (stems_append HT1.out HT2.out) HL.out enters_sum1 (fun n b hn1 _ _ => sumQ_lt HT1.out HT2.out HL.out n b hn1) HF.out)
          have HB3 := Lib.hid (HB2.out.trans ((HBX.out.trans (hb3.mono HBX.out.size)).mono HB2.out.size))
          have HVR3 := Lib.hid (HVR.out.kept hb3.block)
          clear hr hb3 J HF C3 C4 C5 HT1' HT2' k1 k3
          go_wp2_with fail
          refine MO.out.mono ?_
          rintro e w5 ⟨rd, rs, us5, rfl, hM, hb5⟩
          obtain ⟨pd, nd, cd, rfl⟩ := own_shape hM.deg
          obtain ⟨pa, na, ca, rfl⟩ := own_shape hM.act.row
          have V5 := HVR3.out.kept hb5.block
          have f0 := V5.free 0; have f1 := V5.free 1; have e0 := V5.c0; have e1 := V5.c1
          have HM := Lib.hid hM; have HV5 := Lib.hid V5; have HB5 := Lib.hid (HB3.out.trans (hb5.mono HB3.out.size))
          have HLT := Lib.hid HB3.out.size
          clear hM V5 hb5 MO
          go_wp2_with fail
          have W4 := HV5.out.set0 (.slice pd nd cd)
          have g0 := (W4.set1 (.slice pa na ca)).c0
          have g1 := (W4.set1 (.slice pa na ca)).c1
          exact bodyPost_ret (v := .tuple #[.agg #[.slice pd nd cd, .slice pa na ca], .int .i64 0]) (by simp [results, Try.results52, go_sem, g0, g1]) rfl
            ⟨_, _, us5, rfl, ((HM.out.base HLT.out).setVar HV5.out (by decide) (by decide) _).setVar (HV5.out.set0 _) (by decide) (by decide) _, (HB5.out.setCell (by show w.heap.size ≤ w.heap.size + 1 + 1; omega) _).setCell (by show w.heap.size ≤ w.heap.size + 1 + 1; omega) _⟩
      · have e1 : sumC d1 a1 d2 a2 = 3 := by unfold sumC; rw [HOK.out, if_pos rfl, if_neg hl]
        have e2 : sumD d1 a1 d2 a2 = [] := by unfold sumD; rw [HOK.out, decide_eq_false hl]; rfl
        have e3 : sumA d1 a1 d2 a2 = [] := by unfold sumA; rw [HOK.out, decide_eq_false hl]; rfl
        rw [e1, e2, e3]
        clear e1 e2 e3 T1 T2
        rw [List.length_append] at hl
        have tl : decide ((16 : Int) < (d1.length : Int) + (d2.length : Int)) = true := by simp; omega
        go_enter Try.func52, Try.ntmps52
        go_wp2_with fail
        rw [← HW.out]
        refine I1.out.mono ?_
        rintro e w1 ⟨rfl, hb1⟩
        have HB1 := Lib.hid (HB0.out.trans (hb1.mono HB0.out.size))
        have HV1b := Lib.hid (HV1.out.kept hb1.block); have HV2b := Lib.hid (HV2.out.kept hb1.block); have HV3b := Lib.hid (HV3.out.kept hb1.block)
        have c3 := HV2b.out.c0; have c4 := HV2b.out.c1
        clear hb1 HW k1 k2 k3 k4
        go_wp2_with fail
        refine (I2.out _ (H2.out.same HB1.out.block)).mono ?_
        rintro e w2 ⟨rfl, hb2⟩
        have HB2 := Lib.hid (HB1.out.trans (hb2.mono HB1.out.size))
        have HV1c := Lib.hid (HV1b.out.kept hb2.block); have HV2c := Lib.hid (HV2b.out.kept hb2.block); have HR2 := Lib.hid (HV3b.out.kept hb2.block)
        have k1 := HV1c.out.c0; have k3 := HV2c.out.c0
        have e0 := HR2.out.c0; have e1 := HR2.out.c1; have f0 := HR2.out.free 0; have f1 := HR2.out.free 1
        clear hb2 c3 c4
        go_wp2_with fail
        have g0 := (HR2.out.set0 (.slice none 0 0)).c0
        have g1 := ((HR2.out.set0 (.slice none 0 0)).set1 (.slice none 0 0)).c1
        exact bodyPost_ret (v := .tuple #[.agg #[.slice none 0 0, .slice none 0 0], .int .i64 3]) (by simp [results, Try.results52, go_sem, g0, g1]) rfl
          ⟨_, _, [], rfl, OwnM.nil _ _, (HB2.out.setCell (by show w.heap.size ≤ w.heap.size + 1 + 1; omega) _).setCell (by show w.heap.size ≤ w.heap.size + 1 + 1; omega) _⟩
end Go.Proofs.Ytljfpkhgijangaa

/- Texts that lie in one file here: LSmY LSmT LSmJ LSmN LSort LSqArg LSqHeld. -/
import Derived.Test.YtpjffjcnfdndoaaLCopy
import Derived.Test.YtpjffjcnfdndoaaLHeld2
import Derived.Test.YtpjffjcnfdndoaaLCmp
import Derived.Test.YtpjffjcnfdndoaaLib4
import Derived.Test.YtpjffjcnfdndoaaLMil2
import Derived.Test.YtpjffjcnfdndoaaLRef
import Derived.Test.YtpjffjcnfdndoaaLSortLay
import Derived.Shelf.SlSortCmp.NoneTotal
import Derived.Test.YtpjffjcnfdndoaaLMilArg
import Derived.Test.YtpjffjcnfdndoaaBSquaresOfMilnor
namespace Go.Proofs.Ytpjffjcnfdndoaa
section
open Go.RowKit Go.Sort

theorem SlAt.len0 {h : Array Obj} {e : Nat} {v : Value} {us : List Value} (a : SlAt h e v us) : ∃ ao c, v = .slice ao us.length c := by
  obtain ⟨ao, c, hv, _⟩ := SlAt.len a; exact ⟨ao, c, hv⟩
set_option maxRecDepth 100000 in
set_option maxHeartbeats 4000000 in
theorem l05Squares_c (v : Value) (xs : List (List Int)) (w : World) (h : IntSS w.heap v xs) (hT : arT xs = true) (h0 : 0 < xs.length) :
    Calls Try.prog 16 #[v] w fun e w' => ∃ o S, e = .returned o ∧ SqOk (degT xs) xs S ∧ IntSS w'.heap o S ∧ Below w.heap.size w w' := by
  have hdg := degT_in hT
  obtain ⟨d, hd⟩ : ∃ d : Nat, degT xs = (d : Int) := ⟨(degT xs).toNat, by omega⟩
  have hd40 : d ≤ 40 := by omega
  obtain ⟨W, hW⟩ : ∃ W, W = wdsL d := ⟨_, rfl⟩
  have HWL : Hid (Leads d W) := by show Leads _ _; rw [hW]; exact wdsL_leads d hd40
  have HWA : Hid (∀ r, isExp r = true → deg r = d → leadL r ∈ W) := fun r h1 h2 => by rw [hW]; exact wdsL_all d r h1 h2
  have hWn : W.length ≤ 504 := by rw [hW]; exact wdsL_len d hd40
  have HBS := Lib.hid (fun (w : World) => l03Basis_c d hd40 w)
  rw [← hW] at HBS
  have HXE : Hid (ExpD d xs) := by have := arT_expD hT; rw [hd] at this; exact this
  have HXA := Lib.hid (arT_asc hT)
  obtain ⟨ao, c, rfl, -⟩ := h.len
  obtain ⟨b0, o0, q0, u0, hv0, hc0, hu0, -⟩ := h.at 0 h0
  simp only [Value.slice.injEq, true_and] at hv0
  obtain ⟨rfl, rfl⟩ := hv0
  rw [Nat.add_zero] at hc0
  have e0 : deg xs[0] = (d : Int) := (HXE.out _ (List.getElem_mem h0)).2
  have hE0 := (HXE.out _ (List.getElem_mem h0)).1
  have HDG := Lib.hid (l01DegreeE_c u0 xs[0] w hu0 hE0)
  rw [e0] at HDG
  obtain ⟨ua, uc, rfl, -⟩ := hu0.len
  have H := Lib.hid h; have HD := Lib.hid hd
  have t0 := (neB (show (xs.length : Int) ≠ 0 by omega)).1
  have h0i : (0 : Int) < (xs.length : Int) := by omega
  rw [hd]
  clear h hW hu0 hE0 e0 hd hdg hT
  go_enter Try.func16, Try.ntmps16
  go_wp2_with (first | (go_at_call 26; refine HDG.out.mono ?_; rintro e w2 ⟨rfl, rfl⟩) | (go_at_call 28; refine (HBS.out w).mono ?_; rintro e w1 ⟨rW, rfl, hRW, hb1⟩; obtain ⟨wa, wc, rfl, -⟩ := hRW.len; have HRW := Lib.hid hRW; have HB1 := Lib.hid hb1; clear hRW hb1))
  obtain ⟨w2, hw2⟩ : ∃ w2, w2 = (w1.alloc (.cells #[] 22)).alloc (.cells #[] 22) := ⟨_, rfl⟩
  have hs1 : (w1.alloc (.cells #[] 22)).heap.size = w1.heap.size + 1 := by simp
  have HR0 : Hid (RefSS w2 w1.heap.size w2.heap (.slice (some ⟨w1.heap.size, 0, none⟩) 0 0) [] []) := by
    show RefSS _ _ _ _ _ _
    rw [hw2]; exact ⟨own_same (refSS_empty (w := w1) (B := w1.heap.size) w1.heap (Nat.le_refl _)).row (alloc_old _ _), fun i u xss hu => by simp at hu⟩
  have HS0 : Hid (RefSS w2 w1.heap.size w2.heap (.slice (some ⟨w1.heap.size + 1, 0, none⟩) 0 0) [] []) := by
    show RefSS _ _ _ _ _ _
    have := refSS_empty (w := w1.alloc (.cells #[] 22)) (B := w1.heap.size) w1.heap (by simp)
    rw [hs1] at this
    rw [hw2]; exact ⟨this.row, fun i u xss hu => by simp at hu⟩
  have HB2 : Hid (Below w1.heap.size w1 w2) := by show Below _ _ _; rw [hw2]; exact ((Below.refl _ _).alloc (Nat.le_refl _) _).alloc (by simp) _
  have HW2 := Lib.hid hw2
  clear hw2 hs1
  rw [← HW2.out]
  clear HW2 HDG HBS
  go_loopw [5, 6, 7] (fun rv sv i wr => ∃ (k gr nr cr gs ns cs : Nat) (us vs : List Value) (R S : List (List (List Int))), k ≤ W.length ∧ rv = .slice (some ⟨gr, 0, none⟩) nr cr ∧ sv = .slice (some ⟨gs, 0, none⟩) ns cs ∧ i = .int .i64 k ∧ Elim d W k R S ∧ RefSS wr w1.heap.size wr.heap (.slice (some ⟨gr, 0, none⟩) nr cr) us R ∧ RefSS wr w1.heap.size wr.heap (.slice (some ⟨gs, 0, none⟩) ns cs) vs S ∧ gr ≠ gs ∧ Below w1.heap.size w1 wr) (fun _ _ i _ => W.length - (intOf i).toNat)
  case atStart => exact ⟨0, _, _, _, _, _, _, _, _, [], [], Nat.zero_le _, rfl, rfl, rfl, Elim.nil _ _, HR0.out, HS0.out, by omega, HB2.out⟩
  case round =>
    rename World => WA
    obtain ⟨k, gr, nr, cr, gs, ns, cs, us, vs, R, S, hk, rfl, rfl, rfl, hE, hRR, hRS, hne, hbl⟩ := hrel
    have HE := Lib.hid hE; have HRR := Lib.hid hRR; have HRS := Lib.hid hRS; have HBA := Lib.hid hbl; have HNE := Lib.hid hne
    have hsA := hbl.size
    have hnr : nr = k := by
      obtain ⟨_, _, hv, _⟩ := (hRR.ints (fun _ _ => rfl)).len
      simp only [Value.slice.injEq] at hv
      rw [hv.2.1, hE.lr]
    have hns : ns = k := by
      obtain ⟨_, _, hv, _⟩ := (hRS.ints (fun _ _ => rfl)).len
      simp only [Value.slice.injEq] at hv
      rw [hv.2.1, hE.ls]
    subst nr
    subst ns
    clear hE hRR hRS hbl HR0 HS0 HB2 hne
    by_cases hkl : k < W.length
    · obtain ⟨b1, o1, q1, u1, hv1, hc1, hu1, -⟩ := HRW.out.at k hkl
      simp only [Value.slice.injEq, true_and] at hv1
      obtain ⟨rfl, rfl⟩ := hv1
      obtain ⟨rk, hrk1, hrk2, hrk⟩ := HWL.out.2 _ (List.getElem_mem hkl)
      have hcA := (HBA.out.cell (World.block_lt_of_cell? _ _ hc1)).trans hc1
      have HUA := Lib.hid (hu1.same HBA.out.block)
      obtain ⟨xa, xc, rfl, -⟩ := hu1.len
      have HW5 := Lib.hid (fun (w : World) (h : IntS w.heap (.slice xa W[k].length xc) W[k]) => l05Word_c (.slice xa W[k].length xc) rk w hrk1 (by omega) (by rw [← hrk]; exact h))
      rw [← hrk] at HW5
      have HF := Lib.hid (fun (W' : World) (hW' : Below WA.heap.size WA W') => (⟨(hW'.cell (World.block_lt_of_cell? _ _ hcA)).trans hcA, hW'⟩ : W'.cell? ⟨b1, o1 + k, none⟩ = some (.slice xa W[k].length xc) ∧ Below WA.heap.size WA W'))
      have HX0 := Lib.hid (elimX_first HWL.out (by omega) k hkl R)
      have HG0 : Hid (W.getD k [] = W[k]) := by show _ = _; simp [hkl]
      have HM0 : Hid (∀ w ∈ [W[k]], w ∈ W.take (k + 1)) := fun w hw => by
        rw [List.mem_singleton.1 hw, List.take_succ_eq_append_getElem hkl]; exact List.mem_append_right _ (List.mem_singleton.2 rfl)
      have hki : (k : Int) < (W.length : Int) := by omega
      clear hc1 hu1 hrk hrk1 hrk2
      have hln : W[k].length ≤ 5 := (leads_len hd40 HWL.out.1 HWL.out.2).2 _ (List.getElem_mem hkl)
      generalize W[k] = wk at *
      go_upto_region 8 with fail
      go_cut [8, 9] (fun x own wx => IntSS wx.heap x (wordA wk) ∧ IntSS wx.heap own [wk] ∧ Below WA.heap.size WA wx)
      case first =>
        go_region_held3 (fun W' => W'.cell? ⟨b1, o1 + k, none⟩ = some (.slice xa wk.length xc) ∧ Below WA.heap.size WA W')
          (first | assumption | exact HF.out _ ((Below.refl _ _).drew) | exact HF.out _ (((Below.refl _ _).drew).alloc (Nat.le_refl _) _) | exact HF.out _ (hx5.alloc hx5.size _) | exact HF.out _ hx5 | fail)
          (first | (go_at_call 29; refine (HW5.out _ (by first | exact HUA.out.same (fun _ _ => rfl) | exact HUA.out.same (alloc_old _ _))).mono ?_; rintro e w5 ⟨x5, rfl, hX5, hz5⟩; obtain ⟨pa, pc, rfl, -⟩ := hX5.len; have hx5 : Below WA.heap.size WA w5 := by first | exact (Below.refl _ _).drew.trans hz5 | exact (((Below.refl _ _).drew).alloc (Nat.le_refl _) _).trans (hz5.mono (by simp))) | fail)
        all_goals
          go_wp2_with fail
          go_meet
          first | exact ⟨hX5.same (alloc_old _ _), one_row (HUA.out.same hx5.block), hx5.alloc hx5.size _⟩ | exact ⟨hX5, row_before (w := WA.drew) HUA.out hz5, hx5⟩
      case rest =>
        rename World => WB
        obtain ⟨hX, hO, hbB⟩ := hcut
        have HXB := Lib.hid hX; have HOB := Lib.hid hO; have HBB := Lib.hid hbB
        obtain ⟨xa1, xc1, rfl, -⟩ := hX.len
        obtain ⟨oa1, oc1, rfl, -⟩ := hO.len
        clear hX hO hbB HF HW5 hcA HUA
        go_wp2_with fail
        go_loopw [8, 9, 10] (fun x own i wr => ∃ (j : Nat) (X O : List (List Int)), j ≤ k ∧ i = .int .i64 j ∧ ElimX d [] R j X O ∧ (∀ w ∈ O, w ∈ W.take (k + 1)) ∧ W.getD k [] ∈ O ∧ IntSS wr.heap x X ∧ IntSS wr.heap own O ∧ Below WA.heap.size WA wr) (fun _ _ i _ => k - (intOf i).toNat)
        case atStart => exact ⟨0, _, _, Nat.zero_le _, rfl, HX0.out, HM0.out, by rw [HG0.out]; exact List.mem_singleton.2 rfl, HXB.out, HOB.out, HBB.out⟩
        case round =>
          obtain ⟨j, X, O, hj, rfl, hEX, hOs, hOk, hx, ho, hbl⟩ := hrel
          have HX := Lib.hid hx; have HO := Lib.hid ho; have HB := Lib.hid hbl; have HEX := Lib.hid hEX; have HOS := Lib.hid hOs; have HOK := Lib.hid hOk
          obtain ⟨xa2, xc2, rfl, -⟩ := hx.len
          obtain ⟨oa2, oc2, rfl, -⟩ := ho.len
          have hszr := hbl.size
          clear hx ho hbl hEX hOs hOk
          by_cases hjk : j < k
          · have SF := step_fit hd40 HWL.out HE.out (T := []) (fun z hz => by cases hz) HEX.out (fun w hw => List.mem_of_mem_take (HOS.out w hw)) hjk
            have OS := own_step HWL.out HE.out hjk hkl HEX.out.asc HOS.out HOK.out
            rw [← SF.sub] at OS
            obtain ⟨ya, yc, hcy, hY⟩ := refSS_at HRR.out HE.out.lr (Below.refl WA.heap.size WA) (Nat.le_refl _) j hjk
            obtain ⟨za, zc, hcz, hZ⟩ := refSS_at HRS.out HE.out.ls (Below.refl WA.heap.size WA) (Nat.le_refl _) j hjk
            obtain ⟨qb, qo, qe, qf, rfl, hcq, hq⟩ := intSS_head hY (HE.out.ne (by omega) HWL.out j hjk)
            have hyp : 0 < (R.getD j []).length := List.length_pos_iff.2 (HE.out.ne (by omega) HWL.out j hjk)
            generalize (R.getD j []).headD [] = z at *
            generalize R.getD j [] = Y at *
            generalize S.getD j [] = Z at *
            have HSF := Lib.hid SF; have HOS2 := Lib.hid OS; have HY := Lib.hid hY; have HZ := Lib.hid hZ
            have HPL := Lib.hid (l01Place_c _ _ X z wr HX.out (hq.same HB.out.block))
            have hcy1 := cell_at hcy HB.out
            have hcq1 := cell_at hcq HB.out
            have HC := Lib.hid (⟨hcy, hcz, hcq⟩ : _ ∧ _ ∧ _)
            have hji : (j : Int) < (k : Int) := by omega
            have HS1 := Lib.hid (fun (w : World) (h1 : Below wr.heap.size wr w) (h2 : Below WA.heap.size WA w) => l01Sum_c _ _ X Y w (HX.out.same h1.block) (HY.out.same h2.block) HSF.out.fx.len HSF.out.fx.la HSF.out.fx.lb)
            have HS2 := Lib.hid (fun (w : World) (h1 : Below wr.heap.size wr w) (h2 : Below WA.heap.size WA w) => l01Sum_c _ _ O Z w (HO.out.same h1.block) (HZ.out.same h2.block) HSF.out.fo.len HSF.out.fo.la HSF.out.fo.lb)
            clear hY hZ hq hcy hcz hcq SF OS
            by_cases hm : z ∈ X
            · have t1 := (placeL_in hm).1
              generalize placeL X z = pl at *
              go_wp2_with (first | (go_at_call 30; refine HPL.out.mono ?_; rintro e w3 ⟨rfl, n3, hw3⟩; have hb3 := below_of_drewN (Below.refl wr.heap.size wr) hw3; have hb3A : Below WA.heap.size WA w3 := HB.out.trans (hb3.mono hszr); have hcy3 := cell_at HC.out.1 hb3A; have HW3 := Lib.hid hw3; clear hw3) | (go_at_call 31; (with_reducible show Calls _ _ #[Value.slice xa2 X.length xc2, _] _ _); refine (HS1.out _ hb3 hb3A).mono ?_; rintro e w4 ⟨r4, rfl, ho4, hz4⟩; have hb4 : Below wr.heap.size wr w4 := hb3.trans (hz4.mono hb3.size); have hb4A : Below WA.heap.size WA w4 := HB.out.trans (hb4.mono hszr); have hx4 := ho4.ints; obtain ⟨ra, rc, rfl, -⟩ := hx4.len; have hcz4 := cell_at HC.out.2.1 hb4A) | (go_at_call 31; (with_reducible show Calls _ _ #[Value.slice oa2 O.length oc2, _] _ _); refine (HS2.out _ hb4 hb4A).mono ?_; rintro e w5 ⟨r5, rfl, ho5, hz5⟩; have hb5A : Below WA.heap.size WA w5 := hb4A.trans (hz5.mono hb4A.size); have hx5 := ho5.ints; obtain ⟨sa, sc, rfl, -⟩ := hx5.len))
              go_roundw
              case rel => exact ⟨j + 1, _, _, by omega, by go_num, HSF.out.yes hm, HOS2.out.1, HOS2.out.2, hx4.same hz5.block, hx5, hb5A⟩
              case measure => simp [intOf]; omega
            · have t1 := placeL_out hm
              rw [t1] at HPL
              go_wp2_with (go_at_call 30; refine HPL.out.mono ?_; rintro e w3 ⟨rfl, n3, hw3⟩; have hb3 := below_of_drewN (Below.refl wr.heap.size wr) hw3; have hb3A : Below WA.heap.size WA w3 := HB.out.trans (hb3.mono hszr); have HW3 := Lib.hid hw3; clear hw3)
              go_roundw
              case rel => exact ⟨j + 1, X, O, by omega, by go_num, HSF.out.no hm, HOS.out, HOK.out, HX.out.same hb3.block, HO.out.same hb3.block, hb3A⟩
              case measure => simp [intOf]; omega
          · obtain rfl : k = j := by omega
            have HP := Lib.hid (HE.out.push HEX.out HOS.out HOK.out)
            have hRl : R.length < 4398046511104 := by rw [HE.out.lr]; omega
            have hSl : S.length < 4398046511104 := by rw [HE.out.ls]; omega
            have HLN := Lib.hid (⟨hRl, hSl⟩ : _ ∧ _)
            have HGB := Lib.hid (⟨refSS_block HRR.out, refSS_block HRS.out⟩ : _ ∧ _)
            have hBr : w1.heap.size ≤ wr.heap.size := by omega
            clear hRl hSl
            go_wp2_with (first | (at_builtin; refine append_refQ rfl _ _ rfl w1.heap.size (.slice (some ⟨gs, 0, none⟩) k cs) (.slice oa2 O.length oc2) vs S O (refSS_step HRS5.out (Below.refl _ _) (alloc_old _ _)) rfl (HO5.out.same (alloc_old _ _)) (by simp; omega) w5.heap.size rfl (heap_alloc_new _ _) HLN.out.2 ?_; intro g2 n2 c2 us2 w6 hR6 hb6 hk6 ho6 hf6; have HR6 := Lib.hid hR6; have HB6 := Lib.hid hb6; have HK6 := Lib.hid hk6; have HO6 := Lib.hid ho6; have HF6 := Lib.hid hf6; clear hR6 hb6 hk6 ho6 hf6) | (at_builtin; refine append_refQ rfl _ _ rfl w1.heap.size (.slice (some ⟨gr, 0, none⟩) k cr) (.slice xa2 X.length xc2) us R X (refSS_step HRR.out HB.out (alloc_old _ _)) rfl (HX.out.same (alloc_old _ _)) (by simp; omega) wr.heap.size rfl (heap_alloc_new _ _) HLN.out.1 ?_; intro g1 n1 c1 us1 w5 hR5 hb5 hk5 ho5 hf5; have hsz5 : wr.heap.size + 1 ≤ w5.heap.size := Nat.le_trans (Nat.le_of_eq (by simp)) hb5.size; have HRS5 := Lib.hid (refSS_far (v := .slice (some ⟨gr, 0, none⟩) k cr) (refSS_step HRS.out HB.out (alloc_old _ _)) (fun e => HNE.out (by simp only [Value.ownBlock, Option.some.injEq] at e; exact e.symm)) hf5 hk5); have HO5 : Hid (IntSS w5.heap (.slice oa2 O.length oc2) O) := (HO.out.same (alloc_old wr (.cells #[.slice xa2 X.length xc2] 22))).keepT (by decide) (by decide) hk5; have HR5 := Lib.hid hR5; have HB5 := Lib.hid hb5; have HOB5 := Lib.hid ho5; clear hR5 hb5 hk5 ho5 hf5))
            go_roundw
            case rel => 
              have h1 := HGB.out
              have hne2 : g1 ≠ gs := by
                rcases HOB5.out with e | e
                · simp only [Value.ownBlock, Option.some.injEq] at e
                  rw [← e]; exact HNE.out
                · rw [e]; simp; omega
              have h5 := refSS_block HR5.out
              have HR7 := refSS_far (v := .slice (some ⟨gs, 0, none⟩) k cs) (refSS_step HR5.out (Below.refl _ _) (alloc_old _ _)) (fun e => hne2 (by simpa only [Value.ownBlock, Option.some.injEq] using e)) HF6.out HK6.out
              refine ⟨k + 1, g1, n1, c1, g2, n2, c2, us1, us2, R ++ [X], S ++ [O], by omega, rfl, rfl, by go_num, HP.out, HR7, HR6.out, fun e => ?_, ?_⟩
              · subst e
                rcases HO6.out with e | e
                · simp only [Value.ownBlock, Option.some.injEq] at e
                  exact hne2 e.symm
                · rw [e] at h5; simp at h5; omega
              · have b1 : Below w1.heap.size w1 wr := HBA.out.trans (HB.out.mono hsA)
                exact (((b1.alloc hBr _).trans HB5.out).alloc (Nat.le_trans hBr (by omega)) _).trans HB6.out
            case measure => simp [intOf]; omega
    · obtain rfl : k = W.length := by omega
      have HWA2 : Hid (Below w.heap.size w WA) := HB1.out.trans (HBA.out.mono HB1.out.size)
      have hszA := HWA2.out.size
      clear HRW HB1
      go_wp2_with fail
      go_loopw [0, 11, 12] (fun x own i wr => ∃ (j : Nat) (X O : List (List Int)), j ≤ W.length ∧ i = .int .i64 j ∧ ElimX d xs R j X O ∧ (∀ w ∈ O, w ∈ W) ∧ IntSS wr.heap x X ∧ IntSS wr.heap own O ∧ Below WA.heap.size WA wr) (fun _ _ i _ => W.length - (intOf i).toNat)
      case atStart => exact ⟨0, xs, [], Nat.zero_le _, rfl, elimX_terms HXA.out R, (fun w hw => by cases hw), (H.out.same HWA2.out.block).same (alloc_old _ _), (ownII_empty (w := WA) (B := WA.heap.size) (Nat.le_refl _)).ints, (Below.refl _ _).alloc (Nat.le_refl _) _⟩
      case round =>
        obtain ⟨j, X, O, hj, rfl, hEX, hOs, hx, ho, hbl⟩ := hrel
        have HX := Lib.hid hx; have HO := Lib.hid ho; have HB := Lib.hid hbl; have HEX := Lib.hid hEX; have HOS := Lib.hid hOs
        obtain ⟨xa2, xc2, rfl, -⟩ := hx.len
        obtain ⟨oa2, oc2, rfl, -⟩ := ho.len
        have hszr := hbl.size
        clear hx ho hbl hEX hOs
        by_cases hjk : j < W.length
        · have SF := step_fit hd40 HWL.out HE.out HXE.out HEX.out HOS.out hjk
          have OS := step_subW SF.sub HOS.out (elim_rowD hd40 HWL.out HE.out j hjk).2.2.2
          obtain ⟨ya, yc, hcy, hY⟩ := refSS_at HRR.out HE.out.lr (Below.refl WA.heap.size WA) (Nat.le_refl _) j hjk
          obtain ⟨za, zc, hcz, hZ⟩ := refSS_at HRS.out HE.out.ls (Below.refl WA.heap.size WA) (Nat.le_refl _) j hjk
          obtain ⟨qb, qo, qe, qf, rfl, hcq, hq⟩ := intSS_head hY (HE.out.ne (by omega) HWL.out j hjk)
          have hyp : 0 < (R.getD j []).length := List.length_pos_iff.2 (HE.out.ne (by omega) HWL.out j hjk)
          generalize (R.getD j []).headD [] = z at *
          generalize R.getD j [] = Y at *
          generalize S.getD j [] = Z at *
          have HSF := Lib.hid SF; have HOS2 := Lib.hid OS; have HY := Lib.hid hY; have HZ := Lib.hid hZ
          have HPL := Lib.hid (l01Place_c _ _ X z wr HX.out (hq.same HB.out.block))
          have hcy1 := cell_at hcy HB.out
          have hcq1 := cell_at hcq HB.out
          have HC := Lib.hid (⟨hcy, hcz, hcq⟩ : _ ∧ _ ∧ _)
          have hji : (j : Int) < (W.length : Int) := by omega
          have HS1 := Lib.hid (fun (w : World) (h1 : Below wr.heap.size wr w) (h2 : Below WA.heap.size WA w) => l01Sum_c _ _ X Y w (HX.out.same h1.block) (HY.out.same h2.block) HSF.out.fx.len HSF.out.fx.la HSF.out.fx.lb)
          have HS2 := Lib.hid (fun (w : World) (h1 : Below wr.heap.size wr w) (h2 : Below WA.heap.size WA w) => l01Sum_c _ _ O Z w (HO.out.same h1.block) (HZ.out.same h2.block) HSF.out.fo.len HSF.out.fo.la HSF.out.fo.lb)
          clear hY hZ hq hcy hcz hcq SF OS
          by_cases hm : z ∈ X
          · have t1 := (placeL_in hm).1
            generalize placeL X z = pl at *
            go_wp2_with (first | (go_at_call 30; refine HPL.out.mono ?_; rintro e w3 ⟨rfl, n3, hw3⟩; have hb3 := below_of_drewN (Below.refl wr.heap.size wr) hw3; have hb3A : Below WA.heap.size WA w3 := HB.out.trans (hb3.mono hszr); have hcy3 := cell_at HC.out.1 hb3A; have HW3 := Lib.hid hw3; clear hw3) | (go_at_call 31; (with_reducible show Calls _ _ #[Value.slice xa2 X.length xc2, _] _ _); refine (HS1.out _ hb3 hb3A).mono ?_; rintro e w4 ⟨r4, rfl, ho4, hz4⟩; have hb4 : Below wr.heap.size wr w4 := hb3.trans (hz4.mono hb3.size); have hb4A : Below WA.heap.size WA w4 := HB.out.trans (hb4.mono hszr); have hx4 := ho4.ints; obtain ⟨ra, rc, rfl, -⟩ := hx4.len; have hcz4 := cell_at HC.out.2.1 hb4A) | (go_at_call 31; (with_reducible show Calls _ _ #[Value.slice oa2 O.length oc2, _] _ _); refine (HS2.out _ hb4 hb4A).mono ?_; rintro e w5 ⟨r5, rfl, ho5, hz5⟩; have hb5A : Below WA.heap.size WA w5 := hb4A.trans (hz5.mono hb4A.size); have hx5 := ho5.ints; obtain ⟨sa, sc, rfl, -⟩ := hx5.len))
            go_roundw
            case rel => exact ⟨j + 1, _, _, by omega, by go_num, HSF.out.yes hm, HOS2.out, hx4.same hz5.block, hx5, hb5A⟩
            case measure => simp [intOf]; omega
          · have t1 := placeL_out hm
            rw [t1] at HPL
            go_wp2_with (go_at_call 30; refine HPL.out.mono ?_; rintro e w3 ⟨rfl, n3, hw3⟩; have hb3 := below_of_drewN (Below.refl wr.heap.size wr) hw3; have hb3A : Below WA.heap.size WA w3 := HB.out.trans (hb3.mono hszr); have HW3 := Lib.hid hw3; clear hw3)
            go_roundw
            case rel => exact ⟨j + 1, X, O, by omega, by go_num, HSF.out.no hm, HOS.out, HX.out.same hb3.block, HO.out.same hb3.block, hb3A⟩
            case measure => simp [intOf]; omega
        · obtain rfl : j = W.length := by omega
          have HEND := Lib.hid (sq_end hd40 HWL.out HWA.out HE.out HXE.out HXA.out HEX.out HOS.out)
          go_wp2_with fail
          go_ret
          exact ⟨_, O, rfl, HEND.out, HO.out, HWA2.out.trans (HB.out.mono hszA)⟩
end
section
open Go.RowKit Go.Sort

theorem smR_ex (xss : List (List Int)) : ∃ S, (arT xss = true → SqOk (degT xss) xss S) ∧ (arT xss = false → S = []) := by
  cases h : arT xss
  · exact ⟨[], fun e => by simp at e, fun _ => rfl⟩
  · obtain ⟨S, hS⟩ := sq_some h
    exact ⟨S, fun _ => hS, fun e => by simp at e⟩
/-- The admissible sum of an element. -/
noncomputable def smR (xss : List (List Int)) : List (List Int) := (smR_ex xss).choose
theorem smR_ok {xss : List (List Int)} (h : arT xss = true) : SqOk (degT xss) xss (smR xss) := (smR_ex xss).choose_spec.1 h
theorem smR_no {xss : List (List Int)} (h : arT xss = false) : smR xss = [] := (smR_ex xss).choose_spec.2 h
theorem smR_eq {xss S : List (List Int)} (h : arT xss = true) (hS : SqOk (degT xss) xss S) : S = smR xss := sq_unique (degT_in h).2 hS (smR_ok h)
theorem smR_small (xss : List (List Int)) : (smR xss).length ≤ 504 ∧ ∀ w ∈ smR xss, w.length ≤ 5 := by
  cases h : arT xss
  · rw [smR_no h]; exact ⟨by simp, fun w hw => by cases hw⟩
  · have h1 := smR_ok h
    have hd := degT_in h
    obtain ⟨d, hd0⟩ : ∃ d : Nat, degT xss = (d : Int) := ⟨(degT xss).toNat, by omega⟩
    rw [hd0] at h1
    exact leads_len (d := d) (by omega) (List.Pairwise.imp (fun h => ltL_ne h) h1.asc) h1.lead
theorem smR_nil : smR [] = [] := by
  cases h : arT []
  · exact smR_no h
  · have h1 := smR_ok h
    have hl := (sq_unique (degT_in h).2 (S' := []) h1 ⟨Asc.nil, (fun w hw => by cases hw), rfl⟩)
    exact hl
theorem smR_cnt (xss : List (List Int)) : cnt (smR xss) ≤ 5000 := by
  have h := smR_small xss
  have h2 := cnt_le h.2
  omega
def smC (xss : List (List Int)) : Int := if arT xss then 0 else 1
set_option maxRecDepth 100000 in
set_option maxHeartbeats 1000000 in
theorem specSquaresOfMilnor_c (v : Value) (xss : List (List Int)) (w : World) (h : IntSS w.heap v xss) :
    Calls Try.prog 5 #[.agg #[v]] w fun e w' => ∃ r, e = .returned (.tuple #[.agg #[r], .int .i64 (smC xss)]) ∧ IntSS w'.heap r (smR xss) ∧ Below w.heap.size w w' := by
  have hb : Below w.heap.size w ((w.alloc (.cells #[v] 29)).alloc (.cells #[.slice none 0 0] 26)) := ((Below.refl _ _).alloc (Nat.le_refl _) _).alloc (by simp) _
  have k0 := (Cell1.new w v 29).kept (alloc_old _ (.cells #[.slice none 0 0] 26))
  have k2 := Cell1.new (w.alloc (.cells #[v] 29)) (.slice none 0 0) 26
  simp only [size_alloc_w] at k2
  have hsz : ((w.alloc (.cells #[v] 29)).alloc (.cells #[.slice none 0 0] 26)).heap.size = w.heap.size + 2 := by simp
  have C := Lib.hid (l04Is_c v xss _ (h.same hb.block))
  obtain ⟨ao, c, rfl, hm⟩ := h.len
  have H := Lib.hid h; clear h
  obtain ⟨w0, hw0⟩ : ∃ w0, w0 = (w.alloc (.cells #[.slice ao xss.length c] 29)).alloc (.cells #[.slice none 0 0] 26) := ⟨_, rfl⟩
  have q0 := k0.c0
  rw [← hw0] at k0 k2 hb hsz C
  have HW := Lib.hid hw0; clear hw0
  have HB0 := Lib.hid hb; have K0 := Lib.hid k0; have K2 := Lib.hid k2; have HSZ := Lib.hid hsz
  clear hb k0 k2 hsz
  cases hT : arT xss
  · have e1 : smC xss = 1 := by simp [smC, hT]
    have e2 := smR_no hT
    rw [e1, e2]
    rw [hT] at C
    clear e1 e2 hT
    go_enter Try.func5, Try.ntmps5
    go_wp2_with fail
    rw [← HW.out]
    refine C.out.mono ?_
    rintro e w1 ⟨rfl, hb1⟩
    have K01 := Lib.hid (K0.out.kept hb1.block)
    have K21 := Lib.hid (K2.out.kept hb1.block)
    have q0' := K01.out.c0; have q2 := K21.out.c0; have f2 := K21.out.free 0
    have HB1 := Lib.hid (HB0.out.trans (hb1.mono HB0.out.size))
    have HS1 := Lib.hid hb1.size
    clear hb1 HW q0
    go_wp2_with fail
    have g0 := (K21.out.set (.slice none 0 0)).c0
    exact bodyPost_ret (v := .tuple #[.agg #[.slice none 0 0], .int .i64 1]) (by simp [results, Try.results5, go_sem, g0]) rfl
      ⟨_, rfl, IntSS.nil _, HB1.out.setCell (by show w.heap.size ≤ w.heap.size + 1; omega) _⟩
  · have e1 : smC xss = 0 := by simp [smC, hT]
    rw [e1]
    rw [hT] at C
    by_cases h0 : xss.length = 0
    · have e2 : smR xss = [] := by rw [List.eq_nil_of_length_eq_zero h0]; exact smR_nil
      rw [e2]
      have t0 := (eqB (show (xss.length : Int) = 0 by omega)).1
      clear e1 hT e2 h0
      go_enter Try.func5, Try.ntmps5
      go_wp2_with fail
      rw [← HW.out]
      refine C.out.mono ?_
      rintro e w1 ⟨rfl, hb1⟩
      have K01 := Lib.hid (K0.out.kept hb1.block)
      have K21 := Lib.hid (K2.out.kept hb1.block)
      have q0' := K01.out.c0; have q2 := K21.out.c0; have f2 := K21.out.free 0
      have HB1 := Lib.hid (HB0.out.trans (hb1.mono HB0.out.size))
      have HS1 := Lib.hid hb1.size
      clear hb1 HW q0
      go_wp2_with fail
      have g0 := (K21.out.set (.slice none 0 0)).c0
      exact bodyPost_ret (v := .tuple #[.agg #[.slice none 0 0], .int .i64 0]) (by simp [results, Try.results5, go_sem, g0]) rfl
        ⟨_, rfl, IntSS.nil _, HB1.out.setCell (by show w.heap.size ≤ w.heap.size + 1; omega) _⟩
    · have t0 := (neB (show (xss.length : Int) ≠ 0 by omega)).1
      have CO := Lib.hid (fun (W : World) (h : IntSS W.heap (.slice ao xss.length c) xss) => l05Squares_c _ xss W h hT (by omega))
      have HEQ := Lib.hid (fun S hS => smR_eq (S := S) hT hS)
      have HSM := Lib.hid (smR_small xss)
      clear e1 hT h0
      generalize smR xss = rx at *
      go_enter Try.func5, Try.ntmps5
      go_wp2_with fail
      rw [← HW.out]
      refine C.out.mono ?_
      rintro e w1 ⟨rfl, hb1⟩
      have K01 := Lib.hid (K0.out.kept hb1.block)
      have K21 := Lib.hid (K2.out.kept hb1.block)
      have q0' := K01.out.c0; have q2 := K21.out.c0; have f2 := K21.out.free 0
      have HB1 := Lib.hid (HB0.out.trans (hb1.mono HB0.out.size))
      have HS1 := Lib.hid hb1.size
      clear hb1 HW q0
      clear q2 f2
      go_wp2_with (first | (go_at_call 16; refine (CO.out _ (H.out.same HB1.out.block)).mono ?_; rintro e w2 ⟨r2, S, rfl, hS, hU2, hb2⟩; obtain rfl : S = rx := HEQ.out _ hS; obtain ⟨sa, sc, rfl, -⟩ := hU2.len; have K22 := Lib.hid (K21.out.kept hb2.block); have HU2 := Lib.hid hU2; have HB2 := Lib.hid (HB1.out.trans (hb2.mono HB1.out.size)); clear hU2 hb2 hS) | (go_at_call 15; refine (l01Own2_c _ S w2 HU2.out (by have := HSM.out.1; omega) (fun x hx => by have := HSM.out.2 x hx; omega)).mono ?_; rintro e w3 ⟨r3, us3, rfl, hU3, hb3⟩; obtain ⟨ta, tc, rfl, -⟩ := hU3.ints.len; have K23 := Lib.hid (K22.out.kept hb3.block); have q2 := K23.out.c0; have f2 := K23.out.free 0; have HU3 := Lib.hid hU3.ints; have HB3 := Lib.hid (HB2.out.trans (hb3.mono HB2.out.size)); clear hU3 hb3))
      have g0 := (K23.out.set (.slice ta S.length tc)).c0
      exact bodyPost_ret (v := .tuple #[.agg #[.slice ta S.length tc], .int .i64 0]) (by simp [results, Try.results5, go_sem, g0]) rfl
        ⟨_, rfl, HU3.out.other K23.out (by decide) (by decide) _, HB3.out.setCell (by show w.heap.size ≤ w.heap.size + 1; omega) _⟩
end
section
open Go.RowKit Go.Sort

/-- The program's rounds. -/
structure SqI (d : Int) (xs X O : List (List Int)) : Prop where
  asc : Asc X
  exp : ExpD d X
  sum : X = oddL (xs ++ O.flatMap wordA)
  lead : ∀ w ∈ O, ∃ r, isExp r = true ∧ deg r = d ∧ w = leadL r ∧ ∀ z ∈ X, KK z < KK r
  nod : O.Nodup
theorem SqI.start {xs : List (List Int)} (hT : arT xs = true) : SqI (degT xs) xs xs [] :=
  ⟨arT_asc hT, arT_expD hT, by simp [(arT_asc hT).odd], fun w hw => by simp at hw, List.nodup_nil⟩
theorem SqI.step {d : Int} (h40 : d ≤ 40) {xs X O : List (List Int)} (h : SqI d xs X O) {m : List Int} (hm : m ∈ X) (hmax : ∀ z ∈ X, KK z ≤ KK m) : SqI d xs (mrg X (wordA (leadL m))) (O ++ [leadL m]) := by
  have hme := h.exp m hm
  obtain ⟨l1, l2, l3, l4⟩ := lead_main m hme.1 (by omega)
  obtain ⟨s1, s2⟩ := sq_step h40 h.exp h.asc hm hmax
  rw [mrg_odd h.asc l2]
  refine ⟨asc_oddL _, s1, ?_, fun w hw => ?_, ?_⟩
  · conv => lhs; rw [h.sum]
    rw [← oddL_append, List.flatMap_append, List.append_assoc]; simp
  · rcases List.mem_append.1 hw with hw | hw
    · obtain ⟨r, r1, r2, r3, r4⟩ := h.lead w hw
      exact ⟨r, r1, r2, r3, fun z hz => by have := s2 z hz; have := r4 m hm; omega⟩
    · exact ⟨m, hme.1, hme.2, List.mem_singleton.1 hw, s2⟩
  · rw [List.nodup_append]
    refine ⟨h.nod, by simp, fun a ha b hb e => ?_⟩
    rw [List.mem_singleton.1 hb] at e
    obtain ⟨r, r1, r2, r3, r4⟩ := h.lead a ha
    have : r = m := by rw [← unL_lead r, ← r3, e, unL_lead]
    subst this
    have := r4 r hm
    omega
theorem SqI.small {d : Nat} (h40 : d ≤ 40) {xs X O : List (List Int)} (h : SqI d xs X O) : O.length ≤ 504 ∧ (∀ w ∈ O, w.length ≤ 5) ∧ X.length ≤ 504 ∧ ∀ r ∈ X, isExp r = true ∧ deg r ≤ 40 ∧ r.length ≤ 5 := by
  have h1 := leads_len h40 h.nod fun w hw => by obtain ⟨r, r1, r2, r3, _⟩ := h.lead w hw; exact ⟨r, r1, r2, r3⟩
  have h2 := expD_small h40 h.exp h.asc
  exact ⟨h1.1, h1.2, h2.1, fun r hr => ⟨(h.exp r hr).1, by have := (h.exp r hr).2; omega, h2.2 r hr⟩⟩
theorem SqI.done {d : Int} {xs O : List (List Int)} (h : SqI d xs [] O) (ha : Asc xs) : SqOk d xs (oddL O) := by
  refine ⟨asc_oddL _, fun w hw => ?_, ?_⟩
  · obtain ⟨r, r1, r2, r3, _⟩ := h.lead w (mem_oddL_sub hw)
    exact ⟨r, r1, r2, r3⟩
  · rw [oddL_flatMap]
    have h0 := h.sum
    conv => rhs; rw [← ha.odd]
    refine oddL_congr fun z => ?_
    have h1 : z ∉ oddL (xs ++ O.flatMap wordA) := by rw [← h0]; simp
    rw [mem_oddL, List.count_append] at h1
    omega
theorem lead_fit {d : Nat} (h40 : d ≤ 40) {xs X O : List (List Int)} (h : SqI d xs X O) {m : List Int} (hm : m ∈ X) : Asc (wordA (leadL m)) ∧ SumFit X (wordA (leadL m)) := by
  have hme := h.exp m hm
  obtain ⟨l1, l2, l3, l4⟩ := lead_main m hme.1 (by omega)
  rw [hme.2] at l1
  exact ⟨l2, sumFit_of (expD_small h40 h.exp h.asc) (expD_small h40 l1 l2)⟩
theorem enters_fromRight : Enters Try.prog 36 := fun args w => by kernel_rfl
set_option maxRecDepth 100000 in
theorem maxFunc_c (v : Value) (T : List (List Int)) (w : World) (h : IntSS w.heap v T) (h0 : 0 < T.length) (hT : ∀ r ∈ T, isExp r = true ∧ deg r ≤ 40 ∧ r.length ≤ 5) :
    Calls Try.prog 35 #[v, .func (.func 36) #[] #[]] w fun e w' => ∃ o m, e = .returned o ∧ m ∈ T ∧ (∀ z ∈ T, KK z ≤ KK m) ∧ IntS w'.heap o m ∧ Below w.heap.size w w' := by
  obtain ⟨b0, o0, c0, u0, rfl, hc0, hu0, hm⟩ := h.at 0 h0
  rw [Nat.add_zero] at hc0
  have H := Lib.hid h
  have HT := Lib.hid hT
  have H0 : Hid (T[0] ∈ T.take 1 ∧ ∀ z ∈ T.take 1, KK z ≤ KK T[0]) := by
    have e : T.take 1 = [T[0]] := by
      rw [List.take_succ_eq_append_getElem h0]; rfl
    show _ ∧ _
    rw [e]
    exact ⟨List.mem_singleton.2 rfl, fun z hz => by rw [List.mem_singleton.1 hz]; exact Int.le_refl _⟩
  have HU0 := Lib.hid hu0
  have hcf := enters_fromRight
  unfold Enters at hcf
  have hi : ¬ (T.length : Int) < 1 := by omega
  have hi2 : (0 : Int) < (T.length : Int) := by omega
  clear h hT hu0
  generalize T[0] = t0 at *
  go_enter Try.func35, Try.ntmps35
  go_wp2_with fail
  go_loopw [5, 6] (fun mv i wr => ∃ (k : Nat) (m : List Int), 1 ≤ k ∧ k ≤ T.length ∧ i = .int .i64 k ∧ m ∈ T.take k ∧ (∀ z ∈ T.take k, KK z ≤ KK m) ∧ IntS wr.heap mv m ∧ Below w.heap.size w wr) (fun _ i _ => T.length - (intOf i).toNat)
  case atStart => exact ⟨1, t0, Nat.le_refl _, h0, by go_num, H0.out.1, H0.out.2, HU0.out, Below.refl _ _⟩
  case round =>
    obtain ⟨k, m, hk1, hk, rfl, hmT, hmx, hu, hbl⟩ := hrel
    obtain ⟨ma, mc, rfl, -⟩ := hu.len
    have HU := Lib.hid hu; have HB := Lib.hid hbl; have HMT := Lib.hid hmT; have HMX := Lib.hid hmx
    by_cases hkl : k < T.length
    · obtain ⟨b1, o1, c1, u1, hv1, hc1, hu1, -⟩ := H.out.at k hkl
      simp only [Value.slice.injEq, true_and] at hv1
      obtain ⟨e1, rfl⟩ := hv1
      cases e1
      have hcA := (hbl.cell (World.block_lt_of_cell? _ _ hc1)).trans hc1
      have ht := HT.out _ (List.getElem_mem hkl)
      have hmm := HT.out m (List.mem_of_mem_take hmT)
      have HU1 := Lib.hid (hu1.same hbl.block)
      have HL := Lib.hid (fr_law ht.1 hmm.1 ht.2.1 hmm.2.1)
      have HTK : Hid (T.take (k + 1) = T.take k ++ [T[k]]) := by show _ = _; exact List.take_succ_eq_append_getElem hkl
      have HFR := Lib.hid (frI_c _ _ T[k] m wr HU1.out HU.out ht.2.2 hmm.2.2)
      obtain ⟨ta, tc, rfl, -⟩ := hu1.len
      have hki : (k : Int) < (T.length : Int) := by omega
      clear hu hbl hmT hmx hc1 hu1 ht hmm
      generalize T[k] = t at *
      by_cases hgt : KK m < KK t
      · have t1 : (0 : Int) < frV t m := HL.out.2 hgt
        generalize frV t m = fv at *
        have HGT := Lib.hid hgt
        clear hgt
        go_wp2_with (go_at_call 36; refine HFR.out.mono ?_; rintro e w3 ⟨rfl, hb3⟩; have hc3 := cell_at hcA hb3; have HB3 := Lib.hid hb3; clear hb3)
        go_roundw
        case rel =>
          refine ⟨k + 1, t, by omega, by omega, by go_num, ?_, fun z hz => ?_, HU1.out.same HB3.out.block, HB.out.trans (HB3.out.mono HB.out.size)⟩
          · rw [HTK.out]; exact List.mem_append_right _ (List.mem_singleton.2 rfl)
          · rw [HTK.out] at hz
            rcases List.mem_append.1 hz with hz | hz
            · have := HMX.out z hz; have := HGT.out; omega
            · rw [List.mem_singleton.1 hz]; exact Int.le_refl _
        case measure => simp [intOf]; omega
      · have t1 : ¬ (0 : Int) < frV t m := fun h => hgt (HL.out.1 h)
        generalize frV t m = fv at *
        have HGT := Lib.hid hgt
        clear hgt
        go_wp2_with (go_at_call 36; refine HFR.out.mono ?_; rintro e w3 ⟨rfl, hb3⟩; have HB3 := Lib.hid hb3; clear hb3)
        go_roundw
        case rel =>
          refine ⟨k + 1, m, by omega, by omega, by go_num, ?_, fun z hz => ?_, HU.out.same HB3.out.block, HB.out.trans (HB3.out.mono HB.out.size)⟩
          · rw [HTK.out]; exact List.mem_append_left _ HMT.out
          · rw [HTK.out] at hz
            rcases List.mem_append.1 hz with hz | hz
            · exact HMX.out z hz
            · rw [List.mem_singleton.1 hz]; have := HGT.out; omega
        case measure => simp [intOf]; omega
    · obtain rfl : k = T.length := by omega
      clear hu hbl hmT hmx
      go_wp2_with fail
      go_ret
      exact ⟨_, m, rfl, List.mem_of_mem_take HMT.out, fun z hz => HMX.out z (by rwa [List.take_length]), HU.out, HB.out⟩
end
section
open Go.RowKit Go.Sort

section
variable {ops : Array Oper} {rest : List Oper} {o : Oper} {a : Act} {Q : Exit → Act → World → Prop}
/-- 'append(list, x)', x one reference; all else as it was. -/
theorem append_refF {w w0 : World} (hg : o.guard = none) (s x : Operand)
    (ho : o.op = .call { callee := .builtin .append, args := #[s, x], argTypes := #[22, 22] })
    (B : Nat) (v u : Value) (us : List Value) (xss : List (List Int)) (xs : List Int) (hR : RefR w B w.heap v us xss) (hs : a.eval s = v) (hu : IntS w.heap u xs) (hbl : Below B w0 w) (hB : B ≤ w.heap.size)
    (b : Nat) (hx : a.eval x = .slice (some ⟨b, 0, none⟩) 1 1) (hb : w.heap[b]? = some (.cells #[u] 41 (0, 0))) (hn : xss.length < 4398046511104)
    (hK : ∀ v' us' w', RefR w' B w'.heap v' us' (xss ++ [xs]) → Below B w0 w' → w.heap.size ≤ w'.heap.size → (∀ b, b < w.heap.size → some b ≠ v.ownBlock → w'.heap[b]? = w.heap[b]?) → wpList Try.prog ops Q rest (a.put o.dst v') w') :
    wpList Try.prog ops Q (o :: rest) a w := by
  obtain ⟨i0, hi, hz0, hz1, hz2⟩ := info_parts info_slI
  refine append_all hg s x _ ho B _ i0 _ 24 Try.underlying22 hi hz0 hz1 hz2 rfl (by omega) v _ _ us [u] hR.row hs (slAt_one hb) hx hbl hB (fun z hz => ?_) (by simp; omega) ?_
  · rw [List.mem_singleton] at hz; rw [hz]
    obtain ⟨_, _, rfl, _⟩ := hu.len
    simp [Value.oneCell']
  · intro v' w' h1 h2 h3 h4
    have kp := KeepI.grown hR.row (by decide) h4
    have hl := hR.len
    refine hK v' _ w' ⟨by simpa using h1, fun i y ys hy hz => ?_⟩ h2 h3 h4
    by_cases hi' : i < us.length
    · rw [List.getElem?_append_left hi'] at hy
      rw [List.getElem?_append_left (by omega)] at hz
      exact (hR.each i y ys hy hz).keep kp
    · rw [List.getElem?_append_right (by omega)] at hy hz
      rw [← hl] at hz
      obtain ⟨m, hm⟩ : ∃ m, i - us.length = m := ⟨_, rfl⟩
      rw [hm] at hy hz
      match m, hy, hz with
      | 0, hy, hz =>
        simp at hy hz
        subst hy; subst hz
        exact hu.keep kp
end
/-- What is read however the row of v is changed. -/
def Apart (w : World) (v x : Value) (X : List (List Int)) : Prop := ∀ W : World, (∀ b, b < w.heap.size → some b ≠ v.ownBlock → W.heap[b]? = w.heap[b]?) → IntSS W.heap x X
theorem Apart.now {w : World} {v x : Value} {X : List (List Int)} (h : Apart w v x X) : IntSS w.heap x X := h w fun _ _ _ => rfl
theorem Apart.grown {w w' : World} {v x : Value} {X : List (List Int)} (h : Apart w v x X) (k : ∀ b, b < w.heap.size → w'.heap[b]? = w.heap[b]?) (hs : w.heap.size ≤ w'.heap.size) : Apart w' v x X := fun W hW => h W fun b hb hne => (hW b (by omega) hne).trans (k b hb)
theorem apart_own {w : World} {B : Nat} {v x : Value} {us : List Value} {X : List (List Int)} (h : OwnU w B x us X) (hv : ∀ b, v.ownBlock = some b → b < B) : Apart w v x X := fun W hW => (h.far (w' := W) fun b hb hlt => hW b hlt fun e => by have := hv b e.symm; omega).ints
set_option maxRecDepth 100000 in
set_option maxHeartbeats 1000000 in
theorem squaresOf_of (SO : SortOk) (v : Value) (xs : List (List Int)) (w : World) (h : IntSS w.heap v xs) (hT : arT xs = true) :
    Calls Try.prog 19 #[v] w fun e w' => ∃ o us S, e = .returned o ∧ SqOk (degT xs) xs S ∧ OwnU w' w.heap.size o us S ∧ Below w.heap.size w w' := by
  have hdg := degT_in hT
  obtain ⟨d, hd⟩ : ∃ d : Nat, degT xs = (d : Int) := ⟨(degT xs).toNat, by omega⟩
  have hd40 : d ≤ 40 := by omega
  have HST := Lib.hid (SqI.start hT)
  have HA := Lib.hid (arT_asc hT)
  rw [hd] at HST ⊢
  have HSO := Lib.hid SO
  obtain ⟨ao, c, rfl, -⟩ := h.len
  have H := Lib.hid h
  clear h hT hd hdg SO
  go_enter Try.func19, Try.ntmps19
  go_wp2_with fail
  go_loopg [0, 3] 505 (fun k x out wr => ∃ (X O : List (List Int)) (us : List Value), SqI d xs X O ∧ Apart wr out x X ∧ RefR wr w.heap.size wr.heap out us O ∧ Below w.heap.size w wr ∧ 505 ≤ k + O.length)
  case atStart =>
    refine ⟨xs, [], [], HST.out, fun W hW => ?_, ref_empty (B := w.heap.size) _ (Nat.le_refl _), (Below.refl _ _).alloc (Nat.le_refl _) _, by simp⟩
    refine H.out.same fun b hb => (hW b (by simp; omega) (by simp [Value.ownBlock]; omega)).trans (alloc_old _ _ b hb)
  case round =>
    obtain ⟨X, O, us, hI, hA, hR, hbl, hkk⟩ := hrel
    obtain ⟨xa, xc, rfl, -⟩ := hA.now.len
    obtain ⟨oa, on, oc, rfl⟩ := own_shape hR.row
    have hsm := hI.small hd40
    have HI := Lib.hid hI; have HAP := Lib.hid hA; have HR := Lib.hid hR; have HB := Lib.hid hbl
    have hszr := hbl.size
    clear hI hA hR hbl
    by_cases h0 : 0 < X.length
    · have h0i : (0 : Int) < (X.length : Int) := by omega
      have hk0 : 1 ≤ gk := by omega
      have HSM := Lib.hid hsm
      have HOL : Hid (O.length < 4398046511104) := by show _ < _; omega
      have MX := Lib.hid (maxFunc_c _ X wr HAP.out.now h0 hsm.2.2.2)
      have HKK := Lib.hid hkk
      clear hsm hkk h0
      go_wp2_with (first | (go_at_call 35; refine MX.out.mono ?_; rintro e w1 ⟨mv, m, rfl, hm, hmx, hmr, hb1⟩; obtain ⟨ma, mc, rfl, -⟩ := hmr.len; have HM := Lib.hid hm; have HMX := Lib.hid hmx; have HMR := Lib.hid hmr; have HB1 := Lib.hid hb1; have LF := Lib.hid (lead_fit hd40 HI.out hm); have HSTEP := Lib.hid (HI.out.step (by omega) hm hmx); clear hm hmx hmr hb1) | (go_at_call 34; refine (leadingWord_c _ m w1 HMR.out (HSM.out.2.2.2 m HM.out).1 (HSM.out.2.2.2 m HM.out).2.1).mono ?_; rintro e w2 ⟨wv, rfl, hw2, hb2⟩; obtain ⟨wa, wn, wc, rfl⟩ := own_shape hw2; have HW2 := Lib.hid (hw2.ints.same (alloc_old w2 (.cells #[.slice wa wn wc] 41))); have HB2 := Lib.hid (HB1.out.trans (hb2.mono HB1.out.size)); have hsz2 := HB2.out.size; have HRA := Lib.hid ((HR.out.grown HB2.out.block).grown (alloc_old w2 (.cells #[.slice wa wn wc] 41))); have HAA := Lib.hid ((HAP.out.grown HB2.out.block hsz2).grown (alloc_old w2 (.cells #[.slice wa wn wc] 41)) (by simp)); clear hw2 hb2) | (at_builtin; refine append_refF (w0 := w) rfl _ _ rfl w.heap.size (.slice oa on oc) (.slice wa wn wc) us O (leadL m) HRA.out rfl HW2.out ((HB.out.trans (HB2.out.mono hszr)).alloc (Nat.le_trans hszr hsz2) _) (by simp; omega) w2.heap.size rfl (heap_alloc_new _ _) HOL.out ?_; intro v3 us3 w3 hR3 hb3 hs3 hf3; obtain ⟨qa, qn, qc, rfl⟩ := own_shape hR3.row; have HX3 := Lib.hid (HAA.out w3 hf3); have HW3 := Lib.hid (HW2.out.keep (KeepI.grown HRA.out.row (by decide) hf3)); have HR3 := Lib.hid hR3; have HB3 := Lib.hid hb3; clear hR3 hb3 hf3) | (go_at_call 38; refine (milnorOfWord_of HSO.out _ m w3 (HSM.out.2.2.2 m HM.out).1 (HSM.out.2.2.2 m HM.out).2.1 HW3.out).mono ?_; rintro e w4 ⟨pv, rfl, hp4, hb4⟩; obtain ⟨pa, pc, rfl, -⟩ := hp4.len; have HP4 := Lib.hid hp4; have HB4 := Lib.hid hb4; have hsz4 := hb4.size; clear hp4 hb4) | (go_at_call 37; refine (sumOf_of HSO.out _ _ X (wordA (leadL m)) w4 (HX3.out.same HB4.out.block) HP4.out HI.out.asc LF.out.1 LF.out.2.len LF.out.2.la LF.out.2.lb).mono ?_; rintro e w5 ⟨sv, us5, rfl, hU5, hb5⟩; obtain ⟨sa, sc, rfl, -⟩ := hU5.ints.len; have HU5 := Lib.hid hU5; have HB5 := Lib.hid hb5; clear hU5 hb5))
      go_roundg (gk - 1)
      case measure => omega
      case rel =>
        have hb45 : Below w3.heap.size w3 w5 := HB4.out.trans (HB5.out.mono hsz4)
        refine ⟨_, _, us3, HSTEP.out, apart_own HU5.out (fun b e => ?_), HR3.out.grown hb45.block, HB3.out.trans (hb45.mono (HB3.out.size)), ?_⟩
        · have := (World.ownsRow.lt HR3.out.row b e).2; omega
        · have := HKK.out; rw [List.length_append, List.length_singleton]; omega
    · obtain rfl : X = [] := List.eq_nil_of_length_eq_zero (by omega)
      have HD := Lib.hid (HI.out.done HA.out)
      have OO := Lib.hid (oddOnes_of HSO.out _ O wr (HR.out.ints fun _ _ => rfl) (by omega) (fun x hx => by have := hsm.2.1 x hx; omega))
      clear hsm hkk
      go_wp2_with (go_at_call 39; refine OO.out.mono ?_; rintro e w1 ⟨r1, us1, rfl, hU1, hb1⟩; obtain ⟨ra, rn, rc, rfl⟩ := own_shape hU1.row)
      go_ret
      obtain ⟨us2, hU2⟩ := OwnII.base ⟨us1, hU1⟩ hszr
      exact ⟨_, us2, oddL O, rfl, HD.out, hU2, HB.out.trans (hb1.mono hszr)⟩
set_option maxRecDepth 100000 in
set_option maxHeartbeats 1000000 in
theorem implSquaresOfMilnor_of (SO : SortOk) (v : Value) (xss : List (List Int)) (w : World) (h : IntSS w.heap v xss) :
    Calls Try.prog 7 #[.agg #[v]] w fun e w' => ∃ r us, e = .returned (.tuple #[.agg #[r], .int .i64 (smC xss)]) ∧ OwnU w' w.heap.size r us (smR xss) ∧ Below w.heap.size w w' := by
  have hb : Below w.heap.size w ((w.alloc (.cells #[v] 29)).alloc (.cells #[.slice none 0 0] 26)) := ((Below.refl _ _).alloc (Nat.le_refl _) _).alloc (by simp) _
  have k0 := (Cell1.new w v 29).kept (alloc_old _ (.cells #[.slice none 0 0] 26))
  have k2 := Cell1.new (w.alloc (.cells #[v] 29)) (.slice none 0 0) 26
  simp only [size_alloc_w] at k2
  have hsz : ((w.alloc (.cells #[v] 29)).alloc (.cells #[.slice none 0 0] 26)).heap.size = w.heap.size + 2 := by simp
  have C := Lib.hid (isMilnor_c v xss _ (h.same hb.block))
  obtain ⟨ao, c, rfl, hm⟩ := h.len
  have H := Lib.hid h; clear h
  obtain ⟨w0, hw0⟩ : ∃ w0, w0 = (w.alloc (.cells #[.slice ao xss.length c] 29)).alloc (.cells #[.slice none 0 0] 26) := ⟨_, rfl⟩
  have q0 := k0.c0
  rw [← hw0] at k0 k2 hb hsz C
  have HW := Lib.hid hw0; clear hw0
  have HB0 := Lib.hid hb; have K0 := Lib.hid k0; have K2 := Lib.hid k2; have HSZ := Lib.hid hsz
  clear hb k0 k2 hsz
  cases hT : arT xss
  · have e1 : smC xss = 1 := by simp [smC, hT]
    have e2 := smR_no hT
    rw [e1, e2]
    rw [hT] at C
    clear e1 e2 hT SO
    go_enter Try.func7, Try.ntmps7
    go_wp2_with fail
    rw [← HW.out]
    refine C.out.mono ?_
    rintro e w1 ⟨rfl, hb1⟩
    have K01 := Lib.hid (K0.out.kept hb1.block)
    have K21 := Lib.hid (K2.out.kept hb1.block)
    have q0' := K01.out.c0; have q2 := K21.out.c0; have f2 := K21.out.free 0
    have HB1 := Lib.hid (HB0.out.trans (hb1.mono HB0.out.size))
    have HS1 := Lib.hid hb1.size
    clear hb1 HW q0
    go_wp2_with fail
    have g0 := (K21.out.set (.slice none 0 0)).c0
    exact bodyPost_ret (v := .tuple #[.agg #[.slice none 0 0], .int .i64 1]) (by simp [results, Try.results7, go_sem, g0]) rfl
      ⟨_, [], rfl, own_u_nil _ _, HB1.out.setCell (by show w.heap.size ≤ w.heap.size + 1; omega) _⟩
  · have e1 : smC xss = 0 := by simp [smC, hT]
    rw [e1]
    rw [hT] at C
    have CO := Lib.hid (fun (W : World) (h : IntSS W.heap (.slice ao xss.length c) xss) => squaresOf_of SO _ xss W h hT)
    have HEQ := Lib.hid (fun S hS => smR_eq (S := S) hT hS)
    clear e1 hT SO
    generalize smR xss = rx at *
    go_enter Try.func7, Try.ntmps7
    go_wp2_with fail
    rw [← HW.out]
    refine C.out.mono ?_
    rintro e w1 ⟨rfl, hb1⟩
    have K01 := Lib.hid (K0.out.kept hb1.block)
    have K21 := Lib.hid (K2.out.kept hb1.block)
    have q0' := K01.out.c0; have q2 := K21.out.c0; have f2 := K21.out.free 0
    have HB1 := Lib.hid (HB0.out.trans (hb1.mono HB0.out.size))
    have HS1 := Lib.hid hb1.size
    clear hb1 HW q0
    clear q2 f2
    go_wp2_with (go_at_call 19; refine (CO.out _ (H.out.same HB1.out.block)).mono ?_; rintro e w2 ⟨r2, us2, S, rfl, hS, hU2, hb2⟩; obtain rfl : S = rx := HEQ.out _ hS; obtain ⟨sa, sn, sc, rfl⟩ := own_shape hU2.row; have K23 := Lib.hid (K21.out.kept hb2.block); have q2 := K23.out.c0; have f2 := K23.out.free 0; have HU2 := Lib.hid hU2; have HB2 := Lib.hid (HB1.out.trans (hb2.mono HB1.out.size)); clear hU2 hb2)
    have g0 := (K23.out.set (.slice sa sn sc)).c0
    exact bodyPost_ret (v := .tuple #[.agg #[.slice sa sn sc], .int .i64 0]) (by simp [results, Try.results7, go_sem, g0]) rfl
      ⟨_, us2, rfl, own_var1 HU2.out (by have := HS1.out; have := HSZ.out; omega) _ HB1.out.size K23.out, HB2.out.setCell (by show w.heap.size ≤ w.heap.size + 1; omega) _⟩
end
section
open Go.RowKit Go.Sort Go.Shelf

/-- A slice with what it reads as. -/
def SElt (h : Array Obj) : Type := {p : Value × List Int // IntS h p.1 p.2}
instance (h : Array Obj) : Inhabited (SElt h) := ⟨⟨(.slice none 0 0, []), IntS.nil h⟩⟩
def encE {h : Array Obj} (x : SElt h) : Value := x.1.1
def cfE {h : Array Obj} (x y : SElt h) : Int := cmpL x.1.2 y.1.2
theorem encE_one {h : Array Obj} (x : SElt h) : (encE x).oneCell' = true := by
  rcases x.2 with ⟨hv, _⟩ | ⟨b, off, cap, cur, hv, _⟩
  · unfold encE; rw [hv]; rfl
  · unfold encE; rw [hv]; rfl
theorem ltOf_cfE {h : Array Obj} (x y : SElt h) : ltOf cfE x y = ltL x.1.2 y.1.2 := cmpL_neg _ _
theorem swo_cfE (h : Array Obj) : SWO (ltOf (cfE (h := h))) where
  irrefl x := by rw [ltOf_cfE]; exact ltL_irrefl _
  trans x y z h1 h2 := by rw [ltOf_cfE] at *; exact ltL_trans _ _ _ h1 h2
  ntrans x y z h1 h2 := by rw [ltOf_cfE] at *; exact ltL_ntrans _ _ _ h1 h2
theorem heap_sorted {w : World} {g m : Nat} {α : Type} [Inhabited α] {enc : α → Value} {d : Array α} {os : Array Obj} {cur : Array Value} {T : Nat} (hg : w.heap[g]? = some (.cells cur T (0, 0))) :
    (sortWorld enc w g 0 m d os).heap[g]? = some (.cells (putCells enc 0 d cur) T (0, 0)) := by
  have hlt := (Array.getElem?_eq_some_iff.1 hg).1
  show ((w.heap.modify g (onCells (putCells enc 0 d))) ++ os)[g]? = _
  rw [Array.getElem?_append_left (by simpa using hlt), Array.getElem?_modify, if_pos rfl, hg]
  rfl
theorem heap_sorted_far {w : World} {g m k : Nat} {α : Type} [Inhabited α] {enc : α → Value} {d : Array α} {os : Array Obj} (hk : k < w.heap.size) (ne : k ≠ g) :
    (sortWorld enc w g 0 m d os).heap[k]? = w.heap[k]? := by
  show ((w.heap.modify g (onCells (putCells enc 0 d))) ++ os)[k]? = _
  rw [Array.getElem?_append_left (by simpa using hk), Array.getElem?_modify, if_neg (fun e => ne e.symm)]
theorem size_sorted {w : World} {g m : Nat} {α : Type} [Inhabited α] {enc : α → Value} {d : Array α} {os : Array Obj} : w.heap.size ≤ (sortWorld enc w g 0 m d os).heap.size := by
  show w.heap.size ≤ ((w.heap.modify g (onCells (putCells enc 0 d))) ++ os).size
  simp
theorem keep_sorted {w : World} {g m : Nat} {α : Type} [Inhabited α] {enc : α → Value} {d : Array α} {os : Array Obj} {cur : Array Value} {T : Nat} (hg : w.heap[g]? = some (.cells cur T (0, 0))) (ne : T ≠ 2) : KeepI w (sortWorld enc w g 0 m d os) := by
  intro b cs f hb
  by_cases e : b = g
  · subst e
    rw [hg] at hb
    simp only [Option.some.injEq, Obj.cells.injEq] at hb
    exact absurd hb.2.1 ne
  · rw [heap_sorted_far (Array.getElem?_eq_some_iff.1 hb).1 e]; exact hb
theorem putCells_take {α : Type} [Inhabited α] {enc : α → Value} {d : Array α} {cur : Array Value} (h : d.size ≤ cur.size) : (putCells enc 0 d cur).toList.take d.size = d.toList.map enc := by
  apply List.ext_getElem?
  intro i
  by_cases hi : i < d.size
  · rw [List.getElem?_take, if_pos hi, List.getElem?_map]
    simp only [putCells, Array.toList_mapIdx, List.getElem?_mapIdx, Array.getElem?_toList]
    rw [Array.getElem?_eq_getElem (by omega), Array.getElem?_eq_getElem hi]
    simp [hi]
  · rw [List.getElem?_eq_none (by simp; omega), List.getElem?_eq_none (by simp; omega)]
theorem sortSS_c (v : Value) (us : List Value) (xss : List (List Int)) (B : Nat) (w : World) (hR : RefR w B w.heap v us xss) (hB : B ≤ w.heap.size) (hlen : xss.length < 4611686018427387904) :
    Calls Try.prog 60 #[v, .func (.func 56) #[] #[]] w fun e w' => e = .returned (.tuple #[]) ∧ ∃ us' xss', RefR w' B w.heap v us' xss' ∧ xss'.Perm xss ∧ xss'.Pairwise (fun a b => ltL b a = false) ∧ Below B w w' ∧ KeepI w w' := by
  by_cases h0 : xss.length = 0
  · obtain rfl : xss = [] := List.eq_nil_of_length_eq_zero h0
    have hus : us = [] := List.eq_nil_of_length_eq_zero hR.len
    subst hus
    obtain ⟨ao, l, c, rfl⟩ := own_shape hR.row
    have hl : l = 0 := by
      obtain ⟨_, _, hv, _⟩ := SlAt.len (slAt_of_own hR.row)
      simp only [Value.slice.injEq] at hv
      exact hv.2.1
    subst hl
    have h := AnyF.slices_SortFunc_none { sortLay with } ao c (.func (.func 56) #[] #[]) w
    exact h.mono fun e w' ⟨he, hw⟩ => ⟨he, [], [], by rw [hw]; exact hR, List.Perm.refl _, List.Pairwise.nil, by rw [hw]; exact Below.refl _ _, by rw [hw]; exact KeepI.refl _⟩
  · have hrow := hR.row
    rcases hrow.2 with ⟨_, h1⟩ | ⟨g, cap, cur, rfl, hgB, hg, h2, h3, h4, h5⟩
    · exact absurd h1 (by simpa using h0)
    rw [Nat.mul_one] at h4 h5
    have hus := hR.len
    let d : Array (SElt w.heap) := Array.ofFn fun i : Fin xss.length => ⟨(us[i]'(by have := i.2; omega), xss[i]), hR.each i _ _ (List.getElem?_eq_getElem (by have := i.2; omega)) (List.getElem?_eq_getElem i.2)⟩
    have hds : d.size = xss.length := Array.size_ofFn
    have hdu : d.toList.map encE = us := by
      apply List.ext_getElem
      · simp [hds, hus]
      · intro i h1 h2
        have e : d[i]'(by simpa using h1) = _ := Array.getElem_ofFn _
        simp only [List.getElem_map, Array.getElem_toList]
        rw [e]; rfl
    have hdx : d.toList.map (fun x => x.1.2) = xss := by
      apply List.ext_getElem
      · simp [hds]
      · intro i h1 h2
        have e : d[i]'(by simpa using h1) = _ := Array.getElem_ofFn _
        simp only [List.getElem_map, Array.getElem_toList]
        rw [e]; rfl
    have hH : Holds encE w g 0 d := fun j hj => by
      rw [hds] at hj
      refine ⟨?_, by rw [Nat.zero_add]; exact hrow.frozenAt j⟩
      rw [Nat.zero_add, hrow.cellAt j (by omega), getElem!_pos d j (by omega)]
      have := congrArg (fun l : List Value => l[j]?) hdu
      simp only [List.getElem?_map, Array.getElem?_toList] at this
      rw [← this, Array.getElem?_eq_getElem (by omega)]
      rfl
    have hcmp : CmpLays1 Try.prog 56 #[] (encE (h := w.heap)) cfE g 0 d.size w := fun m os dk _ x y => by
      have hk : KeepI w (sortWorld encE w g 0 m dk os) := keep_sorted hg (by decide)
      refine (compare_c (encE x) (encE y) x.1.2 y.1.2 _ (IntS.keep x.2 hk) (IntS.keep y.2 hk)).mono fun e w' ⟨he, hw⟩ => ⟨he, 0, #[], ?_⟩
      rw [← hw, grow_empty]; rfl
    have hcon := Any.slices_SortFunc sortLay (encE (h := w.heap)) encE_one cfE (swo_cfE _) 56 #[] g 0 cap d w enters_compare hcmp hH (Array.getElem?_eq_some_iff.1 hg).1 (by omega)
    rw [hds] at hcon
    refine Calls.mono hcon fun e w' ⟨he, d', n, os, hp, hs, hw⟩ => ⟨he, d'.toList.map encE, d'.toList.map (fun x => x.1.2), ?_⟩
    obtain ⟨hp1, hp2, hp3⟩ := hp
    have hd's : d'.size = xss.length := by rw [hp1, hds]
    have hperm : d'.toList.Perm d.toList := by
      rw [show d'.extract 0 xss.length = d' by rw [← hd's]; simp, show d.extract 0 xss.length = d by rw [← hds]; simp] at hp3
      exact hp3
    refine ⟨⟨⟨by simp [hd's], .inr ⟨g, cap, putCells encE 0 d' cur, by simp [hd's], hgB, by rw [hw]; exact heap_sorted hg, by simpa [hd's] using h2, h3, by simpa [putCells] using h4, ?_⟩⟩, fun i u xs hu hx => ?_⟩, ?_, ?_, ?_, ?_⟩
    · rw [Nat.mul_one, List.length_map, Array.length_toList, hd's, ← hd's]
      exact putCells_take (by omega)
    · simp only [List.getElem?_map, Option.map_eq_some_iff] at hu hx
      obtain ⟨z, hz, rfl⟩ := hu
      obtain ⟨z', hz', rfl⟩ := hx
      rw [hz] at hz'
      obtain rfl := Option.some.inj hz'
      exact z.2
    · rw [← hdx]; exact hperm.map _
    · rw [List.pairwise_iff_getElem]
      intro i j hi hj hij
      simp only [List.length_map, Array.length_toList] at hi hj
      have := hs i j (Nat.zero_le _) hij (by omega)
      rw [ltOf_cfE, getElem!_pos d' j hj, getElem!_pos d' i hi] at this
      simpa using this
    · rw [hw]
      exact ⟨rfl, rfl, rfl, size_sorted, fun k hk => heap_sorted_far (by omega) (by omega)⟩
    · rw [hw]; exact keep_sorted hg (by decide)
theorem sortSS_c2 (v : Value) (us : List Value) (xss : List (List Int)) (B : Nat) (w : World) (hR : RefR w B w.heap v us xss) (hB : B ≤ w.heap.size) (hlen : xss.length < 4611686018427387904) :
    Calls Try.prog 60 #[v, .func (.func 56) #[] #[]] w fun e w' => e = .returned (.tuple #[]) ∧ ∃ us' xss', RefR w' B w.heap v us' xss' ∧ (us'.zip xss').Perm (us.zip xss) ∧ xss'.Pairwise (fun a b => ltL b a = false) ∧ Below B w w' ∧ (∀ b, b < w.heap.size → some b ≠ v.ownBlock → w'.heap[b]? = w.heap[b]?) := by
  by_cases h0 : xss.length = 0
  · obtain rfl : xss = [] := List.eq_nil_of_length_eq_zero h0
    have hus : us = [] := List.eq_nil_of_length_eq_zero hR.len
    subst hus
    obtain ⟨ao, l, c, rfl⟩ := own_shape hR.row
    have hl : l = 0 := by
      obtain ⟨_, _, hv, _⟩ := SlAt.len (slAt_of_own hR.row)
      simp only [Value.slice.injEq] at hv
      exact hv.2.1
    subst hl
    have h := AnyF.slices_SortFunc_none { sortLay with } ao c (.func (.func 56) #[] #[]) w
    exact h.mono fun e w' ⟨he, hw⟩ => ⟨he, [], [], by rw [hw]; exact hR, List.Perm.refl _, List.Pairwise.nil, by rw [hw]; exact Below.refl _ _, fun b _ _ => by rw [hw]⟩
  · have hrow := hR.row
    rcases hrow.2 with ⟨_, h1⟩ | ⟨g, cap, cur, rfl, hgB, hg, h2, h3, h4, h5⟩
    · exact absurd h1 (by simpa using h0)
    rw [Nat.mul_one] at h4 h5
    have hus := hR.len
    let d : Array (SElt w.heap) := Array.ofFn fun i : Fin xss.length => ⟨(us[i]'(by have := i.2; omega), xss[i]), hR.each i _ _ (List.getElem?_eq_getElem (by have := i.2; omega)) (List.getElem?_eq_getElem i.2)⟩
    have hds : d.size = xss.length := Array.size_ofFn
    have hdu : d.toList.map encE = us := by
      apply List.ext_getElem
      · simp [hds, hus]
      · intro i h1 h2
        have e : d[i]'(by simpa using h1) = _ := Array.getElem_ofFn _
        simp only [List.getElem_map, Array.getElem_toList]
        rw [e]; rfl
    have hdx : d.toList.map (fun x => x.1.2) = xss := by
      apply List.ext_getElem
      · simp [hds]
      · intro i h1 h2
        have e : d[i]'(by simpa using h1) = _ := Array.getElem_ofFn _
        simp only [List.getElem_map, Array.getElem_toList]
        rw [e]; rfl
    have hH : Holds encE w g 0 d := fun j hj => by
      rw [hds] at hj
      refine ⟨?_, by rw [Nat.zero_add]; exact hrow.frozenAt j⟩
      rw [Nat.zero_add, hrow.cellAt j (by omega), getElem!_pos d j (by omega)]
      have := congrArg (fun l : List Value => l[j]?) hdu
      simp only [List.getElem?_map, Array.getElem?_toList] at this
      rw [← this, Array.getElem?_eq_getElem (by omega)]
      rfl
    have hcmp : CmpLays1 Try.prog 56 #[] (encE (h := w.heap)) cfE g 0 d.size w := fun m os dk _ x y => by
      have hk : KeepI w (sortWorld encE w g 0 m dk os) := keep_sorted hg (by decide)
      refine (compare_c (encE x) (encE y) x.1.2 y.1.2 _ (IntS.keep x.2 hk) (IntS.keep y.2 hk)).mono fun e w' ⟨he, hw⟩ => ⟨he, 0, #[], ?_⟩
      rw [← hw, grow_empty]; rfl
    have hcon := Any.slices_SortFunc sortLay (encE (h := w.heap)) encE_one cfE (swo_cfE _) 56 #[] g 0 cap d w enters_compare hcmp hH (Array.getElem?_eq_some_iff.1 hg).1 (by omega)
    rw [hds] at hcon
    refine Calls.mono hcon fun e w' ⟨he, d', n, os, hp, hs, hw⟩ => ⟨he, d'.toList.map encE, d'.toList.map (fun x => x.1.2), ?_⟩
    obtain ⟨hp1, hp2, hp3⟩ := hp
    have hd's : d'.size = xss.length := by rw [hp1, hds]
    have hperm : d'.toList.Perm d.toList := by
      rw [show d'.extract 0 xss.length = d' by rw [← hd's]; simp, show d.extract 0 xss.length = d by rw [← hds]; simp] at hp3
      exact hp3
    refine ⟨⟨⟨by simp [hd's], .inr ⟨g, cap, putCells encE 0 d' cur, by simp [hd's], hgB, by rw [hw]; exact heap_sorted hg, by simpa [hd's] using h2, h3, by simpa [putCells] using h4, ?_⟩⟩, fun i u xs hu hx => ?_⟩, ?_, ?_, ?_, ?_⟩
    · rw [Nat.mul_one, List.length_map, Array.length_toList, hd's, ← hd's]
      exact putCells_take (by omega)
    · simp only [List.getElem?_map, Option.map_eq_some_iff] at hu hx
      obtain ⟨z, hz, rfl⟩ := hu
      obtain ⟨z', hz', rfl⟩ := hx
      rw [hz] at hz'
      obtain rfl := Option.some.inj hz'
      exact z.2
    · have e : (us.zip xss) = d.toList.map fun x => (encE x, x.1.2) := by rw [← List.zip_map', hdu, hdx]
      rw [e, List.zip_map']; exact hperm.map _
    · rw [List.pairwise_iff_getElem]
      intro i j hi hj hij
      simp only [List.length_map, Array.length_toList] at hi hj
      have := hs i j (Nat.zero_le _) hij (by omega)
      rw [ltOf_cfE, getElem!_pos d' j hj, getElem!_pos d' i hi] at this
      simpa using this
    · rw [hw]
      exact ⟨rfl, rfl, rfl, size_sorted, fun k hk => heap_sorted_far (by omega) (by omega)⟩
    · intro b hb hne
      rw [hw]; exact heap_sorted_far hb (fun e => hne (by rw [e]; rfl))
end
section
open Go.RowKit Go.Sort

theorem eqSquares_same (v1 v2 : Value) (xss : List (List Int)) (w : World) (h1 : IntSS w.heap v1 xss) (h2 : IntSS w.heap v2 xss) :
    Calls Try.prog 8 #[.agg #[v1], .agg #[v2]] w fun e w' => e = .returned (.bool true) ∧ Below w.heap.size w w' := by
  have hb : Below w.heap.size w ((w.alloc (.cells #[v1] 26)).alloc (.cells #[v2] 26)) := ((Below.refl _ _).alloc (Nat.le_refl _) _).alloc (by simp) _
  have C := Lib.hid (eqInt64SS_same v1 v2 xss _ (h1.same hb.block) (h2.same hb.block))
  obtain ⟨a1, c1, rfl, m1⟩ := h1.len
  obtain ⟨a2, c2, rfl, m2⟩ := h2.len
  have HB := Lib.hid hb; clear hb h1 h2
  go_enter Try.func8, Try.ntmps8
  go_wp2_with (go_at_call 20; refine C.out.mono ?_; rintro e w1 ⟨rfl, n, rfl⟩)
  go_ret
  exact ⟨rfl, below_drewN n HB.out⟩
theorem markSquares_c (v : Value) (us : List Value) (xss : List (List Int)) (k : Int) (B : Nat) (w : World) (h : OwnU w B v us xss) (hB : B ≤ w.heap.size) (hk : 0 ≤ k) (hx : k + cnt xss ≤ 4611686018427387904) :
    Calls Try.prog 11 #[.agg #[v], .int .i64 k] w fun e w' => e = .returned (.int .i64 (k + cnt xss)) ∧ OwnU w' B v us (marksS k xss) ∧ Below B w w' ∧ (∀ b, b < w.heap.size → (∀ u, u ∈ us → u.ownBlock ≠ some b) → w'.heap[b]? = w.heap[b]?) := by
  have hb : Below B w (w.alloc (.cells #[v] 26)) := (Below.refl _ _).alloc hB _
  have C := Lib.hid (markInt64SS_c v us xss k B _ (h.same (alloc_old w (.cells #[v] 26))) (by simp; omega) hk hx)
  obtain ⟨a1, c1, rfl, m1⟩ := h.ints.len
  have HB := Lib.hid hb; clear hb h
  go_enter Try.func11, Try.ntmps11
  go_wp2_with (go_at_call 21; refine C.out.mono ?_; rintro e w1 ⟨rfl, h1, z1, b1, k1⟩; have K1 := Lib.hid k1; clear k1)
  go_ret
  exact ⟨rfl, h1, HB.out.trans b1, fun b hb hne => (K1.out b (by simp; omega) hne).trans (alloc_old _ _ _ hb)⟩
end
section
open Go.RowKit Go.Sort

theorem heldSquares_c (v : Value) (xss : List (List Int)) (k : Int) (w : World) (h : IntSS w.heap v (marksS k xss)) (hk : 0 ≤ k) (hx : k + cnt xss ≤ 4611686018427387904) :
    Calls Try.prog 12 #[.agg #[v], .int .i64 k] w fun e w' => e = .returned (.int .i64 (k + cnt xss)) ∧ Below w.heap.size w w' := by
  have hb : Below w.heap.size w (w.alloc (.cells #[v] 26)) := (Below.refl _ _).alloc (Nat.le_refl _) _
  have C := Lib.hid (heldInt64SS_c v xss k _ (h.same hb.block) hk hx)
  obtain ⟨a1, c1, rfl, m1⟩ := h.len
  have HB := Lib.hid hb; clear hb h
  have t1 : decide (k + (cnt xss : Int) < 0) = false := by simp; omega
  go_enter Try.func12, Try.ntmps12
  go_wp2_with (go_at_call 22; refine C.out.mono ?_; rintro e w1 ⟨rfl, rfl⟩)
  go_ret
  exact ⟨rfl, HB.out⟩
end
end Go.Proofs.Ytpjffjcnfdndoaa

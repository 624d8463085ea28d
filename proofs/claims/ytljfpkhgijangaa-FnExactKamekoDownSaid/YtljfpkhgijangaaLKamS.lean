/- Kameko's map down of the reference. -/
import Derived.Test.YtljfpkhgijangaaLKamI
import Derived.Test.YtljfpkhgijangaaLPolS
import Derived.Test.YtljfpkhgijangaaLMulD
namespace Go.Proofs.Ytljfpkhgijangaa
open Go.RowKit Go.Sort

theorem all_take (r : List Int) (m : Nat) (hm : m < r.length) : (r.take (m + 1)).all oddB = ((r.take m).all oddB && oddB r[m]) := by
  rw [List.take_succ_eq_append_getElem hm, List.all_append]; simp
set_option maxRecDepth 100000 in
set_option maxHeartbeats 1000000 in
theorem specKamekoDown_c (n : Int) (v : Value) (xss : List (List Int)) (w : World) (h : IntSS w.heap v xss) :
    Calls Try.prog 66 #[.agg #[.int .i64 n, v]] w fun e w' => ∃ v', e = .returned (.tuple #[.agg #[.int .i64 (kamK n xss), v'], .int .i64 (kamC n xss)]) ∧ IntSS w'.heap v' (kamT n xss) ∧ Below w.heap.size w w' := by
  have V1 := Var2.new w (.int .i64 n) v 82
  have V2 := Var2.new (w.alloc (.cells #[.int .i64 n, v] 82)) (.int .i64 0) (.slice none 0 0) 82
  rw [size_alloc_w] at V2
  have hb : Below w.heap.size w ((w.alloc (.cells #[.int .i64 n, v] 82)).alloc (.cells #[.int .i64 0, .slice none 0 0] 82)) := ((Below.refl _ _).alloc (Nat.le_refl _) _).alloc (by simp) _
  have V1' := V1.kept (alloc_old _ (.cells #[.int .i64 0, .slice none 0 0] 82))
  have hsz : ((w.alloc (.cells #[.int .i64 n, v] 82)).alloc (.cells #[.int .i64 0, .slice none 0 0] 82)).heap.size = w.heap.size + 2 := by simp
  have I := Lib.hid (l08Is_c n v xss _ (h.same hb.block))
  obtain ⟨ao, ac, hdv, hm⟩ := h.len
  subst hdv
  have H0 := Lib.hid h; clear h V1
  obtain ⟨w0, hw0⟩ : ∃ w0, w0 = (w.alloc (.cells #[.int .i64 n, .slice ao xss.length ac] 82)).alloc (.cells #[.int .i64 0, .slice none 0 0] 82) := ⟨_, rfl⟩
  rw [← hw0] at V1' V2 hb hsz I
  have HW := Lib.hid hw0; clear hw0
  have HB0 := Lib.hid hb; have HV1 := Lib.hid V1'; have HV2 := Lib.hid V2; have HSZ := Lib.hid hsz
  clear hb V1' V2 hsz
  have k1 := HV1.out.c0; have k2 := HV1.out.c1
  cases hT : polT n xss
  · have e1 : kamC n xss = 1 := by simp [kamC, hT]
    have e2 : kamK n xss = 0 := by simp [kamK, hT]
    have e3 : kamT n xss = [] := by simp [kamT, hT]
    rw [e1, e2, e3]; clear e1 e2 e3
    rw [hT] at I
    clear hT
    go_enter Try.func66, Try.ntmps66
    go_wp2_with fail
    rw [← HW.out]
    refine I.out.mono ?_
    rintro e w1 ⟨rfl, hb1⟩
    have W2 := HV2.out.kept hb1.block
    have c0 := W2.c0; have c1 := W2.c1; have f0 := W2.free 0; have f1 := W2.free 1
    have HB1 := Lib.hid (HB0.out.trans (hb1.mono HB0.out.size)); have HW2 := Lib.hid W2
    clear hb1 W2 HW
    go_wp2_with fail
    have g0 := (HW2.out.set0 (.int .i64 0)).c0
    have g1 := ((HW2.out.set0 (.int .i64 0)).set1 (.slice none 0 0)).c1
    exact bodyPost_ret (v := .tuple #[.agg #[.int .i64 0, .slice none 0 0], .int .i64 1]) (by simp [results, Try.results66, go_sem, g0, g1]) rfl
      ⟨_, rfl, IntSS.nil _, (HB1.out.setCell (by show w.heap.size ≤ w.heap.size + 1; omega) _).setCell (by show w.heap.size ≤ w.heap.size + 1; omega) _⟩
  · have e1 : kamC n xss = 0 := by simp [kamC, hT]
    have e2 : kamK n xss = n := by simp [kamK, hT]
    have e3 : kamT n xss = kamL xss := by simp [kamT, hT]
    rw [e1, e2, e3]; clear e1 e2 e3
    have HT := Lib.hid hT
    have hl2 := polT_len hT
    rw [hT] at I
    clear hT
    go_enter Try.func66, Try.ntmps66
    go_wp2_with fail
    rw [← HW.out]
    refine I.out.mono ?_
    rintro e w1 ⟨rfl, hb1⟩
    have HB1 := Lib.hid (HB0.out.trans (hb1.mono HB0.out.size)); have HW2 := Lib.hid (HV2.out.kept hb1.block); have HW1 := Lib.hid (HV1.out.kept hb1.block)
    clear hb1 HW k1 k2
    go_wp2_with fail
    have hs2 := HB1.out.size
    have hlt3 := HW2.out.lt
    go_loopw [4, 5] (fun o i wr => ∃ (j : Nat), j ≤ xss.length ∧ i = .int .i64 j ∧ OwnII wr w1.heap.size o (kamL (xss.take j)) ∧ Below w1.heap.size w1 wr) (fun _ i _ => xss.length - (intOf i).toNat)
    case atStart => exact ⟨0, Nat.zero_le _, rfl, ownII_empty (Nat.le_refl _), (Below.refl _ _).alloc (Nat.le_refl _) _⟩
    case round =>
      obtain ⟨j, hj, rfl, ⟨us, hO⟩, hbl⟩ := hrel
      obtain ⟨pd, nd, cd, rfl⟩ := own_shape hO.row
      have HO := Lib.hid hO; have HBL := Lib.hid hbl; have hsz := hbl.size
      have HV := Lib.hid (HW1.out.kept hbl.block)
      have k1 := HV.out.c0; have k2 := HV.out.c1
      clear hO hbl
      by_cases hlt : j < xss.length
      · obtain ⟨b1, o1, q1, u1, hv1, hcc, hu1, -⟩ := H0.out.at j hlt
        simp only [Value.slice.injEq, true_and] at hv1
        obtain ⟨rfl, rfl⟩ := hv1
        have hc2 := (HB1.out.cell (World.block_lt_of_cell? _ _ hcc)).trans hcc
        have hc := (HBL.out.cell (World.block_lt_of_cell? _ _ hc2)).trans hc2
        have hu2 := (hu1.same HB1.out.block).same HBL.out.block
        clear hcc hc2 hu1
        have hRW := kamT_rows HT.out j hlt
        have HRW := Lib.hid hRW
        have HTK := Lib.hid (kam_take xss j hlt)
        have HMG := Lib.hid (fun ho => kam_mrg (polT_asc HT.out) (fun r hr x hx => ((polT_rows HT.out r hr).2 x hx).1) j hlt ho)
        have hln := kam_len (xss.take j)
        rw [List.length_take] at hln
        have HLR := Lib.hid (fun r (hr : r ∈ kamL (xss.take j)) => kam_row (n := 4) (fun r hr => (polT_rows HT.out r (List.mem_of_mem_take hr)).1) r hr)
        obtain ⟨ra, rc, rfl, -⟩ := hu2.len
        have HU2 := Lib.hid hu2
        clear hu2
        generalize xss[j] = r at *
        have hr4 := hRW.1
        clear hRW
        go_wp2_with fail
        rename World => w2
        go_loopw [6, 7, 8] (fun y o i wr => ∃ (m : Nat), m ≤ r.length ∧ i = .int .i64 m ∧ o = .bool ((r.take m).all oddB) ∧ OwnI wr w2.heap.size y (halfR (r.take m)) ∧ Below w2.heap.size w2 wr) (fun _ _ i _ => r.length - (intOf i).toNat)
        case atStart => exact ⟨0, Nat.zero_le _, rfl, rfl, ownI_empty (Nat.le_refl _), (Below.refl _ _).alloc (Nat.le_refl _) _⟩
        case round =>
          obtain ⟨m, hm2, rfl, rfl, hy, hb3⟩ := hrel
          obtain ⟨ya, yn, yc, rfl⟩ := own_shape hy
          have HY := Lib.hid hy; have HB3 := Lib.hid hb3
          have hsz3 := hb3.size
          have q1 := (hb3.cell (World.block_lt_of_cell? _ _ k1)).trans k1
          have q2 := (hb3.cell (World.block_lt_of_cell? _ _ k2)).trans k2
          have qc := (hb3.cell (World.block_lt_of_cell? _ _ hc)).trans hc
          clear hy hb3
          by_cases hml : m < r.length
          · obtain ⟨b4, o4, q4, hv4, hc4, -⟩ := HU2.out.at m hml
            simp only [Value.slice.injEq, true_and] at hv4
            obtain ⟨rfl, rfl⟩ := hv4
            have hcx := (HB3.out.cell (World.block_lt_of_cell? _ _ hc4)).trans hc4
            clear hc4
            have hx := HRW.out.2 _ (List.getElem_mem hml)
            have HHT := Lib.hid (half_take r m hml); rw [show r[m].tdiv 2 = r[m] / 2 from Int.tdiv_eq_ediv_of_nonneg hx.1] at HHT
            have HAT := Lib.hid (all_take r m hml)
            have HHL := Lib.hid (show (halfR (r.take m)).length ≤ 4398046511104 by have := half_len r m; omega)
            generalize r[m] = x at *
            generalize (r.take m).all oddB = ob at *
            cases ob
            · go_wp2_with (at_builtin; refine append_int (w := wr) rfl _ _ rfl _ _ _ _ HY.out rfl HB3.out hsz3 _ rfl (by simp) HHL.out ?_; intro v' w' hown' hbl' _ _; obtain ⟨pv, nv, cv, rfl⟩ := own_shape hown')
              go_roundw
              case rel => exact ⟨m + 1, by omega, by go_num, by rw [HAT.out]; rfl, by rw [HHT.out]; exact hown', hbl'⟩
              case measure => simp [intOf]; omega
            · go_wp2_with (at_builtin; refine append_int (w := wr) rfl _ _ rfl _ _ _ _ HY.out rfl HB3.out hsz3 _ rfl (by simp) HHL.out ?_; intro v' w' hown' hbl' _ _; obtain ⟨pv, nv, cv, rfl⟩ := own_shape hown')
              go_roundw
              case rel => exact ⟨m + 1, by omega, by go_num, by rw [HAT.out, Bool.true_and]; unfold oddB; rw [Int.tmod_eq_emod_of_nonneg hx.1], by rw [HHT.out]; exact hown', hbl'⟩
              case measure => simp [intOf]; omega
          · obtain rfl : m = r.length := by omega
            rw [half_full] at HY
            have HO3 := Lib.hid (HO.out.ints.same HB3.out.block)
            have HB4 := Lib.hid (HBL.out.trans (HB3.out.mono hsz))
            have hs4 := HB4.out.size
            rw [List.take_length]
            cases hq : r.all oddB
            · rw [hq] at HTK
              clear hq HMG
              go_wp2_with fail
              go_roundw
              case rel => exact ⟨j + 1, by omega, by go_num, ⟨us, by rw [HTK.out]; exact HO.out.same HB3.out.block⟩, HB4.out⟩
              case measure => simp [intOf]; omega
            · have HM := Lib.hid (HMG.out hq)
              clear hq HMG HTK
              go_wp2_with (go_at_call 96; refine Calls.mono (l01Sum_c _ _ (kamL (xss.take j)) [halfR r] _ (HO3.out.same (alloc_old _ _)) (one_row HY.out.ints) (by simp only [List.length_singleton]; omega) (fun s hs => by have := HLR.out s hs; omega) (fun s hs => by rw [List.mem_singleton.1 hs]; unfold halfR; rw [List.length_map]; omega)) ?_; rintro e w5 ⟨rv, rfl, hR5, hb5⟩; rw [HM.out] at hR5; have hb5' := below_alloc_mono hb5)
              go_roundw
              case rel => exact ⟨j + 1, by omega, by go_num, OwnII.base hR5 (by simp; omega), HB4.out.trans (hb5'.mono hs4)⟩
              case measure => simp [intOf]; omega
      · obtain rfl : j = xss.length := by omega
        have HR := Lib.hid (HW2.out.kept HBL.out.block)
        have e0 := HR.out.c0; have e1 := HR.out.c1; have f0 := HR.out.free 0; have f1 := HR.out.free 1
        rw [List.take_length] at HO
        go_wp2_with fail
        have W4 := HR.out.set0 (.int .i64 n)
        have g0 := W4.c0
        have g1 := (W4.set1 (.slice pd nd cd)).c1
        exact bodyPost_ret (v := .tuple #[.agg #[.int .i64 n, .slice pd nd cd], .int .i64 0]) (by simp [results, Try.results66, go_sem, g0, g1]) rfl
          ⟨_, rfl, ((HO.out.setVar HR.out (by decide) (by decide) _).setVar W4 (by decide) (by decide) _).ints, ((HB1.out.trans (HBL.out.mono hs2)).setCell (by show w.heap.size ≤ w.heap.size + 1; omega) _).setCell (by show w.heap.size ≤ w.heap.size + 1; omega) _⟩
end Go.Proofs.Ytljfpkhgijangaa

/- Kameko's map down of the program. -/
import Derived.Test.YtljfpkhgijangaaLKam
import Derived.Test.YtljfpkhgijangaaBase4
import Derived.Test.YtljfpkhgijangaaLib4
import Derived.Test.YtljfpkhgijangaaLTrim
namespace Go.Proofs.Ytljfpkhgijangaa
open Go.RowKit Go.Sort

theorem ownU_nil (w : World) (B : Nat) : OwnU w B (.slice none 0 0) [] [] := ⟨World.ownsRow_nil _ _ _ _, fun i u xs hu => by simp at hu, fun i j u u' _ hu => by simp at hu⟩
theorem ownU_base {w : World} {B B' : Nat} {v : Value} {us : List Value} {xss : List (List Int)} (h : OwnU w B v us xss) (k : B' ≤ B) : OwnU w B' v us xss := ⟨own_base h.row k, fun i u xs hu hx => own_base (h.each i u xs hu hx) k, h.apart⟩
theorem kam1_c (x : Int) (w : World) : Calls Try.prog 141 #[.int .i64 x] w fun e w' => e = .returned (.bool (oddB x)) ∧ w = w' := by
  go_enter Try.func141, Try.ntmps141
  go_wp2_with fail
  go_ret
  exact ⟨rfl, rfl⟩
theorem enters_kam1 : Enters Try.prog 141 := fun args w => by kernel_rfl
theorem kamT_rows {k : Int} {xss : List (List Int)} (hT : polT k xss = true) (j : Nat) (hj : j < xss.length) : xss[j].length ≤ 4 ∧ ∀ x ∈ xss[j], 0 ≤ x ∧ x ≤ 40 := polT_rows hT _ (List.getElem_mem hj)
theorem half_take (r : List Int) (m : Nat) (hm : m < r.length) : halfR (r.take (m + 1)) = halfR (r.take m) ++ [r[m].tdiv 2] := by
  unfold halfR; rw [List.take_succ_eq_append_getElem hm, List.map_append]; rfl
theorem half_len (r : List Int) (m : Nat) : (halfR (r.take m)).length ≤ r.length := by unfold halfR; rw [List.length_map, List.length_take]; omega
theorem half_full (r : List Int) : halfR (r.take r.length) = halfR r := by rw [List.take_length]
set_option maxRecDepth 100000 in
set_option maxHeartbeats 1000000 in
theorem implKamekoDown_c (n : Int) (v : Value) (xss : List (List Int)) (w : World) (h : IntSS w.heap v xss) :
    Calls Try.prog 68 #[.agg #[.int .i64 n, v]] w fun e w' => ∃ v' us, e = .returned (.tuple #[.agg #[.int .i64 (kamK n xss), v'], .int .i64 (kamC n xss)]) ∧ OwnU w' w.heap.size v' us (kamT n xss) ∧ Below w.heap.size w w' := by
  have V1 := Var2.new w (.int .i64 n) v 82
  have V2 := Var2.new (w.alloc (.cells #[.int .i64 n, v] 82)) (.int .i64 0) (.slice none 0 0) 82
  rw [size_alloc_w] at V2
  have hb : Below w.heap.size w ((w.alloc (.cells #[.int .i64 n, v] 82)).alloc (.cells #[.int .i64 0, .slice none 0 0] 82)) := ((Below.refl _ _).alloc (Nat.le_refl _) _).alloc (by simp) _
  have V1' := V1.kept (alloc_old _ (.cells #[.int .i64 0, .slice none 0 0] 82))
  have hsz : ((w.alloc (.cells #[.int .i64 n, v] 82)).alloc (.cells #[.int .i64 0, .slice none 0 0] 82)).heap.size = w.heap.size + 2 := by simp
  have I := Lib.hid (isPoly_c n v xss _ (h.same hb.block))
  obtain ⟨ao, ac, hdv, hm⟩ := h.len
  subst hdv
  have H0 := Lib.hid h; clear h V1
  obtain ⟨w0, hw0⟩ : ∃ w0, w0 = (w.alloc (.cells #[.int .i64 n, .slice ao xss.length ac] 82)).alloc (.cells #[.int .i64 0, .slice none 0 0] 82) := ⟨_, rfl⟩
  rw [← hw0] at V1' V2 hb hsz I
  have HW := Lib.hid hw0; clear hw0
  have HB0 := Lib.hid hb; have HV1 := Lib.hid V1'; have HV2 := Lib.hid V2; have HSZ := Lib.hid hsz
  clear hb V1' V2 hsz
  have k1 := HV1.out.c0; have k2 := HV1.out.c1
  cases hT : polT n xss
  · have e1 : kamC n xss = 1 := by simp [kamC, hT]
    have e2 : kamK n xss = 0 := by simp [kamK, hT]
    have e3 : kamT n xss = [] := by simp [kamT, hT]
    rw [e1, e2, e3]; clear e1 e2 e3
    rw [hT] at I
    clear hT
    go_enter Try.func68, Try.ntmps68
    go_wp2_with fail
    rw [← HW.out]
    refine I.out.mono ?_
    rintro e w1 ⟨rfl, hb1⟩
    have W2 := HV2.out.kept hb1.block
    have c0 := W2.c0; have c1 := W2.c1; have f0 := W2.free 0; have f1 := W2.free 1
    have HB1 := Lib.hid (HB0.out.trans (hb1.mono HB0.out.size)); have HW2 := Lib.hid W2
    clear hb1 W2 HW
    go_wp2_with fail
    have g0 := (HW2.out.set0 (.int .i64 0)).c0
    have g1 := ((HW2.out.set0 (.int .i64 0)).set1 (.slice none 0 0)).c1
    exact bodyPost_ret (v := .tuple #[.agg #[.int .i64 0, .slice none 0 0], .int .i64 1]) (by simp [results, Try.results68, go_sem, g0, g1]) rfl
      ⟨_, [], rfl, ownU_nil _ _, (HB1.out.setCell (by show w.heap.size ≤ w.heap.size + 1; omega) _).setCell (by show w.heap.size ≤ w.heap.size + 1; omega) _⟩
  · have e1 : kamC n xss = 0 := by simp [kamC, hT]
    have e2 : kamK n xss = n := by simp [kamK, hT]
    have e3 : kamT n xss = kamL xss := by simp [kamT, hT]
    rw [e1, e2, e3]; clear e1 e2 e3
    have HT := Lib.hid hT
    have hl2 := polT_len hT
    rw [hT] at I
    clear hT
    go_enter Try.func68, Try.ntmps68
    go_wp2_with fail
    rw [← HW.out]
    refine I.out.mono ?_
    rintro e w1 ⟨rfl, hb1⟩
    have HB1 := Lib.hid (HB0.out.trans (hb1.mono HB0.out.size)); have HW2 := Lib.hid (HV2.out.kept hb1.block); have HW1 := Lib.hid (HV1.out.kept hb1.block)
    have c0 := HW1.out.c0; have c1 := HW1.out.c1
    have d1 := (HW1.out.kept (alloc_old w1 (.cells #[.int .i64 n, .slice none 0 0] 82))).c1
    clear hb1 HW k1 k2
    go_wp2_with fail
    have hs2 := HB1.out.size
    have hlt3 := HW2.out.lt
    clear c0 c1 d1
    go_loopw [20] (fun i wr => ∃ (j : Nat) (av : Value) (us : List Value), j ≤ xss.length ∧ i = .int .i64 j ∧ OwnU wr w1.heap.size av us (kamL (xss.take j)) ∧ Var2 wr w1.heap.size (.int .i64 n) av 82 ∧ Below w1.heap.size w1 wr) (fun i _ => xss.length - (intOf i).toNat)
    case atStart => exact ⟨0, .slice none 0 0, [], Nat.zero_le _, rfl, ownU_nil _ _, Var2.new w1 _ _ _, (Below.refl _ _).alloc (Nat.le_refl _) _⟩
    case round =>
      obtain ⟨j, av, us, hj, rfl, hO, hV, hbl⟩ := hrel
      obtain ⟨pd, nd, cd, rfl⟩ := own_shape hO.row
      have HO := Lib.hid hO; have HV := Lib.hid hV; have HBL := Lib.hid hbl; have hsz := hbl.size
      clear hO hV hbl
      by_cases hlt : j < xss.length
      · obtain ⟨b1, o1, q1, u1, hv1, hcc, hu1, -⟩ := H0.out.at j hlt
        simp only [Value.slice.injEq, true_and] at hv1
        obtain ⟨rfl, rfl⟩ := hv1
        have hc2 := (HB1.out.cell (World.block_lt_of_cell? _ _ hcc)).trans hcc
        have hc := (HBL.out.cell (World.block_lt_of_cell? _ _ hc2)).trans hc2
        have hu2 := (hu1.same HB1.out.block).same HBL.out.block
        clear hcc hc2 hu1
        have HRW := Lib.hid (kamT_rows HT.out j hlt)
        have HTK := Lib.hid (kam_take xss j hlt)
        have hln := kam_len (xss.take j)
        rw [List.length_take] at hln
        have C := all_c u1 xss[j] 141 #[] oddB wr hu2 enters_kam1 (fun w1 _ x _ => (kam1_c x w1).mono fun _ _ ⟨he, hw⟩ => ⟨he, 0, by rw [← hw]; rfl⟩)
        obtain ⟨ra, rc, rfl, -⟩ := hu2.len
        have HU := Lib.hid hu2
        clear hu2
        generalize xss[j] = r at *
        cases hq : r.all oddB
        · rw [hq] at C HTK
          have HC := Lib.hid C
          clear C hq
          go_wp2_with (go_at_call 79; refine HC.out.mono ?_; rintro e w2 ⟨rfl, hb2⟩)
          go_roundw
          case rel => exact ⟨j + 1, _, us, by omega, by go_num, by rw [HTK.out]; exact HO.out.same hb2.block, HV.out.kept hb2.block, HBL.out.trans (hb2.mono hsz)⟩
          case measure => simp [intOf]; omega
        · rw [hq] at C HTK
          have HC := Lib.hid C
          clear C hq
          go_wp2_with (go_at_call 79; refine HC.out.mono ?_; rintro e w2 ⟨rfl, hb2⟩)
          have HO2 := Lib.hid (HO.out.same hb2.block); have HV2' := Lib.hid (HV.out.kept hb2.block); have HBL2 := Lib.hid (HBL.out.trans (hb2.mono hsz)); have HU2 := Lib.hid (HU.out.same hb2.block)
          have hsz2 := HBL2.out.size
          clear hb2 HO HV HBL HU hc HC
          have hr4 := HRW.out.1
          go_loopw [7, 30] (fun y i wr => ∃ (m : Nat), m ≤ r.length ∧ i = .int .i64 m ∧ OwnI wr w2.heap.size y (halfR (r.take m)) ∧ Below w2.heap.size w2 wr) (fun _ i _ => r.length - (intOf i).toNat)
          case atStart => exact ⟨0, Nat.zero_le _, rfl, ownI_empty (Nat.le_refl _), (Below.refl _ _).alloc (Nat.le_refl _) _⟩
          case round =>
            obtain ⟨m, hm2, rfl, hy, hb3⟩ := hrel
            obtain ⟨ya, yn, yc, rfl⟩ := own_shape hy
            have HY := Lib.hid hy; have HB3 := Lib.hid hb3
            have hsz3 := hb3.size
            clear hy hb3
            by_cases hml : m < r.length
            · obtain ⟨b4, o4, q4, hv4, hc4, -⟩ := HU2.out.at m hml
              simp only [Value.slice.injEq, true_and] at hv4
              obtain ⟨rfl, rfl⟩ := hv4
              have hc := (HB3.out.cell (World.block_lt_of_cell? _ _ hc4)).trans hc4
              clear hc4
              have hx := HRW.out.2 _ (List.getElem_mem hml)
              have HHT := Lib.hid (half_take r m hml); rw [show r[m].tdiv 2 = r[m] / 2 from Int.tdiv_eq_ediv_of_nonneg hx.1] at HHT
              have HHL := Lib.hid (show (halfR (r.take m)).length ≤ 4398046511104 by have := half_len r m; have := HRW.out.1; omega)
              generalize r[m] = x at *
              go_wp2_with (at_builtin; refine append_int (w := wr) rfl _ _ rfl _ _ _ _ HY.out rfl HB3.out hsz3 _ rfl (by simp) HHL.out ?_; intro v' w' hown' hbl' _ _; obtain ⟨pv, nv, cv, rfl⟩ := own_shape hown')
              go_roundw
              case rel => exact ⟨m + 1, by omega, by go_num, by rw [HHT.out]; exact hown', hbl'⟩
              case measure => simp [intOf]; omega
            · obtain rfl : m = r.length := by omega
              have HV3 := Lib.hid (HV2'.out.kept HB3.out.block)
              have c0 := HV3.out.c0; have c1 := HV3.out.c1
              have HNA := Lib.hid (own_ne_var (HO2.out.same HB3.out.block).row HV3.out (by decide))
              have HLN := Lib.hid (show (kamL (xss.take j)).length ≤ 4398046511104 by omega)
              rw [half_full] at HY
              go_wp2_with (at_builtin; refine append_rowU (w := wr) (wE := w2) rfl _ _ rfl w1.heap.size _ _ us _ _ HO2.out rfl HY.out HB3.out HBL2.out hsz2 _ rfl rfl HLN.out ?_; intro v' w' hU' hb' _ _ hk' _; obtain ⟨pv, nv, cv, rfl⟩ := own_shape hU'.row; have V' := HV3.out.same ((hk' _ HV3.out.lt (fun e => HNA.out e.symm))); have e1 := V'.c1; have fr := V'.free 1; have HU' := Lib.hid hU'; have HV' := Lib.hid V'; have HB' := Lib.hid hb'; clear hU' V' hb' hk')
              go_roundw
              case rel => exact ⟨j + 1, .slice pv nv cv, _, by omega, by go_num, by rw [HTK.out]; exact HU'.out.setVar HV'.out (by decide) (by decide) _, HV'.out.set1 _, HB'.out.setCell (Nat.le_refl _) _⟩
              case measure => simp [intOf]; omega
      · obtain rfl : j = xss.length := by omega
        have c0 := HV.out.c0; have c1 := HV.out.c1
        have HR := Lib.hid (HW2.out.kept HBL.out.block)
        have e0 := HR.out.c0; have e1 := HR.out.c1; have f0 := HR.out.free 0; have f1 := HR.out.free 1
        rw [List.take_length] at HO
        go_wp2_with fail
        have W4 := HR.out.set0 (.int .i64 n)
        have g0 := W4.c0
        have g1 := (W4.set1 (.slice pd nd cd)).c1
        exact bodyPost_ret (v := .tuple #[.agg #[.int .i64 n, .slice pd nd cd], .int .i64 0]) (by simp [results, Try.results68, go_sem, g0, g1]) rfl
          ⟨_, us, rfl, ownU_base ((HO.out.setVar HR.out (by decide) (by decide) _).setVar W4 (by decide) (by decide) _) hs2, ((HB1.out.trans (HBL.out.mono hs2)).setCell (by show w.heap.size ≤ w.heap.size + 1; omega) _).setCell (by show w.heap.size ≤ w.heap.size + 1; omega) _⟩
end Go.Proofs.Ytljfpkhgijangaa

/- What is proved: for every input the law FnMilnorSums returns true and its argument reads behind the call as before. No condition. -/
import Derived.Test.YtmnkccjddahcjaaGreatRows
import Derived.Deep.DeepCutAuto
import Derived.OpenShut
import Derived.ShutString
import Derived.ChangeOld
import Derived.Test.YtmnkccjddahcjaaGreatBMilnorSums
import Derived.Test.YtmnkccjddahcjaaGreatB2MilnorSums
namespace Go.Proofs.YtmnkccjddahcjaaGreat
open Go.ChangeShapes Go.WideShapes Go.ChangeAt Go.RowKit Go.Sort
open Go.ChangeMaps (open_string shut_string)

theorem one_lit (W : World) : IntSS ((W.alloc (.cells #[.int .i64 1] 2)).alloc (.cells #[.slice (some ⟨W.heap.size, 0, none⟩) 1 1] 56)).heap (.slice (some ⟨W.heap.size + 1, 0, none⟩) 1 1) [[1]] := by
  have h := intSS_lit (lit_ints W [1] (by simp))
  rw [size_alloc_w] at h
  exact h
set_option maxRecDepth 100000 in
set_option maxHeartbeats 4000000 in
theorem fnMilnorSums_walk (w : World) (a : Option Addr) (l c : Nat) (zs : List Int) (h : IsRow .u8 w a l c zs) :
    Calls Tryz.prog 6 #[.slice a l c] w fun e w' => e = .returned (.bool true) ∧ Below w.heap.size w w' := by
  have HY := Lib.hid (byteS_of h)
  have BG := Lib.hid (big_c _ _ _ HY.out)
  clear h
  by_cases hl : 4096 < l
  · rw [show decide (4096 < l) = true from decide_eq_true hl] at BG
    go_enter Tryz.func6, Tryz.ntmps6
    go_wp2_with (go_at_call 20; refine BG.out.mono ?_; rintro e w' ⟨rfl, rfl⟩)
    go_ret
    exact ⟨rfl, Below.refl _ _⟩
  rw [show decide (4096 < l) = false from decide_eq_false hl] at BG
  have D1 := Lib.hid (drawAddMilnor_c _ l w HY.out (by omega))
  have D2 := Lib.hid (fun (W : World) (hb : Below w.heap.size w W) => drawMilnorBasis_c _ l W (HY.out.same hb.block) (by omega))
  have D3 := Lib.hid (fun (W : World) (hb : Below w.heap.size w W) => drawDegreeOfMilnor_c _ l W (HY.out.same hb.block) (by omega))
  have D4 := Lib.hid (fun (W : World) (hb : Below w.heap.size w W) => drawMilnorOfCoordinates_c _ l W (HY.out.same hb.block) (by omega))
  clear hl HY
  go_enter Tryz.func6, Tryz.ntmps6
  go_wp2_with (go_at_call 20; refine BG.out.mono ?_; rintro e w' ⟨rfl, rfl⟩)
  refine D1.out.mono ?_
  rintro e W2 ⟨r1, r2, rfl, ⟨xs, hxs⟩, ⟨ys, hys⟩, hb⟩
  obtain ⟨aa, ac, rfl, -⟩ := hxs.len
  obtain ⟨ba, bc, rfl, -⟩ := hys.len
  obtain ⟨s, cc, I1, S1, F⟩ := sums_pack xs ys
  have HS := Lib.hid (((St.new hb).add hxs).add (hys.same (alloc_old W2 (.cells #[.slice aa xs.length ac] 31))))
  simp only [size_alloc_w] at HS
  have I1 := Lib.hid I1; have S1 := Lib.hid S1; have F := Lib.hid F
  clear hxs hys hb BG D1
  generalize hcA : W2.heap.size = cA at HS
  have q3 := HS.out.tl.q; have q4 := HS.out.q
  subst hcA
  obtain ⟨W3, hW3⟩ : ∃ W3, W3 = (W2.alloc (.cells #[.slice aa xs.length ac] 31)).alloc (.cells #[.slice ba ys.length bc] 31) := ⟨_, rfl⟩
  rw [← hW3] at HS
  have HW3 := Lib.hid hW3
  clear hW3
  go_wp2_with fail
  rw [← HW3.out]
  clear HW3
  clear q3 q4
  refine (I1.out _ _ W3 HS.out.tl.r HS.out.r).mono ?_
  rintro e W2 ⟨r, us, rfl, hU, hb⟩
  obtain ⟨ra, rn, rc, rfl⟩ := own_shape hU.row
  have HS := Lib.hid ((HS.out.step hb).add hU.ints)
  clear hU hb
  have q3 := HS.out.tl.tl.q; have q4 := HS.out.tl.q
  obtain ⟨W3, hW3⟩ : ∃ W3, W3 = W2.alloc (.cells #[.slice ra rn rc] 31) := ⟨_, rfl⟩
  rw [← hW3] at HS
  have HW3 := Lib.hid hW3
  clear hW3
  go_wp2_with fail
  rw [← HW3.out]
  clear HW3
  clear q3 q4
  refine (S1.out _ _ W3 HS.out.tl.tl.r HS.out.tl.r).mono ?_
  rintro e W2 ⟨r, us, rfl, hU, hb⟩
  obtain ⟨ra, rn, rc, rfl⟩ := own_shape hU.row
  have HS := Lib.hid ((HS.out.step hb).add hU.ints)
  clear hU hb
  clear I1 S1
  have u0 : (cc != cc) = false := by simp
  have q5 := HS.out.tl.q; have q7 := HS.out.q
  obtain ⟨W3, hW3⟩ : ∃ W3, W3 = W2.alloc (.cells #[.slice ra rn rc] 31) := ⟨_, rfl⟩
  rw [← hW3] at HS
  have HW3 := Lib.hid hW3
  clear hW3
  go_wp2_with fail
  rw [← HW3.out]
  clear HW3
  clear q5 q7 u0
  refine (milnor5_same _ _ s W3 HS.out.tl.r HS.out.r).mono ?_
  rintro e W2 ⟨rfl, hb⟩
  have HS := Lib.hid (HS.out.step hb)
  clear hb
  go_upto_if 70 with fail
  go_cut [10, 12, 15, 17, 19, 21] (fun v10 v12 v15 v17 v19 v21 wx => Below w.heap.size w wx)
  case first =>
    by_cases hc : cc = 0
    · subst hc
      obtain ⟨I2, I3, x, y, z, p, q, t, M1, M2, M3, F2⟩ := F.out rfl
      have I2 := Lib.hid I2; have I3 := Lib.hid I3; have M1 := Lib.hid M1; have M2 := Lib.hid M2; have M3 := Lib.hid M3; have F2 := Lib.hid F2
      clear F D2 D3 D4
      have q3 := HS.out.tl.tl.tl.q; have q4 := HS.out.tl.tl.q
      go_wp2_with fail
      clear q3 q4
      refine (I2.out _ _ W2 HS.out.tl.tl.r HS.out.tl.tl.tl.r).mono ?_
      rintro e W2 ⟨r, us, rfl, hU, hb⟩
      obtain ⟨ra, rn, rc, rfl⟩ := own_shape hU.row
      have HS := Lib.hid ((HS.out.step hb).add hU.ints)
      clear hU hb
      have q5 := HS.out.tl.tl.q; have q4 := HS.out.tl.tl.tl.q
      obtain ⟨W3, hW3⟩ : ∃ W3, W3 = W2.alloc (.cells #[.slice ra rn rc] 31) := ⟨_, rfl⟩
      rw [← hW3] at HS
      have HW3 := Lib.hid hW3
      clear hW3
      go_wp2_with fail
      rw [← HW3.out]
      clear HW3
      clear q4 q5
      refine (I3.out _ _ W3 HS.out.tl.tl.r HS.out.tl.tl.tl.r).mono ?_
      rintro e W2 ⟨r, us, rfl, hU, hb⟩
      obtain ⟨ra, rn, rc, rfl⟩ := own_shape hU.row
      have HS := Lib.hid ((HS.out.step hb).add hU.ints)
      clear hU hb
      clear I2 I3
      obtain ⟨W3, hW3⟩ : ∃ W3, W3 = W2.alloc (.cells #[.slice ra rn rc] 31) := ⟨_, rfl⟩
      rw [← hW3] at HS
      have HW3 := Lib.hid hW3
      clear hW3
      go_upto_region 11 with fail
      rw [← HW3.out]
      clear HW3
      have HS := Lib.hid ((HS.out.step (((Below.refl W3.heap.size W3).alloc (Nat.le_refl _) (.cells #[.int .i64 1] 2)).alloc (by simp) (.cells #[.slice (some ⟨W3.heap.size, 0, none⟩) 1 1] 56))).add (one_lit W3))
      simp only [size_alloc_w] at HS
      have q3 := HS.out.tl.tl.tl.tl.tl.tl.q; have qe := HS.out.q
      obtain ⟨W4, hW4⟩ : ∃ W4, W4 = ((W3.alloc (.cells #[.int .i64 1] 2)).alloc (.cells #[.slice (some ⟨W3.heap.size, 0, none⟩) 1 1] 56)).alloc (.cells #[.slice (some ⟨W3.heap.size + 1, 0, none⟩) 1 1] 31) := ⟨_, rfl⟩
      rw [← hW4] at HS
      have HW4 := Lib.hid hW4
      clear hW4
      go_wp2_with fail
      rw [← HW4.out]
      clear HW4
      clear q3 qe
      refine (M1.out _ _ W4 HS.out.tl.tl.tl.tl.tl.tl.r HS.out.r).mono ?_
      rintro e W2 ⟨r, us, rfl, hU, hb⟩
      obtain ⟨ra, rn, rc, rfl⟩ := own_shape hU.row
      have HS := Lib.hid ((HS.out.step hb).add hU.ints)
      clear hU hb
      have q4 := HS.out.tl.tl.tl.tl.tl.tl.q; have qe := HS.out.tl.q
      obtain ⟨W3, hW3⟩ : ∃ W3, W3 = W2.alloc (.cells #[.slice ra rn rc] 31) := ⟨_, rfl⟩
      rw [← hW3] at HS
      have HW3 := Lib.hid hW3
      clear hW3
      go_wp2_with fail
      rw [← HW3.out]
      clear HW3
      clear q4 qe
      refine (M2.out _ _ W3 HS.out.tl.tl.tl.tl.tl.tl.r HS.out.tl.r).mono ?_
      rintro e W2 ⟨r, us, rfl, hU, hb⟩
      obtain ⟨ra, rn, rc, rfl⟩ := own_shape hU.row
      have HS := Lib.hid ((HS.out.step hb).add hU.ints)
      clear hU hb
      have q5 := HS.out.tl.tl.tl.tl.tl.tl.q; have qe := HS.out.tl.tl.q
      obtain ⟨W3, hW3⟩ : ∃ W3, W3 = W2.alloc (.cells #[.slice ra rn rc] 31) := ⟨_, rfl⟩
      rw [← hW3] at HS
      have HW3 := Lib.hid hW3
      clear hW3
      go_wp2_with fail
      rw [← HW3.out]
      clear HW3
      clear q5 qe
      refine (M3.out _ _ W3 HS.out.tl.tl.tl.tl.tl.tl.r HS.out.tl.tl.r).mono ?_
      rintro e W2 ⟨r, us, rfl, hU, hb⟩
      obtain ⟨ra, rn, rc, rfl⟩ := own_shape hU.row
      have HS := Lib.hid ((HS.out.step hb).add hU.ints)
      clear hU hb
      clear M1 M2 M3
      have q9 := HS.out.tl.tl.tl.tl.tl.q; have q5 := HS.out.tl.tl.tl.tl.tl.tl.tl.q
      obtain ⟨W3, hW3⟩ : ∃ W3, W3 = W2.alloc (.cells #[.slice ra rn rc] 31) := ⟨_, rfl⟩
      rw [← hW3] at HS
      have HW3 := Lib.hid hW3
      clear hW3
      go_wp2_with fail
      rw [← HW3.out]
      clear HW3
      clear q5 q9
      refine (milnor5_same _ _ s W3 HS.out.tl.tl.tl.tl.tl.r HS.out.tl.tl.tl.tl.tl.tl.tl.r).mono ?_
      rintro e W2 ⟨rfl, hb⟩
      have HS := Lib.hid (HS.out.step hb)
      clear hb
      have q11 := HS.out.tl.tl.tl.tl.q; have q3 := HS.out.tl.tl.tl.tl.tl.tl.tl.tl.tl.q
      go_wp2_with fail
      clear q3 q11
      refine (milnor5_same _ _ xs W2 HS.out.tl.tl.tl.tl.r HS.out.tl.tl.tl.tl.tl.tl.tl.tl.tl.r).mono ?_
      rintro e W5 ⟨rfl, hb⟩
      have HS := Lib.hid (HS.out.step hb)
      clear hb
      by_cases hp : p = 0
      · subst hp
        by_cases hq : q = 0
        · subst hq
          obtain ⟨rfl, I4⟩ := F2.out rfl rfl
          have I4 := Lib.hid I4
          clear F2
          have q14 := HS.out.tl.tl.q; have q16 := HS.out.tl.q
          go_wp2_with fail
          clear q14 q16
          refine (I4.out _ _ W5 HS.out.tl.tl.r HS.out.tl.r).mono ?_
          rintro e W2 ⟨r, us, rfl, hU, hb⟩
          obtain ⟨ra, rn, rc, rfl⟩ := own_shape hU.row
          have HS := Lib.hid ((HS.out.step hb).add hU.ints)
          clear hU hb
          have q20 := HS.out.q; have q18 := HS.out.tl.q
          obtain ⟨W3, hW3⟩ : ∃ W3, W3 = W2.alloc (.cells #[.slice ra rn rc] 31) := ⟨_, rfl⟩
          rw [← hW3] at HS
          have HW3 := Lib.hid hW3
          clear hW3
          go_wp2_with fail
          rw [← HW3.out]
          clear HW3
          clear q20 q18
          refine (milnor5_same _ _ z W3 HS.out.r HS.out.tl.r).mono ?_
          rintro e W6 ⟨rfl, hb⟩
          have HS := Lib.hid (HS.out.step hb)
          clear hb
          go_wp2_with fail
          go_meet
          exact HS.out.below
        · have v0 := (neB hq).1
          clear F2
          go_wp2_with fail
          go_meet
          exact HS.out.below
      · have v0 := (neB hp).1
        clear F2
        go_wp2_with fail
        go_meet
        exact HS.out.below
    · have v0 := (neB hc).1
      clear F
      go_wp2_with fail
      go_meet
      exact HS.out.below
  case rest =>
  have HB := Lib.hid hcut
  clear hcut HS F
  go_wp2_with fail
  refine (D2.out _ HB.out).mono ?_
  rintro e w5 ⟨n, rfl, -, hx⟩
  have HB := Lib.hid (HB.out.trans (hx.mono HB.out.size))
  clear hx D2
  have B1 := Lib.hid (implMilnorBasis_of sortSS_c2 n)
  have B2 := Lib.hid (specMilnorBasis_c n)
  have BD := Lib.hid (basis_deg n)
  generalize mbL n = rs at *
  generalize mbC n = bc2 at *
  have u0 : (bc2 != bc2) = false := by simp
  have u1 : (n != n) = false := by simp
  go_wp2_with fail
  refine (B1.out _).mono ?_
  rintro e w6 ⟨r6, rfl, hM1, hx⟩
  obtain ⟨ma, mc, rfl, hml⟩ := hM1.len
  have HM1 := Lib.hid hM1
  have HB := Lib.hid (HB.out.trans (hx.mono HB.out.size))
  clear hM1 hx
  go_wp2_with fail
  refine (B2.out _).mono ?_
  rintro e w7 ⟨r7, rfl, hM2, hx⟩
  have HM1 := Lib.hid (HM1.out.same hx.block)
  obtain ⟨na, nc, rfl, -⟩ := hM2.len
  have HM2 := Lib.hid hM2
  have HB := Lib.hid (HB.out.trans (hx.mono HB.out.size))
  clear hM2 hx B1 B2
  go_wp2_with fail
  refine (elements5_same _ _ rs _ HM1.out HM2.out).mono ?_
  rintro e w8 ⟨rfl, hx⟩
  have HM1 := Lib.hid (HM1.out.same hx.block)
  have HB := Lib.hid (HB.out.trans (hx.mono HB.out.size))
  clear hx HM2 u0
  go_wp2_with fail
  go_loopw [27] (fun i wr => ∃ k : Nat, k ≤ rs.length ∧ i = .int .i64 k ∧ Below w8.heap.size w8 wr) (fun i _ => rs.length - (intOf i).toNat)
  case atStart => exact ⟨0, Nat.zero_le _, rfl, Below.refl _ _⟩
  case round =>
    obtain ⟨k, hk, rfl, hbl⟩ := hrel
    have HBL := Lib.hid hbl
    by_cases hlt : k < rs.length
    · obtain ⟨b1, o1, c1, u, hv1, hc1, hu⟩ := HM1.out.at k hlt
      simp only [Value.slice.injEq, true_and] at hv1
      obtain ⟨rfl, rfl⟩ := hv1
      have hc := (hbl.cell (World.block_lt_of_cell? _ _ hc1)).trans hc1
      have DG := Lib.hid (implDegreeOfMilnor_c u rs[k] wr (hu.same hbl.block))
      obtain ⟨e1, e2⟩ := BD.out k hlt
      rw [e1, e2] at DG
      obtain ⟨ua, uc, rfl, -⟩ := hu.len
      clear e1 e2 hu hc1 hbl
      go_wp2_with fail
      refine DG.out.mono ?_
      rintro e w9 ⟨rfl, hx⟩
      have HX := Lib.hid (HBL.out.trans (hx.mono HBL.out.size))
      clear hx DG hc
      go_wp2_with fail
      go_roundw
      case rel => exact ⟨k + 1, by omega, by go_num, HX.out⟩
      case measure => simp [intOf]; omega
    · obtain rfl : k = rs.length := by omega
      have HB := Lib.hid (HB.out.trans (HBL.out.mono HB.out.size))
      clear hbl HBL HM1 BD u1 hlt hk
      go_wp2_with fail
      refine (D3.out _ HB.out).mono ?_
      rintro e W2 ⟨r, rfl, ⟨fs, hfs⟩, hx⟩
      have HB := Lib.hid (HB.out.trans (hx.mono HB.out.size))
      have HS := Lib.hid ((St.new HB.out).add hfs)
      obtain ⟨ra, rc, rfl, -⟩ := hfs.len
      generalize hrn : fs.length = rn at HS
      have DI := Lib.hid (fun (v : Value) (W : World) (h : IntSS W.heap v fs) => implDegreeOfMilnor_c v fs W h)
      have DS := Lib.hid (fun (v : Value) (W : World) (h : IntSS W.heap v fs) => specDegreeOfMilnor_c v fs W h)
      clear hfs hx HB D3 hrn
      generalize domD fs = dd at *
      generalize domC fs = dc at *
      have q30 := HS.out.q
      obtain ⟨W3, hW3⟩ : ∃ W3, W3 = W2.alloc (.cells #[.slice ra rn rc] 31) := ⟨_, rfl⟩
      rw [← hW3] at HS
      have HW3 := Lib.hid hW3
      clear hW3
      go_wp2_with fail
      rw [← HW3.out]
      clear HW3
      clear q30
      refine (DI.out _ _ HS.out.r).mono ?_
      rintro e w10 ⟨rfl, hb⟩
      have HS := Lib.hid (HS.out.step hb)
      clear hb
      have q30 := HS.out.q
      go_wp2_with fail
      clear q30
      refine (DS.out _ _ HS.out.r).mono ?_
      rintro e w11 ⟨rfl, hb⟩
      have HS := Lib.hid (HS.out.step hb)
      clear hb DI DS
      go_wp2_with fail
      refine (D4.out _ HS.out.below).mono ?_
      rintro e w12 ⟨n2, rl, rfl, ⟨ys2, hys2⟩, hb⟩
      have HS := Lib.hid (HS.out.step hb)
      have HL := Lib.hid hys2
      obtain ⟨la, lc, rfl, -⟩ := hys2.len
      have CI := Lib.hid (fun (v : Value) (W : World) (h : IntS W.heap v ys2) => implMilnorOfCoordinates_of sortSS_c2 v n2 ys2 W h)
      have CS := Lib.hid (fun (v : Value) (W : World) (h : IntS W.heap v ys2) => specMilnorOfCoordinates_c v n2 ys2 W h)
      clear hys2 hb D4
      generalize mocC n2 ys2 = oc at *
      generalize mocL n2 ys2 = os at *
      go_wp2_with fail
      refine (CI.out _ _ HL.out).mono ?_
      rintro e W2 ⟨r, rfl, hrd, hb⟩
      have HL := Lib.hid (HL.out.same hb.block)
      have HS := Lib.hid ((HS.out.step hb).add hrd)
      obtain ⟨ra, rc, rfl, -⟩ := hrd.len
      have HL := Lib.hid (HL.out.same (alloc_old W2 (.cells #[.slice ra os.length rc] 31)))
      clear hrd hb
      generalize hrn : os.length = rn at HS HL
      obtain ⟨W3, hW3⟩ : ∃ W3, W3 = W2.alloc (.cells #[.slice ra rn rc] 31) := ⟨_, rfl⟩
      rw [← hW3] at HS HL
      have HW3 := Lib.hid hW3
      clear hW3 hrn
      go_wp2_with fail
      rw [← HW3.out]
      clear HW3
      refine (CS.out _ _ HL.out).mono ?_
      rintro e W2 ⟨r, rfl, hrd, hb⟩
      have HS := Lib.hid ((HS.out.step hb).add hrd)
      obtain ⟨ra, rc, rfl, -⟩ := hrd.len
      generalize hrn : os.length = rn at HS
      clear hrd hb HL CI CS hrn
      have v1 : (dc == dc) = true := by simp
      have v2 : (dd == dd) = true := by simp
      have v3 : (oc == oc) = true := by simp
      have q37 := HS.out.tl.q; have q39 := HS.out.q
      obtain ⟨W3, hW3⟩ : ∃ W3, W3 = W2.alloc (.cells #[.slice ra rn rc] 31) := ⟨_, rfl⟩
      rw [← hW3] at HS
      have HW3 := Lib.hid hW3
      clear hW3
      go_wp2_with fail
      rw [← HW3.out]
      clear HW3
      clear q37 q39
      refine (milnor5_same _ _ os W3 HS.out.tl.r HS.out.r).mono ?_
      rintro e w13 ⟨rfl, hb⟩
      have HS := Lib.hid (HS.out.step hb)
      clear hb
      go_wp2_with fail
      go_ret
      exact ⟨rfl, HS.out.below⟩

namespace fnMilnorSums_row
theorem own : ownKnob Tryz.prog.godebug = none := by kernel_rfl
theorem laidOut : laidOutB Tryz.prog = true := by kernel_rfl
set_option linter.unusedVariables false in
set_option maxRecDepth 100000 in
theorem lifted (os : Os) (started : os.Started) (H : Type) (enc : TypeId × Value → H) :
    ReturnsInHanded {} Tryz.checked os 6 .any (Rows.fnMilnorSumsSpec.pre6 enc Tryz.prog Tryz.f6 Rows.fnMilnorSumsRow.domain false) (Rows.fnMilnorSumsSpec.post enc Tryz.prog Tryz.f6 false true false false) := by
  refine returnsInHanded_of_change (C := Tryz.checked) own started (by kernel_rfl) Tryz.func6
    (ChangeSpec.witness6 (enc := enc) (C := Tryz.checked) false ⟨#[], #[.slice none 0 0], []⟩ 8 (by kernel_rfl) (by kernel_rfl) (by kernel_rfl) (by kernel_rfl)) ?_
  intro W base args ds gs before hval0 hW hcnd _
  have hval : ∀ (j : Nat) t v, Tryz.f6.params[j]? = some t → args[j]? = some v → Value.okWide Tryz.prog W .any base t v := hval0
  have hW' := hW
  obtain ⟨p, q, hA0, hV, rfl, hfz, hnd⟩ := hW
  have hA : DataW.TrodAll enc Tryz.prog W 0 (fun _ => true) true Tryz.f6.params.toList args.toList ds p := hA0
  rw [Tryz.params6] at hA hval
  obtain ⟨v0, vs0, d0, ds0, p0, q0, hargs, rfl, rfl, h0, r0⟩ := trodAll_cons hA
  obtain ⟨rfl, rfl, rfl⟩ := trodAll_nil r0
  obtain rfl : args = #[v0] := by cases args; simp_all
  obtain ⟨rfl, rfl⟩ := trodVars_none hV
  obtain ⟨a0, len0, cap0, rfl⟩ := okWide_slice Tryz.underlying39 (hval 0 39 v0 rfl rfl)
  have k0 := h0
  have lt0 : ∀ x ∈ p0, x.block < W.heap.size := by obtain ⟨m, hm⟩ := k0; exact DataW.trod_lt m _ _ _ hm
  obtain ⟨z0, w0⟩ : ∃ zs, IsRow .u8 W a0 len0 cap0 zs := by
    obtain ⟨fuel, hf⟩ := h0
    rcases open_ints Tryz.underlying39 Tryz.underlying5 (by kernel_rfl) hf with ⟨hcs, _⟩ | ⟨x, l, c, zs, hcs, _, hl, hm, hz, _, hcell, hwz⟩
    · simp [Value.cells] at hcs
      obtain ⟨rfl, rfl, rfl⟩ := hcs
      exact ⟨[], .inl ⟨rfl, rfl, rfl, rfl⟩⟩
    · simp [Value.cells] at hcs
      obtain ⟨rfl, rfl, rfl⟩ := hcs
      exact ⟨zs, .inr ⟨_, rfl, hl, hm, by simpa using hz, hcell, hwz⟩⟩
  clear hA0 hval0
  refine (fnMilnorSums_walk W a0 len0 cap0 z0 w0).mono fun e W' ⟨he, bel⟩ => ?_
  subst he
  exact ⟨_, rfl, _, _, _, [], _, [], hW', trodAll_mk1 (shut_bool Tryz.underlying4 _), (trodAll_cons_mk (Below.trod laidOut (by kernel_rfl) (of_decide_eq_true (by kernel_rfl)) k0 bel lt0) trodAll_mk0), rfl, bel.frame _, fun h => by cases h⟩
theorem over : Rows.fnMilnorSumsRow.holds Tryz.pinned (OpenSpec.ofChange Rows.fnMilnorSumsSpec) :=
  OpenClaim.holds_of_wide 6 Tryz.f6 rfl rfl rfl rfl rfl rfl rfl ⟨rfl, rfl, rfl, rfl, rfl⟩ rfl rfl rfl rfl rfl (by kernel_rfl) Tryz.func6 (by kernel_rfl)
    (of_decide_eq_true (by kernel_rfl)) (by unfold Func.isWrapper; first | (rw [if_pos (by decide +kernel)]; kernel_rfl) | (rw [if_neg (by decide +kernel)]; exact ⟨rfl, rfl⟩))
    (fun os started H enc _ => lifted os started H enc)
end fnMilnorSums_row
/-- The statement. -/
theorem fnMilnorSums_proved : Rows.FnMilnorSumsSaid := fnMilnorSums_row.over
#print axioms fnMilnorSums_proved
end Go.Proofs.YtmnkccjddahcjaaGreat

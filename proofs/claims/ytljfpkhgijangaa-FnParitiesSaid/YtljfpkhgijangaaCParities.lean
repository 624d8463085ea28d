/- What is proved: for every input the law FnParities returns true and its argument reads behind the call as before. No condition. -/
import Derived.Test.YtljfpkhgijangaaRows
import Derived.Deep.DeepCutAuto
import Derived.OpenShut
import Derived.ShutString
import Derived.ChangeOld
import Derived.Test.YtljfpkhgijangaaBParities
import Derived.Test.YtljfpkhgijangaaB2Parities
namespace Go.Proofs.Ytljfpkhgijangaa
open Go.ChangeShapes Go.WideShapes Go.ChangeAt Go.RowKit Go.Sort
open Go.ChangeMaps (open_string shut_string)

set_option maxRecDepth 100000 in
set_option maxHeartbeats 4000000 in
theorem fnParities_walk (w : World) (a : Option Addr) (l c : Nat) (zs : List Int) (h : IsRow .u8 w a l c zs) :
    Calls Try.prog 3 #[.slice a l c] w fun e w' => e = .returned (.bool true) ∧ Below w.heap.size w w' := by
  have HY := Lib.hid (byteS_of h)
  have BG := Lib.hid (big_c _ _ _ HY.out)
  clear h
  by_cases hl : 4096 < l
  · rw [show decide (4096 < l) = true from decide_eq_true hl] at BG
    go_enter Try.func3, Try.ntmps3
    go_wp2_with (go_at_call 10; refine BG.out.mono ?_; rintro e w' ⟨rfl, rfl⟩)
    go_ret
    exact ⟨rfl, Below.refl _ _⟩
  rw [show decide (4096 < l) = false from decide_eq_false hl] at BG
  have D1 := Lib.hid (drawBinomialParity_c _ l w HY.out (by omega))
  have D2 := Lib.hid (fun (W : World) (hb : Below w.heap.size w W) => drawMultinomialParity_c _ l W (HY.out.same hb.block) (by omega))
  have D3 := Lib.hid (fun (W : World) (hb : Below w.heap.size w W) => drawDigitsOf_c _ l W (HY.out.same hb.block) (by omega))
  have D4 := Lib.hid (fun (W : World) (hb : Below w.heap.size w W) => drawPartitionsOf_c _ l W (HY.out.same hb.block) (by omega))
  have D5 := Lib.hid (fun (W : World) (hb : Below w.heap.size w W) => drawSumOfTermLists_c _ l W (HY.out.same hb.block) (by omega))
  have D6 := Lib.hid (fun (W : World) (hb : Below w.heap.size w W) => drawDegreeOf_c _ l W (HY.out.same hb.block) (by omega))
  clear hl HY
  go_enter Try.func3, Try.ntmps3
  go_wp2_with fail
  refine BG.out.mono ?_
  rintro e w' ⟨rfl, rfl⟩
  go_wp2_with fail
  refine D1.out.mono ?_
  rintro e w1 ⟨n, k, rfl, hx⟩
  have HB := Lib.hid hx
  clear hx D1 BG
  have I1 := Lib.hid (implBinomialParity_c n k)
  have S1 := Lib.hid (specBinomialParity_c n k)
  have PK := Lib.hid (bin_pack n k)
  generalize bpC n k = c1 at *
  generalize bpV n k = x1 at *
  have fq0 : (c1 != c1) = false := by simp
  have fq1 : (x1 != x1) = false := by simp
  go_wp2_with fail
  refine (I1.out _).mono ?_
  rintro e w2 ⟨rfl, rfl⟩
  go_wp2_with fail
  refine (S1.out _).mono ?_
  rintro e w2 ⟨rfl, rfl⟩
  clear I1 S1
  go_upto_region 8 with fail
  go_cut [88] (fun v88 wx => v88 = .bool (decide (c1 = 0 ∧ 0 < n ∧ 0 < k)) ∧ Below w.heap.size w wx)
  case first => as_aux_lemma =>
    clear PK fq0 fq1 D2 D3 D4 D5 D6
    by_cases h0 : c1 = 0
    · have v0 : (c1 == 0) = true := by simp [h0]
      by_cases hn : 0 < n
      · have t1 : decide (0 < n) = true := decide_eq_true hn
        by_cases hk : 0 < k
        · have t2 : decide (0 < k) = true := decide_eq_true hk
          have T := Lib.hid (decide_eq_true (p := c1 = 0 ∧ 0 < n ∧ 0 < k) ⟨h0, hn, hk⟩)
          clear h0
          go_wp2_with fail
          go_meet
          exact ⟨by rw [T.out], HB.out⟩
        · have t2 : decide (0 < k) = false := decide_eq_false hk
          have T := Lib.hid (decide_eq_false (p := c1 = 0 ∧ 0 < n ∧ 0 < k) (fun q => hk q.2.2))
          clear h0
          go_wp2_with fail
          go_meet
          exact ⟨by rw [T.out], HB.out⟩
      · have t1 : decide (0 < n) = false := decide_eq_false hn
        have T := Lib.hid (decide_eq_false (p := c1 = 0 ∧ 0 < n ∧ 0 < k) (fun q => hn q.2.1))
        clear h0
        go_wp2_with fail
        go_meet
        exact ⟨by rw [T.out], HB.out⟩
    · have v0 := (neB h0).1
      have T := Lib.hid (decide_eq_false (p := c1 = 0 ∧ 0 < n ∧ 0 < k) (fun q => h0 q.1))
      clear h0
      go_wp2_with fail
      go_meet
      exact ⟨by rw [T.out], HB.out⟩
  case rest => as_aux_lemma =>
  obtain ⟨rfl, hb⟩ := hcut
  have HB := Lib.hid hb
  clear hb
  have HT := Lib.hid (@of_decide_eq_true (c1 = 0 ∧ 0 < n ∧ 0 < k) _)
  generalize decide (c1 = 0 ∧ 0 < n ∧ 0 < k) = tb at *
  go_upto_if 88 with fail
  go_cut [9, 10, 11, 12] (fun v9 v10 v11 v12 wx => Below w.heap.size w wx)
  case first => as_aux_lemma =>
    clear fq0 fq1 D2 D3 D4 D5 D6
    cases tb
    · clear PK HT
      go_wp2_with fail
      go_meet
      exact HB.out
    · obtain ⟨h0, hn, hk⟩ := HT.out rfl
      obtain ⟨b1, b2, y, z, E1, E2, y0, y1, z0, z1, hyz⟩ := PK.out h0 hn hk
      clear h0
      obtain ⟨o1, ho⟩ : ∃ o : Int, o = 0 := ⟨0, rfl⟩
      have v0 : (o1 != 0) = false := by simp [ho]
      rw [← ho] at E1 E2
      have E1 := Lib.hid E1; have E2 := Lib.hid E2
      have s1 : IntKind.i64.wrap (n - 1) = n - 1 := IntWalk.i64_in _ (by omega)
      have s2 : IntKind.i64.wrap (k - 1) = k - 1 := IntWalk.i64_in _ (by omega)
      have s3 : IntKind.i64.wrap (y + z) = y + z := IntWalk.i64_in _ (by omega)
      have fq2 : (x1 != x1) = false := by simp
      clear PK HT hn hk ho
      go_wp2_with fail
      refine (E1.out _).mono ?_
      rintro e w3 ⟨rfl, rfl⟩
      go_wp2_with fail
      refine (E2.out _).mono ?_
      rintro e w3 ⟨rfl, rfl⟩
      go_wp2_with fail
      go_meet
      exact HB.out
  case rest => as_aux_lemma =>
  have HB := Lib.hid hcut
  clear hcut PK HT fq0 fq1
  go_wp2_with fail
  refine (D2.out _ HB.out).mono ?_
  rintro e w3 ⟨r, rfl, ⟨xs, hxs⟩, hx⟩
  have HB := Lib.hid (HB.out.trans (hx.mono HB.out.size))
  have HX := Lib.hid hxs
  have I2 := Lib.hid (fun (v : Value) (W : World) (h : IntS W.heap v xs) => implMultinomialParity_c v xs W h)
  have S2 := Lib.hid (fun (v : Value) (W : World) (h : IntS W.heap v xs) => specMultinomialParity_c v xs W h)
  obtain ⟨ra, rc, rfl, -⟩ := hxs.len
  generalize hrn : xs.length = rn at *
  clear hrn
  generalize mpC xs = c2 at *
  generalize mpV xs = x2 at *
  have fq0 : (c2 != c2) = false := by simp
  have fq1 : (x2 != x2) = false := by simp
  clear hx hxs D2
  go_wp2_with fail
  refine (I2.out _ _ HX.out).mono ?_
  rintro e w4 ⟨rfl, hx⟩
  have HB := Lib.hid (HB.out.trans (hx.mono HB.out.size))
  have HX := Lib.hid (HX.out.same hx.block)
  clear hx
  go_wp2_with fail
  refine (S2.out _ _ HX.out).mono ?_
  rintro e w5 ⟨rfl, rfl⟩
  clear I2 S2 HX
  go_wp2_with fail
  refine (D3.out _ HB.out).mono ?_
  rintro e w6 ⟨dn, rfl, hx⟩
  have HB := Lib.hid (HB.out.trans (hx.mono HB.out.size))
  clear hx D3
  have I3 := Lib.hid (implDigitsOf_c dn)
  have S3 := Lib.hid (specDigitsOf_c dn)
  have O3 := Lib.hid (implOnesIn_c dn)
  have DP := Lib.hid (df_pack dn)
  have DB := Lib.hid (dfL_bnd dn)
  have DL := Lib.hid (dfL_len dn)
  generalize dfC dn = c3 at *
  generalize dfL dn = ds at *
  have fq2 : (c3 != c3) = false := by simp
  have fq3 : ((ds.length : Int) != (ds.length : Int)) = false := by simp
  go_wp2_with fail
  refine (I3.out _).mono ?_
  rintro e w7 ⟨d1, rfl, hd1, hx⟩
  have HB := Lib.hid (HB.out.trans (hx.mono HB.out.size))
  have HD1 := Lib.hid hd1
  obtain ⟨da, dc, rfl, -⟩ := hd1.len
  clear hx hd1 I3
  go_wp2_with fail
  refine (S3.out _).mono ?_
  rintro e w8 ⟨d2, rfl, hd2, hx⟩
  have HB := Lib.hid (HB.out.trans (hx.mono HB.out.size))
  have HD1 := Lib.hid (HD1.out.same hx.block)
  have HD2 := Lib.hid hd2
  obtain ⟨ea, ec, rfl, -⟩ := hd2.len
  clear hx hd2 S3
  go_wp2_with fail
  refine (O3.out _).mono ?_
  rintro e w9 ⟨rfl, rfl⟩
  clear O3
  go_wp2_with fail
  refine (likeInts_same _ _ ds _ HD1.out HD2.out).mono ?_
  rintro e w10 ⟨rfl, q10, hw10⟩
  have HB := Lib.hid (show Below w.heap.size w w10 by rw [hw10]; exact below_drewN q10 HB.out)
  have HD1 := Lib.hid (show IntS w10.heap (.slice da ds.length dc) ds by rw [hw10]; exact HD1.out)
  clear hw10 HD2
  go_upto_if 178 with fail
  go_cut [25, 26] (fun v25 v26 wx => Below w.heap.size w wx)
  case first => as_aux_lemma =>
    clear fq0 fq1 D4 D5 D6
    by_cases h0 : c3 = 0
    · obtain ⟨hs1, hs2⟩ := DP.out h0
      subst h0
      have HS1 := Lib.hid hs1
      have HS0 := Lib.hid hs2
      clear fq2 fq3 DP hs1 hs2
      go_wp2_with fail
      go_loopw [25, 26] (fun s i wr => ∃ k : Nat, k ≤ ds.length ∧ i = .int .i64 k ∧ s = .int .i64 (dsum (ds.take k)) ∧ Below w.heap.size w wr ∧ IntS wr.heap (.slice da ds.length dc) ds) (fun _ i _ => ds.length - (intOf i).toNat)
      case atStart => exact ⟨0, Nat.zero_le _, rfl, rfl, HB.out, HD1.out⟩
      case round =>
        clear HB HD1
        obtain ⟨k, hk, rfl, rfl, hB, hD⟩ := hrel
        have HB := Lib.hid hB; have HD := Lib.hid hD
        clear hB
        by_cases hlt : k < ds.length
        · obtain ⟨b1, o1, cc, hv1, hc1, -⟩ := hD.at k hlt
          simp only [Value.slice.injEq, true_and] at hv1
          obtain ⟨rfl, rfl⟩ := hv1
          have bs := dsum_bnd DB.out k hk
          have HST := Lib.hid (dsum_take_succ ds k hlt)
          obtain ⟨i, hi, hi40⟩ := DB.out _ (List.getElem_mem hlt)
          rw [hi] at hc1 HST
          rw [Int.toNat_natCast] at HST
          have pw := pow_i i hi40
          have hu := u64_nat i (by omega)
          have hw := sh_40 i hi40
          have hw2 := sh_40' i hi40
          have hsum : wrap64 (dsum (ds.take k) + 2 ^ i) = dsum (ds.take k) + 2 ^ i := by
            have h9 := DL.out
            unfold wrap64; omega
          have hdl := DL.out
          clear hi hD bs pw
          generalize dsum (ds.take k) = s at *
          go_wp2_with fail
          go_roundw
          · exact ⟨k + 1, by omega, rfl, by rw [HST.out, hsum], HB.out, HD.out⟩
          · simp only [intOf]; omega
        · obtain rfl : k = ds.length := by omega
          rw [List.take_length, HS1.out]
          have tn : (dn != dn) = false := by simp
          clear hD
          go_wp2_with fail
          go_meet
          exact HB.out
    · have v0 := (neB h0).1
      clear DP DB HD1
      go_wp2_with fail
      go_meet
      exact HB.out
  case rest => as_aux_lemma =>
  have HB := Lib.hid hcut
  clear hcut fq0 fq1 fq2 fq3 DP DB DL HD1
  go_wp2_with fail
  refine (D4.out _ HB.out).mono ?_
  rintro e w11 ⟨pn, rfl, hx⟩
  have HB := Lib.hid (HB.out.trans (hx.mono HB.out.size))
  clear hx D4
  have I4 := Lib.hid (implPartitionsOf_of sortSS_c2 pn)
  have S4 := Lib.hid (specPartitionsOf_c pn)
  have CP := Lib.hid (cnt_pack pn)
  generalize poC pn = c4 at *
  generalize poL pn = pp at *
  have fq0 : (c4 != c4) = false := by simp
  go_wp2_with fail
  refine (I4.out _).mono ?_
  rintro e w12 ⟨p1, rfl, hp1, hx⟩
  have HB := Lib.hid (HB.out.trans (hx.mono HB.out.size))
  have HP := Lib.hid hp1
  obtain ⟨pa, pc, rfl, hpm⟩ := hp1.len
  clear hx hp1 I4
  go_wp2_with fail
  refine (S4.out _).mono ?_
  rintro e w13 ⟨p2, rfl, hp2, hx⟩
  have HB := Lib.hid (HB.out.trans (hx.mono HB.out.size))
  have HP := Lib.hid (HP.out.same hx.block)
  have HP2 := Lib.hid hp2
  obtain ⟨ea, ec, rfl, -⟩ := hp2.len
  clear hx hp2 S4
  go_wp2_with fail
  refine (rows5_same _ _ pp _ HP.out HP2.out).mono ?_
  rintro e w14 ⟨rfl, q14, hw14⟩
  have HB := Lib.hid (show Below w.heap.size w w14 by rw [hw14]; exact below_drewN q14 HB.out)
  have HP := Lib.hid (show IntSS w14.heap (.slice pa pp.length pc) pp by rw [hw14]; exact HP.out)
  clear hw14 HP2
  go_upto_if 218 with fail
  go_cut [32, 33, 34, 35, 36] (fun v32 v33 v34 v35 v36 wx => Below w.heap.size w wx)
  case first => as_aux_lemma =>
    clear fq0 D5 D6
    by_cases h0 : c4 = 0
    · obtain ⟨CN, DG⟩ := CP.out h0
      obtain ⟨o2, ho⟩ : ∃ o : Int, o = 0 := ⟨0, rfl⟩
      have v1 : (c4 == 0) = true := by simp [h0]
      have v2 : (o2 != 0) = false := by simp [ho]
      have v3 : ((pp.length : Int) != (pp.length : Int)) = false := by simp
      have v4 : (pn != pn) = false := by simp
      rw [← ho] at CN
      have CN := Lib.hid CN
      have DG := Lib.hid (fun r hr => (⟨(DG r hr).1.trans ho.symm, (DG r hr).2⟩ : dgC r = o2 ∧ dgV r = pn))
      clear CP h0 ho
      go_wp2_with fail
      refine (CN.out _).mono ?_
      rintro e w15 ⟨rfl, hx⟩
      have HB := Lib.hid (HB.out.trans (hx.mono HB.out.size))
      have HP := Lib.hid (HP.out.same hx.block)
      clear hx CN
      go_wp2_with fail
      go_loopw [34] (fun i wr => ∃ k : Nat, k ≤ pp.length ∧ i = .int .i64 k ∧ Below w.heap.size w wr ∧ IntSS wr.heap (.slice pa pp.length pc) pp) (fun i _ => pp.length - (intOf i).toNat)
      case atStart => exact ⟨0, Nat.zero_le _, rfl, HB.out, HP.out⟩
      case round => as_aux_lemma =>
        clear HB HP
        obtain ⟨k, hk, rfl, hB, hP⟩ := hrel
        have HB := Lib.hid hB; have HP := Lib.hid hP
        clear hB
        by_cases hlt : k < pp.length
        · obtain ⟨b1, o1, cc, u, hv1, hc1, hu, -⟩ := hP.at k hlt
          simp only [Value.slice.injEq, true_and] at hv1
          obtain ⟨rfl, rfl⟩ := hv1
          have IG := Lib.hid (implDegreeOf_c u pp[k] wr hu)
          obtain ⟨g1, g2⟩ := DG.out _ (List.getElem_mem hlt)
          rw [g1, g2] at IG
          obtain ⟨ua, uc, rfl, -⟩ := hu.len
          generalize hnu : pp[k].length = nu at *
          clear hP hu g1 g2 hnu
          go_wp2_with fail
          refine IG.out.mono ?_
          rintro e w16 ⟨rfl, hx⟩
          have HB := Lib.hid (HB.out.trans (hx.mono HB.out.size))
          have HP := Lib.hid (HP.out.same hx.block)
          clear hx IG
          go_wp2_with fail
          go_roundw
          · exact ⟨k + 1, by omega, by go_num, HB.out, HP.out⟩
          · simp [intOf]; omega
        · obtain rfl : k = pp.length := by omega
          clear hP
          go_wp2_with fail
          go_meet
          exact HB.out
    · have v0 := (neB h0).1
      clear CP HP h0
      go_wp2_with fail
      go_meet
      exact HB.out
  case rest => as_aux_lemma =>
  have HB := Lib.hid hcut
  clear hcut CP fq0 HP hpm
  go_wp2_with fail
  refine (D5.out _ HB.out).mono ?_
  rintro e w17 ⟨r1, r2, as1, bs, rfl, ha, hb, hx⟩
  have HB := Lib.hid (HB.out.trans (hx.mono HB.out.size))
  have HA := Lib.hid ha
  have HC := Lib.hid hb
  obtain ⟨aa, ac, rfl, -⟩ := ha.len
  obtain ⟨ba, bc, rfl, -⟩ := hb.len
  clear hx ha hb D5
  have I5 := Lib.hid (fun (v u : Value) (W : World) (h : IntSS W.heap v as1) (hu : IntSS W.heap u bs) => implSumOfTermLists_of sortSS_c v u as1 bs W h hu)
  have S5 := Lib.hid (fun (v u : Value) (W : World) (h : IntSS W.heap v as1) (hu : IntSS W.heap u bs) => specSumOfTermLists_c v u as1 bs W h hu)
  have T5 := Lib.hid (fun (v : Value) (W : World) (h : IntSS W.heap v as1) => implIsTermList_c v as1 W h)
  have T6 := Lib.hid (fun (v : Value) (W : World) (h : IntSS W.heap v as1) => specIsTermList_c v as1 W h)
  have ST := Lib.hid (st_pack as1 bs)
  generalize stC as1 bs = c5 at *
  generalize stL as1 bs = ss at *
  generalize tlB as1 = tl at *
  generalize hna : as1.length = na at *
  generalize hnb : bs.length = nb at *
  have HN := Lib.hid hna
  clear hna hnb
  have fq0 : (c5 != c5) = false := by simp
  have fq1 : (tl != tl) = false := by simp
  go_wp2_with fail
  refine (I5.out _ _ _ HA.out HC.out).mono ?_
  rintro e w18 ⟨s1, rfl, hs1, hx⟩
  have HB := Lib.hid (HB.out.trans (hx.mono HB.out.size))
  have HA := Lib.hid (HA.out.same hx.block)
  have HC := Lib.hid (HC.out.same hx.block)
  have HS := Lib.hid hs1
  obtain ⟨sa, sc, rfl, -⟩ := hs1.len
  generalize hns : ss.length = ns at *
  clear hns hx hs1 I5
  go_wp2_with fail
  refine (S5.out _ _ _ HA.out HC.out).mono ?_
  rintro e w19 ⟨s2, rfl, hs2, hx⟩
  have HB := Lib.hid (HB.out.trans (hx.mono HB.out.size))
  have HA := Lib.hid (HA.out.same hx.block)
  have HC := Lib.hid (HC.out.same hx.block)
  have HS := Lib.hid (HS.out.same hx.block)
  have HS2 := Lib.hid hs2
  obtain ⟨sa2, sc2, rfl, -⟩ := hs2.len
  generalize hns : ss.length = ns2 at *
  clear hns hx hs2 S5
  go_wp2_with fail
  refine (rows5_same _ _ ss _ HS.out HS2.out).mono ?_
  rintro e w20 ⟨rfl, q20, hw20⟩
  have HB := Lib.hid (show Below w.heap.size w w20 by rw [hw20]; exact below_drewN q20 HB.out)
  have HA := Lib.hid (show IntSS w20.heap (.slice aa na ac) as1 by rw [hw20]; exact HA.out)
  have HC := Lib.hid (show IntSS w20.heap (.slice ba nb bc) bs by rw [hw20]; exact HC.out)
  have HS := Lib.hid (show IntSS w20.heap (.slice sa ns sc) ss by rw [hw20]; exact HS.out)
  clear hw20 HS2
  go_wp2_with fail
  refine (T5.out _ _ HA.out).mono ?_
  rintro e w21 ⟨rfl, hx⟩
  have HB := Lib.hid (HB.out.trans (hx.mono HB.out.size))
  have HA := Lib.hid (HA.out.same hx.block)
  have HC := Lib.hid (HC.out.same hx.block)
  have HS := Lib.hid (HS.out.same hx.block)
  clear hx T5
  go_wp2_with fail
  refine (T6.out _ _ HA.out).mono ?_
  rintro e w22 ⟨rfl, hx⟩
  have HB := Lib.hid (HB.out.trans (hx.mono HB.out.size))
  have HA := Lib.hid (HA.out.same hx.block)
  have HC := Lib.hid (HC.out.same hx.block)
  have HS := Lib.hid (HS.out.same hx.block)
  clear hx
  clear T6
  go_upto_if 287 with fail
  go_cut [43, 44, 45, 46] (fun v43 v44 v45 v46 wx => Below w.heap.size w wx)
  case first => as_aux_lemma =>
    clear fq0 fq1 D6
    by_cases h0 : c5 = 0
    · obtain ⟨K1, K2⟩ := ST.out h0
      obtain ⟨o3, ho⟩ : ∃ o : Int, o = 0 := ⟨0, rfl⟩
      have v1 : (c5 == 0) = true := by simp [h0]
      have v2 : (o3 != 0) = false := by simp [ho]
      rw [← ho] at K1 K2
      have K1 := Lib.hid K1
      have K2 := Lib.hid K2
      clear ST h0 ho
      go_wp2_with fail
      refine (K1.out _ _ _ HC.out HA.out).mono ?_
      rintro e w23 ⟨t1, rfl, ht1, hx⟩
      have HB := Lib.hid (HB.out.trans (hx.mono HB.out.size))
      have HA := Lib.hid (HA.out.same hx.block)
      have HC := Lib.hid (HC.out.same hx.block)
      have HS := Lib.hid (HS.out.same hx.block)
      have HT1 := Lib.hid ht1
      obtain ⟨ta, tc, rfl, -⟩ := ht1.len
      generalize hns : ss.length = ns3 at *
      clear hns hx ht1 K1
      go_wp2_with fail
      refine (K2.out _ _ _ HS.out HC.out).mono ?_
      rintro e w24 ⟨t2, rfl, ht2, hx⟩
      have HB := Lib.hid (HB.out.trans (hx.mono HB.out.size))
      have HA := Lib.hid (HA.out.same hx.block)
      have HS := Lib.hid (HS.out.same hx.block)
      have HT1 := Lib.hid (HT1.out.same hx.block)
      have HT2 := Lib.hid ht2
      obtain ⟨ta2, tc2, rfl, -⟩ := ht2.len
      generalize hns : as1.length = ns4 at *
      clear hns hx ht2 K2 HC
      go_wp2_with fail
      refine (rows5_same _ _ ss _ HT1.out HS.out).mono ?_
      rintro e w25 ⟨rfl, q25, hw25⟩
      have HB := Lib.hid (show Below w.heap.size w w25 by rw [hw25]; exact below_drewN q25 HB.out)
      have HA := Lib.hid (show IntSS w25.heap (.slice aa na ac) as1 by rw [hw25]; exact HA.out)
      have HT2 := Lib.hid (show IntSS w25.heap (.slice ta2 ns4 tc2) as1 by rw [hw25]; exact HT2.out)
      clear hw25 HS HT1
      go_wp2_with fail
      refine (rows5_same _ _ as1 _ HT2.out HA.out).mono ?_
      rintro e w26 ⟨rfl, q26, hw26⟩
      have HB := Lib.hid (show Below w.heap.size w w26 by rw [hw26]; exact below_drewN q26 HB.out)
      clear hw26 HA HT2
      go_wp2_with fail
      go_meet
      exact HB.out
    · have v0 := (neB h0).1
      clear ST HA HC HS h0
      go_wp2_with fail
      go_meet
      exact HB.out
  case rest => as_aux_lemma =>
  have HB := Lib.hid hcut
  clear hcut ST fq0 fq1 HA HC HS
  go_wp2_with fail
  refine (D6.out _ HB.out).mono ?_
  rintro e w27 ⟨r3, rs, rfl, hr, hx⟩
  have HB := Lib.hid (HB.out.trans (hx.mono HB.out.size))
  have HR := Lib.hid hr
  obtain ⟨na1, nc1, rfl, -⟩ := hr.len
  clear hx hr D6
  have I6 := Lib.hid (fun (v : Value) (W : World) (h : IntS W.heap v rs) => implDegreeOf_c v rs W h)
  have S6 := Lib.hid (fun (v : Value) (W : World) (h : IntS W.heap v rs) => specDegreeOf_c v rs W h)
  generalize dgC rs = c6 at *
  generalize dgV rs = x6 at *
  generalize hnr : rs.length = nr at *
  clear hnr
  have fq0 : (c6 == c6) = true := by simp
  have fq1 : (x6 == x6) = true := by simp
  go_wp2_with fail
  refine (I6.out _ _ HR.out).mono ?_
  rintro e w28 ⟨rfl, hx⟩
  have HB := Lib.hid (HB.out.trans (hx.mono HB.out.size))
  have HR := Lib.hid (HR.out.same hx.block)
  clear hx I6
  go_wp2_with fail
  refine (S6.out _ _ HR.out).mono ?_
  rintro e w29 ⟨rfl, rfl⟩
  clear S6 HR
  go_wp2_with fail
  go_ret
  exact ⟨rfl, HB.out⟩

namespace fnParities_row
theorem own : ownKnob Try.prog.godebug = none := by kernel_rfl
theorem laidOut : laidOutB Try.prog = true := by kernel_rfl
set_option linter.unusedVariables false in
set_option maxRecDepth 100000 in
theorem lifted (os : Os) (started : os.Started) (H : Type) (enc : TypeId × Value → H) :
    ReturnsInHanded {} Try.checked os 3 .any (Rows.fnParitiesSpec.pre6 enc Try.prog Try.f3 Rows.fnParitiesRow.domain false) (Rows.fnParitiesSpec.post enc Try.prog Try.f3 false true false false) := by
  refine returnsInHanded_of_change (C := Try.checked) own started (by kernel_rfl) Try.func3
    (ChangeSpec.witness6 (enc := enc) (C := Try.checked) false ⟨#[], #[.slice none 0 0], []⟩ 8 (by kernel_rfl) (by kernel_rfl) (by kernel_rfl) (by kernel_rfl)) ?_
  intro W base args ds gs before hval0 hW hcnd _
  have hval : ∀ (j : Nat) t v, Try.f3.params[j]? = some t → args[j]? = some v → Value.okWide Try.prog W .any base t v := hval0
  have hW' := hW
  obtain ⟨p, q, hA0, hV, rfl, hfz, hnd⟩ := hW
  have hA : DataW.TrodAll enc Try.prog W 0 (fun _ => true) true Try.f3.params.toList args.toList ds p := hA0
  rw [Try.params3] at hA hval
  obtain ⟨v0, vs0, d0, ds0, p0, q0, hargs, rfl, rfl, h0, r0⟩ := trodAll_cons hA
  obtain ⟨rfl, rfl, rfl⟩ := trodAll_nil r0
  obtain rfl : args = #[v0] := by cases args; simp_all
  obtain ⟨rfl, rfl⟩ := trodVars_none hV
  obtain ⟨a0, len0, cap0, rfl⟩ := okWide_slice Try.underlying22 (hval 0 22 v0 rfl rfl)
  have k0 := h0
  have lt0 : ∀ x ∈ p0, x.block < W.heap.size := by obtain ⟨m, hm⟩ := k0; exact DataW.trod_lt m _ _ _ hm
  obtain ⟨z0, w0⟩ : ∃ zs, IsRow .u8 W a0 len0 cap0 zs := by
    obtain ⟨fuel, hf⟩ := h0
    rcases open_ints Try.underlying22 Try.underlying5 (by kernel_rfl) hf with ⟨hcs, _⟩ | ⟨x, l, c, zs, hcs, _, hl, hm, hz, _, hcell, hwz⟩
    · simp [Value.cells] at hcs
      obtain ⟨rfl, rfl, rfl⟩ := hcs
      exact ⟨[], .inl ⟨rfl, rfl, rfl, rfl⟩⟩
    · simp [Value.cells] at hcs
      obtain ⟨rfl, rfl, rfl⟩ := hcs
      exact ⟨zs, .inr ⟨_, rfl, hl, hm, by simpa using hz, hcell, hwz⟩⟩
  clear hA0 hval0
  refine (fnParities_walk W a0 len0 cap0 z0 w0).mono fun e W' ⟨he, bel⟩ => ?_
  subst he
  exact ⟨_, rfl, _, _, _, [], _, [], hW', trodAll_mk1 (shut_bool Try.underlying4 _), (trodAll_cons_mk (Below.trod laidOut (by kernel_rfl) (of_decide_eq_true (by kernel_rfl)) k0 bel lt0) trodAll_mk0), rfl, bel.frame _, fun h => by cases h⟩
theorem over : Rows.fnParitiesRow.holds Try.pinned (OpenSpec.ofChange Rows.fnParitiesSpec) :=
  OpenClaim.holds_of_wide 3 Try.f3 rfl rfl rfl rfl rfl rfl rfl ⟨rfl, rfl, rfl, rfl, rfl⟩ rfl rfl rfl rfl rfl (by kernel_rfl) Try.func3 (by kernel_rfl)
    (of_decide_eq_true (by kernel_rfl)) (by unfold Func.isWrapper; first | (rw [if_pos (by decide +kernel)]; kernel_rfl) | (rw [if_neg (by decide +kernel)]; exact ⟨rfl, rfl⟩))
    (fun os started H enc _ => lifted os started H enc)
end fnParities_row
/-- The statement. -/
theorem fnParities_proved : Rows.FnParitiesSaid := fnParities_row.over
#print axioms fnParities_proved
end Go.Proofs.Ytljfpkhgijangaa

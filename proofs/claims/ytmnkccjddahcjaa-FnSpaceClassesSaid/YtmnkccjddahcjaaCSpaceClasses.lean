/- What is proved: for every input the law FnSpaceClasses returns true and its argument reads behind the call as before. No condition. -/
import Derived.Test.YtmnkccjddahcjaaRows
import Derived.Test.YtmnkccjddahcjaaLSc2
import Derived.Test.YtmnkccjddahcjaaLSrc2
import Derived.Test.YtmnkccjddahcjaaLWh
import Derived.Test.YtmnkccjddahcjaaLHeld
import Derived.Test.YtmnkccjddahcjaaLMilArg
import Derived.Test.YtmnkccjddahcjaaLGen
import Derived.Deep.DeepCutAuto
import Derived.OpenShut
import Derived.ShutString
import Derived.ChangeOld
namespace Go.Proofs.Ytmnkccjddahcjaa
open Go.ChangeShapes Go.WideShapes Go.ChangeAt Go.RowKit
open Go.ChangeMaps (open_string shut_string)

set_option maxRecDepth 100000 in
set_option maxHeartbeats 4000000 in
theorem fnSpaceClasses_walk (w : World) (a : Option Addr) (l c : Nat) (zs : List Int) (h : IsRow .u8 w a l c zs) :
    Calls Try.prog 6 #[.slice a l c] w fun e w' => e = .returned (.bool true) ∧ Below w.heap.size w w' := by
  have HY := Lib.hid (byteS_of h)
  have BG := Lib.hid (big_c _ _ _ HY.out)
  clear h
  by_cases hl : 4096 < l
  · rw [show decide (4096 < l) = true from decide_eq_true hl] at BG
    go_enter Try.func6, Try.ntmps6
    go_wp2_with (go_at_call 22; refine BG.out.mono ?_; rintro e w' ⟨rfl, rfl⟩)
    go_ret
    exact ⟨rfl, Below.refl _ _⟩
  rw [show decide (4096 < l) = false from decide_eq_false hl] at BG
  have D1 := Lib.hid (drawWhitneyClasses_c _ l w HY.out (by omega))
  have D2 := Lib.hid (fun (W : World) (hb : Below w.heap.size w W) => drawWhitneyNumber_c _ l W (HY.out.same hb.block) (by omega))
  have D3 := Lib.hid (fun (W : World) (hb : Below w.heap.size w W) => drawIsBoundary_c _ l W (HY.out.same hb.block) (by omega))
  clear hl HY
  go_enter Try.func6, Try.ntmps6
  go_wp2_with (go_at_call 22; refine BG.out.mono ?_; rintro e w' ⟨rfl, rfl⟩)
  refine D1.out.mono ?_
  rintro e w1 ⟨n, rfl, ⟨hn0, hn1⟩, hx⟩
  have HB := Lib.hid hx
  clear hx BG D1
  obtain ⟨gp, hgp⟩ : ∃ gp, gapOf n = gp := ⟨_, rfl⟩
  obtain ⟨cc, hcc⟩ : ∃ cc, spc n = cc := ⟨_, rfl⟩
  have I1 := Lib.hid (implWhitneyClasses_c n)
  have S1 := Lib.hid (specWhitneyClasses_c n)
  have I2 := Lib.hid (implDualClasses_c n)
  have S2 := Lib.hid (specDualClasses_c n)
  have I3 := Lib.hid (implWuClasses_c n)
  have S3 := Lib.hid (specWuClasses_c n)
  have I4 := Lib.hid (implImmersionGap_c n)
  have S4 := Lib.hid (specImmersionGap_c n)
  rw [hcc] at I1 S1 I2 S2 I3 S3 I4 S4
  rw [hgp] at I4 S4
  have HGP := Lib.hid hgp; have HCC := Lib.hid hcc
  clear hgp hcc
  have u1 : (cc != cc) = false := by simp
  have u2 : (gp != gp) = false := by simp
  go_wp2_with fail
  refine (I1.out _).mono ?_
  rintro e w2 ⟨v1, rfl, h2, hx⟩
  have R1 := Lib.hid h2.ints
  obtain ⟨p1, p2, p3, rfl⟩ := own_shape h2
  clear h2
  have HB := Lib.hid (HB.out.trans (hx.mono HB.out.size))
  clear hx
  go_wp2_with fail
  refine (S1.out _).mono ?_
  rintro e w3 ⟨v2, rfl, h3, hx⟩
  have RX := Lib.hid h3
  have R1 := Lib.hid (R1.out.same hx.block)
  clear h3
  have HB := Lib.hid (HB.out.trans (hx.mono HB.out.size))
  clear hx
  go_wp2_with fail
  refine (likeInts_same _ _ _ _ R1.out RX.out).mono ?_
  rintro e WX ⟨rfl, nd, rfl⟩
  have hx : Below w3.heap.size w3 (w3.drewN nd) := below_drewN nd (Below.refl _ _)
  have R1 := Lib.hid (R1.out.same hx.block)
  have HB := Lib.hid (HB.out.trans (hx.mono HB.out.size))
  clear hx
  go_wp2_with fail
  refine (I2.out _).mono ?_
  rintro e w4 ⟨v4, rfl, h2, hx⟩
  have R2 := Lib.hid h2.ints
  have R1 := Lib.hid (R1.out.same hx.block)
  obtain ⟨q1, q2, q3, rfl⟩ := own_shape h2
  clear h2
  have HB := Lib.hid (HB.out.trans (hx.mono HB.out.size))
  clear hx
  go_wp2_with fail
  refine (S2.out _).mono ?_
  rintro e w5 ⟨v5, rfl, h3, hx⟩
  have RX := Lib.hid h3
  have R1 := Lib.hid (R1.out.same hx.block)
  have R2 := Lib.hid (R2.out.same hx.block)
  clear h3
  have HB := Lib.hid (HB.out.trans (hx.mono HB.out.size))
  clear hx
  go_wp2_with fail
  refine (likeInts_same _ _ _ _ R2.out RX.out).mono ?_
  rintro e WX ⟨rfl, nd, rfl⟩
  have hx : Below w5.heap.size w5 (w5.drewN nd) := below_drewN nd (Below.refl _ _)
  have R1 := Lib.hid (R1.out.same hx.block)
  have R2 := Lib.hid (R2.out.same hx.block)
  have HB := Lib.hid (HB.out.trans (hx.mono HB.out.size))
  clear hx
  go_wp2_with fail
  refine (I3.out _).mono ?_
  rintro e w6 ⟨v6, rfl, h2, hx⟩
  have R3 := Lib.hid h2.ints
  have R1 := Lib.hid (R1.out.same hx.block)
  have R2 := Lib.hid (R2.out.same hx.block)
  obtain ⟨r1, r2, r3, rfl⟩ := own_shape h2
  clear h2
  have HB := Lib.hid (HB.out.trans (hx.mono HB.out.size))
  clear hx
  go_wp2_with fail
  refine (S3.out _).mono ?_
  rintro e w7 ⟨v7, rfl, h3, hx⟩
  have RX := Lib.hid h3
  have R1 := Lib.hid (R1.out.same hx.block)
  have R2 := Lib.hid (R2.out.same hx.block)
  have R3 := Lib.hid (R3.out.same hx.block)
  clear h3
  have HB := Lib.hid (HB.out.trans (hx.mono HB.out.size))
  clear hx
  go_wp2_with fail
  refine (likeInts_same _ _ _ _ R3.out RX.out).mono ?_
  rintro e WX ⟨rfl, nd, rfl⟩
  have hx : Below w7.heap.size w7 (w7.drewN nd) := below_drewN nd (Below.refl _ _)
  have R1 := Lib.hid (R1.out.same hx.block)
  have R2 := Lib.hid (R2.out.same hx.block)
  have R3 := Lib.hid (R3.out.same hx.block)
  have HB := Lib.hid (HB.out.trans (hx.mono HB.out.size))
  clear hx
  clear RX
  go_wp2_with fail
  refine (I4.out _).mono ?_
  rintro e w8 ⟨rfl, hx⟩
  have R1 := Lib.hid (R1.out.same hx.block)
  have R2 := Lib.hid (R2.out.same hx.block)
  have R3 := Lib.hid (R3.out.same hx.block)
  have HB := Lib.hid (HB.out.trans (hx.mono HB.out.size))
  clear hx
  go_wp2_with fail
  refine (S4.out _).mono ?_
  rintro e w9 ⟨rfl, hx⟩
  have R1 := Lib.hid (R1.out.same hx.block)
  have R2 := Lib.hid (R2.out.same hx.block)
  have R3 := Lib.hid (R3.out.same hx.block)
  have HB := Lib.hid (HB.out.trans (hx.mono HB.out.size))
  clear hx
  clear I1 S1 I2 S2 I3 S3 I4 S4
  go_wp2_with fail
  refine (D2.out _ HB.out).mono ?_
  rintro e w10 ⟨nm, vx, xs, rfl, hxs, hxl, ⟨hm0, hm1⟩, hx⟩
  obtain ⟨s1, s2, rfl, -⟩ := hxs.len
  have R1 := Lib.hid (R1.out.same hx.block)
  have R2 := Lib.hid (R2.out.same hx.block)
  have R3 := Lib.hid (R3.out.same hx.block)
  have RX := Lib.hid hxs
  clear hxs
  have HB := Lib.hid (HB.out.trans (hx.mono HB.out.size))
  clear hx
  have I5 := Lib.hid (fun W (h : IntS W.heap (.slice s1 xs.length s2) xs) => implWhitneyNumber_c nm _ xs W h)
  have S5 := Lib.hid (fun W (h : IntS W.heap (.slice s1 xs.length s2) xs) => specWhitneyNumber_c nm _ xs W h)
  generalize wnOf nm xs = wo at *
  generalize wnC nm xs = wc at *
  have u3 : (wc != wc) = false := by simp
  have u4 : (wo != wo) = false := by simp
  go_wp2_with fail
  refine (I5.out _ RX.out).mono ?_
  rintro e w11 ⟨rfl, hx⟩
  have R1 := Lib.hid (R1.out.same hx.block)
  have R2 := Lib.hid (R2.out.same hx.block)
  have R3 := Lib.hid (R3.out.same hx.block)
  have RX := Lib.hid (RX.out.same hx.block)
  have HB := Lib.hid (HB.out.trans (hx.mono HB.out.size))
  clear hx
  go_wp2_with fail
  refine (S5.out _ RX.out).mono ?_
  rintro e w12 ⟨rfl, rfl⟩
  clear I5 S5 RX D2
  go_wp2_with fail
  refine (D3.out _ HB.out).mono ?_
  rintro e w13 ⟨b, rfl, ⟨hb0, hb1⟩, hx⟩
  have R1 := Lib.hid (R1.out.same hx.block)
  have R2 := Lib.hid (R2.out.same hx.block)
  have R3 := Lib.hid (R3.out.same hx.block)
  have HB := Lib.hid (HB.out.trans (hx.mono HB.out.size))
  clear hx
  have I6 := Lib.hid (implIB_c b)
  have S6 := Lib.hid (specIB_c b)
  have HIB : Hid ((ibC b = 0 ∧ ibB b = (b % 2 == 1) ∧ 1 ≤ b) ∨ (ibC b = 2 ∧ ibB b = false)) := by
    show _ ∨ _
    by_cases hr : 1 ≤ b ∧ b ≤ 40
    · exact .inl ⟨by simp [ibC, hr], by simp [ibB, hr], hr.1⟩
    · exact .inr ⟨by simp [ibC, hr], by simp [ibB, hr]⟩
  go_wp2_with fail
  refine (I6.out _).mono ?_
  rintro e w14 ⟨rfl, hx⟩
  have R1 := Lib.hid (R1.out.same hx.block)
  have R2 := Lib.hid (R2.out.same hx.block)
  have R3 := Lib.hid (R3.out.same hx.block)
  have HB := Lib.hid (HB.out.trans (hx.mono HB.out.size))
  clear hx
  go_wp2_with fail
  refine (S6.out _).mono ?_
  rintro e w15 ⟨rfl, hx⟩
  have R1 := Lib.hid (R1.out.same hx.block)
  have R2 := Lib.hid (R2.out.same hx.block)
  have R3 := Lib.hid (R3.out.same hx.block)
  have HB := Lib.hid (HB.out.trans (hx.mono HB.out.size))
  clear hx
  clear I6 S6 D3
  have HN : Hid ((cc = 2 ∧ whOf n = []) ∨ (∃ m : Nat, n = m ∧ 1 ≤ m ∧ m ≤ 1000 ∧ cc = 0)) := by
    show _ ∨ _
    by_cases hr : 1 ≤ n ∧ n ≤ 1000
    · exact .inr ⟨n.toNat, by omega, by omega, by omega, by rw [← HCC.out]; simp [spc, hr]⟩
    · exact .inl ⟨by rw [← HCC.out]; simp [spc, hr], by simp [whOf, hr]⟩
  rcases HIB.out with ⟨e1, e2, hb2⟩ | ⟨e1, e2⟩
  all_goals
    rw [e1, e2]
    clear e1 e2 HIB
    rcases HN.out with ⟨rfl, ew⟩ | ⟨m, rfl, hm1, hm2, rfl⟩
    · rw [ew] at R1
      obtain ⟨_, _, hv, _⟩ := R1.out.len
      simp only [Value.slice.injEq, List.length_nil] at hv
      obtain ⟨rfl, rfl, rfl⟩ := hv
      clear HN ew HGP HCC
      go_wp2_with fail
      go_ret
      exact ⟨rfl, HB.out⟩
    · have ew1 : whOf m = whit m (m + 1) := by simp [whOf]; omega
      have ew2 : duOf m = dul (whit m (m + 1)) m := by simp [duOf]; omega
      have ew3 : wuOf m = wu m (m + 1) := by simp [wuOf]; omega
      have ew4 : gapOf m = (lastOne (dul (whit m (m + 1)) m) (m + 1) : Nat) := by simp [gapOf]; omega
      rw [ew1] at R1; rw [ew2] at R2; rw [ew3] at R3; rw [ew4] at HGP
      have ewg := HGP.out
      subst ewg
      clear ew1 ew2 ew3 ew4 HCC HGP HN
      obtain ⟨b1, o1, rfl, rfl, C1⟩ := R1.out.open0 (by rw [whit_length]; omega)
      obtain ⟨b2, o2, rfl, rfl, C2⟩ := R2.out.open0 (by rw [dul_length]; omega)
      obtain ⟨b3, o3, rfl, rfl, C3⟩ := R3.out.open0 (by rw [wu_length]; omega)
      rw [whit_length] at C1; rw [dul_length] at C2; rw [wu_length] at C3
      have C1 := Lib.hid C1; have C2 := Lib.hid C2; have C3 := Lib.hid C3
      have hgl := lastOne_lt (dul (whit m (m + 1)) m) (m + 1) (by omega)
      have cg := C2.out _ hgl
      rw [gap_one m] at cg
      have WA := Lib.hid (fun k (hk : k ≤ m) (h6 : k ≤ 60) => wuSum_all m k hm2 hk h6)
      have IA := Lib.hid (fun k (hk : k ≤ m) (h0 : 0 < k) => invSum_zero m k hk h0)
      rw [whit_length, dul_length, wu_length]
      have HGV := Lib.hid (gap_one m)
      rw [List.getD_eq_getElem?_getD] at HGV
      generalize hgv : lastOne (dul (whit m (m + 1)) m) (m + 1) = gv at *
      clear hgv R1 R2 R3
      have hg0 : (0 : Int) ≤ gv := by omega
      have hg1 : (gv : Int) < m + 1 := by omega
      go_wp2_with fail
      go_loopw [31] (fun k wr => ∃ q nd : Nat, q ≤ m + 1 ∧ q ≤ 61 ∧ k = .int .i64 q ∧ wr = w15.drewN nd) (fun k _ => 62 - (intOf k).toNat)
      case atStart => exact ⟨0, 0, by omega, by omega, rfl, rfl⟩
      case round =>
        obtain ⟨q, nd2, hq1, hq2, rfl, rfl⟩ := hrel
        by_cases hq : q ≤ m ∧ q ≤ 60
        · obtain ⟨hqm, hq60⟩ := hq
          have hqi : (q : Int) ≤ m := by omega
          have hq6 : (q : Int) ≤ 60 := by omega
          go_wp2_with fail
          go_loopw [32, 33, 34] (fun t s i wr => ∃ j nd : Nat, j ≤ q + 1 ∧ t = .int .i64 (wuSum m q j) ∧ s = .int .i64 (invSum (whit m (m + 1)) (dul (whit m (m + 1)) m) q j) ∧ i = .int .i64 j ∧ wr = w15.drewN nd) (fun _ _ i _ => q + 1 - (intOf i).toNat)
          case atStart => exact ⟨0, nd2, by omega, rfl, rfl, rfl, rfl⟩
          case round =>
            obtain ⟨j, nd3, hj, rfl, rfl, rfl, rfl⟩ := hrel
            by_cases hjq : j ≤ q
            · have hji : (j : Int) ≤ q := by omega
              have hj0 : (0 : Int) ≤ j := by omega
              have c1 := C1.out j (by omega)
              have c3 := C3.out j (by omega)
              obtain ⟨d, hd⟩ : ∃ d : Nat, q - j = d := ⟨_, rfl⟩
              have c2 := C2.out d (by omega)
              have hdi : (q : Int) - j = d := by omega
              have hd1 : (d : Int) < m + 1 := by omega
              have hjm : (j : Int) < m + 1 := by omega
              have HW1 : Hid (wuSum m q (j + 1) = (wuSum m q j + wuc m j * parI j ((q : Int) - j)) % 2) := rfl
              have HI1 : Hid (invSum (whit m (m + 1)) (dul (whit m (m + 1)) m) q (j + 1) = (invSum (whit m (m + 1)) (dul (whit m (m + 1)) m) q j + (whit m (m + 1)).getD j 0 * (dul (whit m (m + 1)) m).getD (q - j) 0) % 2) := rfl
              rw [hd] at HI1
              rw [hdi] at HW1
              rw [wu_at _ _ _ (by omega)] at c3
              have BP := Lib.hid (fun W => binomialParity_c j (d : Int) W ⟨by omega, by omega⟩ ⟨by omega, by omega⟩)
              obtain ⟨x1, x2⟩ := wuSum_bit m q j
              obtain ⟨x3, x4⟩ := invSum_bit (whit m (m + 1)) (dul (whit m (m + 1)) m) q j
              have x5 := wuc_bit m j
              have x6 := bit_bounds (parI_bit (j : Int) (d : Int))
              have x7 : 0 ≤ (whit m (m + 1)).getD j 0 ∧ (whit m (m + 1)).getD j 0 ≤ 1 := by rw [whit_at _ _ _ (by omega)]; exact bit_bounds (parI_bit _ _)
              have x8 := bit_bounds (dul_bitAt (whit m (m + 1)) m d)
              obtain ⟨y1, y2⟩ := mul_bits x5 x6
              obtain ⟨y3, y4⟩ := mul_bits x7 x8
              generalize (whit m (m + 1)).getD j 0 = a1 at *
              generalize (dul (whit m (m + 1)) m).getD d 0 = a2 at *
              generalize wuc m j = a3 at *
              generalize parI (j : Int) (d : Int) = a4 at *
              generalize invSum (whit m (m + 1)) (dul (whit m (m + 1)) m) q j = t2 at *
              generalize wuSum m q j = t1 at *
              obtain ⟨x50, x51⟩ := x5
              obtain ⟨x60, x61⟩ := x6
              have e1 : IntKind.i64.wrap ((q : Int) - j) = (d : Int) := by rw [hdi]; exact IntWalk.i64_in _ (by omega)
              have e2 : IntKind.i64.wrap (a1 * a2) = a1 * a2 := IntWalk.i64_in _ (by omega)
              have e3 : IntKind.i64.wrap (t2 + a1 * a2) = t2 + a1 * a2 := IntWalk.i64_in _ (by omega)
              have e4 : (t2 + a1 * a2).tmod 2 = (t2 + a1 * a2) % 2 := Int.tmod_eq_emod_of_nonneg (by omega)
              clear hd x7 x8
              go_wp2_with (go_at_call 24; (with_reducible refine (BP.out _).mono ?_); rintro e W2 ⟨rfl, rfl⟩)
              go_quiet (fail)
              go_wp2_with fail
              go_roundw
              case rel => exact ⟨j + 1, _, by omega, by rw [HW1.out], by rw [HI1.out], by go_num, by first | rfl | (simp only [World.drewN_drewN]; rfl)⟩
              case measure => simp [intOf]; omega
            · obtain rfl : j = q + 1 := by omega
              have c1 := C1.out q (by omega)
              rw [whit_at _ _ _ (by omega)] at c1
              rw [WA.out q hqm hq60]
              generalize parI ((m : Int) + 1) q = pw at *
              have u7 : (pw != pw) = false := by simp
              have hqm1 : (q : Int) < m + 1 := by omega
              have hq00 : (0 : Int) ≤ q := by omega
              by_cases hq0 : 0 < q
              · rw [IA.out q hqm hq0]
                have u8 : decide (0 < q) = true := decide_eq_true hq0
                go_wp2_with fail
                go_roundw
                case rel => exact ⟨q + 1, nd3, by omega, by omega, by go_num, rfl⟩
                case measure => simp [intOf]; omega
              · have u8 : decide (0 < q) = false := decide_eq_false hq0
                have u9 : decide ((0 : Int) < q) = false := decide_eq_false (by omega)
                generalize invSum (whit m (m + 1)) (dul (whit m (m + 1)) m) q (q + 1) = iv at *
                go_wp2_with fail
                go_roundw
                case rel => exact ⟨q + 1, nd3, by omega, by omega, by go_num, rfl⟩
                case measure => simp [intOf]; omega
        · by_cases hqm : q ≤ m
          · have u7 : decide (q ≤ m) = true := decide_eq_true hqm
            have u8 : decide ((q : Int) ≤ 60) = false := decide_eq_false (by omega)
            have u9 : decide (q ≤ 60) = false := decide_eq_false (by omega)
            clear hq
            go_wp2_with fail
            go_ret
            first | exact ⟨rfl, below_drewN _ HB.out⟩ | exact ⟨ret_bool (by rw [HGV.out]; rfl), below_drewN _ HB.out⟩
          · have u7 : decide (q ≤ m) = false := decide_eq_false hqm
            clear hq
            go_wp2_with fail
            go_ret
            first | exact ⟨rfl, below_drewN _ HB.out⟩ | exact ⟨ret_bool (by rw [HGV.out]; rfl), below_drewN _ HB.out⟩

namespace fnSpaceClasses_row
theorem own : ownKnob Try.prog.godebug = none := by kernel_rfl
theorem laidOut : laidOutB Try.prog = true := by kernel_rfl
set_option linter.unusedVariables false in
set_option maxRecDepth 100000 in
theorem lifted (os : Os) (started : os.Started) (H : Type) (enc : TypeId × Value → H) :
    ReturnsInHanded {} Try.checked os 6 .any (Rows.fnSpaceClassesSpec.pre6 enc Try.prog Try.f6 Rows.fnSpaceClassesRow.domain false) (Rows.fnSpaceClassesSpec.post enc Try.prog Try.f6 false true false false) := by
  refine returnsInHanded_of_change (C := Try.checked) own started (by kernel_rfl) Try.func6
    (ChangeSpec.witness6 (enc := enc) (C := Try.checked) false ⟨#[], #[.slice none 0 0], []⟩ 8 (by kernel_rfl) (by kernel_rfl) (by kernel_rfl) (by kernel_rfl)) ?_
  intro W base args ds gs before hval0 hW hcnd _
  have hval : ∀ (j : Nat) t v, Try.f6.params[j]? = some t → args[j]? = some v → Value.okWide Try.prog W .any base t v := hval0
  have hW' := hW
  obtain ⟨p, q, hA0, hV, rfl, hfz, hnd⟩ := hW
  have hA : DataW.TrodAll enc Try.prog W 0 (fun _ => true) true Try.f6.params.toList args.toList ds p := hA0
  rw [Try.params6] at hA hval
  obtain ⟨v0, vs0, d0, ds0, p0, q0, hargs, rfl, rfl, h0, r0⟩ := trodAll_cons hA
  obtain ⟨rfl, rfl, rfl⟩ := trodAll_nil r0
  obtain rfl : args = #[v0] := by cases args; simp_all
  obtain ⟨rfl, rfl⟩ := trodVars_none hV
  obtain ⟨a0, len0, cap0, rfl⟩ := okWide_slice Try.underlying44 (hval 0 44 v0 rfl rfl)
  have k0 := h0
  have lt0 : ∀ x ∈ p0, x.block < W.heap.size := by obtain ⟨m, hm⟩ := k0; exact DataW.trod_lt m _ _ _ hm
  obtain ⟨z0, w0⟩ : ∃ zs, IsRow .u8 W a0 len0 cap0 zs := by
    obtain ⟨fuel, hf⟩ := h0
    rcases open_ints Try.underlying44 Try.underlying5 (by kernel_rfl) hf with ⟨hcs, _⟩ | ⟨x, l, c, zs, hcs, _, hl, hm, hz, _, hcell, hwz⟩
    · simp [Value.cells] at hcs
      obtain ⟨rfl, rfl, rfl⟩ := hcs
      exact ⟨[], .inl ⟨rfl, rfl, rfl, rfl⟩⟩
    · simp [Value.cells] at hcs
      obtain ⟨rfl, rfl, rfl⟩ := hcs
      exact ⟨zs, .inr ⟨_, rfl, hl, hm, by simpa using hz, hcell, hwz⟩⟩
  clear hA0 hval0
  refine (fnSpaceClasses_walk W a0 len0 cap0 z0 w0).mono fun e W' ⟨he, bel⟩ => ?_
  subst he
  exact ⟨_, rfl, _, _, _, [], _, [], hW', trodAll_mk1 (shut_bool Try.underlying4 _), (trodAll_cons_mk (Below.trod laidOut (by kernel_rfl) (of_decide_eq_true (by kernel_rfl)) k0 bel lt0) trodAll_mk0), rfl, bel.frame _, fun h => by cases h⟩
theorem over : Rows.fnSpaceClassesRow.holds Try.pinned (OpenSpec.ofChange Rows.fnSpaceClassesSpec) :=
  OpenClaim.holds_of_wide 6 Try.f6 rfl rfl rfl rfl rfl rfl rfl ⟨rfl, rfl, rfl, rfl, rfl⟩ rfl rfl rfl rfl rfl (by kernel_rfl) Try.func6 (by kernel_rfl)
    (of_decide_eq_true (by kernel_rfl)) (by unfold Func.isWrapper; first | (rw [if_pos (by decide +kernel)]; kernel_rfl) | (rw [if_neg (by decide +kernel)]; exact ⟨rfl, rfl⟩))
    (fun os started H enc _ => lifted os started H enc)
end fnSpaceClasses_row
/-- The statement. -/
theorem fnSpaceClasses_proved : Rows.FnSpaceClassesSaid := fnSpaceClasses_row.over
#print axioms fnSpaceClasses_proved
end Go.Proofs.Ytmnkccjddahcjaa

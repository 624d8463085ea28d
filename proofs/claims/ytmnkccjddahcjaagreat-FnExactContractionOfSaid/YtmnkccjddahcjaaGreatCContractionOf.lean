/- What is proved: for every input the law FnExactContractionOf returns true and its arguments read behind the call as before: the program's ContractionOf and the reference's agree, and the result is the call's own. No condition. -/
import Derived.Test.YtmnkccjddahcjaaGreatBase2
import Derived.Test.YtmnkccjddahcjaaGreatLSss
import Derived.Test.YtmnkccjddahcjaaGreatLCopy
import Derived.Test.YtmnkccjddahcjaaGreatLSort
import Derived.Test.YtmnkccjddahcjaaGreatLStep2
import Derived.Test.YtmnkccjddahcjaaGreatLHeld2
import Derived.Test.YtmnkccjddahcjaaGreatLTrim
import Derived.Test.YtmnkccjddahcjaaGreatLMilArg
import Derived.Laws.EntriesVeiled
import Derived.Test.YtmnkccjddahcjaaGreatLPair
import Derived.Test.YtmnkccjddahcjaaGreatLAdd2
import Derived.Test.YtmnkccjddahcjaaGreatRows
import Derived.Test.YtmnkccjddahcjaaGreatLGen
import Derived.Deep.DeepCutAuto
import Derived.Lib.SliceRun
import Derived.OpenShut
import Derived.ShutString
import Derived.ChangeOld
import Derived.Test.YtmnkccjddahcjaaGreatBContractionOf
namespace Go.Proofs.YtmnkccjddahcjaaGreat
section
open Go.RowKit Go.Sort

/-- Times the parts of the powers whose exponents have the places told. -/
def foldC (n : Nat) (D0 : List (List (List Int))) (ds : List Int) : List (List (List Int)) := ds.foldl (fun out d => oddP (prodP out (partsP n (2 ^ d.toNat)))) D0
theorem foldC_digP (n e : Nat) (D0 : List (List (List Int))) : ∀ j : Nat, foldC n D0 (digP e j) = digC n e D0 j := by
  intro j
  induction j with
  | zero => rfl
  | succ j ih =>
    rw [digP, digC]
    cases e.testBit j
    · exact ih
    · simp only [if_true]
      rw [← ih]
      simp [foldC, List.foldl_append]
theorem foldC_take (n : Nat) (D0 : List (List (List Int))) (ds : List Int) (t : Nat) (h : t < ds.length) : foldC n D0 (ds.take (t + 1)) = oddP (prodP (foldC n D0 (ds.take t)) (partsP n (2 ^ ds[t].toNat))) := by
  unfold foldC
  rw [List.take_succ_eq_append_getElem h, List.foldl_append]; rfl
theorem prodQ_take (A F : List (List (List Int))) (q : Nat) (h : q < F.length) : prodQ A (F.take (q + 1)) = prodQ A (F.take q) ++ A.map fun p => pjoin p F[q] := by
  unfold prodQ
  rw [List.take_succ_eq_append_getElem h, List.flatMap_append]; simp
theorem prodQ_length (A F : List (List (List Int))) : (prodQ A F).length = A.length * F.length := by
  rw [(prodQ_perm F A).length_eq, prodP_length]
theorem prodQ_pr {b c : Int} {l m : Nat} {A F : List (List (List Int))} (hA : ∀ p ∈ A, PrS b l p) (hF : ∀ q ∈ F, PrS c m q) : ∀ x ∈ prodQ A F, IsPr x := fun x hx => prodP_pr hA hF x ((prodQ_perm F A).mem_iff.1 hx)
theorem heldC3U {x1 x2 x3 : Value} {g1 g2 g3 : Addr} {w0 W W' : World} {B : Nat} (h : W.cell? g1 = some x1 ∧ W.cell? g2 = some x2 ∧ W.cell? g3 = some x3 ∧ Below B w0 W) (hb : Below W.heap.size W W') (hB : B ≤ w0.heap.size) : W'.cell? g1 = some x1 ∧ W'.cell? g2 = some x2 ∧ W'.cell? g3 = some x3 ∧ Below B w0 W' :=
  heldC3T h hb (Nat.le_trans hB h.2.2.2.size)
theorem heldC3Y {x1 x2 x3 : Value} {g1 g2 g3 : Addr} {w0 W : World} {B : Nat} (h : W.cell? g1 = some x1 ∧ W.cell? g2 = some x2 ∧ W.cell? g3 = some x3 ∧ Below B w0 W) : Below B w0 W := h.2.2.2
theorem partsP_at (n : Nat) (P : Int) (t : Nat) (h : t < (partsP n P).length) : (partsP n P)[t] = [singL (n - t) (P * 2 ^ t), singL t P] := by simp [partsP]
set_option maxRecDepth 100000 in
set_option maxHeartbeats 2000000 in
theorem l06Split_c : SplitOk := fun v r w h hE hd => by
  have hl5 := exp_len5 hE hd
  have DA := Lib.hid (fun k (hk : k < r.length) => cop_all hE hd hk)
  obtain ⟨ao, c, rfl, hm⟩ := h.len
  have H := Lib.hid h
  have e1 := ownI_empty (w := w) (B := w.heap.size) (Nat.le_refl _)
  have e2 := ownI_empty (w := w.alloc (.cells #[] 2)) (B := w.heap.size) (by simp)
  have pr := two_row (e1.ints.same (alloc_old _ _)) e2.ints
  have hB3 : ∀ o1 o2 o3 : Obj, w.heap.size ≤ (((w.alloc o1).alloc o2).alloc o3).heap.size := fun _ _ _ => by rw [size_alloc_w, size_alloc_w, size_alloc_w]; omega
  have hB2 : ∀ o1 o2 : Obj, w.heap.size ≤ ((w.alloc o1).alloc o2).heap.size := fun _ _ => by rw [size_alloc_w, size_alloc_w]; omega
  have hB1 : ∀ o1 : Obj, w.heap.size ≤ (w.alloc o1).heap.size := fun _ => by rw [size_alloc_w]; omega
  have hl1 := refSS_lit (B := w.heap.size) pr (hB3 _ _ _)
  simp only [size_alloc_w] at hl1
  have HL := Lib.hid hl1
  clear hl1 h hE hd e1 e2 pr
  unfold copL
  go_enter Tryz.func178, Tryz.ntmps178
  go_wp2_with fail
  go_loopw [3, 4] (fun o n wr => ∃ (k : Nat) (us : List Value), k ≤ r.length ∧ n = .int .i64 ((k : Int) + 1) ∧ RefSS wr w.heap.size wr.heap o us (copN r k) ∧ Below w.heap.size w wr) (fun _ n _ => r.length + 2 - (intOf n).toNat)
  case atStart => exact ⟨0, _, Nat.zero_le _, rfl, HL.out, ((((Below.refl _ _).alloc (Nat.le_refl _) _).alloc (hB1 _) _).alloc (hB2 _ _) _).alloc (hB3 _ _ _) _⟩
  case round =>
    obtain ⟨k, us, hk, rfl, hU, hbl⟩ := hrel
    obtain ⟨va, vn, vc, rfl⟩ := own_shape hU.row
    have HU := Lib.hid hU; have HBL := Lib.hid hbl
    by_cases hkl : k < r.length
    · obtain ⟨e, he, he40, HJ⟩ := DA.out k hkl
      have HJ := Lib.hid HJ
      obtain ⟨b1, o1, c1, hv1, hc1, -⟩ := H.out.at k hkl
      simp only [Value.slice.injEq, true_and] at hv1
      obtain ⟨rfl, rfl⟩ := hv1
      have hcx := (hbl.cell (World.block_lt_of_cell? _ _ hc1)).trans hc1
      rw [← getD_at', he] at hcx
      have HSU := Lib.hid (copN_succ r k e he)
      have hki : (k : Int) < r.length := by omega
      have hki2 : (k : Int) + 1 ≤ r.length := by omega
      have hk10 : (k : Int) + 1 - 1 = k := by omega
      have DG := Lib.hid (fun W => l01Digits_c e W (by omega))
      clear hU hbl hc1 he
      generalize copN r k = D0 at *
      rename World => WR
      go_wp2_with (go_at_call 222; refine (DG.out _).mono ?_; rintro e w3 ⟨r3, rfl, hO3, hb3⟩; obtain ⟨da, dc, rfl, -⟩ := hO3.ints.len; have HD3 := Lib.hid hO3.ints; have HB30 := Lib.hid (HBL.out.trans (hb3.mono HBL.out.size)); have HU3 := Lib.hid (HU.out.step hb3 (fun _ _ => rfl)); clear hO3 hb3)
      go_loopw [3, 6] (fun o i wk => ∃ (t : Nat) (us : List Value), t ≤ (digP e 6).length ∧ i = .int .i64 t ∧ RefSS wk w.heap.size wk.heap o us (foldC (k + 1) D0 ((digP e 6).take t)) ∧ Below w3.heap.size w3 wk) (fun _ i _ => (digP e 6).length - (intOf i).toNat)
      case atStart => exact ⟨0, us, Nat.zero_le _, rfl, HU3.out, Below.refl _ _⟩
      case round =>
        obtain ⟨t, us2, ht, rfl, hO, hb2⟩ := hrel
        obtain ⟨ya, yc, rfl, -⟩ := (hO.ints (fun _ _ => rfl)).len
        have HO := Lib.hid hO; have HB2 := Lib.hid hb2
        have HBW := Lib.hid (HB30.out.trans (hb2.mono HB30.out.size))
        have hd6 := digP_len e 6
        by_cases htl : t < (digP e 6).length
        · obtain ⟨b3, o3, c3, hv3, hc3, -⟩ := HD3.out.at t htl
          simp only [Value.slice.injEq, true_and] at hv3
          obtain ⟨rfl, rfl⟩ := hv3
          have hcd := (hb2.cell (World.block_lt_of_cell? _ _ hc3)).trans hc3
          obtain ⟨i, hi, hi6⟩ := digP_mem e 6 _ (List.getElem_mem htl)
          have hft := foldC_take (k + 1) D0 (digP e 6) t htl
          rw [hi, Int.toNat_natCast] at hft
          rw [hi] at hcd
          obtain ⟨j0, hj0, he0⟩ := digP_take e 6 t (by omega)
          obtain ⟨hsm, hlen⟩ := HJ.out j0 hj0
          rw [← foldC_digP, ← he0] at hsm hlen
          have HPS := Lib.hid (fun t (ht : t < 7) => pow_shift i hi6 t ht)
          have hpk := partsP_ok (k + 1) (by omega) i hi6
          have HPK := Lib.hid hpk
          rw [← oddP_order hsm hpk] at hft
          have HFT := Lib.hid hft
          have HPQ := Lib.hid (prodQ_pr hsm hpk)
          have HSM := Lib.hid hsm
          obtain ⟨hp1, hp2, -⟩ := pow2_le i (by omega)
          obtain ⟨P, hP⟩ : ∃ P : Int, (2 : Int) ^ i = P := ⟨_, rfl⟩
          have HSH : Hid (wrap64 (2 ^ i) = P) := by show _ = _; rw [← hP]; unfold wrap64; omega
          rw [hP] at hp1 hp2 HPS HPK HFT HPQ
          have hti : (t : Int) < (digP e 6).length := by omega
          have HOI := Lib.hid (hO.ints (fun _ _ => rfl))
          clear hO hb2 hc3 hi hft hj0 he0 hsm hP hpk
          generalize foldC (k + 1) D0 ((digP e 6).take t) = D at *
          rename World => WK
          go_wp2_with fail
          rw [HSH.out]
          go_loopw [8, 9] (fun o i wm => ∃ (q : Nat) (us : List Value), q ≤ k + 2 ∧ i = .int .i64 q ∧ RefSS wm WK.heap.size wm.heap o us (oddP (prodQ D ((partsP (k + 1) P).take q))) ∧ Below WK.heap.size WK wm) (fun _ i _ => k + 2 - (intOf i).toNat)
          case atStart => exact ⟨0, [], Nat.zero_le _, rfl, refSS_empty _ (Nat.le_refl _), (Below.refl _ _).alloc (Nat.le_refl _) _⟩
          case round =>
            obtain ⟨q, us4, hq, rfl, hQ, hb4⟩ := hrel
            obtain ⟨qa, qn, qc, rfl⟩ := own_shape hQ.row
            have HQ := Lib.hid hQ; have HB4 := Lib.hid hb4
            have hsz4 := hb4.size
            by_cases hql : q < k + 2
            · have hqp : q < (partsP (k + 1) P).length := by rw [partsP_length]; omega
              have hqt := prodQ_take D (partsP (k + 1) P) q hqp
              rw [partsP_at] at hqt
              have hqk := HPK.out _ (List.getElem_mem hqp)
              rw [partsP_at] at hqk
              have hqm := List.getElem_mem hqp
              rw [partsP_at] at hqm
              obtain ⟨hs1, hs2, hs3⟩ := HPS.out q (by omega)
              obtain ⟨m, hm⟩ : ∃ m : Nat, k + 1 - q = m := ⟨_, rfl⟩
              rw [hm] at hqt hqk hqm
              have hm2 : (k : Int) + 1 - q = m := by omega
              have hm9 : m ≤ 1000 := by omega
              have hq9 : q ≤ 1000 := by omega
              obtain ⟨hq1, hq2, -⟩ := pow2_le q (by omega)
              obtain ⟨Q1, hQ1⟩ : ∃ Q1 : Int, (2 : Int) ^ q = Q1 := ⟨_, rfl⟩
              have HSQ : Hid (wrap64 (2 ^ q) = Q1) := by show _ = _; rw [← hQ1]; unfold wrap64; omega
              obtain ⟨Q2, hQ2⟩ : ∃ Q2 : Int, P * 2 ^ q = Q2 := ⟨_, rfl⟩
              have hQ12 : Q1 * P = Q2 := by rw [← hQ2, ← hQ1, Int.mul_comm]
              rw [hQ2] at hs2 hs3 hqt hqk hqm
              rw [hQ1] at hq1 hq2
              have HQK := Lib.hid hqk; have HQM := Lib.hid hqm
              have PW1 := Lib.hid (fun (W : World) => l06Power_c m Q1 W hm9 (by omega))
              have PW2 := Lib.hid (fun (W : World) => l06Power_c q 1 W hq9 (by omega))
              have SC1 := Lib.hid (fun (v : Value) (W : World) (h : IntS W.heap v (singL m Q1)) => l06Scaled_c v (singL m Q1) P W h (singL_sm m _ (by omega) (by omega) (by omega)) (by omega) (by omega) (by rw [singL_length]; omega))
              have SC2 := Lib.hid (fun (v : Value) (W : World) (h : IntS W.heap v (singL q 1)) => l06Scaled_c v (singL q 1) P W h (singL_sm q _ (by omega) (by omega) (by omega)) (by omega) (by omega) (by rw [singL_length]; omega))
              simp only [scale_singL, Int.one_mul, hQ12] at SC1 SC2
              have HQT := Lib.hid hqt
              have hqi : (q : Int) ≤ (k : Int) + 1 := by omega
              have u3 : decide ((q : Int) ≤ (k : Int) + 1) = true := decide_eq_true hqi
              clear hQ hb4 hm hqt hqk hqm hs1 hQ1 hQ2 hQ12
              have hsq := HSQ.out
              go_wp2_with (first | (go_at_call 168; first | ((with_reducible refine (PW1.out _).mono ?_); rintro e W5 ⟨r5, rfl, hs5, hx5⟩; obtain ⟨ra, rn, rc, rfl⟩ := own_shape hs5) | ((with_reducible refine (PW2.out _).mono ?_); rintro e W7 ⟨r7, rfl, hs7, hx7⟩; obtain ⟨rb, rm, rd, rfl⟩ := own_shape hs7)) | (go_at_call 223; first | ((with_reducible refine (SC1.out _ _ hs5.ints).mono ?_); rintro e W6 ⟨r6, rfl, hs6, hx6⟩; obtain ⟨rk, rl, ro, rfl⟩ := own_shape hs6) | ((with_reducible refine (SC2.out _ _ hs7.ints).mono ?_); rintro e W8 ⟨r8, rfl, hs8, hx8⟩; obtain ⟨rp, rq, rs, rfl⟩ := own_shape hs8)))
              have LB := Lib.hid (((hx5.trans (hx6.mono hx5.size)).trans (hx7.mono (hx5.trans (hx6.mono hx5.size)).size)).trans (hx8.mono ((hx5.trans (hx6.mono hx5.size)).trans (hx7.mono (hx5.trans (hx6.mono hx5.size)).size)).size))
              have HLF := Lib.hid ((hs6.ints.same hx7.block).same hx8.block)
              have HRT := Lib.hid hs8.ints
              have HQ8 := Lib.hid (HQ.out.step LB.out (fun _ _ => rfl))
              have HB8 := Lib.hid (HB4.out.trans (LB.out.mono HB4.out.size))
              have HD8 := Lib.hid (HOI.out.same HB8.out.block)
              have hsz8 := HB8.out.size
              clear hx5 hx6 hx7 hx8 hs5 hs6 hs7 hs8 hsq
              go_loopw [8, 12] (fun o j wn => ∃ (x : Nat) (us : List Value), x ≤ D.length ∧ j = .int .i64 x ∧ RefSS wn WK.heap.size wn.heap o us (oddP (prodQ D ((partsP (k + 1) P).take q) ++ (D.take x).map (fun p => pjoin p [singL m Q2, singL q P]))) ∧ Below W8.heap.size W8 wn) (fun _ j _ => D.length - (intOf j).toNat)
              case atStart => exact ⟨0, us4, Nat.zero_le _, rfl, by simpa using HQ8.out, Below.refl _ _⟩
              case round =>
                obtain ⟨x, us5, hx, rfl, hT, hb5⟩ := hrel
                obtain ⟨ta, tc, rfl, -⟩ := (hT.ints (fun _ _ => rfl)).len
                have HT := Lib.hid hT; have HB5 := Lib.hid hb5
                have HTI := Lib.hid (hT.ints (fun _ _ => rfl))
                by_cases hxl : x < D.length
                · obtain ⟨b5, o5, c5, u5, hv5, hc5, hu5, -⟩ := HD8.out.at x hxl
                  simp only [Value.slice.injEq, true_and] at hv5
                  obtain ⟨rfl, rfl⟩ := hv5
                  obtain ⟨p0, p1, hpe, hp0, hp1⟩ := HSM.out _ (List.getElem_mem hxl)
                  rw [hpe] at hu5
                  obtain ⟨g1, f1, d1, xa, xc, za, zc, rfl, k1, k2, hi1, hi2⟩ := hu5.two
                  have m0 := (hb5.cell (World.block_lt_of_cell? _ _ hc5)).trans hc5
                  have m1 := (hb5.cell (World.block_lt_of_cell? _ _ k1)).trans k1
                  have m2 := (hb5.cell (World.block_lt_of_cell? _ _ k2)).trans k2
                  have hsz5 := hb5.size
                  obtain ⟨l0, l1, hle, hl0, hl1⟩ := HQK.out
                  simp only [List.cons.injEq, and_true] at hle
                  obtain ⟨rfl, rfl⟩ := hle
                  have JN0 := Lib.hid (fun (W : World) (h : Below wr.heap.size wr W) => l06Join_c (.slice xa p0.length xc) (.slice rk rl ro) p0 (singL m Q2) W (hi1.same (hb5.trans (h.mono hsz5)).block) (HLF.out.same (hb5.trans (h.mono hsz5)).block) hp0.1 (fun z hz => by have := hl0.1 z hz; omega) hp0.2 (by have := hl0.2; omega))
                  have JN1 := Lib.hid (fun (W : World) (h : Below wr.heap.size wr W) => l06Join_c (.slice za p1.length zc) (.slice rp rq rs) p1 (singL q P) W (hi2.same (hb5.trans (h.mono hsz5)).block) (HRT.out.same (hb5.trans (h.mono hsz5)).block) hp1.1 (fun z hz => by have := hl1.1 z hz; omega) hp1.2 (by have := hl1.2; omega))
                  have HS5 : Hid (oddP (prodQ D ((partsP (k + 1) P).take q) ++ (D.take (x + 1)).map (fun p => pjoin p [singL m Q2, singL q P])) = putP [joinL p0 (singL m Q2), joinL p1 (singL q P)] (oddP (prodQ D ((partsP (k + 1) P).take q) ++ (D.take x).map (fun p => pjoin p [singL m Q2, singL q P])))) := by
                    show _ = _
                    rw [List.take_succ_eq_append_getElem hxl, hpe, List.map_append, ← List.append_assoc]
                    exact oddP_snoc _ _
                  have hpq : ∀ y ∈ oddP (prodQ D ((partsP (k + 1) P).take q) ++ (D.take x).map (fun p => pjoin p [singL m Q2, singL q P])), IsPr y := fun y hy => by
                    have hy2 := oddP_mem hy
                    refine HPQ.out y ?_
                    rcases List.mem_append.1 hy2 with h | h
                    · obtain ⟨z, hz, h⟩ := List.mem_flatMap.1 h
                      exact List.mem_flatMap.2 ⟨z, List.mem_of_mem_take hz, h⟩
                    · obtain ⟨z, hz, rfl⟩ := List.mem_map.1 h
                      have hm3 : [singL m Q2, singL q P] ∈ partsP (k + 1) P := HQM.out
                      exact List.mem_flatMap.2 ⟨_, hm3, List.mem_map.2 ⟨z, List.mem_of_mem_take hz, rfl⟩⟩
                  have hpm : IsPr [joinL p0 (singL m Q2), joinL p1 (singL q P)] := pjoin_pr (p := [p0, p1]) (q := [singL m Q2, singL q P]) ⟨_, _, rfl, hp0, hp1⟩ ⟨_, _, rfl, hl0, hl1⟩
                  have hll : (oddP (prodQ D ((partsP (k + 1) P).take q) ++ (D.take x).map (fun p => pjoin p [singL m Q2, singL q P]))).length < 4398046511104 := by
                    refine Nat.lt_of_le_of_lt (oddP_length _) ?_
                    rw [List.length_append, prodQ_length, List.length_map, List.length_take, List.length_take, partsP_length]
                    have h1 : D.length * min q (k + 1 + 1) ≤ 49766400 * 7 := Nat.mul_le_mul hlen (by omega)
                    omega
                  have TG := Lib.hid (fun (W : World) (vx : Value) (h : IntSSS W.heap (.slice ta (oddP (prodQ D ((partsP (k + 1) P).take q) ++ (D.take x).map (fun p => pjoin p [singL m Q2, singL q P]))).length tc) _) (hu : IntSS W.heap vx [joinL p0 (singL m Q2), joinL p1 (singL q P)]) => l06Toggle_c _ vx _ _ W h hu hpq hpm hll)
                  have hxi : (x : Int) < D.length := by omega
                  clear hT hb5 hc5 hu5 k1 k2 hi1 hi2 hp0 hp1 hpe hl0 hl1 hpq hpm hll
                  generalize oddP (prodQ D ((partsP (k + 1) P).take q) ++ (D.take x).map (fun p => pjoin p [singL m Q2, singL q P])) = R at *
                  go_wp2_with fail
                  go_region_held3 (fun W => W.cell? ⟨b5, o5 + x, none⟩ = some (.slice (some ⟨g1, f1, none⟩) 2 d1) ∧ W.cell? ⟨g1, f1, none⟩ = some (.slice xa p0.length xc) ∧ W.cell? ⟨g1, f1 + 1, none⟩ = some (.slice za p1.length zc) ∧ Below wr.heap.size wr W)
                    (first | exact ⟨m0, m1, m2, (Below.refl _ _).drew⟩ | exact heldC3U (by assumption) hx0 (Nat.le_refl _) | exact heldC3U (by assumption) hx1 (Nat.le_refl _) | exact heldC3U (by assumption) hx9 (Nat.le_refl _) | exact heldC3U (by assumption) ((Below.refl _ _).alloc (Nat.le_refl _) _) (Nat.le_refl _) | fail)
                    (first | (go_at_call 224; (with_reducible refine (JN0.out _ (heldC3Y (by assumption))).mono ?_); rintro e W2 ⟨r0, rfl, hs0, hx0⟩; obtain ⟨sa, sn, sc, rfl⟩ := own_shape hs0) | (go_at_call 224; (with_reducible refine (JN1.out _ (heldC3Y (by assumption))).mono ?_); rintro e W3 ⟨r1, rfl, hs1, hx1⟩; obtain ⟨sb, sm, sd, rfl⟩ := own_shape hs1) | (go_at_call 179; refine (TG.out _ _ (HTI.out.same (heldC3Y (by assumption)).block) (two_row (hs0.ints.same hx1.block) hs1.ints)).mono ?_; rintro e W9 ⟨r9, us9, rfl, hU9, hx9⟩; obtain ⟨ua, un, uc, rfl⟩ := own_shape hU9.row) | fail)
                  all_goals
                    rename_i hh
                    have HBN := Lib.hid (HB8.out.trans ((HB5.out.trans (heldC3Y hh |>.mono hsz5)).mono HB8.out.size))
                    have HB9 := Lib.hid (HB5.out.trans (heldC3Y hh |>.mono hsz5))
                    have HU9 := Lib.hid (hU9.base (B' := WK.heap.size) (by
                      have h1 := HB8.out.size; have h2 := HB5.out.size; have h3 := hx0.size; have h4 := hx1.size
                      simp at h3 ⊢; omega))
                    clear hh hU9 hx0 hx1 hx9 hs0 hs1 m0 m1 m2
                    go_wp2_with fail
                    go_roundw
                    case rel => exact ⟨x + 1, us9, by omega, by go_num, by rw [HS5.out]; exact HU9.out, HB9.out⟩
                    case measure => simp [intOf]; omega
                · obtain rfl : x = D.length := by omega
                  rw [List.take_length, ← HQT.out] at HT ⊢
                  have HBQ := Lib.hid (HB8.out.trans (hb5.mono HB8.out.size))
                  clear hT hb5
                  go_wp2_with fail
                  go_roundw
                  case rel => exact ⟨q + 1, us5, by omega, by go_num, HT.out, HBQ.out⟩
                  case measure => simp [intOf]; omega
            · obtain rfl : q = k + 2 := by omega
              rw [List.take_of_length_le (by rw [partsP_length]; omega), ← HFT.out] at HQ
              have HBQ := Lib.hid (HB2.out.trans (hb4.mono HB2.out.size))
              have u3 : decide (((k + 2 : Nat) : Int) ≤ (k : Int) + 1) = false := decide_eq_false (by omega)
              clear hQ hb4
              go_wp2_with fail
              go_roundw
              case rel => exact ⟨t + 1, us4, by omega, by go_num, HQ.out.base HBW.out.size, HBQ.out⟩
              case measure => simp [intOf]; omega
        · obtain rfl : t = (digP e 6).length := by omega
          rw [List.take_length, foldC_digP, ← HSU.out] at HO ⊢
          clear hO hb2
          go_wp2_with fail
          go_roundw
          case rel => exact ⟨k + 1, us2, by omega, by go_num, HO.out, HBW.out⟩
          case measure => simp [intOf]; omega
    · obtain rfl : k = r.length := by omega
      have u4 : decide ((r.length : Int) + 1 ≤ r.length) = false := decide_eq_false (by omega)
      clear hU hbl
      go_wp2_with fail
      go_ret
      exact ⟨_, us, rfl, HU.out, HBL.out⟩
end
section
open Go.RowKit Go.Sort

/-- All of it the call's own; no two rows of numbers share memory. qs: the rows' values. -/
structure OwnQ (w : World) (B : Nat) (v : Value) (us : List Value) (qs : List (List Value)) (xsss : List (List (List Int))) : Prop where
  row : w.ownsRow B 22 1 v xsss.length us
  qlen : qs.length = xsss.length
  each : ∀ (i : Nat) u q xss, us[i]? = some u → qs[i]? = some q → xsss[i]? = some xss → OwnU w B u q xss
  apart : ∀ (i j : Nat) q q', i < j → qs[i]? = some q → qs[j]? = some q' → ∀ u ∈ q, ∀ u' ∈ q', u.ownBlock = none ∨ u.ownBlock ≠ u'.ownBlock
theorem OwnQ.len {w : World} {B : Nat} {v : Value} {us : List Value} {qs : List (List Value)} {xsss : List (List (List Int))} (a : OwnQ w B v us qs xsss) : us.length = xsss.length := by simpa using a.row.1
theorem OwnQ.ints {w : World} {B : Nat} {v : Value} {us : List Value} {qs : List (List Value)} {xsss : List (List (List Int))} (a : OwnQ w B v us qs xsss) : IntSSS w.heap v xsss :=
  ⟨us, slAt_of_own a.row, a.len, fun i u xss hu hx => by
    have hi : i < xsss.length := (List.getElem?_eq_some_iff.1 hx).1
    exact (a.each i u _ xss hu (List.getElem?_eq_getElem (show i < qs.length by rw [a.qlen]; exact hi)) hx).ints⟩
theorem OwnQ.same {w w' : World} {B : Nat} {v : Value} {us : List Value} {qs : List (List Value)} {xsss : List (List (List Int))} (a : OwnQ w B v us qs xsss) (k : ∀ b, b < w.heap.size → w'.heap[b]? = w.heap[b]?) : OwnQ w' B v us qs xsss :=
  ⟨own_same a.row k, a.qlen, fun i u q xss hu hq hx => (a.each i u q xss hu hq hx).same k, a.apart⟩
theorem OwnQ.base {w : World} {B B' : Nat} {v : Value} {us : List Value} {qs : List (List Value)} {xsss : List (List (List Int))} (a : OwnQ w B v us qs xsss) (k : B' ≤ B) : OwnQ w B' v us qs xsss :=
  ⟨own_base a.row k, a.qlen, fun i u q xss hu hq hx => by
    have h := a.each i u q xss hu hq hx
    exact ⟨own_base h.row k, fun i u xs hu hx => own_base (h.each i u xs hu hx) k, h.apart⟩, a.apart⟩
theorem OwnQ.nil (w : World) (B : Nat) : OwnQ w B (.slice none 0 0) [] [] [] := ⟨World.ownsRow_nil _ _ _ _, rfl, fun i u q xss hu => by simp at hu, fun i j q q' _ hq => by simp at hq⟩
theorem ownQ_empty {w : World} {B : Nat} (hB : B ≤ w.heap.size) : OwnQ (w.alloc (.cells #[] 22)) B (.slice (some ⟨w.heap.size, 0, none⟩) 0 0) [] [] [] :=
  ⟨World.ownsRow_made w #[] 0 hB (Nat.zero_le _) rfl, rfl, fun i u q xss hu => by simp at hu, fun i j q q' _ hq => by simp at hq⟩
/-- The blocks of all of it. -/
theorem OwnU.mem {w : World} {B : Nat} {v u : Value} {us : List Value} {xss : List (List Int)} (h : OwnU w B v us xss) (hu : u ∈ us) : ∃ xs, OwnI w B u xs := by
  obtain ⟨i, hi, rfl⟩ := List.getElem_of_mem hu
  have hl := h.len
  exact ⟨_, h.each i _ _ (List.getElem?_eq_getElem hi) (List.getElem?_eq_getElem (show i < xss.length by omega))⟩
theorem OwnU.mem_lt {w : World} {B : Nat} {v u : Value} {us : List Value} {xss : List (List Int)} (h : OwnU w B v us xss) (hu : u ∈ us) (b : Nat) (hb : u.ownBlock = some b) : B ≤ b ∧ b < w.heap.size := by
  obtain ⟨xs, ho⟩ := h.mem hu
  exact World.ownsRow.lt ho b hb
theorem OwnU.kept {w w' : World} {B : Nat} {v : Value} {us : List Value} {xss : List (List Int)} (h : OwnU w B v us xss) (k1 : ∀ b, v.ownBlock = some b → w'.heap[b]? = w.heap[b]?) (k2 : ∀ u ∈ us, ∀ b, u.ownBlock = some b → w'.heap[b]? = w.heap[b]?) : OwnU w' B v us xss :=
  ⟨own_kept h.row k1, fun i u xs hu hx => own_kept (h.each i u xs hu hx) (k2 u (List.mem_of_getElem? hu)), h.apart⟩
theorem OwnQ.append {wE W w' : World} {B : Nat} {v v' u : Value} {us q : List Value} {qs : List (List Value)} {xsss : List (List (List Int))} {xss : List (List Int)} (h : OwnQ wE B v us qs xsss) (hE : Below wE.heap.size wE W) (hB : B ≤ wE.heap.size) (hu : OwnU W wE.heap.size u q xss)
    (hrow : w'.ownsRow B 22 1 v' (xsss.length + 1) (us ++ [u])) (hk : ∀ b, b < W.heap.size → some b ≠ v.ownBlock → w'.heap[b]? = W.heap[b]?) : OwnQ w' B v' (us ++ [u]) (qs ++ [q]) (xsss ++ [xss]) := by
  have hW := h.same hE.block
  have hl := h.len
  have hql := h.qlen
  have kt := KeepT.grown hW.row hk
  refine ⟨by simpa using hrow, by simp [hql], fun i x y ys hx hy hz => ?_, fun i j y y' hij hy hy' x hx x' hx' => ?_⟩
  · by_cases hi : i < us.length
    · rw [List.getElem?_append_left hi] at hx
      rw [List.getElem?_append_left (by omega)] at hy hz
      exact (hW.each i x y ys hx hy hz).keepT (by decide) (by decide) kt
    · rw [List.getElem?_append_right (by omega)] at hx hy hz
      rw [show i - qs.length = i - us.length by omega] at hy
      rw [show i - xsss.length = i - us.length by omega] at hz
      obtain ⟨m, hm⟩ : ∃ m, i - us.length = m := ⟨_, rfl⟩
      rw [hm] at hx hy hz
      match m, hx, hy, hz with
      | 0, hx, hy, hz =>
        simp at hx hy hz
        subst hx; subst hy; subst hz
        have hu' : OwnU W B u q xss := ⟨own_base hu.row hB, fun i u xs hu' hx => own_base (hu.each i u xs hu' hx) hB, hu.apart⟩
        exact hu'.keepT (by decide) (by decide) kt
  · by_cases hj : j < qs.length
    · rw [List.getElem?_append_left hj] at hy'
      rw [List.getElem?_append_left (by omega)] at hy
      exact h.apart i j y y' hij hy hy' x hx x' hx'
    · rw [List.getElem?_append_right (by omega)] at hy'
      obtain ⟨m, hm⟩ : ∃ m, j - qs.length = m := ⟨_, rfl⟩
      rw [hm] at hy'
      match m, hy', hm with
      | 0, hy', hm =>
        simp at hy'
        subst hy'
        rw [List.getElem?_append_left (by omega)] at hy
        have hi : i < qs.length := by omega
        have ho := h.each i _ y _ (List.getElem?_eq_getElem (show i < us.length by omega)) hy (List.getElem?_eq_getElem (show i < xsss.length by omega))
        cases hb : x.ownBlock with
        | none => exact .inl rfl
        | some b =>
          right
          intro e
          have h1 := (ho.mem_lt hx b hb).2
          have h2 := (hu.mem_lt hx' b e.symm).1
          omega
/-- One element's numbers have been written. -/
theorem OwnQ.set {w w' : World} {B : Nat} {v u : Value} {us q : List Value} {qs : List (List Value)} {xsss : List (List (List Int))} {yss : List (List Int)} {j : Nat} (h : OwnQ w B v us qs xsss) (hj : us[j]? = some u) (hq : qs[j]? = some q)
    (hg : ∀ b, b < w.heap.size → (∀ x, x ∈ q → x.ownBlock ≠ some b) → w'.heap[b]? = w.heap[b]?) (ho : OwnU w' B u q yss) : OwnQ w' B v us qs (xsss.set j yss) := by
  have hl := h.len
  have hql := h.qlen
  have hjl : j < us.length := (List.getElem?_eq_some_iff.1 hj).1
  have hJ := h.each j u q _ hj hq (List.getElem?_eq_getElem (show j < xsss.length by omega))
  refine ⟨?_, by simpa using hql, fun i x y xss hx hy hz => ?_, h.apart⟩
  · rw [List.length_set]
    refine own_kept h.row fun b hb => hg b (World.ownsRow.lt h.row b hb).2 fun x hx e => ?_
    obtain ⟨xs, hxo⟩ := hJ.mem hx
    rcases own_ne_types hxo h.row (by decide) with e1 | e1
    · rw [e1] at e; cases e
    · exact e1 (e.trans hb.symm)
  · rw [List.getElem?_set] at hz
    by_cases e : j = i
    · subst e
      rw [if_pos rfl, if_pos (by omega)] at hz
      rw [hj] at hx; rw [hq] at hy
      cases hz; cases hx; cases hy
      exact ho
    · rw [if_neg e] at hz
      have hI := h.each i x y xss hx hy hz
      refine hI.kept (fun b hb => hg b (World.ownsRow.lt hI.row b hb).2 fun z hzq e1 => ?_) (fun z hzy b hb => hg b (hI.mem_lt hzy b hb).2 fun z' hzq e1 => ?_)
      · obtain ⟨xs, hxo⟩ := hJ.mem hzq
        rcases own_ne_types hxo hI.row (by decide) with e2 | e2
        · rw [e2] at e1; cases e1
        · exact e2 (e1.trans hb.symm)
      · rcases Nat.lt_or_ge i j with hij | hij
        · rcases h.apart i j y q hij hy hq z hzy z' hzq with e2 | e2
          · rw [e2] at hb; cases hb
          · exact e2 (hb.trans e1.symm)
        · rcases h.apart j i q y (by omega) hq hy z' hzq z hzy with e2 | e2
          · rw [e2] at e1; cases e1
          · exact e2 (e1.trans hb.symm)
theorem OwnQ.far {w w' : World} {B : Nat} {v : Value} {us : List Value} {qs : List (List Value)} {xsss : List (List (List Int))} (a : OwnQ w B v us qs xsss) (k : ∀ b, B ≤ b → b < w.heap.size → w'.heap[b]? = w.heap[b]?) : OwnQ w' B v us qs xsss :=
  ⟨own_far a.row k, a.qlen, fun i u q xss hu hq hx => (a.each i u q xss hu hq hx).kept (fun b hb => k b (World.ownsRow.lt (a.each i u q xss hu hq hx).row b hb).1 (World.ownsRow.lt (a.each i u q xss hu hq hx).row b hb).2) (fun _ hx2 b hb => k b ((a.each i u q xss hu hq hx).mem_lt hx2 b hb).1 ((a.each i u q xss hu hq hx).mem_lt hx2 b hb).2), a.apart⟩
theorem OwnQ.range {w : World} {B : Nat} {v : Value} {us : List Value} {qs : List (List Value)} {xsss : List (List (List Int))} (a : OwnQ w B v us qs xsss) : ∀ q ∈ qs, ∀ u ∈ q, ∀ b, u.ownBlock = some b → B ≤ b ∧ b < w.heap.size := fun q hq u hu b hb => by
  obtain ⟨i, hi, rfl⟩ := List.getElem_of_mem hq
  have hl := a.len
  have hql := a.qlen
  exact (a.each i _ _ _ (List.getElem?_eq_getElem (show i < us.length by omega)) (List.getElem?_eq_getElem hi) (List.getElem?_eq_getElem (show i < xsss.length by omega))).mem_lt hu b hb
section
variable {ops : Array Oper} {rest : List Oper} {o : Oper} {a : Act} {Q : Exit → Act → World → Prop}
/-- 'append(out, x)', all of it the call's own, x made since the world wE. -/
theorem append_ownQ {w w0 wE : World} (hg : o.guard = none) (s x : Operand)
    (ho : o.op = .call { callee := .builtin .append, args := #[s, x], argTypes := #[42, 42] })
    (B : Nat) (v u : Value) (us q : List Value) (qs : List (List Value)) (xsss : List (List (List Int))) (xss : List (List Int)) (hR : OwnQ wE B v us qs xsss) (hs : a.eval s = v) (hu : OwnU w wE.heap.size u q xss) (hE : Below wE.heap.size wE w) (hbl : Below B w0 wE) (hB : B ≤ wE.heap.size)
    (b : Nat) (hx : a.eval x = .slice (some ⟨b, 0, none⟩) 1 1) (hb : b = w.heap.size) (hn : xsss.length ≤ 4398046511104)
    (hK : ∀ v' us' w', OwnQ w' B v' us' (qs ++ [q]) (xsss ++ [xss]) → Below B w0 w' → w.heap.size ≤ w'.heap.size → wpList Tryz.prog ops Q rest (a.put o.dst v') w') :
    wpList Tryz.prog ops Q (o :: rest) a (w.alloc (.cells #[u] 22)) := by
  obtain ⟨i0, hi, hz0, hz1, hz2⟩ := info_parts info_slSS
  have hW := hR.same hE.block
  refine append_one hg s x _ ho B _ i0 _ 24 Tryz.underlying42 hi hz0 hz1 hz2 rfl (by omega) v _ us u hW.row hs (hbl.trans (hE.mono hB)) (Nat.le_trans hB hE.size) b hx hb (intSS_oneCell hu.ints) hn ?_
  intro v' w' h1 h2 h3 h4
  exact hK v' _ w' (hR.append hE hB hu h1 h4) h2 h3
end
/-- How many numbers there are. -/
def cntQ (xsss : List (List (List Int))) : Nat := (xsss.map cnt).sum
theorem cntQ_cons (xs : List (List Int)) (xss : List (List (List Int))) : cntQ (xs :: xss) = cnt xs + cntQ xss := by simp [cntQ]
theorem cntQ_append (a b : List (List (List Int))) : cntQ (a ++ b) = cntQ a + cntQ b := by simp [cntQ]
theorem cntQ_take_succ (xss : List (List (List Int))) (j : Nat) (h : j < xss.length) : cntQ (xss.take (j + 1)) = cntQ (xss.take j) + cnt xss[j] := by
  rw [List.take_succ_eq_append_getElem h, cntQ_append, cntQ_cons]; simp [cntQ]
theorem cntQ_take_le (xss : List (List (List Int))) (j : Nat) : cntQ (xss.take j) ≤ cntQ xss := by
  have h := cntQ_append (xss.take j) (xss.drop j)
  rw [List.take_append_drop] at h
  omega
def marksQ (k : Int) : List (List (List Int)) → List (List (List Int))
  | [] => []
  | xs :: r => marksS k xs :: marksQ (k + cnt xs) r
theorem marksQ_length (k : Int) (xss : List (List (List Int))) : (marksQ k xss).length = xss.length := by
  induction xss generalizing k with
  | nil => rfl
  | cons x r ih => simp [marksQ, ih]
theorem marksQ_at (xss : List (List (List Int))) : ∀ (k : Int) (j : Nat) (h : j < xss.length), (marksQ k xss)[j]? = some (marksS (k + cntQ (xss.take j)) xss[j]) := by
  induction xss with
  | nil => intro k j h; simp at h
  | cons x r ih =>
    intro k j h
    cases j with
    | zero => simp [marksQ, cntQ]
    | succ j =>
      simp only [marksQ, List.getElem?_cons_succ, List.take_succ_cons, List.getElem_cons_succ]
      rw [ih _ j (by simpa using h), cntQ_cons]
      simp only [Int.natCast_add, Int.add_assoc]
def markedQ (k : Int) (xss : List (List (List Int))) (j : Nat) : List (List (List Int)) := (marksQ k xss).take j ++ xss.drop j
theorem markedQ_length (k : Int) (xss : List (List (List Int))) (j : Nat) : (markedQ k xss j).length = xss.length := by
  simp [markedQ, marksQ_length]; omega
theorem markedQ_at (k : Int) (xss : List (List (List Int))) (j i : Nat) (hi : i < xss.length) : (markedQ k xss j)[i]? = if i < j then (marksQ k xss)[i]? else xss[i]? := by
  unfold markedQ
  by_cases h : i < j
  · rw [if_pos h, List.getElem?_append_left (by simp [marksQ_length]; omega), List.getElem?_take, if_pos h]
  · rw [if_neg h, List.getElem?_append_right (by simp; omega)]
    simp only [List.length_take, marksQ_length, List.getElem?_drop]
    by_cases hj : j ≤ xss.length
    · rw [Nat.min_eq_left hj, Nat.add_sub_cancel' (by omega)]
    · omega
theorem markedQ_set (k : Int) (xss : List (List (List Int))) (j : Nat) (h : j < xss.length) : (markedQ k xss j).set j (marksS (k + cntQ (xss.take j)) xss[j]) = markedQ k xss (j + 1) := by
  apply List.ext_getElem?
  intro i
  rw [List.getElem?_set]
  by_cases hi : i < xss.length
  · rw [markedQ_at _ _ _ _ hi, markedQ_at _ _ _ _ hi]
    by_cases e : j = i
    · subst e
      rw [if_pos rfl, markedQ_length, if_pos h, if_pos (by omega), marksQ_at _ _ _ h]
    · rw [if_neg e]
      by_cases h2 : i < j
      · rw [if_pos h2, if_pos (by omega)]
      · rw [if_neg h2, if_neg (by omega)]
  · rw [if_neg (by omega), List.getElem?_eq_none (by rw [markedQ_length]; omega), List.getElem?_eq_none (by rw [markedQ_length]; omega)]
theorem markedQ_all (k : Int) (xss : List (List (List Int))) : markedQ k xss xss.length = marksQ k xss := by
  rw [markedQ, List.drop_length, List.append_nil, ← marksQ_length k xss, List.take_length]
end
section
open Go.RowKit Go.Sort

set_option maxRecDepth 100000 in
theorem copyPairs_c (v : Value) (L : List (List (List Int))) (w : World) (h : IntSSS w.heap v L) (hl : L.length ≤ 4398046511104) (hr : ∀ p ∈ L, p.length ≤ 4398046511104 ∧ ∀ x ∈ p, x.length ≤ 4398046511104) :
    Calls Tryz.prog 113 #[v] w fun e w' => ∃ r us qs, e = .returned r ∧ OwnQ w' w.heap.size r us qs L ∧ Below w.heap.size w w' := by
  obtain ⟨ao, c, rfl, hm⟩ := h.len
  have H := Lib.hid h; have HR := Lib.hid hr; clear h hr
  go_enter Tryz.func113, Tryz.ntmps113
  go_wp2_with fail
  go_loopw [3, 9] (fun o i wr => ∃ (k : Nat) (us : List Value) (qs : List (List Value)), k ≤ L.length ∧ i = .int .i64 k ∧ OwnQ wr w.heap.size o us qs (L.take k) ∧ Below w.heap.size w wr) (fun _ i _ => L.length - (intOf i).toNat)
  case atStart => exact ⟨0, [], [], Nat.zero_le _, rfl, ownQ_empty (Nat.le_refl _), (Below.refl _ _).alloc (Nat.le_refl _) _⟩
  case round =>
    obtain ⟨k, us, qs, hk, rfl, hU, hbl⟩ := hrel
    obtain ⟨va, vn, vc, rfl⟩ := own_shape hU.row
    have HU := Lib.hid hU; have HB := Lib.hid hbl; have hsz := hbl.size
    by_cases hlt : k < L.length
    · obtain ⟨b1, o1, c1, u, hv1, hc1, hu, -⟩ := H.out.at k hlt
      simp only [Value.slice.injEq, true_and] at hv1
      obtain ⟨rfl, rfl⟩ := hv1
      have hc := (hbl.cell (World.block_lt_of_cell? _ _ hc1)).trans hc1
      clear hc1
      have HV := Lib.hid (hu.same hbl.block)
      have HRL := Lib.hid (HR.out _ (List.getElem_mem hlt))
      have HS := Lib.hid (List.take_succ_eq_append_getElem hlt)
      obtain ⟨ua, uc, rfl, -⟩ := hu.len
      have HLN : Hid ((L.take k).length ≤ 4398046511104) := by show _ ≤ _; rw [List.length_take]; omega
      clear hu hU hbl
      generalize L[k] = x at *
      go_wp2_with (first | (go_at_call 194; refine (copyLists_c _ _ _ (by exact HV.out) HRL.out.1 HRL.out.2).mono ?_; rintro e w2 ⟨rv, u2, rfl, hR2, hb2⟩; obtain ⟨ra, rn, rc, rfl⟩ := own_shape hR2.row) | (at_builtin; refine append_ownQ rfl _ _ rfl w.heap.size _ _ us u2 qs _ _ HU.out rfl hR2 hb2 HB.out hsz _ rfl rfl HLN.out ?_; intro v3 us3 w3 hU3 hb3 _; obtain ⟨sa, sn, sc, rfl⟩ := own_shape hU3.row))
      go_roundw
      case rel => exact ⟨k + 1, _, _, by omega, by go_num, by rw [HS.out]; exact hU3, hb3⟩
      case measure => simp [intOf]; omega
    · obtain rfl : k = L.length := by omega
      rw [List.take_length] at HU
      go_wp2_with fail
      go_ret
      exact ⟨_, _, _, rfl, HU.out, HB.out⟩
end
section
open Go.RowKit Go.Sort

end
section
open Go.RowKit Go.Sort

def dcpC (xss : List (List Int)) : Int := if arT xss then 0 else 1
def dcpR (xss : List (List Int)) : List (List (List Int)) := if arT xss then oddP (copsL xss) else []
theorem arT_504 {xss : List (List Int)} (hT : arT xss = true) : xss.length ≤ 504 := expD_length (d := degT xss) (arT_asc hT) (arT_expD hT) (degT_in hT).2
theorem cntQ_le {l : List (List (List Int))} {k : Nat} (h : ∀ r ∈ l, cnt r ≤ k) : cntQ l ≤ l.length * k := by
  induction l with
  | nil => simp [cntQ]
  | cons x l ih =>
    rw [cntQ_cons, List.length_cons, Nat.add_mul]
    have h1 := h x (List.mem_cons_self ..)
    have h2 := ih fun y hy => h y (List.mem_cons_of_mem _ hy)
    omega
theorem prS_cnt {b : Int} {l : Nat} {q : List (List Int)} (h : PrS b l q) : cnt q ≤ 2 * l := by
  obtain ⟨x, y, rfl, h1, h2⟩ := h
  simp [cnt]
  omega
theorem dcpR_len (xss : List (List Int)) : (dcpR xss).length ≤ 504 * 49766400 := by
  unfold dcpR
  cases hT : arT xss
  · simp
  · have h1 := copsL_len hT xss.length (arT_504 hT)
    rw [List.take_length] at h1
    have h2 := oddP_length (copsL xss)
    simp only [if_true]
    omega
theorem dcpR_pr (xss : List (List Int)) : ∀ q ∈ dcpR xss, PrS 1000000 6 q := by
  unfold dcpR
  cases hT : arT xss
  · simp
  · simp only [if_true]
    exact fun q hq => copsL_ok hT q (oddP_mem hq)
theorem dcpR_cnt (xss : List (List Int)) : 1 + (cntQ (dcpR xss) : Int) ≤ 4611686018427387904 := by
  have h1 := cntQ_le (k := 12) fun q hq => prS_cnt (dcpR_pr xss q hq)
  have h2 := dcpR_len xss
  omega
set_option maxRecDepth 100000 in
theorem specDualCoproduct_c (v : Value) (xss : List (List Int)) (w : World) (h : IntSS w.heap v xss) :
    Calls Tryz.prog 23 #[.agg #[v]] w fun e w' => ∃ r, e = .returned (.tuple #[r, .int .i64 (dcpC xss)]) ∧ IntSSS w'.heap r (dcpR xss) ∧ Below w.heap.size w w' := by
  have hb : Below w.heap.size w (w.alloc (.cells #[v] 28)) := (Below.refl _ _).alloc (Nat.le_refl _) _
  have k0 := Cell1.new w v 28
  have C := Lib.hid (l06Is_c v xss _ (h.same hb.block))
  obtain ⟨ao, c, rfl, hm⟩ := h.len
  have H := Lib.hid (h.same hb.block); clear h
  have q0 := k0.c0
  have HB0 := Lib.hid hb; have K0 := Lib.hid k0
  clear hb k0
  cases hT : arT xss
  · have e1 : dcpC xss = 1 := by simp [dcpC, hT]
    have e2 : dcpR xss = [] := by simp [dcpR, hT]
    rw [e1, e2]
    rw [hT] at C
    clear e1 e2 hT
    go_enter Tryz.func23, Tryz.ntmps23
    go_wp2_with (go_at_call 98; refine C.out.mono ?_; rintro e w1 ⟨rfl, hb1⟩; have HB1 := Lib.hid (HB0.out.trans (hb1.mono HB0.out.size)); clear hb1)
    go_ret2
    exact ⟨_, rfl, ⟨[], .inl ⟨rfl, rfl⟩, rfl, fun i u xss hu => by simp at hu⟩, HB1.out⟩
  · have e1 : dcpC xss = 0 := by simp [dcpC, hT]
    have e2 : dcpR xss = oddP (copsL xss) := by simp [dcpR, hT]
    rw [e1, e2]
    rw [hT] at C
    have CO := Lib.hid (fun (W : World) (h : IntSS W.heap (.slice ao xss.length c) xss) => l06Coproduct_of l06Split_c _ xss W h hT (arT_504 hT))
    clear e1 e2 hT
    generalize oddP (copsL xss) = rx at *
    go_enter Tryz.func23, Tryz.ntmps23
    go_wp2_with (first | (go_at_call 98; refine C.out.mono ?_; rintro e w1 ⟨rfl, hb1⟩; have HB1 := Lib.hid (HB0.out.trans (hb1.mono HB0.out.size)); have q1 := (K0.out.kept hb1.block).c0; have H1 := Lib.hid (H.out.same hb1.block); clear hb1) | (go_at_call 99; refine (CO.out _ H1.out).mono ?_; rintro e w2 ⟨r2, us2, rfl, hU2, hb2⟩; obtain ⟨sa, sn, sc, rfl⟩ := own_shape hU2.row))
    go_ret2
    exact ⟨_, rfl, hU2.ints (fun _ _ => rfl), HB1.out.trans (hb2.mono HB1.out.size)⟩
set_option maxRecDepth 100000 in
theorem implDualCoproduct_c (v : Value) (xss : List (List Int)) (w : World) (h : IntSS w.heap v xss) :
    Calls Tryz.prog 22 #[.agg #[v]] w fun e w' => ∃ r us qs, e = .returned (.tuple #[r, .int .i64 (dcpC xss)]) ∧ OwnQ w' w.heap.size r us qs (dcpR xss) ∧ Below w.heap.size w w' := by
  have hb : Below w.heap.size w (w.alloc (.cells #[v] 28)) := (Below.refl _ _).alloc (Nat.le_refl _) _
  have k0 := Cell1.new w v 28
  have C := Lib.hid (isDual_c v xss _ (h.same hb.block))
  obtain ⟨ao, c, rfl, hm⟩ := h.len
  have H := Lib.hid (h.same hb.block); clear h
  have q0 := k0.c0
  have HB0 := Lib.hid hb; have K0 := Lib.hid k0
  clear hb k0
  have hrl := dcpR_len xss
  have HRP := Lib.hid (dcpR_pr xss)
  cases hT : arT xss
  · have e1 : dcpC xss = 1 := by simp [dcpC, hT]
    have e2 : dcpR xss = [] := by simp [dcpR, hT]
    rw [e1, e2]
    rw [hT] at C
    clear e1 e2 hT hrl HRP
    go_enter Tryz.func22, Tryz.ntmps22
    go_wp2_with (go_at_call 104; refine C.out.mono ?_; rintro e w1 ⟨rfl, hb1⟩; have HB1 := Lib.hid (HB0.out.trans (hb1.mono HB0.out.size)); clear hb1)
    go_ret2
    exact ⟨_, [], [], rfl, OwnQ.nil _ _, HB1.out⟩
  · have e1 : dcpC xss = 0 := by simp [dcpC, hT]
    have e2 : dcpR xss = oddP (copsL xss) := by simp [dcpR, hT]
    rw [e1]
    rw [hT] at C
    rw [e2] at hrl HRP ⊢
    have CO := Lib.hid (fun (W : World) (h : IntSS W.heap (.slice ao xss.length c) xss) => coproducts_c _ xss W h hT (arT_504 hT))
    clear e1 e2 hT
    generalize oddP (copsL xss) = rx at *
    have CP := Lib.hid (fun (v : Value) (W : World) (h : IntSSS W.heap v rx) => copyPairs_c v rx W h (by omega) (fun p hp => by
      obtain ⟨x, y, rfl, ⟨h1, h2⟩, h3, h4⟩ := HRP.out p hp
      refine ⟨by simp, fun z hz => ?_⟩
      simp at hz
      rcases hz with rfl | rfl <;> omega))
    clear hrl HRP
    go_enter Tryz.func22, Tryz.ntmps22
    go_wp2_with (first | (go_at_call 104; refine C.out.mono ?_; rintro e w1 ⟨rfl, hb1⟩; have HB1 := Lib.hid (HB0.out.trans (hb1.mono HB0.out.size)); have q1 := (K0.out.kept hb1.block).c0; have H1 := Lib.hid (H.out.same hb1.block); clear hb1) | (go_at_call 105; refine (CO.out _ H1.out).mono ?_; rintro e w2 ⟨r2, us2, rfl, hU2, hb2⟩; obtain ⟨sa, sn, sc, rfl⟩ := own_shape hU2.row) | (go_at_call 113; refine (CP.out _ _ (hU2.ints (fun _ _ => rfl))).mono ?_; rintro e w3 ⟨r3, us3, qs3, rfl, hU3, hb3⟩; obtain ⟨ta, tn, tc, rfl⟩ := own_shape hU3.row))
    go_ret2
    exact ⟨_, us3, qs3, rfl, hU3.base (Nat.le_trans HB1.out.size hb2.size), (HB1.out.trans (hb2.mono HB1.out.size)).trans (hb3.mono (Nat.le_trans HB1.out.size hb2.size))⟩
end
section
open Go.RowKit Go.Sort

theorem degA_zeros (e : Int) : ∀ (k i : Nat), degA i (List.replicate k 0 ++ [e]) = e * (2 ^ (i + k + 1) - 1) := by
  intro k
  induction k with
  | zero => intro i; simp [degA]
  | succ k ih =>
    intro i
    rw [List.replicate_succ, List.cons_append, degA, ih (i + 1), Int.zero_mul, Int.zero_add, show i + 1 + k + 1 = i + (k + 1) + 1 by omega]
theorem deg_singL (n : Nat) (e : Int) : deg (singL n e) = e * (2 ^ n - 1) := by
  unfold singL deg
  by_cases h : n = 0
  · subst h; simp [degA]
  · rw [if_neg h, degA_zeros, show 0 + (n - 1) + 1 = n by omega]
theorem singL_exp (n : Nat) (e : Int) (hn : n ≤ 10) (he : 1 ≤ e) (hd : e * (2 ^ n - 1) ≤ 40) : isExp (singL n e) = true := by
  refine isExp_of (fun x hx => ?_) (by rw [singL_length]; exact hn) (by rw [deg_singL]; exact hd) ?_
  · unfold singL at hx
    split at hx
    · cases hx
    · rcases List.mem_append.1 hx with h | h
      · have := List.eq_of_mem_replicate h; omega
      · rw [List.mem_singleton] at h; omega
  · refine lastOk_of fun h0 => ?_
    unfold singL at h0 ⊢
    by_cases h : n = 0
    · subst h; simp at h0
    · rw [if_neg h, List.length_append, List.length_replicate, List.length_singleton, List.getD_eq_getElem?_getD, List.getElem?_append_right (by simp)]
      simp; omega
/-- A pair of exponent lists whose degrees add up to d. -/
def PairD (d : Int) (q : List (List Int)) : Prop := ∃ x y p s, q = [x, y] ∧ (isExp x = true ∧ deg x = p) ∧ (isExp y = true ∧ deg y = s) ∧ 0 ≤ p ∧ 0 ≤ s ∧ p + s = d
theorem PairD.join {d e : Int} {p q : List (List Int)} (hp : PairD d p) (hq : PairD e q) (h : d + e ≤ 40) : PairD (d + e) (pjoin p q) := by
  obtain ⟨x, y, a, b, rfl, hx, hy, ha, hb, rfl⟩ := hp
  obtain ⟨z, t, a2, b2, rfl, hz, ht, ha2, hb2, rfl⟩ := hq
  exact ⟨_, _, a + a2, b + b2, rfl, exp_join hx hz (by omega) ha ha2, exp_join hy ht (by omega) hb hb2, by omega, by omega, by omega⟩
theorem pow_split (i m : Nat) : (2 : Int) ^ i * 2 ^ m = 2 ^ (i + m) := by rw [Int.pow_add]
theorem partsP_deg (n : Nat) (hn : n ≤ 6) (j : Nat) (hd : (2 : Int) ^ j * (2 ^ n - 1) ≤ 40) : ∀ q ∈ partsP n ((2 : Int) ^ j), PairD ((2 : Int) ^ j * (2 ^ n - 1)) q := by
  intro q hq
  obtain ⟨i, hi, rfl⟩ := List.mem_map.1 hq
  rw [List.mem_range] at hi
  obtain ⟨m, rfl⟩ : ∃ m, n = i + m := ⟨n - i, by omega⟩
  rw [show i + m - i = m by omega]
  have hP : (1 : Int) ≤ 2 ^ j := Int.pow_pos (by omega)
  have hI : (1 : Int) ≤ 2 ^ i := Int.pow_pos (by omega)
  have hM : (1 : Int) ≤ 2 ^ m := Int.pow_pos (by omega)
  have e1 : (2 : Int) ^ j * 2 ^ i * (2 ^ m - 1) = 2 ^ j * (2 ^ i * 2 ^ m) - 2 ^ j * 2 ^ i := by rw [Int.mul_sub, Int.mul_assoc, Int.mul_one]
  have e2 : (2 : Int) ^ j * (2 ^ i - 1) = 2 ^ j * 2 ^ i - 2 ^ j := by rw [Int.mul_sub, Int.mul_one]
  have e3 : (2 : Int) ^ j * (2 ^ (i + m) - 1) = 2 ^ j * (2 ^ i * 2 ^ m) - 2 ^ j := by rw [pow_split, Int.mul_sub, Int.mul_one]
  have n1 : 0 ≤ (2 : Int) ^ j * 2 ^ i * (2 ^ m - 1) := Int.mul_nonneg (Int.mul_nonneg (by omega) (by omega)) (by omega)
  have n2 : 0 ≤ (2 : Int) ^ j * (2 ^ i - 1) := Int.mul_nonneg (by omega) (by omega)
  have n3 : 1 ≤ (2 : Int) ^ j * 2 ^ i := Int.mul_pos (by omega) (by omega)
  exact ⟨_, _, (2 : Int) ^ j * 2 ^ i * (2 ^ m - 1), (2 : Int) ^ j * (2 ^ i - 1), rfl, ⟨singL_exp m _ (by omega) n3 (by omega), deg_singL _ _⟩, ⟨singL_exp i _ (by omega) hP (by omega), deg_singL _ _⟩, n1, n2, by omega⟩
theorem digC_deg {n e : Nat} {d : Int} {out : List (List (List Int))} (hn : n ≤ 6) (ho : ∀ q ∈ out, PairD d q) (hd : 0 ≤ d) (h : d + (2 ^ n - 1) * (e : Int) ≤ 40) : ∀ j : Nat, ∀ q ∈ digC n e out j, PairD (d + (2 ^ n - 1) * ((e % 2 ^ j : Nat) : Int)) q := by
  have hp : (0 : Int) ≤ 2 ^ n - 1 := by have : (1 : Int) ≤ 2 ^ n := Int.pow_pos (by omega); omega
  have hle : ∀ j : Nat, (2 ^ n - 1) * ((e % 2 ^ j : Nat) : Int) ≤ (2 ^ n - 1) * (e : Int) := fun j => Int.mul_le_mul_of_nonneg_left (by have := Nat.mod_le e (2 ^ j); omega) hp
  intro j
  induction j with
  | zero => intro q hq; rw [digC] at hq; simpa [Nat.mod_one] using ho q hq
  | succ j ih =>
    intro q hq
    have hs := mod_succ e j
    rw [digC] at hq
    have hl := hle (j + 1)
    cases hb : e.testBit j
    · rw [hb] at hq hs
      simp only [Bool.false_eq_true, if_false, Nat.add_zero] at hq hs
      rw [hs]; exact ih q hq
    · rw [hb] at hq hs
      simp only [if_true] at hq hs
      have e0 : ((2 ^ j : Nat) : Int) = (2 : Int) ^ j := by rw [Int.natCast_pow]; rfl
      have e1 : (2 ^ n - 1) * ((e % 2 ^ (j + 1) : Nat) : Int) = (2 ^ n - 1) * ((e % 2 ^ j : Nat) : Int) + 2 ^ j * (2 ^ n - 1) := by
        rw [hs, Int.natCast_add, e0, Int.mul_add, Int.mul_comm (2 ^ n - 1) (2 ^ j)]
      rw [e1] at hl ⊢
      have n1 : 0 ≤ (2 ^ n - 1) * ((e % 2 ^ j : Nat) : Int) := Int.mul_nonneg hp (by omega)
      obtain ⟨p, hpm, hx⟩ := List.mem_flatMap.1 (oddP_mem hq)
      obtain ⟨z, hz, rfl⟩ := List.mem_map.1 hx
      rw [← Int.add_assoc]
      exact (ih p hpm).join (partsP_deg n hn j (by omega) z hz) (by omega)
theorem copN_deg {r : List Int} (h : isExp r = true) (hd : deg r ≤ 40) : ∀ k, k ≤ r.length → ∀ q ∈ copN r k, PairD (W (fun i => r.getD i 0) k) q := by
  have hl := exp_len5 h hd
  intro k
  induction k with
  | zero =>
    intro _ q hq
    rw [copN, List.mem_singleton] at hq
    subst hq
    exact ⟨[], [], 0, 0, rfl, ⟨by decide, rfl⟩, ⟨by decide, rfl⟩, by omega, by omega, rfl⟩
  | succ k ih =>
    intro hk q hq
    have hw := deg_takeN h (k + 1) hk
    have hw0 := W_nonneg (f := fun i => r.getD i 0) k fun i _ => ((isExp_sm h).at (by omega) i).1
    obtain ⟨e, he, h40, hlt⟩ := copN_dig h hd (show k < r.length by omega)
    rw [W] at hw ⊢
    rw [copN, he, Int.toNat_natCast] at hq
    simp only [he] at hw ⊢
    have hc : (e : Int) * (2 ^ (k + 1) - 1) = (2 ^ (k + 1) - 1) * (e : Int) := Int.mul_comm _ _
    rw [hc] at hw ⊢
    have := digC_deg (n := k + 1) (by omega) (ih (by omega)) hw0 (by omega) 6 q hq
    rwa [show e % 2 ^ 6 = e from Nat.mod_eq_of_lt (by omega)] at this
theorem copL_deg {r : List Int} (h : isExp r = true) (hd : deg r ≤ 40) : ∀ q ∈ copL r, PairD (deg r) q := by
  intro q hq
  rw [deg_W]
  exact copN_deg h hd r.length (Nat.le_refl _) q hq
theorem copsL_deg {t : List (List Int)} (hT : arT t = true) : ∀ q ∈ copsL t, PairD (degT t) q := fun q hq => by
  obtain ⟨r, hr, hq⟩ := List.mem_flatMap.1 hq
  have h1 := arT_expD hT r hr
  have h2 := copsL_row hT hr
  rw [← h1.2]
  exact copL_deg h2.1 h2.2 q hq
/-- The second lists of the pairs whose first list is one of m. -/
def conS (m : List (List Int)) (L : List (List (List Int))) : List (List Int) := (L.filter fun q => decide (q.getD 0 [] ∈ m)).map fun q => q.getD 1 []
theorem conS_snoc (m : List (List Int)) (L : List (List (List Int))) (k : Nat) (h : k < L.length) : conS m (L.take (k + 1)) = if L[k].getD 0 [] ∈ m then conS m (L.take k) ++ [L[k].getD 1 []] else conS m (L.take k) := by
  unfold conS
  rw [List.take_succ_eq_append_getElem h, List.filter_append, List.map_append]
  by_cases e : L[k].getD 0 [] ∈ m
  · rw [if_pos e]; simp only [List.getD_eq_getElem?_getD] at e ⊢; simp [e]
  · rw [if_neg e]; simp only [List.getD_eq_getElem?_getD] at e ⊢; simp [e]
theorem conS_mem {m : List (List Int)} {L : List (List (List Int))} {z : List Int} (h : z ∈ conS m L) : ∃ q ∈ L, q.getD 0 [] ∈ m ∧ z = q.getD 1 [] := by
  obtain ⟨q, hq, rfl⟩ := List.mem_map.1 h
  rw [List.mem_filter] at hq
  exact ⟨q, hq.1, by simpa using hq.2, rfl⟩
theorem conS_len (m : List (List Int)) (L : List (List (List Int))) : (conS m L).length ≤ L.length := by
  unfold conS; rw [List.length_map]; exact List.length_filter_le _ _
def conL (m t : List (List Int)) : List (List Int) := oddL (conS m (oddP (copsL t)))
theorem conL_exp {m t : List (List Int)} (hM : arT m = true) (hT : arT t = true) : ExpD (degT t - degT m) (conL m t) := fun z hz => by
  obtain ⟨q, hq, hm, rfl⟩ := conS_mem (mem_oddL_sub hz)
  obtain ⟨x, y, p, s, rfl, hx, hy, _, _, hps⟩ := copsL_deg hT q (oddP_mem hq)
  have h1 := arT_expD hM x (by simpa using hm)
  refine ⟨hy.1, ?_⟩
  show deg y = _
  have := h1.2
  omega
theorem conL_len {m t : List (List Int)} (hM : arT m = true) (hT : arT t = true) : (conL m t).length ≤ 504 :=
  expD_length (asc_oddL _) (conL_exp hM hT) (by have := (degT_in hT).2; have := (degT_in hM).1; omega)
def ctC (m t : List (List Int)) : Int := if arT m && arT t then 0 else 1
def ctR (m t : List (List Int)) : List (List Int) := if arT m && arT t then conL m t else []
theorem ctR_cnt (m t : List (List Int)) : 1 + (cnt (ctR m t) : Int) ≤ 4611686018427387904 := by
  unfold ctR
  cases hA : arT m && arT t
  · simp [cnt]
  · simp only [Bool.and_eq_true] at hA
    simp only [if_true]
    have h1 := conL_len hA.1 hA.2
    have h2 := cnt_le (k := 10) fun r hr => by
      have := (conL_exp hA.1 hA.2 r hr)
      have := exp_len5 this.1 (by rw [this.2]; have := (degT_in hA.2).2; have := (degT_in hA.1).1; omega)
      omega
    omega
end
section
open Go.RowKit Go.Sort

theorem IntS.clip {h : Array Obj} {ao : Option Addr} {c : Nat} {xs : List Int} (a : IntS h (.slice ao xs.length c) xs) : IntS h (.slice ao xs.length xs.length) xs := by
  rcases a with ⟨hv, he⟩ | ⟨b, off, cap, cur, hv, hb, h1, h2, h3, h4⟩
  · simp only [Value.slice.injEq] at hv
    obtain ⟨rfl, -, rfl⟩ := hv
    simp at he; subst he
    exact .inl ⟨rfl, rfl⟩
  · simp only [List.length_map, Value.slice.injEq, true_and] at hv h1 h4
    obtain ⟨rfl, rfl⟩ := hv
    exact .inr ⟨b, off, xs.length, cur, by simp, hb, by simp, by unfold maxLen at *; omega, by omega, by simpa using h4⟩
section
variable {ops : Array Oper} {o : Oper} {a : Act} {Q : Exit → Act → World → Prop} {K : Act → World → Prop} {E : Prop}
theorem grown_own {w : World} {z : Value} (xs : List Int) (n : Int) (old : Nat) (hz : z.cells.size = 1) (hx : xs.length < 4398046511104) :
    OwnI (w.drew.alloc (.cells ((xs.map (Value.int .i64)).toArray ++ [Value.int .i64 n].toArray ++ Builtin.zeroCells z.cells (grownCap w (xs.length + 1) old 2 - (xs.length + 1))) 2)) w.heap.size (.slice (some ⟨w.heap.size, 0, none⟩) (xs.length + 1) (grownCap w (xs.length + 1) old 2)) (xs ++ [n]) := by
  have hge := grownCap_ge w (xs.length + 1) old 2
  have hcm : grownCap w (xs.length + 1) old 2 ≤ maxLen := grownCap_le_maxLen w (xs.length + 1) old 2 (by unfold maxLen; omega)
  refine ⟨by simp, .inr ⟨w.heap.size, _, _, by simp, Nat.le_refl _, heap_alloc_new w.drew _, by simpa using hge, hcm, ?_, ?_⟩⟩
  · simp only [Array.size_append, List.size_toArray, size_zeroCells, hz, List.length_map, List.length_singleton]
    omega
  · simp only [Array.toList_append, List.append_assoc]
    rw [← List.append_assoc]
    have : ((xs.map (Value.int .i64)) ++ [Value.int .i64 n]).length = (xs ++ [n]).length * 1 := by simp
    rw [← this, List.map_append]
    exact List.take_left
/-- 'append(r, n)' at a step of a region that draws, r a slice that reads and has no room left: the list lies in new memory. -/
theorem step_append_full {w : World} (hg : o.guard = none) (s x : Operand)
    (ho : o.op = .call { callee := .builtin .append, args := #[s, x], argTypes := #[56, 56] })
    (ao : Option Addr) (xs : List Int) (h : IntS w.heap (.slice ao xs.length xs.length) xs) (hs : a.eval s = .slice ao xs.length xs.length) (b : Nat) (n : Int) (hx : a.eval x = .slice (some ⟨b, 0, none⟩) 1 1) (hb : w.heap[b]? = some (.cells #[.int .i64 n] 2 (0, 0)))
    (hn : xs.length < 4398046511104)
    (hK : ∀ v' w', OwnI w' w.heap.size v' (xs ++ [n]) → Below w.heap.size w w' → K (a.put o.dst v') w') :
    if Region.wanted o (yielded ops a.tmps) = true then Oper.wp Tryz.prog o a w K Q else E := by
  have hw : Region.wanted o (yielded ops a.tmps) = true := by simp [Region.wanted, hg]
  rw [if_pos hw]
  obtain ⟨i0, hi, hz0, hz1, hz2⟩ := info_parts info_int64
  have hzc : (Value.int .i64 0).cells.size = 1 := rfl
  have hnew : ∀ (j : Nat) (u : Value), [Value.int .i64 n][j]? = some u → w.cell? ((⟨b, 0, none⟩ : Addr).add j) = some u := by
    intro j u hj
    match j, hj with
    | 0, hj =>
      simp at hj; subst hj
      rw [Addr.add_lit, World.cell?]; simp only [hb]; rfl
  have hbl : ∀ o, Below w.heap.size w (w.drew.alloc o) := fun o => ((Below.refl w.heap.size w).drew).alloc (Nat.le_refl _) _
  rcases h with ⟨hv, he⟩ | ⟨b2, off, cap, cur, hv, hb2, k1, k2, k3, k4⟩
  · simp only [Value.slice.injEq] at hv
    obtain ⟨rfl, -, -⟩ := hv
    simp at he; subst he
    have hr := run_append_nil (P := Tryz.prog) w 56 o.type 2 i0 _ Tryz.underlying56 hi hz0 ⟨b, 0, none⟩ 1 1 [Value.int .i64 n] (by rw [hz1]; rfl) hnew (by omega) (by omega) (by rw [hz2]; omega)
    have hg2 := grown_own (w := w) [] n 0 hzc (by simp)
    unfold Oper.wp
    simp only [List.length_nil] at hs
    simp [execOp, ho, resolve, invoke, builtin, hs, hx, hr, Result.andThen]
    refine hK _ _ ?_ (hbl _)
    simpa using hg2
  · simp only [List.length_map, Value.slice.injEq, true_and] at hv k1 k4
    obtain ⟨rfl, rfl⟩ := hv
    have hold : ∀ (j : Nat) (u : Value), (xs.map (Value.int .i64))[j]? = some u → w.cell? ((⟨b2, off, none⟩ : Addr).add j) = some u := by
      intro j u hj
      have hjl : j < xs.length := by have := (List.getElem?_eq_some_iff.1 hj).1; simpa using this
      rw [Addr.add_lit, World.cell?]; simp only [hb2]
      have := congrArg (fun l : List Value => l[j]?) k4
      simp only [List.getElem?_take, List.getElem?_drop, Array.getElem?_toList] at this
      rw [if_pos hjl] at this
      rw [this]; exact hj
    have hfit : Builtin.nextslicecap (xs.length + 1) xs.length * i0.bytes ≤ 281474976710656 := growslice_fits (by omega) (by rw [hz2]; omega)
    have hr := run_append_grow (P := Tryz.prog) w 56 o.type 2 i0 _ Tryz.underlying56 hi hz0 ⟨b2, off, none⟩ xs.length xs.length (xs.map (Value.int .i64)) (by rw [hz1]; simp) hold ⟨b, 0, none⟩ 1 1 [Value.int .i64 n] (by rw [hz1]; rfl) hnew (by omega) (by omega) hfit
    have hg2 := grown_own (w := w) xs n xs.length hzc hn
    unfold Oper.wp
    simp [execOp, ho, resolve, invoke, builtin, hs, hx, hr, Result.andThen]
    refine hK _ _ ?_ (hbl _)
    simpa using hg2
end
/-- A cell of another type is stored. -/
theorem own_other {w : World} {B e n g t : Nat} {v x : Value} {us : List Value} (h : w.ownsRow B e 1 v n us) (k : Cell1 w g x t) (ne : e ≠ t) (u : Value) : (w.setCell ⟨g, 0, none⟩ u).ownsRow B e 1 v n us := by
  refine own_kept h fun b hb => Below.heap_setCell _ _ _ _ ?_
  rintro rfl
  rcases h.2 with ⟨rfl, _⟩ | ⟨g', cap, cur, rfl, _, hg, _⟩
  · cases hb
  · simp only [Value.ownBlock, Option.some.injEq] at hb
    subst hb
    rw [show w.heap[g']? = _ from k] at hg
    simp only [Option.some.injEq, Obj.cells.injEq] at hg
    exact ne hg.2.1.symm
theorem OwnU.other {w : World} {B g t : Nat} {v x : Value} {us : List Value} {xss : List (List Int)} (h : OwnU w B v us xss) (k : Cell1 w g x t) (n1 : 56 ≠ t) (n2 : 2 ≠ t) (u : Value) : OwnU (w.setCell ⟨g, 0, none⟩ u) B v us xss :=
  ⟨own_other h.row k n1 u, fun i y xs hy hx => own_other (h.each i y xs hy hx) k n2 u, h.apart⟩
theorem KeepI.cell {w : World} {g t : Nat} {x : Value} (k : Cell1 w g x t) (ne : 2 ≠ t) (u : Value) : KeepI w (w.setCell ⟨g, 0, none⟩ u) := fun b cs f hb => by
  rw [Below.heap_setCell _ _ _ _ ?_]; exact hb
  rintro rfl
  rw [show w.heap[b]? = _ from k] at hb
  simp only [Option.some.injEq, Obj.cells.injEq] at hb
  exact ne hb.2.1.symm
end
section
open Go.RowKit Go.Sort

def extV (g3 g4 : Nat) : Value := .func (.func 201) #[] #[.pointer (some ⟨g3, 0, none⟩), .pointer (some ⟨g4, 0, none⟩)]
theorem enters_part1 : Enters Tryz.prog 201 := fun args w => by kernel_rfl
theorem enters_copyOf : Enters Tryz.prog 147 := fun args w => by kernel_rfl
theorem partF_zero (f i : Nat) (hf : 1 ≤ f) : partF f 0 i = [[]] := by
  obtain ⟨f', rfl⟩ : ∃ f', f = f' + 1 := ⟨f - 1, by omega⟩
  rw [partF, if_pos rfl]
theorem heldC1 {x1 : Value} {g1 : Addr} {w0 W W' : World} (h : W.cell? g1 = some x1 ∧ Below w0.heap.size w0 W) (hb : Below W.heap.size W W') : W'.cell? g1 = some x1 ∧ Below w0.heap.size w0 W' :=
  ⟨(hb.cell (World.block_lt_of_cell? _ _ h.1)).trans h.1, h.2.trans (hb.mono h.2.size)⟩
theorem heldC1A {x1 : Value} {g1 : Addr} {w0 W : World} (h : W.cell? g1 = some x1 ∧ Below w0.heap.size w0 W) (o : Obj) : (W.alloc o).cell? g1 = some x1 ∧ Below w0.heap.size w0 (W.alloc o) :=
  heldC1 h ((Below.refl _ _).alloc (Nat.le_refl _) o)
theorem heldC1B {x1 : Value} {g1 : Addr} {w0 W W' : World} {B : Nat} (h : W.cell? g1 = some x1 ∧ Below B w0 W) (hb : Below W.heap.size W W') (hB : B ≤ W.heap.size) : W'.cell? g1 = some x1 ∧ Below B w0 W' :=
  ⟨(hb.cell (World.block_lt_of_cell? _ _ h.1)).trans h.1, h.2.trans (hb.mono hB)⟩
theorem heldC1X {x1 : Value} {g1 : Addr} {w0 W : World} (h : W.cell? g1 = some x1 ∧ Below w0.heap.size w0 W) : Below w0.heap.size w0 W := h.2
theorem own_not {w : World} {B e n g t : Nat} {v x : Value} {us : List Value} (h : w.ownsRow B e 1 v n us) (k : Cell1 w g x t) (ne : e ≠ t) : some g ≠ v.ownBlock := by
  intro hb
  rcases h.2 with ⟨rfl, _⟩ | ⟨g', cap, cur, rfl, _, hg, _⟩
  · cases hb
  · simp only [Value.ownBlock, Option.some.injEq] at hb
    subst hb
    rw [show w.heap[g]? = _ from k] at hg
    simp only [Option.some.injEq, Obj.cells.injEq] at hg
    exact ne hg.2.1.symm
set_option maxRecDepth 100000 in
set_option maxHeartbeats 1000000 in
theorem part1_c (g3 g4 : Nat) (hne : g3 ≠ g4) : ∀ (f d : Nat) (xs : List Int) (L : List (List Int)) (s v : Value) (us : List Value) (B : Nat) (w : World), xs.length + f = 8 → 2 ≤ f → d ≤ 40 → IntS w.heap s xs →
    Cell1 w g3 v 22 → Cell1 w g4 (extV g3 g4) 148 → OwnU w B v us L → B ≤ g3 → B ≤ g4 → L.length + (partF f d xs.length).length < 4398046511104 →
    Calls Tryz.prog 201 #[s, .int .i64 d, .int .i64 (wtI xs.length), .pointer (some ⟨g3, 0, none⟩), .pointer (some ⟨g4, 0, none⟩)] w fun e w' => e = .returned (.tuple #[]) ∧
      ∃ v' us', Cell1 w' g3 v' 22 ∧ Cell1 w' g4 (extV g3 g4) 148 ∧ OwnU w' B v' us' (L ++ (partF f d xs.length).map (xs ++ ·)) ∧ Below B w w' ∧ KeepI w w' := by
  intro f
  induction f with
  | zero => intro d xs L s v us B w h1 h2; omega
  | succ f ih =>
    intro d xs L s v us B w hif hf hd2 hs k3 k4 hl hB3 hB4 hlen
    obtain ⟨sa, sc, rfl, -⟩ := hs.len
    have hcap : xs.length ≤ sc := by
      obtain ⟨a', c', hv', h3, -⟩ := SlAt.len hs
      simp only [Value.slice.injEq, List.length_map] at hv' h3
      omega
    obtain ⟨la, ln, lc, rfl⟩ := own_shape hl.row
    have hB : B ≤ w.heap.size := by have := k3.lt; omega
    have hwp := wtI_pos xs.length
    have hw8 := wtI_le (i := xs.length) (by omega)
    have HS := Lib.hid hs; have HL := Lib.hid hl; have K3 := Lib.hid k3; have K4 := Lib.hid k4
    have q3 := k3.c0; have f3 := k3.free 0; have q4 := k4.c0
    by_cases hd0 : d = 0
    · subst hd0
      rw [partF_zero (f + 1) _ (by omega)]
      have hll : L.length < 4398046511104 := by omega
      have HLL := Lib.hid hll
      clear hlen hs hl k3 k4 ih hll
      go_enter Tryz.func201, Tryz.ntmps201
      go_wp2_with fail
      have hlt3 := K3.out.lt; have hlt4 := K4.out.lt
      have q3d : w.drew.cell? ⟨g3, 0, none⟩ = some (.slice la ln lc) := q3
      go_region_law
        (first | (refine step_callR (by rfl) 147 (.tmp 12) 56 (by rfl) (fun v w' => OwnI w' w.heap.size v xs ∧ Below w.heap.size w w') enters_copyOf (by exact Calls.mono (copyOf_c (.slice sa xs.length sc) xs w.drew HS.out (by omega)) fun e w' ⟨r, h1, h2, h3⟩ => ⟨r, h1, h2, (Below.refl _ _).drew.trans h3⟩) ?_; rintro v2 w2 ⟨hR2, hx2⟩; obtain ⟨ra, rn, rc, rfl⟩ := own_shape hR2; have k32 : Cell1 w2 g3 _ _ := (hx2.block g3 hlt3).trans K3.out; have c32 := k32.c0; have k42 : Cell1 w2 g4 _ _ := (hx2.block g4 hlt4).trans K4.out; have c33 := fun o => Go.Lib.cell?_alloc_some o c32) | (refine step_append_rowU (w0 := w) (wE := w) (by rfl) (.tmp 11) (.tmp 14) (by rfl) B (.slice la ln lc) (.slice ra rn rc) us L xs HL.out (by rfl) (by exact OwnI.same hR2 (alloc_old _ _)) (by exact hx2.alloc hx2.size _) (by exact Below.refl B w) (by exact hB) w2.heap.size (by rfl) (by exact heap_alloc_new _ _) HLL.out ?_; intro v4 w4 hU4 hb4 hs4 hk4; obtain ⟨va, vn, vc, rfl⟩ := own_shape hU4.row; have k34 : Cell1 w4 g3 _ _ := (hk4 g3 (by have := hx2.size; simp at *; omega) (own_not HL.out.row K3.out (by decide))).trans ((alloc_old _ _ _ (by have := hx2.size; simp at *; omega)).trans k32); have k44 : Cell1 w4 g4 _ _ := (hk4 g4 (by have := hx2.size; simp at *; omega) (own_not HL.out.row K4.out (by decide))).trans ((alloc_old _ _ _ (by have := hx2.size; simp at *; omega)).trans k42); have c34 := k34.c0; have f34 := k34.free 0))
      all_goals
        have hkp := ((KeepI.of_same (hx2.alloc hx2.size (.cells #[.slice ra rn rc] 56)).block).trans (KeepI.grown (own_same HL.out.row (hx2.alloc hx2.size (.cells #[.slice ra rn rc] 56)).block) (by decide) hk4)).trans (KeepI.cell k34 (by decide) (.slice va vn vc))
        have hfin := hU4.other k34 (by decide) (by decide) (.slice va vn vc)
        have hk3 := k34.set (.slice va vn vc)
        have hk4' := k44.setFar ⟨g3, 0, none⟩ hne.symm (.slice va vn vc)
        have hbe := hb4.setCell (p := ⟨g3, 0, none⟩) hB3 (.slice va vn vc)
        have G := Lib.hid (And.intro hk3 (And.intro hk4' (And.intro hfin (And.intro hbe hkp))))
        clear hkp hfin hk3 hk4' hbe hk4 hU4 hb4 hs4 hR2 hx2
        go_wp2_with fail
        refine bodyPost_ret (results_none rfl _ _ _) rfl ?_
        exact ⟨rfl, _, _, G.out.1, G.out.2.1, by simpa using G.out.2.2.1, G.out.2.2.2.1, G.out.2.2.2.2⟩
    · have t0 := (neB (show (d : Int) ≠ 0 by omega)).1
      by_cases hw : wtI xs.length ≤ d
      · have hi4 := wtI_small (by omega) hd2 hw
        have hG := partG_all f d xs.length xs (by omega) hw
        rw [hG]
        have hGl : L.length + (partG f d xs.length xs (d / wtI xs.length + 1)).length < 4398046511104 := by rw [← hG, List.length_map]; exact hlen
        have HGL := Lib.hid hGl
        have t1 : decide ((d : Int) < (wtI xs.length : Int)) = false := decide_eq_false (by omega)
        have t2 : decide (d < wtI xs.length) = false := decide_eq_false (by omega)
        have IH := Lib.hid ih
        have HSU := Lib.hid (partG_succ f d xs.length xs)
        have HLE := Lib.hid (partG_len f d xs.length xs)
        have HWS := Lib.hid (wtI_succ xs.length)
        obtain ⟨W, hWW⟩ : ∃ W : Nat, wtI xs.length = W := ⟨_, rfl⟩
        rw [hWW] at t1 t2 hwp hw8 hw HGL HSU HWS ⊢
        obtain ⟨q, hq⟩ : ∃ q : Nat, d / W = q := ⟨_, rfl⟩
        have hQ : ∀ n : Nat, n ≤ q ↔ n * W ≤ d := fun n => by rw [← hq]; exact Nat.le_div_iff_mul_le hwp
        have HQ := Lib.hid hQ
        clear hQ
        have hqd : q ≤ 40 := by
          have := (HQ.out q).1 (Nat.le_refl _)
          have := Nat.mul_le_mul_left q hwp
          omega
        rw [hq] at HGL ⊢
        have HIF := Lib.hid hif
        have HEN := enters_part1
        unfold Enters at HEN
        clear hG hGl hlen hs hl ih hq hWW hif k3 k4 q3 f3 q4 hd0
        go_enter Tryz.func201, Tryz.ntmps201
        go_wp2_with fail
        clear t1 t2 t0
        go_loopw [8] (fun r wr => ∃ (n : Nat) (v : Value) (us : List Value), n ≤ q + 1 ∧ r = .int .i64 n ∧ Cell1 wr g3 v 22 ∧ Cell1 wr g4 (extV g3 g4) 148 ∧ OwnU wr B v us (L ++ partG f d xs.length xs n) ∧ Below B w wr ∧ KeepI w wr) (fun r _ => 41 - (intOf r).toNat)
        case atStart => exact ⟨0, _, us, by omega, rfl, K3.out, K4.out, by simpa [partG] using HL.out, Below.refl _ _, KeepI.refl _⟩
        case round =>
          obtain ⟨n, v, us2, hn, rfl, j3, j4, hU, hbl, hke⟩ := hrel
          obtain ⟨va, vn, vc, rfl⟩ := own_shape hU.row
          have HU := Lib.hid hU; have HBL := Lib.hid hbl; have HKE := Lib.hid hke
          have J3 := Lib.hid j3; have J4 := Lib.hid j4
          have HSW := Lib.hid (HS.out.keep hke)
          have hnW : (0 : Int) ≤ (n : Int) * (W : Int) := Int.mul_nonneg (by omega) (by omega)
          have hnW2 : (n : Int) * (W : Int) ≤ 41 * 255 := Int.mul_le_mul (by omega) (by omega) (by omega) (by omega)
          clear hU hbl hke j3
          by_cases hnq : n ≤ q
          · have hle := (HQ.out n).1 hnq
            have hle2 : (n : Int) * (W : Int) ≤ d := by have : ((n * W : Nat) : Int) ≤ (d : Int) := by omega
                                                        rwa [Int.natCast_mul] at this
            have u1 : decide ((n : Int) * (W : Int) ≤ (d : Int)) = true := decide_eq_true hle2
            have HGN := Lib.hid (HSU.out n)
            have HLN := Lib.hid (HLE.out (n + 1) (q + 1) (by omega))
            obtain ⟨D, hD⟩ : ∃ D : Nat, d - n * W = D := ⟨_, rfl⟩
            have hDd : D ≤ 40 := by omega
            have hsub : (d : Int) - (n : Int) * (W : Int) = D := by rw [← Int.natCast_mul]; omega
            have hDl : (L ++ partG f d xs.length xs n).length + (partF f D (xs ++ [(n : Int)]).length).length < 4398046511104 := by
              have h1 := HGN.out
              rw [hD] at h1
              have h2 := congrArg List.length h1
              rw [List.length_append, List.length_map] at h2
              have h3 := HLN.out; have h4 := HGL.out
              rw [List.length_append, List.length_append, List.length_singleton]; omega
            have HDL := Lib.hid hDl
            have HF : Hid ((L ++ partG f d xs.length xs n) ++ (partF f D (xs ++ [(n : Int)]).length).map (xs ++ [(n : Int)] ++ ·) = L ++ partG f d xs.length xs (n + 1)) := by
              show _ = _
              rw [HGN.out, hD, List.length_append, List.length_singleton, List.append_assoc]
            have hf2 : 2 ≤ f := by have := HIF.out; omega
            have r4 : wr.cell? ⟨g4, 0, none⟩ = some (.func (.func 201) #[] #[.pointer (some ⟨g3, 0, none⟩), .pointer (some ⟨g4, 0, none⟩)]) := j4.c0
            have CC : Hid (∀ (s' : Value) (W4 : World), IntS W4.heap s' (xs ++ [(n : Int)]) → Below wr.heap.size wr W4 → Calls Tryz.prog 201 #[s', .int .i64 D, .int .i64 (2 * (W : Int) + 1), .pointer (some ⟨g3, 0, none⟩), .pointer (some ⟨g4, 0, none⟩)] W4 fun e w' => e = .returned (.tuple #[]) ∧
                ∃ v' us', Cell1 w' g3 v' 22 ∧ Cell1 w' g4 (extV g3 g4) 148 ∧ OwnU w' B v' us' (L ++ partG f d xs.length xs (n + 1)) ∧ Below B W4 w' ∧ KeepI W4 w') := fun s' W4 h1 h2 => by
              have h := IH.out D (xs ++ [(n : Int)]) (L ++ partG f d xs.length xs n) s' (.slice va vn vc) us2 B W4 (by rw [List.length_append, List.length_singleton]; have := HIF.out; omega) hf2 hDd h1 (J3.out.kept h2.block) (J4.out.kept h2.block) (HU.out.same h2.block) hB3 hB4 HDL.out
              rw [HF.out] at h
              rw [show ((wtI (xs ++ [(n : Int)]).length : Nat) : Int) = 2 * (W : Int) + 1 by rw [List.length_append, List.length_singleton, HWS.out]; omega] at h
              exact h
            have hBr : B ≤ wr.heap.size := Nat.le_trans hB HBL.out.size
            have hxl : xs.length < 4398046511104 := by omega
            have b0 : (0 : Int) ≤ xs.length := by omega
            have b1 : (xs.length : Int) ≤ sc := by omega
            have b2 : (xs.length : Int) ≤ xs.length := by omega
            clear hle hle2 hD hDl j4
            go_wp2_with fail
            have e1 : IntKind.i64.wrap ((n : Int) * (W : Int)) = (n : Int) * (W : Int) := IntWalk.i64_in _ (by omega)
            have e2 : IntKind.i64.wrap (D : Int) = D := IntWalk.i64_in _ (by omega)
            have e3 : IntKind.i64.wrap (2 * (W : Int)) = 2 * (W : Int) := IntWalk.i64_in _ (by omega)
            have e4 : IntKind.i64.wrap (2 * (W : Int) + 1) = 2 * (W : Int) + 1 := IntWalk.i64_in _ (by omega)
            go_region_held3 (fun W => W.cell? ⟨g4, 0, none⟩ = some (.func (.func 201) #[] #[.pointer (some ⟨g3, 0, none⟩), .pointer (some ⟨g4, 0, none⟩)]) ∧ Below B wr W)
              (first | exact ⟨r4, (Below.refl _ _).drew⟩ | exact ⟨c52, hx5⟩ | exact heldC1B (by assumption) hx2 (by simp; omega) | exact heldC1B (by assumption) ((Below.refl _ _).alloc (Nat.le_refl _) _) (by simp; omega))
              (first | (refine step_append_full (by rfl) _ _ (by rfl) sa xs (by exact HSW.out.clip.same (alloc_old _ _)) (by rfl) _ (n : Int) (by rfl) (by exact heap_alloc_new _ _) hxl ?_; intro v2 w2 hR2 hx2; have hx3 : Below wr.heap.size wr w2 := (((Below.refl wr.heap.size wr).drew).alloc (Nat.le_refl _) _).trans (hx2.mono (by simp)); obtain ⟨ra, rn, rc, rfl⟩ := own_shape hR2) | (go_at_call 201; (with_reducible refine (CC.out _ _ (by exact hR2.ints) (by exact hx3)).mono ?_); rintro e w5 ⟨rfl, v5, us5, j53, j54, hU5, hb5, hk5⟩; have c52 := j54.c0; have hx5 := (hx3.mono hBr).trans hb5))
            have G := Lib.hid (And.intro j53 (And.intro j54 (And.intro hU5 (And.intro (HBL.out.trans hx5) (HKE.out.trans ((KeepI.of_same hx3.block).trans hk5))))))
            clear e1 e2 e3 e4 hsub j53 j54 hU5 hb5 hk5 hx5 hx3 hx2 hR2 c52 b0 b1 b2 hxl hBr r4
            go_wp2_with fail
            go_roundw
            case rel => exact ⟨n + 1, v5, us5, by omega, by go_num, G.out.1, G.out.2.1, G.out.2.2.1, G.out.2.2.2.1, G.out.2.2.2.2⟩
            case measure => simp [intOf]; omega
          · have hgt : ¬ n * W ≤ d := fun h => hnq ((HQ.out _).2 h)
            have u1 : decide ((n : Int) * (W : Int) ≤ (d : Int)) = false := decide_eq_false (fun h => hgt (by
              have : ((n * W : Nat) : Int) ≤ (d : Int) := by rw [Int.natCast_mul]; exact h
              omega))
            have HN : Hid (n = q + 1) := by show _ = _; omega
            clear hgt hnq j4
            go_wp2_with fail
            go_end0
            exact ⟨rfl, _, us2, J3.out, J4.out, by rw [← HN.out]; exact HU.out, HBL.out, HKE.out⟩
      · have e1 : partF (f + 1) d xs.length = [] := by rw [partF, if_neg (by omega), if_pos (by omega)]
        rw [e1]
        have t1 : decide ((d : Int) < (wtI xs.length : Int)) = true := decide_eq_true (by omega)
        have t2 : decide (d < wtI xs.length) = true := decide_eq_true (by omega)
        clear e1 hlen hs hl ih hw k3 k4 q3 f3 q4
        go_enter Tryz.func201, Tryz.ntmps201
        go_wp2_with fail
        refine bodyPost_ret (results_none rfl _ _ _) rfl ?_
        exact ⟨rfl, _, us, K3.out, K4.out, by simpa using HL.out, Below.refl _ _, KeepI.refl _⟩
/-- What the library's sort gives: the values go along with their lists. -/
def SortOk2 : Prop := ∀ (v : Value) (us : List Value) (xss : List (List Int)) (B : Nat) (w : World), RefR w B w.heap v us xss → B ≤ w.heap.size → xss.length < 4611686018427387904 →
    Calls Tryz.prog 189 #[v, .func (.func 187) #[] #[]] w fun e w' => e = .returned (.tuple #[]) ∧ ∃ us' xss', RefR w' B w.heap v us' xss' ∧ (us'.zip xss').Perm (us.zip xss) ∧ xss'.Pairwise (fun a b => ltL b a = false) ∧ Below B w w' ∧ (∀ b, b < w.heap.size → some b ≠ v.ownBlock → w'.heap[b]? = w.heap[b]?)
theorem asc_nodup {l : List (List Int)} (h : Asc l) : l.Nodup := h.imp fun hab e => ltL_ne hab e
theorem sorted_same {us us' : List Value} {xss xss' : List (List Int)} (hl : us.length = xss.length) (hl' : us'.length = xss'.length) (hp : (us'.zip xss').Perm (us.zip xss)) (hs : xss'.Pairwise (fun a b => ltL b a = false)) (ha : Asc xss) : us' = us ∧ xss' = xss := by
  have hm : (us'.zip xss').map Prod.snd = xss' := by rw [List.map_snd_zip]; omega
  have hm2 : (us.zip xss).map Prod.snd = xss := by rw [List.map_snd_zip]; omega
  have hpx : xss'.Perm xss := by rw [← hm, ← hm2]; exact hp.map _
  have hn : xss'.Nodup := (hpx.nodup_iff).2 (asc_nodup ha)
  have hx : xss' = xss := by
    refine Asc.ext ?_ ha fun x => hpx.mem_iff
    unfold Asc
    refine List.Pairwise.imp_of_mem ?_ (List.Pairwise.and hs hn)
    intro a b _ _ hab
    cases e : ltL a b
    · exact absurd (ltL_total _ _ e hab.1) hab.2
    · rfl
  subst hx
  refine ⟨List.ext_getElem (by omega) fun i h1 h2 => ?_, rfl⟩
  have hmem : (us'[i], xss'[i]'(by omega)) ∈ us.zip xss' := hp.mem_iff.1 (by
    rw [List.mem_iff_getElem]
    exact ⟨i, by simp; omega, by simp⟩)
  obtain ⟨j, hj, he⟩ := List.mem_iff_getElem.1 hmem
  simp only [List.getElem_zip, Prod.mk.injEq] at he
  have : j = i := by
    simp only [List.length_zip] at hj
    have hin := List.pairwise_iff_getElem.1 hn
    rcases Nat.lt_trichotomy i j with e | e | e
    · exact absurd he.2.symm (hin i j (by omega) (by omega) e)
    · exact e.symm
    · exact absurd he.2 (hin j i (by omega) (by omega) e)
  subst this
  exact he.1.symm
theorem trimmed_last (ao : Option Addr) (c : Nat) (xs : List Int) (w : World) (h : IntS w.heap (.slice ao xs.length c) xs) (hl : lastOk xs = true) :
    Calls Tryz.prog 146 #[.slice ao xs.length c] w fun e w' => e = .returned (.slice ao xs.length c) ∧ w = w' := by
  have e : trimN xs xs.length = xs.length := by
    cases hn : xs.length with
    | zero => rfl
    | succ n =>
      rw [trimN, if_neg]
      have := lastOk_at hl (by omega)
      rwa [hn] at this
  have := trimmed_c ao c xs w h
  rwa [e] at this
theorem OwnU.storeSame {w : World} {B g n cap : Nat} {us : List Value} {xss : List (List Int)} (h : OwnU w B (.slice (some ⟨g, 0, none⟩) n cap) us xss) (k : Nat) (u : Value) (hu : us[k]? = some u) : OwnU (w.setCell ⟨g, k, none⟩ u) B (.slice (some ⟨g, 0, none⟩) n cap) us xss := by
  have hkl : k < us.length := (List.getElem?_eq_some_iff.1 hu).1
  have hl := h.len
  have hn : n = xss.length := by
    obtain ⟨_, _, hv, _⟩ := h.ints.len
    simp only [Value.slice.injEq] at hv
    exact hv.2.1
  refine ⟨?_, fun i y xs hy hx => ?_, h.apart⟩
  · have hrow := h.row
    rw [← hn] at hrow ⊢
    obtain ⟨g', cap', hv, -, -, -, hs⟩ := own_store hrow k (by omega)
    simp only [Value.slice.injEq, Option.some.injEq, Addr.mk.injEq, true_and, and_true] at hv
    obtain ⟨rfl, rfl⟩ := hv
    have := hs u
    rwa [show us.set k u = us from by
      apply List.ext_getElem?; intro i
      rw [List.getElem?_set]
      split
      · rename_i e; subst e; exact hu.symm
      · rfl] at this
  · have ho := h.each i y xs hy hx
    refine own_setCell_other ho _ ?_ u
    rcases own_ne_types ho h.row (by decide) with e | e
    · rw [e]; simp
    · intro e2; exact e (by rw [e2]; rfl)
theorem ownII_empty0 (w : World) : OwnU (w.alloc (.cells #[] 56)) w.heap.size (.slice (some ⟨w.heap.size, 0, none⟩) 0 0) [] [] :=
  ⟨World.ownsRow_made w #[] 0 (Nat.le_refl _) (Nat.zero_le _) rfl, fun i u xs hu => by simp at hu, fun i j u u' _ hu => by simp at hu⟩
set_option maxRecDepth 100000 in
set_option maxHeartbeats 1000000 in
theorem partitions_of (SO : SortOk2) (d : Nat) (w : World) (hd : d ≤ 40) :
    Calls Tryz.prog 126 #[.int .i64 d] w fun e w' => ∃ r us, e = .returned r ∧ OwnU w' w.heap.size r us (partL d) ∧ Below w.heap.size w w' := by
  have hlen : (partL d).length ≤ 504 := expD_length (d := (d : Int)) (asc_partL d) (fun x hx => mem_partL hd hx) (by omega)
  have HEN := enters_part1
  unfold Enters at HEN
  have hU0 := ownII_empty0 w
  have k3 := (Cell1.new (w.alloc (.cells #[] 56)) (.slice (some ⟨w.heap.size, 0, none⟩) 0 0) 22).kept (alloc_old _ (.cells #[extV (w.heap.size + 1) (w.heap.size + 1 + 1)] 148))
  have k4 := Cell1.new ((w.alloc (.cells #[] 56)).alloc (.cells #[.slice (some ⟨w.heap.size, 0, none⟩) 0 0] 22)) (extV (w.heap.size + 1) (w.heap.size + 1 + 1)) 148
  simp only [size_alloc_w] at k3 k4
  obtain ⟨w3, hw3⟩ : ∃ w3, w3 = ((w.alloc (.cells #[] 56)).alloc (.cells #[.slice (some ⟨w.heap.size, 0, none⟩) 0 0] 22)).alloc (.cells #[extV (w.heap.size + 1) (w.heap.size + 1 + 1)] 148) := ⟨_, rfl⟩
  have hb3 : Below w.heap.size w w3 := by rw [hw3]; exact (((Below.refl _ _).alloc (Nat.le_refl _) _).alloc (by simp) _).alloc (by simp; omega) _
  have hU3 : OwnU w3 w.heap.size (.slice (some ⟨w.heap.size, 0, none⟩) 0 0) [] [] := by rw [hw3]; exact (hU0.same (alloc_old _ _)).same (alloc_old _ _)
  have hsz : w3.heap.size = w.heap.size + 1 + 1 + 1 := by rw [hw3]; simp
  rw [← hw3] at k3 k4
  have C := Lib.hid (part1_c (w.heap.size + 1) (w.heap.size + 1 + 1) (by omega) 8 d [] [] (.slice (some ⟨w3.heap.size, 0, none⟩) 0 0) (.slice (some ⟨w.heap.size, 0, none⟩) 0 0) [] w.heap.size (w3.alloc (.cells #[] 2)) rfl (by omega) hd (ownI_empty (w := w3) (B := w3.heap.size) (Nat.le_refl _)).ints
    (k3.kept (alloc_old _ _)) (k4.kept (alloc_old _ _)) (hU3.same (alloc_old _ _)) (by omega) (by omega) (by show 0 + (partL d).length < _; omega))
  rw [show ((wtI ([] : List Int).length : Nat) : Int) = 1 by decide, show ([] : List (List Int)) ++ (partF 8 d ([] : List Int).length).map (([] : List Int) ++ ·) = partL d by simp [partL], hsz] at C
  have HB3 := Lib.hid (hb3.alloc hb3.size (.cells #[] 2))
  have HW : Hid (((w.alloc (.cells #[] 56)).alloc (.cells #[.slice (some ⟨w.heap.size, 0, none⟩) 0 0] 22)).alloc (.cells #[.func (.func 201) #[] #[.pointer (some ⟨w.heap.size + 1, 0, none⟩), .pointer (some ⟨w.heap.size + 1 + 1, 0, none⟩)]] 148) = w3) := hw3.symm
  have HLN := Lib.hid hlen
  have HLO := Lib.hid (fun x (hx : x ∈ partL d) => isExp_last (mem_partL hd hx).1)
  have HAS := Lib.hid (asc_partL d)
  clear k3 k4 hb3 hU0 hU3 hsz hw3 hlen
  obtain ⟨T, hT⟩ : ∃ T, partL d = T := ⟨_, rfl⟩
  rw [hT] at C HLN HLO HAS ⊢
  clear hT
  go_enter Tryz.func126, Tryz.ntmps126
  go_wp2_with (go_at_call 201; rw [HW.out]; refine C.out.mono ?_; rintro e w4 ⟨rfl, v4, us4, k43, k44, hU4, hb4, hk4⟩; obtain ⟨va, vn, vc, rfl⟩ := own_shape hU4.row; have HU4 := Lib.hid hU4; have q43 := k43.c0; have K43 := Lib.hid k43; have HB4 := Lib.hid (HB3.out.trans hb4); clear hU4 k43 k44 hb4 hk4)
  obtain rfl : vn = T.length := by
    obtain ⟨_, _, hv, _⟩ := HU4.out.ints.len
    simp only [Value.slice.injEq] at hv
    exact hv.2.1
  clear q43
  go_loopw [14] (fun i wr => ∃ k : Nat, k ≤ T.length ∧ i = .int .i64 k ∧ Cell1 wr (w.heap.size + 1) (.slice va T.length vc) 22 ∧ OwnU wr w.heap.size (.slice va T.length vc) us4 T ∧ Below w.heap.size w wr) (fun i _ => T.length - (intOf i).toNat)
  case atStart => exact ⟨0, Nat.zero_le _, rfl, K43.out, HU4.out, HB4.out⟩
  case round =>
    obtain ⟨k, hk, rfl, j3, hU, hbl⟩ := hrel
    have HU := Lib.hid hU; have HBL := Lib.hid hbl; have J3 := Lib.hid j3
    have q3 := j3.c0
    by_cases hkl : k < T.length
    · have hul := hU.len
      obtain ⟨g, cap, hv, hg⟩ := own_open hU.row (by omega)
      simp only [Value.slice.injEq] at hv
      obtain ⟨rfl, -, rfl⟩ := hv
      have hck := World.ownsRow.cellAt hU.row k (by omega)
      have hfk := World.ownsRow.frozenAt hU.row k
      have huk : us4[k]? = some us4[k] := List.getElem?_eq_getElem (by omega)
      have hrow := hU.each k _ _ huk (show T[k]? = some (T.getD k []) by simp [hkl])
      have hlo := HLO.out (T.getD k []) (by rw [show T.getD k [] = T[k] by simp [hkl]]; exact List.getElem_mem _)
      obtain ⟨ua, un, uc, hue⟩ := own_shape hrow
      rw [huk, hue] at hck
      rw [hue] at hrow huk
      obtain rfl : un = (T.getD k []).length := by
        obtain ⟨_, _, hv, _⟩ := hrow.ints.len
        simp only [Value.slice.injEq] at hv
        exact hv.2.1
      have HTR := Lib.hid (fun (W : World) (h : IntS W.heap (.slice ua (T.getD k []).length uc) (T.getD k [])) => trimmed_last ua uc (T.getD k []) W h hlo)
      have HROW := Lib.hid hrow.ints
      have HST := Lib.hid (hU.storeSame k (.slice ua (T.getD k []).length uc) huk)
      have HNE := Lib.hid (own_not hU.row j3 (by decide))
      have hki : (k : Int) < T.length := by omega
      clear hU hbl j3 hul hrow hlo hue huk
      generalize T.getD k [] = ys at *
      have c7 := (J3.out.setFar ⟨g, k, none⟩ (fun e => HNE.out (by rw [e]; rfl)) (.slice ua ys.length uc)).c0
      have c8 : (wr.setCell ⟨g, k, none⟩ (.slice ua ys.length uc)).cell? ⟨g, k, none⟩ = some (.slice ua ys.length uc) := World.cell?_setCell_same (h := hck) ..
      have hb8 := HBL.out.setCell (p := ⟨g, k, none⟩) hg (.slice ua ys.length uc)
      go_wp2_with fail
      go_region_held3 (fun W => W.cell? ⟨w.heap.size + 1, 0, none⟩ = some (.slice (some ⟨g, 0, none⟩) T.length vc) ∧ W.cell? ⟨g, k, none⟩ = some (.slice ua ys.length uc) ∧ Below w.heap.size w W)
        (first | exact ⟨q3, hck, HBL.out.drew⟩ | exact ⟨c7, c8, hb8.drew⟩)
        ((go_at_call 146; refine (HTR.out _ (by exact HROW.out)).mono ?_; rintro e w' ⟨rfl, rfl⟩))
      have G := Lib.hid (And.intro (J3.out.setFar ⟨g, k, none⟩ (fun e => HNE.out (by rw [e]; rfl)) (.slice ua ys.length uc)) hb8.drew)
      have hT504 := HLN.out
      clear c7 c8 hb8 q3 hck hfk
      go_wp2_with fail
      go_roundw
      case rel => exact ⟨k + 1, by omega, by go_num, G.out.1, HST.out.drewN 1, G.out.2⟩
      case measure => simp [intOf]; omega
    · obtain rfl : k = T.length := by omega
      have HSO := Lib.hid (SO _ us4 T w.heap.size wr ⟨hU.row, fun i u xs hu hx => (hU.each i u xs hu hx).ints⟩ hbl.size (by have := HLN.out; omega))
      clear hU hbl j3
      go_wp2_with (go_at_call 189; refine HSO.out.mono ?_; rintro e w5 ⟨rfl, us5, xs5, hR5, hp5, hs5, hb5, hk5⟩; obtain ⟨rfl, rfl⟩ := sorted_same HU.out.len (by have := hR5.len; exact this) hp5 hs5 HAS.out; have k53 : Cell1 w5 (w.heap.size + 1) _ _ := (hk5 _ J3.out.lt (own_not HU.out.row J3.out (by decide))).trans J3.out; have c53 := k53.c0; have HK5 := Lib.hid (KeepI.grown HU.out.row (by decide) hk5); have HR5 := Lib.hid hR5; have HB5 := Lib.hid (HBL.out.trans hb5); clear hR5 hp5 hs5 hb5 hk5 k53 q3)
      go_ret
      exact ⟨_, us5, rfl, ⟨HR5.out.row, fun i u xs hu hx => (HU.out.each i u xs hu hx).keep HK5.out, HU.out.apart⟩, HB5.out⟩
end
section
open Go.RowKit Go.Sort

theorem degreeOfT_c (v : Value) (xss : List (List Int)) (w : World) (h : IntSS w.heap v xss) (hT : arT xss = true) :
    Calls Tryz.prog 122 #[v] w fun e w' => e = .returned (.int .i64 (degT xss)) ∧ w = w' := by
  refine (degreeOf_c v xss w h).mono fun _ _ ⟨⟨d, he, hd⟩, hw⟩ => ⟨?_, hw⟩
  rw [he, hd]
  by_cases h0 : xss.length = 0
  · obtain rfl : xss = [] := List.eq_nil_of_length_eq_zero h0
    rfl
  · exact (arT_row hT _ (by rw [show xss.getD 0 [] = xss[0]'(by omega) by simp [show 0 < xss.length by omega]]; exact List.getElem_mem _)).1
theorem degT_bound {xss : List (List Int)} (hT : arT xss = true) : 0 ≤ degT xss ∧ degT xss ≤ 40 := by
  by_cases h0 : xss.length = 0
  · obtain rfl : xss = [] := List.eq_nil_of_length_eq_zero h0
    exact ⟨Int.le_refl 0, by decide⟩
  · exact (arT_row hT _ (by rw [show xss.getD 0 [] = xss[0]'(by omega) by simp [show 0 < xss.length by omega]]; exact List.getElem_mem _)).2
end
section
open Go.RowKit Go.Sort

/-- The lists of a basis whose conjugates have the pairing 1 with an element. -/
def cjgL (xss basis : List (List Int)) : List (List Int) := basis.filter fun r => pairL xss (dconL r) == 1
def cjR (xss : List (List Int)) : List (List Int) := if arT xss = true ∧ xss.length ≠ 0 then cjgL xss (partL (degT xss).toNat) else []
def cjC (xss : List (List Int)) : Int := if arT xss then 0 else 1
theorem cjgL_step (xss basis : List (List Int)) (k : Nat) (h : k < basis.length) : cjgL xss (basis.take (k + 1)) = cjgL xss (basis.take k) ++ (if pairL xss (dconL basis[k]) = 1 then [basis[k]] else []) := by
  unfold cjgL
  rw [List.take_succ_eq_append_getElem h, List.filter_append]
  congr 1
  by_cases e : pairL xss (dconL basis[k]) = 1
  · rw [if_pos e]; simp [e]
  · rw [if_neg e]; simp [e]
theorem cjR_cnt (xss : List (List Int)) : cnt (cjR xss) ≤ 5000 := by
  unfold cjR
  split
  · rename_i h
    have hd := degT_in h.1
    obtain ⟨n, hn⟩ : ∃ n : Nat, degT xss = n := ⟨(degT xss).toNat, by omega⟩
    rw [hn, Int.toNat_natCast]
    have hl : (partL n).length ≤ 504 := expD_length (d := (n : Int)) (asc_partL n) (fun x hx => mem_partL (by omega) hx) (by omega)
    have h1 : (cjgL xss (partL n)).length ≤ 504 := Nat.le_trans (List.length_filter_le _ _) hl
    have h2 : cnt (cjgL xss (partL n)) ≤ (cjgL xss (partL n)).length * 5 := cnt_le fun r hr => by
      have := mem_partL (d := n) (by omega) (List.mem_filter.1 hr).1
      exact exp_len5 this.1 (by rw [this.2]; omega)
    omega
  · simp [cnt]
theorem pairL_01 (a b : List (List Int)) : pairL a b = 0 ∨ pairL a b = 1 := by unfold pairL; omega
theorem slAt_eq {h : Array Obj} {e : Nat} {v : Value} {us vs : List Value} (a : SlAt h e v us) (b : SlAt h e v vs) : us = vs := by
  rcases a with ⟨rfl, rfl⟩ | ⟨b1, o1, c1, cur, rfl, hb, h1, h2, h3, h4⟩
  · rcases b with ⟨_, rfl⟩ | ⟨b2, o2, c2, cur2, hv, _⟩
    · rfl
    · simp at hv
  · rcases b with ⟨hv, _⟩ | ⟨b2, o2, c2, cur2, hv, hb2, k1, k2, k3, k4⟩
    · simp at hv
    · simp only [Value.slice.injEq, Option.some.injEq, Addr.mk.injEq, and_true] at hv
      obtain ⟨⟨rfl, rfl⟩, hl, rfl⟩ := hv
      rw [hb] at hb2
      simp only [Option.some.injEq, Obj.cells.injEq] at hb2
      obtain ⟨rfl, -⟩ := hb2
      rw [← h4, ← k4, hl]
theorem ints_eq {h : Array Obj} {v : Value} {xs ys : List Int} (a : IntS h v xs) (b : IntS h v ys) : xs = ys := by
  have := slAt_eq a b
  exact (List.map_inj_right (f := Value.int .i64) (fun x y e => by injection e)).1 this
/-- A row of values, some of those of a list of the call's own. -/
structure SubU (us vs : List Value) (n : Nat) : Prop where
  ok : ∃ ks : List Nat, ks.Pairwise (· < ·) ∧ (∀ k ∈ ks, k < n) ∧ us = ks.map fun k => vs.getD k .nilFunc
theorem SubU.nil (vs : List Value) : SubU [] vs 0 := ⟨[], List.Pairwise.nil, by simp, rfl⟩
theorem SubU.skip {us vs : List Value} {n : Nat} (h : SubU us vs n) : SubU us vs (n + 1) := by
  obtain ⟨ks, h1, h2, h3⟩ := h.ok
  exact ⟨ks, h1, fun k hk => by have := h2 k hk; omega, h3⟩
theorem SubU.add {us vs : List Value} {n : Nat} (h : SubU us vs n) {u : Value} (hu : vs[n]? = some u) : SubU (us ++ [u]) vs (n + 1) := by
  obtain ⟨ks, h1, h2, h3⟩ := h.ok
  refine ⟨ks ++ [n], ?_, fun k hk => ?_, ?_⟩
  · rw [List.pairwise_append]
    exact ⟨h1, List.pairwise_singleton .., fun a ha b hb => by rw [List.mem_singleton] at hb; subst hb; exact h2 a ha⟩
  · rcases List.mem_append.1 hk with h | h
    · have := h2 k h; omega
    · rw [List.mem_singleton] at h; omega
  · rw [h3, List.map_append]; simp [List.getD_eq_getElem?_getD, hu]
/-- A row of references to rows of a list of the call's own: it is the call's own as well. -/
theorem SubU.own {w : World} {B : Nat} {v v' : Value} {us vs : List Value} {xss yss : List (List Int)} {n : Nat} (h : SubU us vs n) (hn : n ≤ vs.length) (ho : OwnU w B v' vs yss) (hr : w.ownsRow B 56 1 v xss.length us)
    (he : ∀ (i : Nat) u xs, us[i]? = some u → xss[i]? = some xs → IntS w.heap u xs) : OwnU w B v us xss := by
  obtain ⟨ks, h1, h2, h3⟩ := h.ok
  have hvl := ho.len
  have hul : us.length = xss.length := by simpa using hr.1
  have hkl : ks.length = us.length := by rw [h3]; simp
  have key : ∀ (i : Nat) u, us[i]? = some u → ∃ k, ks[i]? = some k ∧ vs[k]? = some u := by
    intro i u hu
    have hi : i < ks.length := by
      have := (List.getElem?_eq_some_iff.1 hu).1
      omega
    refine ⟨ks[i], List.getElem?_eq_getElem hi, ?_⟩
    rw [h3, List.getElem?_map, List.getElem?_eq_getElem hi] at hu
    simp only [Option.map_some, Option.some.injEq] at hu
    have := h2 ks[i] (List.getElem_mem hi)
    rw [← hu]; simp [List.getD_eq_getElem?_getD, show ks[i] < vs.length by omega]
  refine ⟨hr, fun i u xs hu hx => ?_, fun i j u u' hij hu hu' => ?_⟩
  · obtain ⟨k, -, hk⟩ := key i u hu
    have hkv := (List.getElem?_eq_some_iff.1 hk).1
    have hown := ho.each k u _ hk (List.getElem?_eq_getElem (show k < yss.length by omega))
    have h4 := he i u xs hu hx
    have e := ints_eq hown.ints h4
    rw [e] at hown; exact hown
  · obtain ⟨k, hk1, hk⟩ := key i u hu
    obtain ⟨k', hk1', hk'⟩ := key j u' hu'
    refine ho.apart k k' u u' ?_ hk hk'
    have hi := (List.getElem?_eq_some_iff.1 hk1); have hj := (List.getElem?_eq_some_iff.1 hk1')
    obtain ⟨hi1, hi2⟩ := hi; obtain ⟨hj1, hj2⟩ := hj
    rw [← hi2, ← hj2]
    exact List.pairwise_iff_getElem.1 h1 i j hi1 hj1 hij
section
variable {ops : Array Oper} {rest : List Oper} {o : Oper} {a : Act} {Q : Exit → Act → World → Prop}
/-- 'append(out, row)', out a row of references: where the grown row lies is told. -/
theorem append_ref1 {w w0 : World} (hg : o.guard = none) (s x : Operand)
    (ho : o.op = .call { callee := .builtin .append, args := #[s, x], argTypes := #[22, 22] })
    (B : Nat) (v u : Value) (us : List Value) (xss : List (List Int)) (xs : List Int) (hR : RefR w B w.heap v us xss) (hs : a.eval s = v) (hu : IntS w.heap u xs) (hbl : Below B w0 w) (hB : B ≤ w.heap.size)
    (b : Nat) (hx : a.eval x = .slice (some ⟨b, 0, none⟩) 1 1) (hb : b = w.heap.size) (hn : xss.length ≤ 4398046511104)
    (hK : ∀ v' w', RefR w' B w'.heap v' (us ++ [u]) (xss ++ [xs]) → Below B w0 w' → w.heap.size ≤ w'.heap.size → (∀ b, b < w.heap.size → some b ≠ v.ownBlock → w'.heap[b]? = w.heap[b]?) → (v'.ownBlock = v.ownBlock ∨ ∃ k, w.heap.size ≤ k ∧ v'.ownBlock = some k) → KeepI w w' → wpList Tryz.prog ops Q rest (a.put o.dst v') w') :
    wpList Tryz.prog ops Q (o :: rest) a (w.alloc (.cells #[u] 56)) := by
  obtain ⟨i0, hi, hz0, hz1, hz2⟩ := info_parts info_slI
  refine append_at hg s x _ ho B _ i0 _ 24 Tryz.underlying22 hi hz0 hz1 hz2 rfl (by omega) v _ us u hR.row hs hbl hB b hx hb (slAt_oneCell hu) hn ?_
  intro v' w' h1 h2 h3 h4 h5
  have hk := KeepI.grown hR.row (by decide) h4
  exact hK v' w' ⟨by simpa using h1, append_each hR.len (fun i y ys hy hz => (hR.each i y ys hy hz).keep hk) (fun i y ys hy hz => by
    match i, hy, hz with
    | 0, hy, hz =>
      simp at hy hz
      subst hy; subst hz; exact hu.keep hk)⟩ h2 h3 h4 h5 hk
end
theorem RefR.intsS {w : World} {B : Nat} {v : Value} {us : List Value} {xss : List (List Int)} (a : RefR w B w.heap v us xss) : IntSS w.heap v xss := a.ints (fun _ _ => rfl)
/-- Where the row of references lies: not among the blocks from lo on that are below hi. -/
def Out (v : Value) (lo hi : Nat) : Prop := ∀ b, v.ownBlock = some b → b < lo ∨ hi ≤ b
theorem Out.step {v v' : Value} {lo hi n : Nat} (h : Out v lo hi) (hn : hi ≤ n) (k : v'.ownBlock = v.ownBlock ∨ ∃ k, n ≤ k ∧ v'.ownBlock = some k) : Out v' lo hi := by
  intro b hb
  rcases k with k | ⟨k, h1, h2⟩
  · exact h b (by rw [← k]; exact hb)
  · rw [h2] at hb; injection hb with e; right; omega
/-- The blocks from lo on that are below hi are as they were. -/
def SameIn (lo hi : Nat) (w w' : World) : Prop := ∀ b, lo ≤ b → b < hi → w'.heap[b]? = w.heap[b]?
theorem SameIn.of {lo hi : Nat} {w w1 w2 : World} (h : SameIn lo hi w w1) (hs : hi ≤ w1.heap.size) (k : Below w1.heap.size w1 w2) : SameIn lo hi w w2 := fun b h1 h2 => (k.block b (by omega)).trans (h b h1 h2)
theorem SameIn.app {lo hi : Nat} {w w1 w2 : World} {v : Value} (h : SameIn lo hi w w1) (hs : hi ≤ w1.heap.size) (ho : Out v lo hi) (k : ∀ b, b < w1.heap.size → some b ≠ v.ownBlock → w2.heap[b]? = w1.heap[b]?) : SameIn lo hi w w2 := fun b h1 h2 =>
  (k b (by omega) (fun e => by have := ho b e.symm; omega)).trans (h b h1 h2)
theorem SameIn.own {lo hi : Nat} {w w' : World} {v : Value} {us : List Value} {xss : List (List Int)} (h : SameIn lo hi w w') (hhi : w.heap.size = hi) (ho : OwnU w lo v us xss) : OwnU w' lo v us xss := ho.far fun b h1 h2 => h b h1 (by omega)
set_option maxRecDepth 100000 in
set_option maxHeartbeats 2000000 in
theorem conjugate_of (SO : SortOk) (SO2 : SortOk2) (v : Value) (xss : List (List Int)) (w : World) (h : IntSS w.heap v xss) (hT : arT xss = true) :
    Calls Tryz.prog 131 #[v] w fun e w' => ∃ r us, e = .returned r ∧ OwnU w' w.heap.size r us (cjR xss) ∧ Below w.heap.size w w' := by
  obtain ⟨ao, c, rfl, hm⟩ := h.len
  have H := Lib.hid h
  have R0 := Lib.hid (ref_empty (w := w) (B := w.heap.size) (w.alloc (.cells #[] 56)).heap (Nat.le_refl _))
  have hb0 : Below w.heap.size w (w.alloc (.cells #[] 56)) := (Below.refl _ _).alloc (Nat.le_refl _) _
  have HB0 := Lib.hid hb0
  by_cases h0 : xss.length = 0
  · have e1 : cjR xss = [] := by unfold cjR; rw [if_neg (fun x => x.2 h0)]
    rw [e1]
    have t1 := (eqB (show (xss.length : Int) = 0 by omega)).1
    clear e1 h hT h0 SO SO2 hb0
    go_enter Tryz.func131, Tryz.ntmps131
    go_wp2_with fail
    go_ret
    exact ⟨_, [], rfl, ⟨World.ownsRow_made w #[] 0 (Nat.le_refl _) (Nat.zero_le _) rfl, fun i u xs hu => by simp at hu, fun i j u u' _ hu => by simp at hu⟩, HB0.out⟩
  · have hd := degT_in hT
    obtain ⟨n, hn⟩ : ∃ n : Nat, degT xss = n := ⟨(degT xss).toNat, by omega⟩
    have e1 : cjR xss = cjgL xss (partL n) := by unfold cjR; rw [if_pos ⟨hT, h0⟩, hn, Int.toNat_natCast]
    rw [e1]
    have t1 := (neB (show (xss.length : Int) ≠ 0 by omega)).1
    have D := Lib.hid (fun (W : World) (h : IntSS W.heap (.slice ao xss.length c) xss) => degreeOfT_c _ xss W h hT)
    rw [hn] at D
    have hn40 : n ≤ 40 := by omega
    have P := Lib.hid (fun W => partitions_of SO2 n W hn40)
    have hlen : (partL n).length ≤ 504 := expD_length (d := (n : Int)) (asc_partL n) (fun x hx => mem_partL hn40 hx) (by omega)
    have HME := Lib.hid (fun x (hx : x ∈ partL n) => mem_partL hn40 hx)
    have hxl := arT_len hT
    clear e1 h hT h0 SO2 hd hn hb0
    generalize partL n = basis at *
    have hs0 : (w.alloc (.cells #[] 56)).heap.size = w.heap.size + 1 := by simp
    obtain ⟨w0, hw0⟩ : ∃ w0, w0 = w.alloc (.cells #[] 56) := ⟨_, rfl⟩
    rw [← hw0] at R0 HB0 hs0
    have HW0 := Lib.hid hw0
    clear hw0
    have HS0 := Lib.hid hs0
    clear hs0
    go_enter Tryz.func131, Tryz.ntmps131
    go_wp2_with (first | (go_at_call 122; rw [← HW0.out]; refine (D.out _ (H.out.same HB0.out.block)).mono ?_; rintro e w2 ⟨rfl, rfl⟩) | (go_at_call 126; refine (P.out _).mono ?_; rintro e w1 ⟨r1, us1, rfl, hU1, hb1⟩; obtain ⟨ba, bc, rfl, -⟩ := hU1.ints.len; rw [HS0.out] at hU1; have HU1 := Lib.hid hU1; have HB1 := Lib.hid hb1; clear hU1 hb1))
    have HBA := Lib.hid (HB0.out.trans (HB1.out.mono HB0.out.size))
    have hw1 : w.heap.size + 1 ≤ w1.heap.size := by have := HB1.out.size; have := HS0.out; omega
    have HR1 := Lib.hid ((R0.out.same HB1.out.block).grow HB1.out.block)
    go_loopw [3, 15] (fun o i wr => ∃ (k : Nat) (us : List Value), k ≤ basis.length ∧ i = .int .i64 k ∧ RefR wr w.heap.size wr.heap o us (cjgL xss (basis.take k)) ∧ SubU us us1 k ∧ Out o (w.heap.size + 1) w1.heap.size ∧ SameIn (w.heap.size + 1) w1.heap.size w1 wr ∧ Below w.heap.size w wr ∧ w1.heap.size ≤ wr.heap.size) (fun _ i _ => basis.length - (intOf i).toNat)
    case atStart => exact ⟨0, [], Nat.zero_le _, rfl, HR1.out, SubU.nil _, fun b hb => by simp [Value.ownBlock] at hb; omega, fun b _ _ => rfl, HBA.out, Nat.le_refl _⟩
    case round =>
      obtain ⟨k, us, hk, rfl, hR, hSU, hOU, hSI, hbl, hws⟩ := hrel
      obtain ⟨pa, pn, pc, rfl⟩ := own_shape hR.row
      have hown := hSI.own rfl HU1.out
      have HR := Lib.hid hR; have HSU := Lib.hid hSU; have HOU := Lib.hid hOU; have HSI := Lib.hid hSI; have HBL := Lib.hid hbl; have HOWN := Lib.hid hown
      have hszb := hbl.size
      have HXW := Lib.hid (H.out.same hbl.block)
      clear hR hSU hOU hSI hbl hown
      by_cases hkl : k < basis.length
      · obtain ⟨b1, o1, c1, uk, hv1, hc1, huk, -⟩ := HOWN.out.ints.at k hkl
        simp only [Value.slice.injEq, true_and] at hv1
        obtain ⟨rfl, rfl⟩ := hv1
        have huc : us1[k]? = some uk := by
          have hrw := HOWN.out.row
          have hll := HOWN.out.len
          obtain ⟨g, cap, hv, -⟩ := own_open hrw (show 0 < basis.length by omega)
          simp only [Value.slice.injEq, Option.some.injEq, Addr.mk.injEq, true_and, and_true] at hv
          obtain ⟨⟨rfl, rfl⟩, rfl⟩ := hv
          have := World.ownsRow.cellAt hrw k (by omega)
          rw [Nat.zero_add] at hc1
          rw [← this, hc1]
        have HUC := Lib.hid huc
        obtain ⟨qa, qc, rfl, -⟩ := huk.len
        have HUK := Lib.hid huk
        have hex := HME.out _ (List.getElem_mem hkl)
        have HST := Lib.hid (cjgL_step xss basis k hkl)
        have hda := (dconL_ok hex.1 (by rw [hex.2]; omega))
        have hdl : (dconL basis[k]).length ≤ 504 := expD_length hda.2 hda.1 (by rw [hex.2]; omega)
        have DC := Lib.hid (fun (W : World) (hu : IntS W.heap (.slice qa basis[k].length qc) basis[k]) => dualConjugate_of SO _ basis[k] W hu hex.1 (by rw [hex.2]; omega))
        have PR := Lib.hid (fun (u : Value) (W : World) (h : IntSS W.heap (.slice ao xss.length c) xss) (hu : IntSS W.heap u (dconL basis[k])) => pairing_c _ u xss (dconL basis[k]) W h hu hda.2 (by omega))
        have hcl : (cjgL xss (basis.take k)).length ≤ 4398046511104 := by
          have := List.length_filter_le (fun r => pairL xss (dconL r) == 1) (basis.take k)
          have h2 : (basis.take k).length ≤ k := List.length_take_le _ _
          unfold cjgL; omega
        have HCL := Lib.hid hcl
        have hki : (k : Int) < basis.length := by omega
        clear huc huk hex hda hdl hcl
        by_cases hp : pairL xss (dconL basis[k]) = 1
        · rw [if_pos hp] at HST
          rw [hp] at PR
          clear hp
          generalize dconL basis[k] = dk at *
          generalize basis[k] = ys at *
          go_wp2_with (first | (go_at_call 204; refine (DC.out _ HUK.out).mono ?_; rintro e w3 ⟨r3, us3, rfl, hU3, hb3⟩; obtain ⟨da, dn, dc, rfl⟩ := own_shape hU3.row; have HD3 := Lib.hid hU3.ints; have HB3 := Lib.hid hb3; have HR3 := Lib.hid ((HR.out.same hb3.block).grow hb3.block); have HU3 := Lib.hid (HUK.out.same hb3.block); have HBX := Lib.hid (HBL.out.trans (hb3.mono HBL.out.size)); clear hU3 hb3) | (go_at_call 120; refine (PR.out _ _ (HXW.out.same HB3.out.block) HD3.out).mono ?_; rintro e w4 ⟨rfl, rfl⟩) | (at_builtin; refine append_ref1 rfl _ _ rfl w.heap.size _ _ us _ _ HR3.out rfl HU3.out HBX.out HBX.out.size _ rfl rfl HCL.out ?_; intro v5 w5 hU5 hb5 hs5 hk5 hw5 _; obtain ⟨sa, sn, sc, rfl⟩ := own_shape hU5.row))
          have hz3 := Nat.le_trans hws HB3.out.size
          have G := Lib.hid (And.intro (HSU.out.add HUC.out) (And.intro (HOU.out.step hz3 hw5) (((HSI.out.of hws HB3.out).app hz3 HOU.out hk5))))
          have HU5 := Lib.hid hU5; have HB5 := Lib.hid hb5
          have hs6 : w1.heap.size ≤ w5.heap.size := Nat.le_trans hz3 hs5
          clear hU5 hb5 hk5 hw5
          go_roundw
          case rel => exact ⟨k + 1, _, by omega, by go_num, by rw [HST.out]; exact HU5.out, G.out.1, G.out.2.1, G.out.2.2, HB5.out, hs6⟩
          case measure => simp [intOf]; omega
        · rw [if_neg hp, List.append_nil] at HST
          have hp0 : pairL xss (dconL basis[k]) = 0 := by have := pairL_01 xss (dconL basis[k]); omega
          rw [hp0] at PR
          clear hp hp0
          generalize dconL basis[k] = dk at *
          generalize basis[k] = ys at *
          go_wp2_with (first | (go_at_call 204; refine (DC.out _ HUK.out).mono ?_; rintro e w3 ⟨r3, us3, rfl, hU3, hb3⟩; obtain ⟨da, dn, dc, rfl⟩ := own_shape hU3.row; have HD3 := Lib.hid hU3.ints; have HB3 := Lib.hid hb3; have HR3 := Lib.hid ((HR.out.same hb3.block).grow hb3.block); have HBX := Lib.hid (HBL.out.trans (hb3.mono HBL.out.size)); clear hU3 hb3) | (go_at_call 120; refine (PR.out _ _ (HXW.out.same HB3.out.block) HD3.out).mono ?_; rintro e w4 ⟨rfl, rfl⟩))
          have hz3 := Nat.le_trans hws HB3.out.size
          have G := Lib.hid (HSI.out.of hws HB3.out)
          go_roundw
          case rel => exact ⟨k + 1, us, by omega, by go_num, by rw [HST.out]; exact HR3.out, HSU.out.skip, HOU.out, G.out, HBX.out, hz3⟩
          case measure => simp [intOf]; omega
      · obtain rfl : k = basis.length := by omega
        rw [List.take_length] at HR
        have HF := Lib.hid (HSU.out.own (by have := HOWN.out.len; omega) (own_u_base (B' := w.heap.size) HOWN.out (by omega)) HR.out.row HR.out.each)
        go_wp2_with fail
        go_ret
        exact ⟨_, us, rfl, HF.out, HBL.out⟩
set_option maxRecDepth 100000 in
set_option maxHeartbeats 2000000 in
theorem l05Conjugate_c (v : Value) (xss : List (List Int)) (w : World) (h : IntSS w.heap v xss) (hT : arT xss = true) :
    Calls Tryz.prog 132 #[v] w fun e w' => ∃ r, e = .returned r ∧ IntSS w'.heap r (cjR xss) ∧ Below w.heap.size w w' := by
  obtain ⟨ao, c, rfl, hm⟩ := h.len
  have H := Lib.hid h
  by_cases h0 : xss.length = 0
  · have e1 : cjR xss = [] := by unfold cjR; rw [if_neg (fun x => x.2 h0)]
    rw [e1]
    have t1 := (eqB (show (xss.length : Int) = 0 by omega)).1
    clear e1 h hT h0
    go_enter Tryz.func132, Tryz.ntmps132
    go_wp2_with fail
    go_ret
    exact ⟨_, rfl, IntSS.nil _, Below.refl _ _⟩
  · have hd := degT_in hT
    obtain ⟨n, hn⟩ : ∃ n : Nat, degT xss = n := ⟨(degT xss).toNat, by omega⟩
    have e1 : cjR xss = cjgL xss (partL n) := by unfold cjR; rw [if_pos ⟨hT, h0⟩, hn, Int.toNat_natCast]
    rw [e1]
    have t1 := (neB (show (xss.length : Int) ≠ 0 by omega)).1
    have hz : (0 : Int) < xss.length := by omega
    obtain ⟨b1, o1, c1, u1, hv1, hc1, hu1, -⟩ := H.out.at 0 (by omega)
    simp only [Value.slice.injEq, true_and] at hv1
    obtain ⟨rfl, rfl⟩ := hv1
    rw [show o1 + 0 = o1 from rfl] at hc1
    rw [show xss[0] = xss.getD 0 [] by simp [show 0 < xss.length by omega]] at hu1
    have F1 := Lib.hid (arT_first' hT)
    have D := Lib.hid (l01DegreeE_c u1 _ w hu1 F1.out)
    rw [show deg (xss.getD 0 []) = n from hn] at D
    obtain ⟨ua, uc, rfl, -⟩ := hu1.len
    have hn40 : n ≤ 40 := by omega
    have AL := Lib.hid (l01All_c n w hn40)
    have CJ := Lib.hid l06Conjugates_c
    have hlen : (partL n).length ≤ 504 := expD_length (d := (n : Int)) (asc_partL n) (fun x hx => mem_partL hn40 hx) (by omega)
    have HME := Lib.hid (fun x (hx : x ∈ partL n) => mem_partL hn40 hx)
    have hxl := arT_len hT
    clear e1 h hT h0 hd hn hu1 F1
    generalize partL n = basis at *
    generalize xss.getD 0 [] = y0 at *
    go_enter Tryz.func132, Tryz.ntmps132
    go_wp2_with (first | (go_at_call 118; refine D.out.mono ?_; rintro e w' ⟨rfl, rfl⟩) | (go_at_call 205; refine AL.out.mono ?_; rintro e w1 ⟨r1, us1, rfl, hU1, hb1⟩; obtain ⟨ba, bc, rfl, -⟩ := hU1.ints.len; have HU1 := Lib.hid hU1; have HB1 := Lib.hid hb1; have hws1 := hb1.size; clear hU1 hb1) | (go_at_call 206; refine (CJ.out _).mono ?_; rintro e w2 ⟨r2, us2, rfl, hS2, hb2⟩; obtain ⟨ja, jc, rfl, -⟩ := hS2.ints.len; have HS2 := Lib.hid hS2; have HB2 := Lib.hid hb2; clear hS2 hb2))
    have hsA : (w1.alloc (.cells #[] 56)).heap.size = w1.heap.size + 1 := by simp
    have hws2 : w1.heap.size + 1 ≤ w2.heap.size := by have := HB2.out.size; omega
    have HBA := Lib.hid (HB1.out.trans ((((Below.refl w1.heap.size w1).alloc (Nat.le_refl _) (.cells #[] 56)).trans (HB2.out.mono (by simp))).mono HB1.out.size))
    have HB12 := Lib.hid (((Below.refl w1.heap.size w1).alloc (Nat.le_refl _) (.cells #[] 56)).trans (HB2.out.mono (by simp)))
    have HR1 := Lib.hid (((ref_empty (w := w1) (B := w1.heap.size) (w1.alloc (.cells #[] 56)).heap (Nat.le_refl _)).same HB2.out.block).grow HB2.out.block)
    rw [hsA] at HS2
    go_loopw [4, 6] (fun o i wr => ∃ (k : Nat) (us : List Value), k ≤ basis.length ∧ i = .int .i64 k ∧ RefR wr w1.heap.size wr.heap o us (cjgL xss (basis.take k)) ∧ Out o (w1.heap.size + 1) w2.heap.size ∧ SameIn (w1.heap.size + 1) w2.heap.size w2 wr ∧ Below w1.heap.size w1 wr ∧ w2.heap.size ≤ wr.heap.size) (fun _ i _ => basis.length - (intOf i).toNat)
    case atStart => exact ⟨0, [], Nat.zero_le _, rfl, HR1.out, fun b hb => by simp [Value.ownBlock] at hb; omega, fun b _ _ => rfl, HB12.out, Nat.le_refl _⟩
    case round =>
      obtain ⟨k, us, hk, rfl, hR, hOU, hSI, hbl, hws⟩ := hrel
      obtain ⟨pa, pn, pc, rfl⟩ := own_shape hR.row
      have HR := Lib.hid hR; have HOU := Lib.hid hOU; have HSI := Lib.hid hSI; have HBL := Lib.hid hbl
      have HBW := Lib.hid (HB1.out.trans (hbl.mono HB1.out.size))
      have HXW := Lib.hid (H.out.same HBW.out.block)
      have HUW := Lib.hid (HU1.out.ints.same hbl.block)
      have HSW := Lib.hid (HS2.out.far fun b h1 h2 => hSI b h1 h2).ints
      clear hR hOU hSI hbl
      by_cases hkl : k < basis.length
      · obtain ⟨b3, o3, c3, uk, hv3, hc3, huk, -⟩ := HUW.out.at k hkl
        simp only [Value.slice.injEq, true_and] at hv3
        obtain ⟨rfl, rfl⟩ := hv3
        obtain ⟨qa, qc, rfl, -⟩ := huk.len
        have HUK := Lib.hid huk
        have hex := HME.out _ (List.getElem_mem hkl)
        have HST := Lib.hid (cjgL_step xss basis k hkl)
        have hda := (dconL_ok hex.1 (by rw [hex.2]; omega))
        have MO := Lib.hid (fun (W : World) (h : IntSSS W.heap (.slice ja (conjTab 6).length jc) (conjTab 6)) (hu : IntS W.heap (.slice qa basis[k].length qc) basis[k]) => l06Monomial_c _ _ basis[k] W h hu hex.1 (by rw [hex.2]; omega))
        have PR := Lib.hid (fun (u : Value) (W : World) (h : IntSS W.heap (.slice (some ⟨b1, o1, none⟩) xss.length c) xss) (hu : IntSS W.heap u (dconL basis[k])) => l06Pairing_c _ u xss (dconL basis[k]) W h hu (by omega))
        have hcl : (cjgL xss (basis.take k)).length ≤ 4398046511104 := by
          have := List.length_filter_le (fun r => pairL xss (dconL r) == 1) (basis.take k)
          have h2 : (basis.take k).length ≤ k := List.length_take_le _ _
          unfold cjgL; omega
        have HCL := Lib.hid hcl
        have hki : (k : Int) < basis.length := by omega
        clear huk hex hda hcl
        by_cases hp : pairL xss (dconL basis[k]) = 1
        · rw [if_pos hp] at HST
          rw [hp] at PR
          clear hp
          generalize dconL basis[k] = dk at *
          generalize basis[k] = ys at *
          go_wp2_with (first | (go_at_call 207; refine (MO.out _ HSW.out HUK.out).mono ?_; rintro e w3 ⟨r3, us3, rfl, hU3, hb3⟩; obtain ⟨da, dn, dc, rfl⟩ := own_shape hU3.row; have HD3 := Lib.hid hU3.ints; have HB3 := Lib.hid hb3; have HR3 := Lib.hid ((HR.out.same hb3.block).grow hb3.block); have HU3 := Lib.hid (HUK.out.same hb3.block); have HBX := Lib.hid (HBL.out.trans (hb3.mono HBL.out.size)); have hc4 := (hb3.cell (World.block_lt_of_cell? _ _ hc3)).trans hc3; clear hU3 hb3) | (go_at_call 121; refine (PR.out _ _ (HXW.out.same HB3.out.block) HD3.out).mono ?_; rintro e w4 ⟨rfl, n4, rfl⟩; have hc5 : (w3.drewN n4).cell? ⟨b3, o3 + k, none⟩ = _ := hc4) | (at_builtin; refine append_ref1 (w := w3.drewN n4) rfl _ _ rfl w1.heap.size _ _ us _ _ (by exact HR3.out.same (fun _ _ => rfl)) rfl (by exact HU3.out) (below_drewN n4 HBX.out) HBX.out.size _ rfl rfl HCL.out ?_; intro v5 w5 hU5 hb5 hs5 hk5 hw5 _; obtain ⟨sa, sn, sc, rfl⟩ := own_shape hU5.row))
          have hz3 := Nat.le_trans hws HB3.out.size
          have G := Lib.hid (And.intro (HOU.out.step hz3 hw5) (((HSI.out.of hws HB3.out).app hz3 HOU.out hk5)))
          have HU5 := Lib.hid hU5; have HB5 := Lib.hid hb5
          have hs6 : w2.heap.size ≤ w5.heap.size := Nat.le_trans hz3 hs5
          clear hU5 hb5 hk5 hw5
          go_roundw
          case rel => exact ⟨k + 1, _, by omega, by go_num, by rw [HST.out]; exact HU5.out, G.out.1, G.out.2, HB5.out, hs6⟩
          case measure => simp [intOf]; omega
        · rw [if_neg hp, List.append_nil] at HST
          have hp0 : pairL xss (dconL basis[k]) = 0 := by have := pairL_01 xss (dconL basis[k]); omega
          rw [hp0] at PR
          clear hp hp0
          generalize dconL basis[k] = dk at *
          generalize basis[k] = ys at *
          go_wp2_with (first | (go_at_call 207; refine (MO.out _ HSW.out HUK.out).mono ?_; rintro e w3 ⟨r3, us3, rfl, hU3, hb3⟩; obtain ⟨da, dn, dc, rfl⟩ := own_shape hU3.row; have HD3 := Lib.hid hU3.ints; have HB3 := Lib.hid hb3; have HR3 := Lib.hid ((HR.out.same hb3.block).grow hb3.block); have HBX := Lib.hid (HBL.out.trans (hb3.mono HBL.out.size)); clear hU3 hb3) | (go_at_call 121; refine (PR.out _ _ (HXW.out.same HB3.out.block) HD3.out).mono ?_; rintro e w4 ⟨rfl, n4, rfl⟩))
          have hz3 := Nat.le_trans hws HB3.out.size
          have G := Lib.hid (HSI.out.of hws HB3.out)
          go_roundw
          case rel => exact ⟨k + 1, us, by omega, by go_num, by rw [HST.out]; exact (HR3.out.same (fun _ _ => rfl)), HOU.out, G.out, below_drewN n4 HBX.out, hz3⟩
          case measure => simp [intOf]; omega
      · obtain rfl : k = basis.length := by omega
        rw [List.take_length] at HR
        go_wp2_with fail
        go_ret
        exact ⟨_, rfl, HR.out.intsS, HBW.out⟩
end
section
open Go.RowKit Go.Sort

theorem SlAt.but {h h' : Array Obj} {e e0 g : Nat} {v : Value} {us : List Value} (a : SlAt h e v us) (k : ∀ b, b < h.size → b ≠ g → h'[b]? = h[b]?) (hg : h[g]? = some (.cells #[] e0 (0, 0))) (hne : e ≠ e0 ∨ 0 < us.length) : SlAt h' e v us := by
  rcases a with a | ⟨b, off, cap, cur, rfl, hb, h1, h2, h3, h4⟩
  · exact .inl a
  · refine .inr ⟨b, off, cap, cur, rfl, ?_, h1, h2, h3, h4⟩
    rw [k b (Array.getElem?_eq_some_iff.1 hb).1 ?_]; exact hb
    rintro rfl
    rw [hb] at hg
    simp only [Option.some.injEq, Obj.cells.injEq] at hg
    obtain ⟨rfl, rfl, -⟩ := hg
    rcases hne with h | h
    · exact h rfl
    · simp at h3; omega
theorem IntSSS.but {h h' : Array Obj} {g : Nat} {v : Value} {xsss : List (List (List Int))} (a : IntSSS h v xsss) (k : ∀ b, b < h.size → b ≠ g → h'[b]? = h[b]?) (hg : h[g]? = some (.cells #[] 56 (0, 0))) (hne : ∀ q ∈ xsss, 0 < q.length) : IntSSS h' v xsss := by
  obtain ⟨us, h1, h2, h3⟩ := a
  refine ⟨us, h1.but k hg (.inl (by decide)), h2, fun i u xss hu hx => ?_⟩
  obtain ⟨vs, g1, g2, g3⟩ := h3 i u xss hu hx
  exact ⟨vs, g1.but k hg (.inr (by rw [g2]; exact hne _ (List.mem_of_getElem? hx))), g2, fun j y xs hy hz => (g3 j y xs hy hz : SlAt _ _ _ _).but k hg (.inl (by decide))⟩
theorem RefR.drewN {w : World} {B : Nat} {v : Value} {us : List Value} {xss : List (List Int)} (n : Nat) (a : RefR w B w.heap v us xss) : RefR (w.drewN n) B (w.drewN n).heap v us xss := ⟨own_same a.row (fun _ _ => rfl), a.each⟩
set_option maxRecDepth 100000 in
set_option maxHeartbeats 2000000 in
theorem implContractionOf_of (SO : SortOk) (v u : Value) (xss yss : List (List Int)) (w : World) (h : IntSS w.heap v xss) (hu : IntSS w.heap u yss) :
    Calls Tryz.prog 14 #[.agg #[v], .agg #[u]] w fun e w' => ∃ r us, e = .returned (.tuple #[.agg #[r], .int .i64 (ctC xss yss)]) ∧ OwnU w' w.heap.size r us (ctR xss yss) ∧ Below w.heap.size w w' := by
  have hb : Below w.heap.size w (((w.alloc (.cells #[v] 31)).alloc (.cells #[u] 28)).alloc (.cells #[.slice none 0 0] 28)) := (((Below.refl _ _).alloc (Nat.le_refl _) _).alloc (by simp) _).alloc (by simp; omega) _
  have k0 := (((Cell1.new w v 31).kept (alloc_old _ (.cells #[u] 28))).kept (alloc_old _ (.cells #[.slice none 0 0] 28)))
  have k1 := ((Cell1.new (w.alloc (.cells #[v] 31)) u 28).kept (alloc_old _ (.cells #[.slice none 0 0] 28)))
  have k2 := Cell1.new ((w.alloc (.cells #[v] 31)).alloc (.cells #[u] 28)) (.slice none 0 0) 28
  simp only [size_alloc_w] at k1 k2
  have hsz : (((w.alloc (.cells #[v] 31)).alloc (.cells #[u] 28)).alloc (.cells #[.slice none 0 0] 28)).heap.size = w.heap.size + 3 := by simp
  have M := Lib.hid (isMilnor_c v xss _ (h.same hb.block))
  have D := Lib.hid (fun (w : World) (hu : IntSS w.heap u yss) => isDual_c u yss w hu)
  obtain ⟨ao, c, rfl, hm⟩ := h.len
  obtain ⟨bo, d, rfl, hn⟩ := hu.len
  have H := Lib.hid h; have HU := Lib.hid hu; clear h hu
  obtain ⟨w0, hw0⟩ : ∃ w0, w0 = ((w.alloc (.cells #[.slice ao xss.length c] 31)).alloc (.cells #[.slice bo yss.length d] 28)).alloc (.cells #[.slice none 0 0] 28) := ⟨_, rfl⟩
  have q0 := k0.c0
  rw [← hw0] at k0 k1 k2 hb hsz M
  have HW := Lib.hid hw0; clear hw0
  have HB0 := Lib.hid hb; have K0 := Lib.hid k0; have K1 := Lib.hid k1; have K2 := Lib.hid k2; have HSZ := Lib.hid hsz
  clear hb k0 k1 k2 hsz
  cases hA : arT xss
  · have e1 : ctC xss yss = 1 := by simp [ctC, hA]
    have e2 : ctR xss yss = [] := by simp [ctR, hA]
    rw [e1, e2]
    rw [hA] at M
    clear e1 e2 hA SO D
    go_enter Tryz.func14, Tryz.ntmps14
    go_wp2_with fail
    rw [← HW.out]
    refine M.out.mono ?_
    rintro e w1 ⟨rfl, hb1⟩
    have K01 := Lib.hid (K0.out.kept hb1.block)
    have K11 := Lib.hid (K1.out.kept hb1.block)
    have K21 := Lib.hid (K2.out.kept hb1.block)
    have q1 := K11.out.c0; have q2 := K21.out.c0; have f2 := K21.out.free 0
    have HB1 := Lib.hid (HB0.out.trans (hb1.mono HB0.out.size))
    have HS1 := Lib.hid hb1.size
    clear hb1 HW q0
    go_wp2_with fail
    have g0 := (K21.out.set (.slice none 0 0)).c0
    exact bodyPost_ret (v := .tuple #[.agg #[.slice none 0 0], .int .i64 1]) (by simp [results, Tryz.results14, go_sem, g0]) rfl
      ⟨_, [], rfl, own_u_nil _ _, HB1.out.setCell (by show w.heap.size ≤ w.heap.size + 1 + 1; omega) _⟩
  rw [hA] at M
  cases hT : arT yss
  · have e1 : ctC xss yss = 1 := by simp [ctC, hT]
    have e2 : ctR xss yss = [] := by simp [ctR, hT]
    rw [e1, e2]
    rw [hT] at D
    clear e1 e2 hA hT SO
    go_enter Tryz.func14, Tryz.ntmps14
    go_wp2_with fail
    rw [← HW.out]
    refine M.out.mono ?_
    rintro e w1 ⟨rfl, hb1⟩
    have K01 := Lib.hid (K0.out.kept hb1.block)
    have K11 := Lib.hid (K1.out.kept hb1.block)
    have K21 := Lib.hid (K2.out.kept hb1.block)
    have q1 := K11.out.c0; have q2 := K21.out.c0; have f2 := K21.out.free 0
    have HB1 := Lib.hid (HB0.out.trans (hb1.mono HB0.out.size))
    have HS1 := Lib.hid hb1.size
    clear hb1 HW q0
    go_wp2_with fail
    refine (D.out _ (HU.out.same HB1.out.block)).mono ?_
    rintro e w2 ⟨rfl, hb2⟩
    have K02 := Lib.hid (K01.out.kept hb2.block)
    have K12 := Lib.hid (K11.out.kept hb2.block)
    have K22 := Lib.hid (K21.out.kept hb2.block)
    have HB2 := Lib.hid (HB1.out.trans (hb2.mono HB1.out.size))
    have HS2 := Lib.hid (Nat.le_trans HS1.out hb2.size)
    clear hb2 q1 q2 f2
    have q2 := K22.out.c0; have f2 := K22.out.free 0
    go_wp2_with fail
    have g0 := (K22.out.set (.slice none 0 0)).c0
    exact bodyPost_ret (v := .tuple #[.agg #[.slice none 0 0], .int .i64 1]) (by simp [results, Tryz.results14, go_sem, g0]) rfl
      ⟨_, [], rfl, own_u_nil _ _, HB2.out.setCell (by show w.heap.size ≤ w.heap.size + 1 + 1; omega) _⟩
  have e1 : ctC xss yss = 0 := by simp [ctC, hA, hT]
  have e2 : ctR xss yss = conL xss yss := by simp [ctR, hA, hT]
  rw [e1, e2]
  rw [hT] at D
  have hl := conL_len hA hT
  have hx2 := arT_len hA
  have CP := Lib.hid (fun (W : World) (h : IntSS W.heap (.slice bo yss.length d) yss) => coproducts_c _ yss W h hT (arT_504 hT))
  have HT := Lib.hid (fun (v u : Value) (r : List Int) (W : World) (h : IntSS W.heap v xss) (hu : IntS W.heap u r) => hasTerm_c v u xss r W h hu (arT_asc hA) (by omega))
  have hlen : (oddP (copsL yss)).length ≤ 504 * 49766400 := by
    have h1 := copsL_len hT yss.length (arT_504 hT)
    rw [List.take_length] at h1
    exact Nat.le_trans (oddP_length _) h1
  have HPR := Lib.hid (fun q (hq : q ∈ oddP (copsL yss)) => copsL_ok hT q (oddP_mem hq))
  have HCL : Hid (conL xss yss = oddL (conS xss (oddP (copsL yss)))) := rfl
  have HLL := Lib.hid hl
  rw [HCL.out] at hl ⊢
  clear e1 e2 hA hT
  generalize oddP (copsL yss) = L at *
  have O := Lib.hid (fun (v : Value) (W : World) (h : IntSS W.heap v (conS xss L)) => oddOnes_of SO v _ W h (by have := conS_len xss L; omega) (fun z hz => by
    obtain ⟨q, hq, -, rfl⟩ := conS_mem hz
    obtain ⟨x, y, rfl, h1, h2, h3⟩ := HPR.out q hq
    simp; omega))
  have HCN := Lib.hid (fun k => conS_len xss (L.take k))
  clear SO HCL HLL
  go_enter Tryz.func14, Tryz.ntmps14
  go_wp2_with fail
  rw [← HW.out]
  refine M.out.mono ?_
  rintro e w1 ⟨rfl, hb1⟩
  have K01 := Lib.hid (K0.out.kept hb1.block)
  have K11 := Lib.hid (K1.out.kept hb1.block)
  have K21 := Lib.hid (K2.out.kept hb1.block)
  have q1 := K11.out.c0; have q2 := K21.out.c0; have f2 := K21.out.free 0
  have HB1 := Lib.hid (HB0.out.trans (hb1.mono HB0.out.size))
  have HS1 := Lib.hid hb1.size
  clear hb1 HW q0
  go_wp2_with fail
  refine (D.out _ (HU.out.same HB1.out.block)).mono ?_
  rintro e w2 ⟨rfl, hb2⟩
  have K02 := Lib.hid (K01.out.kept hb2.block)
  have K12 := Lib.hid (K11.out.kept hb2.block)
  have K22 := Lib.hid (K21.out.kept hb2.block)
  have HB2 := Lib.hid (HB1.out.trans (hb2.mono HB1.out.size))
  have HS2 := Lib.hid (Nat.le_trans HS1.out hb2.size)
  clear hb2 q1 q2 f2
  have q1 := Go.Lib.cell?_alloc_some (.cells #[] 56) K12.out.c0
  have HE := Lib.hid (ref_empty (w := w2) (B := w2.heap.size) w2.heap (Nat.le_refl _))
  have HW2 := Lib.hid ((Below.refl w2.heap.size w2).alloc (Nat.le_refl _) (.cells #[] 56))
  go_wp2_with (go_at_call 105; refine (CP.out _ ((HU.out.same HB2.out.block).same (alloc_old _ _))).mono ?_; rintro e w3 ⟨r3, us3, rfl, hU3, hb3⟩; obtain ⟨ta, tc, rfl, -⟩ := (hU3.ints (fun _ _ => rfl)).len; have HL3 := Lib.hid (hU3.ints (fun _ _ => rfl)); have HB3 := Lib.hid (HW2.out.trans (hb3.mono (by simp))); have HE3 := Lib.hid ((HE.out.same hb3.block).grow (fun b hb => (HB3.out.block b hb))); have HG3 := Lib.hid ((hb3.block w2.heap.size (by simp)).trans (heap_alloc_new w2 (.cells #[] 56))); clear hU3 hb3)
  have K03 := Lib.hid (K02.out.kept HB3.out.block)
  have K23 := Lib.hid (K22.out.kept HB3.out.block)
  have HX3 := Lib.hid ((H.out.same HB2.out.block).same HB3.out.block)
  have hsz3 := HB3.out.size
  clear q1
  have hg3 : w3.heap[w2.heap.size]? = some (.cells #[] 56 (0, 0)) := HG3.out
  have HG3 := Lib.hid hg3
  clear hg3
  have hBw := HB2.out.size
  go_loopw [6, 23] (fun o i wr => ∃ (k : Nat) (us : List Value), k ≤ L.length ∧ i = .int .i64 k ∧ RefR wr w2.heap.size wr.heap o us (conS xss (L.take k)) ∧ Out o (w2.heap.size + 1) w3.heap.size ∧ SameIn (w2.heap.size + 1) w3.heap.size w3 wr ∧ Below w2.heap.size w2 wr ∧ w3.heap.size ≤ wr.heap.size) (fun _ i _ => L.length - (intOf i).toNat)
  case atStart => exact ⟨0, [], Nat.zero_le _, rfl, HE3.out, fun b hb => by simp [Value.ownBlock] at hb; omega, fun b _ _ => rfl, HB3.out, Nat.le_refl _⟩
  case round =>
    obtain ⟨k, us, hk, rfl, hR, hOU, hSI, hbl, hws⟩ := hrel
    obtain ⟨pa, pn, pc, rfl⟩ := own_shape hR.row
    have HR := Lib.hid hR; have HOU := Lib.hid hOU; have HSI := Lib.hid hSI; have HBL := Lib.hid hbl
    have hlt0 := K02.out.lt
    have KR0 := Lib.hid (K02.out.same (hbl.block _ hlt0))
    have KR2 := Lib.hid (K22.out.same (hbl.block _ K22.out.lt))
    have q0 := KR0.out.c0
    have HXR := Lib.hid ((H.out.same HB2.out.block).same hbl.block)
    by_cases hkl : k < L.length
    · have hLr : IntSSS wr.heap (.slice ta L.length tc) L := HL3.out.but (g := w2.heap.size) (fun b hb hne => by
        by_cases h2 : b < w2.heap.size
        · rw [hbl.block b h2, HB3.out.block b h2]
        · exact hSI b (by omega) hb) HG3.out (fun q hq => by
          obtain ⟨x, y, rfl, _⟩ := HPR.out q hq
          simp)
      obtain ⟨b1, o1, c1, u1, hv1, hc1, hu1, -⟩ := hLr.at k hkl
      simp only [Value.slice.injEq, true_and] at hv1
      obtain ⟨rfl, rfl⟩ := hv1
      have hcs := conS_snoc xss L k hkl
      obtain ⟨x, y, hpe, -, -⟩ := HPR.out _ (List.getElem_mem hkl)
      rw [hpe] at hu1 hcs
      obtain ⟨g1, f1, d1, xa, xc, ya, yc, rfl, k1, k2, hi1, hi2⟩ := hu1.two
      have HI1 := Lib.hid hi1; have HI2 := Lib.hid hi2
      have hki : (k : Int) < L.length := by omega
      have hcn := HCN.out k
      rw [List.length_take] at hcn
      have HCN2 : Hid ((conS xss (L.take k)).length ≤ 4398046511104) := by show _ ≤ _; omega
      clear hR hOU hSI hbl hLr hu1 hi1 hi2 hcn hpe
      simp only [List.getD_cons_zero, List.getD_cons_succ] at hcs
      by_cases hmem : x ∈ xss
      · rw [if_pos hmem] at hcs
        have HCS := Lib.hid hcs
        have HT1 := Lib.hid (fun (W : World) (h : IntSS W.heap (.slice ao xss.length c) xss) (hu : IntS W.heap (.slice xa x.length xc) x) => HT.out _ _ x W h hu)
        rw [decide_eq_true hmem] at HT1
        clear hcs hmem
        go_wp2_with fail
        go_quiet ((go_at_call 106; first | exact quiet_behind_same (HT1.out _ (by exact HXR.out) (by exact HI1.out)) | exact quiet_same (HT1.out _ (by exact HXR.out) (by exact HI1.out))))
        go_wp2_with (at_builtin; refine append_ref1 rfl _ _ rfl w2.heap.size _ (.slice ya y.length yc) us _ y (HR.out.drewN _) rfl (by exact HI2.out) (below_drewN _ HBL.out) HBL.out.size _ rfl rfl HCN2.out ?_; intro v5 w5 hR5 hb5 hs5 h45 ho5 _; obtain ⟨sa, sn, sc, rfl⟩ := own_shape hR5.row)
        go_roundw
        case rel => exact ⟨k + 1, _, by omega, by go_num, by rw [HCS.out]; exact hR5, HOU.out.step hws ho5, HSI.out.app hws HOU.out h45, hb5, Nat.le_trans hws hs5⟩
        case measure => simp [intOf]; omega
      · rw [if_neg hmem] at hcs
        have HCS := Lib.hid hcs
        have HT1 := Lib.hid (fun (W : World) (h : IntSS W.heap (.slice ao xss.length c) xss) (hu : IntS W.heap (.slice xa x.length xc) x) => HT.out _ _ x W h hu)
        rw [decide_eq_false hmem] at HT1
        clear hcs hmem
        go_wp2_with fail
        go_quiet ((go_at_call 106; first | exact quiet_behind_same (HT1.out _ (by exact HXR.out) (by exact HI1.out)) | exact quiet_same (HT1.out _ (by exact HXR.out) (by exact HI1.out))))
        go_wp2_with fail
        go_roundw
        case rel => exact ⟨k + 1, us, by omega, by go_num, by rw [HCS.out]; exact HR.out.drewN _, HOU.out, fun b h1 h2 => HSI.out b h1 h2, below_drewN _ HBL.out, hws⟩
        case measure => simp [intOf]; omega
    · obtain rfl : k = L.length := by omega
      rw [List.take_length] at HR
      have u1 : decide ((2000 : Int) < ((oddL (conS xss L)).length : Int)) = false := decide_eq_false (by omega)
      have u2 : decide (2000 < (oddL (conS xss L)).length) = false := decide_eq_false (by omega)
      clear hR hOU hSI hbl q0
      generalize hrx : oddL (conS xss L) = rx at *
      have HRX := Lib.hid hrx
      clear hrx
      go_wp2_with (go_at_call 107; refine (O.out _ _ HR.out.intsS).mono ?_; rintro e w5 ⟨r5, us5, rfl, hU5, hb5⟩; obtain ⟨sa, sc, rfl, -⟩ := hU5.ints.len; have KR5 := Lib.hid (KR2.out.kept hb5.block); have q2 := KR5.out.c0; have f2 := KR5.out.free 0; have HU5 := Lib.hid hU5; have HB5 := Lib.hid (HB2.out.trans ((HBL.out.trans (hb5.mono HBL.out.size)).mono hBw)); clear hU5 hb5)
      have g0 := (KR5.out.set (.slice sa rx.length sc)).c0
      exact bodyPost_ret (v := .tuple #[.agg #[.slice sa rx.length sc], .int .i64 0]) (by simp [results, Tryz.results14, go_sem, g0]) rfl
        ⟨_, us5, rfl, by rw [HRX.out]; exact own_var1 HU5.out (by have := HS2.out; have := HSZ.out; omega) _ (Nat.le_trans hBw HBL.out.size) KR5.out, HB5.out.setCell (by show w.heap.size ≤ w.heap.size + 1 + 1; omega) _⟩
set_option maxRecDepth 100000 in
set_option maxHeartbeats 2000000 in
theorem specContractionOf_c (v u : Value) (xss yss : List (List Int)) (w : World) (h : IntSS w.heap v xss) (hu : IntSS w.heap u yss) :
    Calls Tryz.prog 11 #[.agg #[v], .agg #[u]] w fun e w' => ∃ r us, e = .returned (.tuple #[.agg #[r], .int .i64 (ctC xss yss)]) ∧ OwnU w' w.heap.size r us (ctR xss yss) ∧ Below w.heap.size w w' := by
  have hb : Below w.heap.size w (((w.alloc (.cells #[v] 31)).alloc (.cells #[u] 28)).alloc (.cells #[.slice none 0 0] 28)) := (((Below.refl _ _).alloc (Nat.le_refl _) _).alloc (by simp) _).alloc (by simp; omega) _
  have k0 := (((Cell1.new w v 31).kept (alloc_old _ (.cells #[u] 28))).kept (alloc_old _ (.cells #[.slice none 0 0] 28)))
  have k1 := ((Cell1.new (w.alloc (.cells #[v] 31)) u 28).kept (alloc_old _ (.cells #[.slice none 0 0] 28)))
  have k2 := Cell1.new ((w.alloc (.cells #[v] 31)).alloc (.cells #[u] 28)) (.slice none 0 0) 28
  simp only [size_alloc_w] at k1 k2
  have hsz : (((w.alloc (.cells #[v] 31)).alloc (.cells #[u] 28)).alloc (.cells #[.slice none 0 0] 28)).heap.size = w.heap.size + 3 := by simp
  have M := Lib.hid (l04Is_c v xss _ (h.same hb.block))
  have D := Lib.hid (fun (w : World) (hu : IntSS w.heap u yss) => l06Is_c u yss w hu)
  obtain ⟨ao, c, rfl, hm⟩ := h.len
  obtain ⟨bo, d, rfl, hn⟩ := hu.len
  have H := Lib.hid h; have HU := Lib.hid hu; clear h hu
  obtain ⟨w0, hw0⟩ : ∃ w0, w0 = ((w.alloc (.cells #[.slice ao xss.length c] 31)).alloc (.cells #[.slice bo yss.length d] 28)).alloc (.cells #[.slice none 0 0] 28) := ⟨_, rfl⟩
  have q0 := k0.c0
  rw [← hw0] at k0 k1 k2 hb hsz M
  have HW := Lib.hid hw0; clear hw0
  have HB0 := Lib.hid hb; have K0 := Lib.hid k0; have K1 := Lib.hid k1; have K2 := Lib.hid k2; have HSZ := Lib.hid hsz
  clear hb k0 k1 k2 hsz
  cases hA : arT xss
  · have e1 : ctC xss yss = 1 := by simp [ctC, hA]
    have e2 : ctR xss yss = [] := by simp [ctR, hA]
    rw [e1, e2]
    rw [hA] at M
    clear e1 e2 hA D
    go_enter Tryz.func11, Tryz.ntmps11
    go_wp2_with fail
    rw [← HW.out]
    refine M.out.mono ?_
    rintro e w1 ⟨rfl, hb1⟩
    have K01 := Lib.hid (K0.out.kept hb1.block)
    have K11 := Lib.hid (K1.out.kept hb1.block)
    have K21 := Lib.hid (K2.out.kept hb1.block)
    have q1 := K11.out.c0; have q2 := K21.out.c0; have f2 := K21.out.free 0
    have HB1 := Lib.hid (HB0.out.trans (hb1.mono HB0.out.size))
    have HS1 := Lib.hid hb1.size
    clear hb1 HW q0
    go_wp2_with fail
    have g0 := (K21.out.set (.slice none 0 0)).c0
    exact bodyPost_ret (v := .tuple #[.agg #[.slice none 0 0], .int .i64 1]) (by simp [results, Tryz.results11, go_sem, g0]) rfl
      ⟨_, [], rfl, own_u_nil _ _, HB1.out.setCell (by show w.heap.size ≤ w.heap.size + 1 + 1; omega) _⟩
  rw [hA] at M
  cases hT : arT yss
  · have e1 : ctC xss yss = 1 := by simp [ctC, hT]
    have e2 : ctR xss yss = [] := by simp [ctR, hT]
    rw [e1, e2]
    rw [hT] at D
    clear e1 e2 hA hT
    go_enter Tryz.func11, Tryz.ntmps11
    go_wp2_with fail
    rw [← HW.out]
    refine M.out.mono ?_
    rintro e w1 ⟨rfl, hb1⟩
    have K01 := Lib.hid (K0.out.kept hb1.block)
    have K11 := Lib.hid (K1.out.kept hb1.block)
    have K21 := Lib.hid (K2.out.kept hb1.block)
    have q1 := K11.out.c0; have q2 := K21.out.c0; have f2 := K21.out.free 0
    have HB1 := Lib.hid (HB0.out.trans (hb1.mono HB0.out.size))
    have HS1 := Lib.hid hb1.size
    clear hb1 HW q0
    go_wp2_with fail
    refine (D.out _ (HU.out.same HB1.out.block)).mono ?_
    rintro e w2 ⟨rfl, hb2⟩
    have K02 := Lib.hid (K01.out.kept hb2.block)
    have K12 := Lib.hid (K11.out.kept hb2.block)
    have K22 := Lib.hid (K21.out.kept hb2.block)
    have HB2 := Lib.hid (HB1.out.trans (hb2.mono HB1.out.size))
    have HS2 := Lib.hid (Nat.le_trans HS1.out hb2.size)
    clear hb2 q1 q2 f2
    have q2 := K22.out.c0; have f2 := K22.out.free 0
    go_wp2_with fail
    have g0 := (K22.out.set (.slice none 0 0)).c0
    exact bodyPost_ret (v := .tuple #[.agg #[.slice none 0 0], .int .i64 1]) (by simp [results, Tryz.results11, go_sem, g0]) rfl
      ⟨_, [], rfl, own_u_nil _ _, HB2.out.setCell (by show w.heap.size ≤ w.heap.size + 1 + 1; omega) _⟩
  have e1 : ctC xss yss = 0 := by simp [ctC, hA, hT]
  have e2 : ctR xss yss = oddL (conS xss (oddP (copsL yss))) := by simp [ctR, conL, hA, hT]
  rw [e1, e2]
  rw [hT] at D
  have hx2 := arT_len hA
  have CP := Lib.hid (fun (W : World) (h : IntSS W.heap (.slice bo yss.length d) yss) => l06Coproduct_of l06Split_c _ yss W h hT (arT_504 hT))
  have hlen : (oddP (copsL yss)).length ≤ 504 * 49766400 := by
    have h1 := copsL_len hT yss.length (arT_504 hT)
    rw [List.take_length] at h1
    exact Nat.le_trans (oddP_length _) h1
  have HPR := Lib.hid (fun q (hq : q ∈ oddP (copsL yss)) => copsL_ok hT q (oddP_mem hq))
  clear e1 e2 hA hT
  generalize oddP (copsL yss) = L at *
  have HCN := Lib.hid (fun k => conS_len xss (L.take k))
  have HCM : Hid (∀ k, ∀ z ∈ oddL (conS xss (L.take k)), z.length ≤ 4398046511104) := fun k z hz => by
    obtain ⟨q, hq, -, rfl⟩ := conS_mem (mem_oddL_sub hz)
    obtain ⟨x, y, rfl, h1, h2, h3⟩ := HPR.out q (List.mem_of_mem_take hq)
    simp; omega
  go_enter Tryz.func11, Tryz.ntmps11
  go_wp2_with fail
  rw [← HW.out]
  refine M.out.mono ?_
  rintro e w1 ⟨rfl, hb1⟩
  have K01 := Lib.hid (K0.out.kept hb1.block)
  have K11 := Lib.hid (K1.out.kept hb1.block)
  have K21 := Lib.hid (K2.out.kept hb1.block)
  have q1 := K11.out.c0; have q2 := K21.out.c0; have f2 := K21.out.free 0
  have HB1 := Lib.hid (HB0.out.trans (hb1.mono HB0.out.size))
  have HS1 := Lib.hid hb1.size
  clear hb1 HW q0
  go_wp2_with fail
  refine (D.out _ (HU.out.same HB1.out.block)).mono ?_
  rintro e w2 ⟨rfl, hb2⟩
  have K02 := Lib.hid (K01.out.kept hb2.block)
  have K12 := Lib.hid (K11.out.kept hb2.block)
  have K22 := Lib.hid (K21.out.kept hb2.block)
  have HB2 := Lib.hid (HB1.out.trans (hb2.mono HB1.out.size))
  have HS2 := Lib.hid (Nat.le_trans HS1.out hb2.size)
  clear hb2 q1 q2 f2
  have q1 := K12.out.c0
  go_wp2_with (go_at_call 99; refine (CP.out _ (HU.out.same HB2.out.block)).mono ?_; rintro e w3 ⟨r3, us3, rfl, hU3, hb3⟩; obtain ⟨ta, tc, rfl, -⟩ := (hU3.ints (fun _ _ => rfl)).len; have HL3 := Lib.hid (hU3.ints (fun _ _ => rfl)); have HB3 := Lib.hid (HB2.out.trans (hb3.mono HB2.out.size)); have HS3 := Lib.hid (Nat.le_trans HS2.out hb3.size); have K03 := Lib.hid (K02.out.kept hb3.block); have K23 := Lib.hid (K22.out.kept hb3.block); clear hU3 hb3)
  have HX3 := Lib.hid (H.out.same HB3.out.block)
  clear q1
  go_loopw [7, 8] (fun o i wr => ∃ (k : Nat) (us : List Value), k ≤ L.length ∧ i = .int .i64 k ∧ OwnU wr w3.heap.size o us (oddL (conS xss (L.take k))) ∧ Below w3.heap.size w3 wr) (fun _ i _ => L.length - (intOf i).toNat)
  case atStart => exact ⟨0, [], Nat.zero_le _, rfl, ⟨World.ownsRow_made w3 #[] 0 (Nat.le_refl _) (Nat.zero_le _) rfl, fun i u xs hu => by simp at hu, fun i j u u' _ hu => by simp at hu⟩, (Below.refl _ _).alloc (Nat.le_refl _) _⟩
  case round =>
    obtain ⟨k, us, hk, rfl, hO, hbl⟩ := hrel
    obtain ⟨pa, pc, rfl, -⟩ := hO.ints.len
    have HO := Lib.hid hO; have HBL := Lib.hid hbl
    have KR0 := Lib.hid (K03.out.kept hbl.block)
    have q0 := KR0.out.c0
    have HXR := Lib.hid (HX3.out.same hbl.block)
    have hsz := hbl.size
    by_cases hkl : k < L.length
    · have hLr := HL3.out.same hbl.block
      obtain ⟨b1, o1, c1, u1, hv1, hc1, hu1, -⟩ := hLr.at k hkl
      simp only [Value.slice.injEq, true_and] at hv1
      obtain ⟨rfl, rfl⟩ := hv1
      have hcs := conS_snoc xss L k hkl
      obtain ⟨x, y, hpe, h1, h2, h3⟩ := HPR.out _ (List.getElem_mem hkl)
      rw [hpe] at hu1 hcs
      obtain ⟨g1, f1, d1, xa, xc, ya, yc, rfl, k1, k2, hi1, hi2⟩ := hu1.two
      have HI1 := Lib.hid hi1; have HI2 := Lib.hid hi2
      have hki : (k : Int) < L.length := by omega
      have hcn := HCN.out k
      rw [List.length_take] at hcn
      have hod := oddL_length (conS xss (L.take k))
      have PLC := Lib.hid (fun (W : World) (h : IntSS W.heap (.slice ao xss.length c) xss) (hu : IntS W.heap (.slice xa x.length xc) x) => l01Place_c _ _ xss x W h hu)
      simp only [List.getD_cons_zero, List.getD_cons_succ] at hcs
      by_cases hmem : x ∈ xss
      · rw [if_pos hmem] at hcs
        have hpl := placeL_in hmem
        have SM := Lib.hid (fun (v u : Value) (W : World) (h : IntSS W.heap v (oddL (conS xss (L.take k)))) (hu : IntSS W.heap u [y]) => l01Sum_c v u _ _ W h hu (by rw [List.length_singleton]; omega) (HCM.out k) (fun z hz => by rw [List.mem_singleton] at hz; subst hz; omega))
        simp only [mrg_one] at SM
        rw [← hcs] at SM
        have p0 := hpl.1
        have u1 : decide ((0 : Int) ≤ placeL xss x) = true := decide_eq_true p0
        clear hO hbl hLr hu1 hi1 hi2 hcn hpe hcs hmem hod h1 h2 h3 hpl
        generalize placeL xss x = pl at *
        generalize oddL (conS xss (L.take k)) = O0 at *
        go_wp2_with fail
        go_quiet ((go_at_call 100; first | exact quiet_behind (PLC.out _ (by exact HXR.out) (by exact HI1.out)) | exact quiet_at (PLC.out _ (by exact HXR.out) (by exact HI1.out)) | exact PLC.out _ (by exact HXR.out) (by exact HI1.out)))
        go_wp2_with fail
        refine (SM.out _ _ _ ((HO.out.drewN nq).ints.same (alloc_old _ _)) (one_row (W := wr.drewN nq) (by exact HI2.out))).mono ?_
        rintro e w4 ⟨r4, rfl, ⟨us4, hU4⟩, hb4⟩
        obtain ⟨sa, sn, sc, rfl⟩ := own_shape hU4.row
        go_wp2_with fail
        go_roundw
        case rel => exact ⟨k + 1, us4, by omega, by go_num, own_u_base hU4 (by simp; omega), ((below_drewN _ HBL.out).alloc hsz _).trans (hb4.mono (by simp; omega))⟩
        case measure => simp [intOf]; omega
      · rw [if_neg hmem] at hcs
        have hpl := placeL_out hmem
        rw [hpl] at PLC
        have HCS := Lib.hid (congrArg oddL hcs)
        clear hO hbl hLr hu1 hi1 hi2 hcn hpe hcs hmem hod h1 h2 h3 hpl
        go_wp2_with fail
        go_quiet ((go_at_call 100; first | exact quiet_behind (PLC.out _ (by exact HXR.out) (by exact HI1.out)) | exact quiet_at (PLC.out _ (by exact HXR.out) (by exact HI1.out)) | exact PLC.out _ (by exact HXR.out) (by exact HI1.out)))
        go_wp2_with fail
        go_roundw
        case rel => exact ⟨k + 1, us, by omega, by go_num, by rw [HCS.out]; exact HO.out.drewN _, below_drewN _ HBL.out⟩
        case measure => simp [intOf]; omega
    · obtain rfl : k = L.length := by omega
      rw [List.take_length] at HO
      have KR2 := Lib.hid (K23.out.kept hbl.block)
      have q2 := KR2.out.c0; have f2 := KR2.out.free 0
      have HB5 := Lib.hid (HB3.out.trans (hbl.mono HB3.out.size))
      clear hO hbl q0
      go_wp2_with fail
      have g0 := (KR2.out.set (.slice pa (oddL (conS xss L)).length pc)).c0
      exact bodyPost_ret (v := .tuple #[.agg #[.slice pa (oddL (conS xss L)).length pc], .int .i64 0]) (by simp [results, Tryz.results11, go_sem, g0]) rfl
        ⟨_, us, rfl, own_var1 HO.out (by have := HS3.out; have := HSZ.out; omega) _ HB3.out.size KR2.out, HB5.out.setCell (by show w.heap.size ≤ w.heap.size + 1 + 1; omega) _⟩
end
section
open Go.RowKit Go.Sort

theorem markDual_c (v : Value) (us : List Value) (xss : List (List Int)) (k : Int) (B : Nat) (w : World) (h : OwnU w B v us xss) (hB : B ≤ w.heap.size) (hk : 0 ≤ k) (hx : k + cnt xss ≤ 4611686018427387904) :
    Calls Tryz.prog 18 #[.agg #[v], .int .i64 k] w fun e w' => e = .returned (.int .i64 (k + cnt xss)) ∧ OwnU w' B v us (marksS k xss) ∧ Below B w w' ∧ (∀ b, b < w.heap.size → (∀ u, u ∈ us → u.ownBlock ≠ some b) → w'.heap[b]? = w.heap[b]?) := by
  have hb : Below B w (w.alloc (.cells #[v] 28)) := (Below.refl _ _).alloc hB _
  have C := Lib.hid (markInt64SS_c v us xss k B _ (h.same (alloc_old w (.cells #[v] 28))) (by simp; omega) hk hx)
  obtain ⟨a1, c1, rfl, m1⟩ := h.ints.len
  have HB := Lib.hid hb; clear hb h
  go_enter Tryz.func18, Tryz.ntmps18
  go_wp2_with (go_at_call 109; refine C.out.mono ?_; rintro e w1 ⟨rfl, h1, z1, b1, k1⟩; have K1 := Lib.hid k1; clear k1)
  go_ret
  exact ⟨rfl, h1, HB.out.trans b1, fun b hb hne => (K1.out b (by simp; omega) hne).trans (alloc_old _ _ _ hb)⟩
theorem heldDual_c (v : Value) (xss : List (List Int)) (k : Int) (w : World) (h : IntSS w.heap v (marksS k xss)) (hk : 0 ≤ k) (hx : k + cnt xss ≤ 4611686018427387904) :
    Calls Tryz.prog 19 #[.agg #[v], .int .i64 k] w fun e w' => e = .returned (.int .i64 (k + cnt xss)) ∧ Below w.heap.size w w' := by
  have hb : Below w.heap.size w (w.alloc (.cells #[v] 28)) := (Below.refl _ _).alloc (Nat.le_refl _) _
  have C := Lib.hid (heldInt64SS_c v xss k _ (h.same hb.block) hk hx)
  obtain ⟨a1, c1, rfl, m1⟩ := h.len
  have HB := Lib.hid hb; clear hb h
  have t1 : decide (k + (cnt xss : Int) < 0) = false := by simp; omega
  go_enter Tryz.func19, Tryz.ntmps19
  go_wp2_with (go_at_call 110; refine C.out.mono ?_; rintro e w1 ⟨rfl, rfl⟩)
  go_ret
  exact ⟨rfl, HB.out⟩
end
open Go.ChangeShapes Go.WideShapes Go.ChangeAt Go.RowKit
open Go.ChangeMaps (open_string shut_string)

theorem sortOk : SortOk := sortSS_c
set_option maxRecDepth 100000 in
set_option maxHeartbeats 4000000 in
theorem fnExactContractionOf_walk (w : World) (a1 : Option Addr) (l1 p1 : Nat) (t1 : List (List Int)) (h1 : IsRows w a1 l1 t1) (a2 : Option Addr) (l2 p2 : Nat) (t2 : List (List Int)) (h2 : IsRows w a2 l2 t2) :
    Calls Tryz.prog 3 #[.agg #[.slice a1 l1 p1], .agg #[.slice a2 l2 p2]] w fun e w' => e = .returned (.bool true) ∧ Below w.heap.size w w' := by
  have S := Lib.hid (fun (v u : Value) (W : World) (h : IntSS W.heap v t1) (hu : IntSS W.heap u t2) => readO (specContractionOf_c v u t1 t2 W h hu))
  have I := Lib.hid (fun (v u : Value) (W : World) (h : IntSS W.heap v t1) (hu : IntSS W.heap u t2) => implContractionOf_of sortOk v u t1 t2 W h hu)
  have HXL := Lib.hid (ctR_cnt t1 t2)
  generalize ctR t1 t2 = rx at *
  generalize ctC t1 t2 = pc at *
  have u1 : (pc != pc) = false := by simp
  obtain ⟨W0, hW0⟩ : ∃ W, W = ((w.alloc (.cells #[.slice a1 l1 p1] 24)).alloc (.cells #[.slice a2 l2 p2] 25)) := ⟨_, rfl⟩
  have hx : Below w.heap.size w W0 := by rw [hW0]; exact (((Below.refl _ _).alloc (by exact Nat.le_refl _) _).alloc (by simp) _)
  have hsz : w.heap.size + 2 ≤ W0.heap.size := by rw [hW0]; simp
  have k1 := Go.Lib.cell?_alloc_some (.cells #[.slice a2 l2 p2] 25) ((Cell1.new w (.slice a1 l1 p1) 24).c0)
  rw [← hW0] at k1
  have k2 := (Cell1.new (w.alloc (.cells #[.slice a1 l1 p1] 24)) (.slice a2 l2 p2) 25).c0
  simp only [size_alloc_w] at k2
  rw [← hW0] at k2
  have BW0 := Lib.hid hx
  have Z3 := Lib.hid (hsz)
  have HW0 := Lib.hid hW0
  clear hW0 hx hsz
  have SM1 := Lib.hid (fun (left : Nat) (hl : left ≤ 1048576) (W : World) (hb : Below w.heap.size w W) => szMilnor_c a1 l1 p1 t1 left W (h1.same hb.block hb.size) hl)
  have TM10 := fun (W : World) (hb : Below w.heap.size w W) => toMilnor_c a1 l1 p1 t1 W (h1.same hb.block hb.size)
  have SM2 := Lib.hid (fun (left : Nat) (hl : left ≤ 1048576) (W : World) (hb : Below w.heap.size w W) => szDual_c a2 l2 p2 t2 left W (h2.same hb.block hb.size) hl)
  have TM20 := fun (W : World) (hb : Below w.heap.size w W) => toDual_c a2 l2 p2 t2 W (h2.same hb.block hb.size)
  clear h1 h2
  go_enter Tryz.func3, Tryz.ntmps3
  go_wp2_with fail
  rw [← HW0.out]
  clear HW0
  have S0 := SM1.out 1048576 (Nat.le_refl _) _ BW0.out
  by_cases hz1 : t1.length + cnt t1 ≤ 1048576
  rotate_left
  · have e9 : szR t1 1048576 = -1 := by unfold szR; rw [if_neg hz1]
    rw [e9] at S0
    have S1 := Lib.hid S0
    clear S0 e9
    refine (S1.out).mono ?_
    rintro e W ⟨rfl, hx⟩
    have BE := Lib.hid (BW0.out.trans (hx.mono BW0.out.size))
    clear hx
    go_wp2_with fail
    go_ret
    exact ⟨rfl, BE.out⟩
  obtain ⟨left1, hl9⟩ : ∃ left : Nat, szR t1 1048576 = left := ⟨1048576 - (t1.length + cnt t1), by unfold szR; rw [if_pos hz1]; omega⟩
  have HLN : Hid (left1 ≤ 1048576) := by show _ ≤ _; unfold szR at hl9; rw [if_pos hz1] at hl9; have := Nat.le_refl 1048576; omega
  rw [hl9] at S0
  have S1 := Lib.hid S0
  clear S0 hl9
  have TM1 := Lib.hid (fun (W : World) (hb : Below w.heap.size w W) => TM10 W hb (by have := Nat.le_refl 1048576; omega))
  have HSZ1 : Hid (cnt t1 ≤ 1048576) := by show _ ≤ _; have := Nat.le_refl 1048576; omega
  clear TM10 hz1 SM1
  have HLF := HLN
  clear HLN
  refine (S1.out).mono ?_
  rintro e W4 ⟨rfl, hx⟩
  clear S1
  have Z5 := Lib.hid (hx.size)
  have k6 := (hx.cell (World.block_lt_of_cell? _ _ k1)).trans k1
  clear k1
  have k7 := (hx.cell (World.block_lt_of_cell? _ _ k2)).trans k2
  clear k2
  have B8 := Lib.hid (BW0.out.trans (hx.mono BW0.out.size))
  clear BW0
  clear hx
  go_wp2_with fail
  have S0 := SM2.out left1 HLF.out _ B8.out
  by_cases hz2 : t2.length + cnt t2 ≤ left1
  rotate_left
  · have e9 : szR t2 left1 = -1 := by unfold szR; rw [if_neg hz2]
    rw [e9] at S0
    have S1 := Lib.hid S0
    clear S0 e9
    refine (S1.out).mono ?_
    rintro e W ⟨rfl, hx⟩
    have BE := Lib.hid (B8.out.trans (hx.mono B8.out.size))
    clear hx
    go_wp2_with fail
    go_ret
    exact ⟨rfl, BE.out⟩
  obtain ⟨left2, hl9⟩ : ∃ left : Nat, szR t2 left1 = left := ⟨left1 - (t2.length + cnt t2), by unfold szR; rw [if_pos hz2]; omega⟩
  have HLN : Hid (left2 ≤ 1048576) := by show _ ≤ _; unfold szR at hl9; rw [if_pos hz2] at hl9; have := HLF.out; omega
  rw [hl9] at S0
  have S1 := Lib.hid S0
  clear S0 hl9
  have TM2 := Lib.hid (fun (W : World) (hb : Below w.heap.size w W) => TM20 W hb (by have := HLF.out; omega))
  have HSZ2 : Hid (cnt t2 ≤ 1048576) := by show _ ≤ _; have := HLF.out; omega
  clear TM20 hz2 SM2 HLF
  have HLF := HLN
  clear HLN
  refine (S1.out).mono ?_
  rintro e W9 ⟨rfl, hx⟩
  clear S1
  have Z10 := Lib.hid (hx.size)
  have k11 := (hx.cell (World.block_lt_of_cell? _ _ k6)).trans k6
  clear k6
  have k12 := (hx.cell (World.block_lt_of_cell? _ _ k7)).trans k7
  clear k7
  have B13 := Lib.hid (B8.out.trans (hx.mono B8.out.size))
  clear B8
  clear hx
  go_upto_region 8 with fail
  go_cut [6, 7] (fun s6 s7 W16 => ∃ (W : World) (g : Nat) (r1 : Value), W = W16 ∧ s6 = .pointer (some ⟨g, 0, none⟩) ∧ s7 = .int .i64 pc ∧ W16.cell? ⟨g, 0, none⟩ = some r1 ∧ IntSS W16.heap r1 rx ∧ Below W9.heap.size W9 W16 ∧ W9.heap.size ≤ g)
  case first =>
    go_region_held3 (fun W => W.cell? ⟨w.heap.size, 0, none⟩ = some (.slice a1 l1 p1) ∧ W.cell? ⟨w.heap.size + 1, 0, none⟩ = some (.slice a2 l2 p2) ∧ Below W9.heap.size W9 W)
      (first | exact ⟨k11, k12, (Below.refl _ _).drew⟩ | exact heldC2 (by assumption) hx8 | exact heldC2 (by assumption) hx9 | exact heldC2 (by assumption) hx7 | exact heldC2A (by assumption) _ | exact heldC2S hs18 (by first | exact hs17.2.2.size | exact hs16.2.2.size | exact Nat.le_refl _) (World.block_lt_of_cell? _ _ k11) (World.block_lt_of_cell? _ _ k12) _)
      (first | (go_at_call 12; refine (TM1.out _ (heldC2B B13.out (by assumption) B13.out.size)).mono ?_; rintro e W16 ⟨v1, rfl, ⟨us1, hm1⟩, hx9⟩; obtain ⟨e1, e2, e3, rfl⟩ := own_shape hm1.row; have hs16 := heldC2 (by assumption) hx9; first | have n16 := new_below hx9 | have n16 := new_below_d hx9 | skip) | (go_at_call 13; refine (TM2.out _ (heldC2B B13.out (by assumption) B13.out.size)).mono ?_; rintro e W17 ⟨v2, rfl, ⟨us2, hm2⟩, hx8⟩; obtain ⟨f1, f2, f3, rfl⟩ := own_shape hm2.row; have hs17 := heldC2 (by assumption) hx8; first | have n17 := n16.behind hx8 | have n17 := new_below hx8 | skip) | (go_at_call 11; (first | refine (S.out _ _ _ (hm1.ints.same hx8.block) hm2.ints).mono ?_ | refine (S.out _ _ _ ((hm1.ints.same (alloc_old _ _)).same hx8.block) hm2.ints).mono ?_ | refine (S.out _ _ _ ((hm1.ints.same hx8.block).same (alloc_old _ _)) (hm2.ints.same (alloc_old _ _))).mono ?_); rintro e W18 ⟨r1, rfl, hR, hx7⟩; obtain ⟨j1, j2, rfl, -⟩ := hR.len; have hs18 := heldC2 (by assumption) hx7; first | (have n18 := n17.behind hx7; have nc := n18.c0; have nf := n18.free 0) | (have n18 := new_below hx7; have nc := n18.c0; have nf := n18.free 0) | skip))
    all_goals
      first | go_meet | (go_wp2_with fail; go_meet)
      first | exact ⟨_, _, _, rfl, rfl, rfl, (Cell1.new W18 _ 28).c0, hR.same (alloc_old _ _), hs18.2.2.alloc hs18.2.2.size _, hs18.2.2.size⟩ | exact ⟨_, _, _, rfl, rfl, rfl, (n18.set _).c0, hR.other n18 (by decide) (by decide) _, (heldC2S hs18 (by first | exact hs17.2.2.size | exact hs16.2.2.size | exact Nat.le_refl _) (World.block_lt_of_cell? _ _ k11) (World.block_lt_of_cell? _ _ k12) _).2.2, (by first | exact hs17.2.2.size | exact hs16.2.2.size | exact Nat.le_refl _)⟩
  case rest =>
    obtain ⟨W16, g14, v15, hWe, rfl, rfl, k17, hm, hx, hge⟩ := hcut
    subst hWe
    obtain ⟨q19, q20, rfl, -⟩ := hm.len
    have R18 := Lib.hid hm
    clear hm
    have Z21 := Lib.hid (World.block_lt_of_cell? _ _ k17)
    simp only at Z21
    have Z22 := Lib.hid (hge)
    clear hge
    have Z23 := Lib.hid (hx.size)
    have k24 := (hx.cell (World.block_lt_of_cell? _ _ k11)).trans k11
    clear k11
    have k25 := (hx.cell (World.block_lt_of_cell? _ _ k12)).trans k12
    clear k12
    have B26 := Lib.hid (B13.out.trans (hx.mono B13.out.size))
    clear B13
    clear hx
    have B27 := Lib.hid (Below.refl W16.heap.size W16)
    go_wp2_with fail
    refine (TM1.out _ B26.out).mono ?_
    rintro e W30 ⟨v28, rfl, ⟨u29, hm⟩, hx⟩
    obtain ⟨q31, q32, q33, rfl⟩ := own_shape hm.row
    have O34 := Lib.hid hm
    have R35 := Lib.hid hm.range
    clear hm
    have Z36 := Lib.hid (hx.size)
    have k37 := (hx.cell (World.block_lt_of_cell? _ _ k24)).trans k24
    clear k24
    have k38 := (hx.cell (World.block_lt_of_cell? _ _ k25)).trans k25
    clear k25
    have k39 := (hx.cell (World.block_lt_of_cell? _ _ k17)).trans k17
    clear k17
    have B40 := Lib.hid (B26.out.trans (hx.mono B26.out.size))
    clear B26
    have B41 := Lib.hid (B27.out.trans (hx.mono B27.out.size))
    clear B27
    clear hx
    obtain ⟨W42, E430⟩ : ∃ W, W = W30.alloc (.cells #[.slice q31 q32 q33] 31) := ⟨_, rfl⟩
    have hx : Below W30.heap.size W30 W42 := by rw [E430]; exact (Below.refl _ _).alloc (Nat.le_refl _) _
    have k44 : W42.cell? ⟨W30.heap.size, 0, none⟩ = some (.slice q31 q32 q33) := by rw [E430, World.cell?]; simp only [heap_alloc_new]; rfl
    have kx0 := Go.Lib.cell?_alloc_some (.cells #[.slice q31 q32 q33] 31) k37
    have kx1 := Go.Lib.cell?_alloc_some (.cells #[.slice q31 q32 q33] 31) k38
    have kx2 := Go.Lib.cell?_alloc_some (.cells #[.slice q31 q32 q33] 31) k39
    have Z45 := Lib.hid (World.block_lt_of_cell? _ _ k44)
    simp only at Z45
    have Z46 := Lib.hid (hx.size)
    have k47 := (hx.cell (World.block_lt_of_cell? _ _ k37)).trans k37
    clear k37
    have k48 := (hx.cell (World.block_lt_of_cell? _ _ k38)).trans k38
    clear k38
    have k49 := (hx.cell (World.block_lt_of_cell? _ _ k39)).trans k39
    clear k39
    have O50 := Lib.hid (O34.out.same hx.block)
    clear O34
    have B51 := Lib.hid (B40.out.trans (hx.mono B40.out.size))
    clear B40
    have B52 := Lib.hid (B41.out.trans (hx.mono B41.out.size))
    clear B41
    clear hx
    have E43 := Lib.hid E430
    clear E430
    go_wp2_with fail
    rw [← E43.out]
    clear E43 kx0 kx1 kx2
    go_wp2_with fail
    refine (TM2.out _ B51.out).mono ?_
    rintro e W55 ⟨v53, rfl, ⟨u54, hm⟩, hx⟩
    obtain ⟨q56, q57, q58, rfl⟩ := own_shape hm.row
    have O59 := Lib.hid hm
    have R60 := Lib.hid hm.range
    clear hm
    have Z61 := Lib.hid (hx.size)
    have k62 := (hx.cell (World.block_lt_of_cell? _ _ k47)).trans k47
    clear k47
    have k63 := (hx.cell (World.block_lt_of_cell? _ _ k48)).trans k48
    clear k48
    have k64 := (hx.cell (World.block_lt_of_cell? _ _ k49)).trans k49
    clear k49
    have k65 := (hx.cell (World.block_lt_of_cell? _ _ k44)).trans k44
    clear k44
    have O66 := Lib.hid (O50.out.same hx.block)
    clear O50
    have B67 := Lib.hid (B51.out.trans (hx.mono B51.out.size))
    clear B51
    have B68 := Lib.hid (B52.out.trans (hx.mono B52.out.size))
    clear B52
    clear hx
    obtain ⟨W69, E700⟩ : ∃ W, W = W55.alloc (.cells #[.slice q56 q57 q58] 28) := ⟨_, rfl⟩
    have hx : Below W55.heap.size W55 W69 := by rw [E700]; exact (Below.refl _ _).alloc (Nat.le_refl _) _
    have k71 : W69.cell? ⟨W55.heap.size, 0, none⟩ = some (.slice q56 q57 q58) := by rw [E700, World.cell?]; simp only [heap_alloc_new]; rfl
    have kx0 := Go.Lib.cell?_alloc_some (.cells #[.slice q56 q57 q58] 28) k62
    have kx1 := Go.Lib.cell?_alloc_some (.cells #[.slice q56 q57 q58] 28) k63
    have kx2 := Go.Lib.cell?_alloc_some (.cells #[.slice q56 q57 q58] 28) k64
    have kx3 := Go.Lib.cell?_alloc_some (.cells #[.slice q56 q57 q58] 28) k65
    have Z72 := Lib.hid (World.block_lt_of_cell? _ _ k71)
    simp only at Z72
    have Z73 := Lib.hid (hx.size)
    have k74 := (hx.cell (World.block_lt_of_cell? _ _ k62)).trans k62
    clear k62
    have k75 := (hx.cell (World.block_lt_of_cell? _ _ k63)).trans k63
    clear k63
    have k76 := (hx.cell (World.block_lt_of_cell? _ _ k64)).trans k64
    clear k64
    have k77 := (hx.cell (World.block_lt_of_cell? _ _ k65)).trans k65
    clear k65
    have O78 := Lib.hid (O66.out.same hx.block)
    clear O66
    have O79 := Lib.hid (O59.out.same hx.block)
    clear O59
    have B80 := Lib.hid (B67.out.trans (hx.mono B67.out.size))
    clear B67
    have B81 := Lib.hid (B68.out.trans (hx.mono B68.out.size))
    clear B68
    clear hx
    have E70 := Lib.hid E700
    clear E700
    go_wp2_with fail
    rw [← E70.out]
    clear E70 kx0 kx1 kx2 kx3
    go_wp2_with fail
    refine (I.out (.slice q31 q32 q33) (.slice q56 q57 q58) _ O78.out.ints O79.out.ints).mono ?_
    rintro e W84 ⟨v82, u83, rfl, hm, hx⟩
    obtain ⟨q85, q86, q87, rfl⟩ := own_shape hm.row
    have O88 := Lib.hid hm
    have R89 := Lib.hid hm.range
    clear hm
    have Z90 := Lib.hid (hx.size)
    have k91 := (hx.cell (World.block_lt_of_cell? _ _ k74)).trans k74
    clear k74
    have k92 := (hx.cell (World.block_lt_of_cell? _ _ k75)).trans k75
    clear k75
    have k93 := (hx.cell (World.block_lt_of_cell? _ _ k76)).trans k76
    clear k76
    have k94 := (hx.cell (World.block_lt_of_cell? _ _ k77)).trans k77
    clear k77
    have k95 := (hx.cell (World.block_lt_of_cell? _ _ k71)).trans k71
    clear k71
    have O96 := Lib.hid (O78.out.same hx.block)
    clear O78
    have O97 := Lib.hid (O79.out.same hx.block)
    clear O79
    have B98 := Lib.hid (B80.out.trans (hx.mono B80.out.size))
    clear B80
    have B99 := Lib.hid (B81.out.trans (hx.mono B81.out.size))
    clear B81
    clear hx
    obtain ⟨W100, E1010⟩ : ∃ W, W = W84.alloc (.cells #[.slice q85 q86 q87] 28) := ⟨_, rfl⟩
    have hx : Below W84.heap.size W84 W100 := by rw [E1010]; exact (Below.refl _ _).alloc (Nat.le_refl _) _
    have k102 : W100.cell? ⟨W84.heap.size, 0, none⟩ = some (.slice q85 q86 q87) := by rw [E1010, World.cell?]; simp only [heap_alloc_new]; rfl
    have kx0 := Go.Lib.cell?_alloc_some (.cells #[.slice q85 q86 q87] 28) k91
    have kx1 := Go.Lib.cell?_alloc_some (.cells #[.slice q85 q86 q87] 28) k92
    have kx2 := Go.Lib.cell?_alloc_some (.cells #[.slice q85 q86 q87] 28) k93
    have kx3 := Go.Lib.cell?_alloc_some (.cells #[.slice q85 q86 q87] 28) k94
    have kx4 := Go.Lib.cell?_alloc_some (.cells #[.slice q85 q86 q87] 28) k95
    have Z103 := Lib.hid (World.block_lt_of_cell? _ _ k102)
    simp only at Z103
    have Z104 := Lib.hid (hx.size)
    have k105 := (hx.cell (World.block_lt_of_cell? _ _ k91)).trans k91
    clear k91
    have k106 := (hx.cell (World.block_lt_of_cell? _ _ k92)).trans k92
    clear k92
    have k107 := (hx.cell (World.block_lt_of_cell? _ _ k93)).trans k93
    clear k93
    have k108 := (hx.cell (World.block_lt_of_cell? _ _ k94)).trans k94
    clear k94
    have k109 := (hx.cell (World.block_lt_of_cell? _ _ k95)).trans k95
    clear k95
    have O110 := Lib.hid (O96.out.same hx.block)
    clear O96
    have O111 := Lib.hid (O97.out.same hx.block)
    clear O97
    have O112 := Lib.hid (O88.out.same hx.block)
    clear O88
    have B113 := Lib.hid (B98.out.trans (hx.mono B98.out.size))
    clear B98
    have B114 := Lib.hid (B99.out.trans (hx.mono B99.out.size))
    clear B99
    clear hx
    have E101 := Lib.hid E1010
    clear E1010
    go_wp2_with fail
    rw [← E101.out]
    clear E101 kx0 kx1 kx2 kx3 kx4
    go_wp2_with fail
    refine (eqDual_same _ _ rx _ O112.out.ints (R18.out.same B114.out.block)).mono ?_
    rintro e W115 ⟨rfl, hx⟩
    have Z116 := Lib.hid (hx.size)
    have k117 := (hx.cell (World.block_lt_of_cell? _ _ k105)).trans k105
    clear k105
    have k118 := (hx.cell (World.block_lt_of_cell? _ _ k106)).trans k106
    clear k106
    have k119 := (hx.cell (World.block_lt_of_cell? _ _ k107)).trans k107
    clear k107
    have k120 := (hx.cell (World.block_lt_of_cell? _ _ k108)).trans k108
    clear k108
    have k121 := (hx.cell (World.block_lt_of_cell? _ _ k109)).trans k109
    clear k109
    have k122 := (hx.cell (World.block_lt_of_cell? _ _ k102)).trans k102
    clear k102
    have O123 := Lib.hid (O110.out.same hx.block)
    clear O110
    have O124 := Lib.hid (O111.out.same hx.block)
    clear O111
    have O125 := Lib.hid (O112.out.same hx.block)
    clear O112
    have B126 := Lib.hid (B113.out.trans (hx.mono B113.out.size))
    clear B113
    have B127 := Lib.hid (B114.out.trans (hx.mono B114.out.size))
    clear B114
    clear hx
    go_wp2_with fail
    go_region_held3 (fun W => W.cell? ⟨W30.heap.size, 0, none⟩ = some (.slice q31 q32 q33) ∧ W.cell? ⟨w.heap.size, 0, none⟩ = some (.slice a1 l1 p1) ∧ Below W115.heap.size W115 W)
      (first | exact ⟨k120, k117, (Below.refl _ _).drew⟩ | exact heldC2 (by assumption) hx8 | exact heldC2 (by assumption) hx9)
      (first | (go_at_call 12; refine (TM1.out _ (heldC2B B126.out (by assumption) B126.out.size)).mono ?_; rintro e W9 ⟨v9, rfl, ⟨u9, hm9⟩, hx9⟩; obtain ⟨e1, e2, e3, rfl⟩ := own_shape hm9.row) | (go_at_call 16; refine (eqMilnor_same _ _ t1 _ (O123.out.ints.same (heldC2X (by assumption)).block) hm9.ints).mono ?_; rintro e W8 ⟨rfl, hx8⟩))
    all_goals
      rename_i hh
      obtain ⟨W128, hWe⟩ : ∃ W, W = W8 := ⟨_, rfl⟩
      have hx : Below W115.heap.size W115 W128 := by rw [hWe]; exact heldC2X hh
      rw [← hWe]
      clear hWe hh hx8 hx9 hm9
      have Z129 := Lib.hid (hx.size)
      have k130 := (hx.cell (World.block_lt_of_cell? _ _ k117)).trans k117
      clear k117
      have k131 := (hx.cell (World.block_lt_of_cell? _ _ k118)).trans k118
      clear k118
      have k132 := (hx.cell (World.block_lt_of_cell? _ _ k119)).trans k119
      clear k119
      have k133 := (hx.cell (World.block_lt_of_cell? _ _ k120)).trans k120
      clear k120
      have k134 := (hx.cell (World.block_lt_of_cell? _ _ k121)).trans k121
      clear k121
      have k135 := (hx.cell (World.block_lt_of_cell? _ _ k122)).trans k122
      clear k122
      have O136 := Lib.hid (O123.out.same hx.block)
      clear O123
      have O137 := Lib.hid (O124.out.same hx.block)
      clear O124
      have O138 := Lib.hid (O125.out.same hx.block)
      clear O125
      have B139 := Lib.hid (B126.out.trans (hx.mono B126.out.size))
      clear B126
      have B140 := Lib.hid (B127.out.trans (hx.mono B127.out.size))
      clear B127
      clear hx
      go_wp2_with fail
      go_region_held3 (fun W => W.cell? ⟨W55.heap.size, 0, none⟩ = some (.slice q56 q57 q58) ∧ W.cell? ⟨w.heap.size + 1, 0, none⟩ = some (.slice a2 l2 p2) ∧ Below W128.heap.size W128 W)
        (first | exact ⟨k134, k131, (Below.refl _ _).drew⟩ | exact heldC2 (by assumption) hx8 | exact heldC2 (by assumption) hx9)
        (first | (go_at_call 13; refine (TM2.out _ (heldC2B B139.out (by assumption) B139.out.size)).mono ?_; rintro e W9 ⟨v9, rfl, ⟨u9, hm9⟩, hx9⟩; obtain ⟨e1, e2, e3, rfl⟩ := own_shape hm9.row) | (go_at_call 15; refine (eqDual_same _ _ t2 _ (O137.out.ints.same (heldC2X (by assumption)).block) hm9.ints).mono ?_; rintro e W8 ⟨rfl, hx8⟩))
      all_goals
        rename_i hh
        obtain ⟨W141, hWe⟩ : ∃ W, W = W8 := ⟨_, rfl⟩
        have hx : Below W128.heap.size W128 W141 := by rw [hWe]; exact heldC2X hh
        rw [← hWe]
        clear hWe hh hx8 hx9 hm9
        have Z142 := Lib.hid (hx.size)
        have k143 := (hx.cell (World.block_lt_of_cell? _ _ k130)).trans k130
        clear k130
        have k144 := (hx.cell (World.block_lt_of_cell? _ _ k131)).trans k131
        clear k131
        have k145 := (hx.cell (World.block_lt_of_cell? _ _ k132)).trans k132
        clear k132
        have k146 := (hx.cell (World.block_lt_of_cell? _ _ k133)).trans k133
        clear k133
        have k147 := (hx.cell (World.block_lt_of_cell? _ _ k134)).trans k134
        clear k134
        have k148 := (hx.cell (World.block_lt_of_cell? _ _ k135)).trans k135
        clear k135
        have O149 := Lib.hid (O136.out.same hx.block)
        clear O136
        have O150 := Lib.hid (O137.out.same hx.block)
        clear O137
        have O151 := Lib.hid (O138.out.same hx.block)
        clear O138
        have B152 := Lib.hid (B139.out.trans (hx.mono B139.out.size))
        clear B139
        have B153 := Lib.hid (B140.out.trans (hx.mono B140.out.size))
        clear B140
        clear hx
        go_wp2_with fail
        refine (markMilnor_c (.slice q31 q32 q33) u29 t1 1 W16.heap.size W141 O149.out (by have := Z3.out; have := Z5.out; have := Z10.out; have := Z21.out; have := Z22.out; have := Z23.out; have := Z36.out; have := Z45.out; have := Z46.out; have := Z61.out; have := Z72.out; have := Z73.out; have := Z90.out; have := Z103.out; have := Z104.out; have := Z116.out; have := Z129.out; have := Z142.out; omega) (by omega) (by have := HXL.out; have := HSZ1.out; have := HSZ2.out; omega)).mono ?_
        rintro e W154 ⟨rfl, hm, hlow, hfr⟩
        have RRR := R35.out
        have hhi : ∀ b, W30.heap.size ≤ b → b < W141.heap.size → W154.heap[b]? = W141.heap[b]? := fun b h1 h2 => hfr b h2 (fun u hu e => by have := RRR.2 u hu b e; omega)
        clear RRR
        have O155 := Lib.hid hm
        clear hm
        have Z156 := Lib.hid (hlow.size)
        have k157 := (hlow.cell (p := ⟨w.heap.size, 0, none⟩) (by show w.heap.size < W16.heap.size; exact (by have := Z3.out; have := Z5.out; have := Z10.out; have := Z21.out; have := Z22.out; have := Z23.out; have := Z36.out; have := Z45.out; have := Z46.out; have := Z61.out; have := Z72.out; have := Z73.out; have := Z90.out; have := Z103.out; have := Z104.out; have := Z116.out; have := Z129.out; have := Z142.out; have := Z156.out; omega))).trans k143
        clear k143
        have k158 := (hlow.cell (p := ⟨w.heap.size + 1, 0, none⟩) (by show w.heap.size + 1 < W16.heap.size; exact (by have := Z3.out; have := Z5.out; have := Z10.out; have := Z21.out; have := Z22.out; have := Z23.out; have := Z36.out; have := Z45.out; have := Z46.out; have := Z61.out; have := Z72.out; have := Z73.out; have := Z90.out; have := Z103.out; have := Z104.out; have := Z116.out; have := Z129.out; have := Z142.out; have := Z156.out; omega))).trans k144
        clear k144
        have k159 := (hlow.cell (p := ⟨g14, 0, none⟩) (by show g14 < W16.heap.size; exact (by have := Z3.out; have := Z5.out; have := Z10.out; have := Z21.out; have := Z22.out; have := Z23.out; have := Z36.out; have := Z45.out; have := Z46.out; have := Z61.out; have := Z72.out; have := Z73.out; have := Z90.out; have := Z103.out; have := Z104.out; have := Z116.out; have := Z129.out; have := Z142.out; have := Z156.out; omega))).trans k145
        clear k145
        have k160 := (World.cell?_of_block (hhi W30.heap.size (by have := Z3.out; have := Z5.out; have := Z10.out; have := Z21.out; have := Z22.out; have := Z23.out; have := Z36.out; have := Z45.out; have := Z46.out; have := Z61.out; have := Z72.out; have := Z73.out; have := Z90.out; have := Z103.out; have := Z104.out; have := Z116.out; have := Z129.out; have := Z142.out; have := Z156.out; omega) (World.block_lt_of_cell? _ _ k146))).trans k146
        clear k146
        have k161 := (World.cell?_of_block (hhi W55.heap.size (by have := Z3.out; have := Z5.out; have := Z10.out; have := Z21.out; have := Z22.out; have := Z23.out; have := Z36.out; have := Z45.out; have := Z46.out; have := Z61.out; have := Z72.out; have := Z73.out; have := Z90.out; have := Z103.out; have := Z104.out; have := Z116.out; have := Z129.out; have := Z142.out; have := Z156.out; omega) (World.block_lt_of_cell? _ _ k147))).trans k147
        clear k147
        have k162 := (World.cell?_of_block (hhi W84.heap.size (by have := Z3.out; have := Z5.out; have := Z10.out; have := Z21.out; have := Z22.out; have := Z23.out; have := Z36.out; have := Z45.out; have := Z46.out; have := Z61.out; have := Z72.out; have := Z73.out; have := Z90.out; have := Z103.out; have := Z104.out; have := Z116.out; have := Z129.out; have := Z142.out; have := Z156.out; omega) (World.block_lt_of_cell? _ _ k148))).trans k148
        clear k148
        have O163 := Lib.hid (O150.out.far fun b h1 h2 => hhi b (Nat.le_trans (by have := Z3.out; have := Z5.out; have := Z10.out; have := Z21.out; have := Z22.out; have := Z23.out; have := Z36.out; have := Z45.out; have := Z46.out; have := Z61.out; have := Z72.out; have := Z73.out; have := Z90.out; have := Z103.out; have := Z104.out; have := Z116.out; have := Z129.out; have := Z142.out; have := Z156.out; omega) h1) h2)
        clear O150
        have O164 := Lib.hid (O151.out.far fun b h1 h2 => hhi b (Nat.le_trans (by have := Z3.out; have := Z5.out; have := Z10.out; have := Z21.out; have := Z22.out; have := Z23.out; have := Z36.out; have := Z45.out; have := Z46.out; have := Z61.out; have := Z72.out; have := Z73.out; have := Z90.out; have := Z103.out; have := Z104.out; have := Z116.out; have := Z129.out; have := Z142.out; have := Z156.out; omega) h1) h2)
        clear O151
        have B165 := Lib.hid (B152.out.trans (hlow.mono (by have := Z3.out; have := Z5.out; have := Z10.out; have := Z21.out; have := Z22.out; have := Z23.out; have := Z36.out; have := Z45.out; have := Z46.out; have := Z61.out; have := Z72.out; have := Z73.out; have := Z90.out; have := Z103.out; have := Z104.out; have := Z116.out; have := Z129.out; have := Z142.out; have := Z156.out; omega)))
        clear B152
        have B166 := Lib.hid (B153.out.trans (hlow.mono (by have := Z3.out; have := Z5.out; have := Z10.out; have := Z21.out; have := Z22.out; have := Z23.out; have := Z36.out; have := Z45.out; have := Z46.out; have := Z61.out; have := Z72.out; have := Z73.out; have := Z90.out; have := Z103.out; have := Z104.out; have := Z116.out; have := Z129.out; have := Z142.out; have := Z156.out; omega)))
        clear B153
        clear hlow hhi hfr
        go_wp2_with fail
        refine (markDual_c (.slice q56 q57 q58) u54 t2 (1 + (cnt t1 : Int)) W42.heap.size W154 O163.out (by have := Z3.out; have := Z5.out; have := Z10.out; have := Z21.out; have := Z22.out; have := Z23.out; have := Z36.out; have := Z45.out; have := Z46.out; have := Z61.out; have := Z72.out; have := Z73.out; have := Z90.out; have := Z103.out; have := Z104.out; have := Z116.out; have := Z129.out; have := Z142.out; have := Z156.out; omega) (by omega) (by have := HXL.out; have := HSZ1.out; have := HSZ2.out; omega)).mono ?_
        rintro e W167 ⟨rfl, hm, hlow, hfr⟩
        have RRR := R60.out
        have hhi : ∀ b, W55.heap.size ≤ b → b < W154.heap.size → W167.heap[b]? = W154.heap[b]? := fun b h1 h2 => hfr b h2 (fun u hu e => by have := RRR.2 u hu b e; omega)
        clear RRR
        have O168 := Lib.hid hm
        clear hm
        have Z169 := Lib.hid (hlow.size)
        have k170 := (hlow.cell (p := ⟨w.heap.size, 0, none⟩) (by show w.heap.size < W42.heap.size; exact (by have := Z3.out; have := Z5.out; have := Z10.out; have := Z21.out; have := Z22.out; have := Z23.out; have := Z36.out; have := Z45.out; have := Z46.out; have := Z61.out; have := Z72.out; have := Z73.out; have := Z90.out; have := Z103.out; have := Z104.out; have := Z116.out; have := Z129.out; have := Z142.out; have := Z156.out; have := Z169.out; omega))).trans k157
        clear k157
        have k171 := (hlow.cell (p := ⟨w.heap.size + 1, 0, none⟩) (by show w.heap.size + 1 < W42.heap.size; exact (by have := Z3.out; have := Z5.out; have := Z10.out; have := Z21.out; have := Z22.out; have := Z23.out; have := Z36.out; have := Z45.out; have := Z46.out; have := Z61.out; have := Z72.out; have := Z73.out; have := Z90.out; have := Z103.out; have := Z104.out; have := Z116.out; have := Z129.out; have := Z142.out; have := Z156.out; have := Z169.out; omega))).trans k158
        clear k158
        have k172 := (hlow.cell (p := ⟨g14, 0, none⟩) (by show g14 < W42.heap.size; exact (by have := Z3.out; have := Z5.out; have := Z10.out; have := Z21.out; have := Z22.out; have := Z23.out; have := Z36.out; have := Z45.out; have := Z46.out; have := Z61.out; have := Z72.out; have := Z73.out; have := Z90.out; have := Z103.out; have := Z104.out; have := Z116.out; have := Z129.out; have := Z142.out; have := Z156.out; have := Z169.out; omega))).trans k159
        clear k159
        clear k160
        have k174 := (World.cell?_of_block (hhi W55.heap.size (by have := Z3.out; have := Z5.out; have := Z10.out; have := Z21.out; have := Z22.out; have := Z23.out; have := Z36.out; have := Z45.out; have := Z46.out; have := Z61.out; have := Z72.out; have := Z73.out; have := Z90.out; have := Z103.out; have := Z104.out; have := Z116.out; have := Z129.out; have := Z142.out; have := Z156.out; have := Z169.out; omega) (World.block_lt_of_cell? _ _ k161))).trans k161
        clear k161
        have k175 := (World.cell?_of_block (hhi W84.heap.size (by have := Z3.out; have := Z5.out; have := Z10.out; have := Z21.out; have := Z22.out; have := Z23.out; have := Z36.out; have := Z45.out; have := Z46.out; have := Z61.out; have := Z72.out; have := Z73.out; have := Z90.out; have := Z103.out; have := Z104.out; have := Z116.out; have := Z129.out; have := Z142.out; have := Z156.out; have := Z169.out; omega) (World.block_lt_of_cell? _ _ k162))).trans k162
        clear k162
        have O176 := Lib.hid (O164.out.far fun b h1 h2 => hhi b (Nat.le_trans (by have := Z3.out; have := Z5.out; have := Z10.out; have := Z21.out; have := Z22.out; have := Z23.out; have := Z36.out; have := Z45.out; have := Z46.out; have := Z61.out; have := Z72.out; have := Z73.out; have := Z90.out; have := Z103.out; have := Z104.out; have := Z116.out; have := Z129.out; have := Z142.out; have := Z156.out; have := Z169.out; omega) h1) h2)
        clear O164
        clear O155
        have B178 := Lib.hid (B165.out.trans (hlow.mono (by have := Z3.out; have := Z5.out; have := Z10.out; have := Z21.out; have := Z22.out; have := Z23.out; have := Z36.out; have := Z45.out; have := Z46.out; have := Z61.out; have := Z72.out; have := Z73.out; have := Z90.out; have := Z103.out; have := Z104.out; have := Z116.out; have := Z129.out; have := Z142.out; have := Z156.out; have := Z169.out; omega)))
        clear B165
        have B179 := Lib.hid (B166.out.trans (hlow.mono (by have := Z3.out; have := Z5.out; have := Z10.out; have := Z21.out; have := Z22.out; have := Z23.out; have := Z36.out; have := Z45.out; have := Z46.out; have := Z61.out; have := Z72.out; have := Z73.out; have := Z90.out; have := Z103.out; have := Z104.out; have := Z116.out; have := Z129.out; have := Z142.out; have := Z156.out; have := Z169.out; omega)))
        clear B166
        clear hlow hhi hfr
        have t9 : decide (((1 + (cnt t1 : Int)) + (cnt t2 : Int)) < 0) = false := by simp; omega
        clear O168
        clear k174
        go_wp2_with fail
        refine (eqDual_same _ _ rx _ O176.out.ints (R18.out.same B179.out.block)).mono ?_
        rintro e W180 ⟨rfl, hx⟩
        have Z181 := Lib.hid (hx.size)
        have k182 := (hx.cell (World.block_lt_of_cell? _ _ k170)).trans k170
        clear k170
        have k183 := (hx.cell (World.block_lt_of_cell? _ _ k171)).trans k171
        clear k171
        have k184 := (hx.cell (World.block_lt_of_cell? _ _ k172)).trans k172
        clear k172
        have k185 := (hx.cell (World.block_lt_of_cell? _ _ k175)).trans k175
        clear k175
        have O186 := Lib.hid (O176.out.same hx.block)
        clear O176
        have B187 := Lib.hid (B178.out.trans (hx.mono B178.out.size))
        clear B178
        have B188 := Lib.hid (B179.out.trans (hx.mono B179.out.size))
        clear B179
        clear hx
        go_wp2_with fail
        refine (markDual_c (.slice q85 q86 q87) u83 rx 1 W69.heap.size W180 O186.out (by have := Z3.out; have := Z5.out; have := Z10.out; have := Z21.out; have := Z22.out; have := Z23.out; have := Z36.out; have := Z45.out; have := Z46.out; have := Z61.out; have := Z72.out; have := Z73.out; have := Z90.out; have := Z103.out; have := Z104.out; have := Z116.out; have := Z129.out; have := Z142.out; have := Z156.out; have := Z169.out; have := Z181.out; omega) (by omega) (by have := HXL.out; have := HSZ1.out; have := HSZ2.out; omega)).mono ?_
        rintro e W189 ⟨rfl, hm, hlow, hfr⟩
        have RRR := R89.out
        have hhi : ∀ b, W84.heap.size ≤ b → b < W180.heap.size → W189.heap[b]? = W180.heap[b]? := fun b h1 h2 => hfr b h2 (fun u hu e => by have := RRR.2 u hu b e; omega)
        clear RRR
        have O190 := Lib.hid hm
        clear hm
        have Z191 := Lib.hid (hlow.size)
        have k192 := (hlow.cell (p := ⟨w.heap.size, 0, none⟩) (by show w.heap.size < W69.heap.size; exact (by have := Z3.out; have := Z5.out; have := Z10.out; have := Z21.out; have := Z22.out; have := Z23.out; have := Z36.out; have := Z45.out; have := Z46.out; have := Z61.out; have := Z72.out; have := Z73.out; have := Z90.out; have := Z103.out; have := Z104.out; have := Z116.out; have := Z129.out; have := Z142.out; have := Z156.out; have := Z169.out; have := Z181.out; have := Z191.out; omega))).trans k182
        clear k182
        have k193 := (hlow.cell (p := ⟨w.heap.size + 1, 0, none⟩) (by show w.heap.size + 1 < W69.heap.size; exact (by have := Z3.out; have := Z5.out; have := Z10.out; have := Z21.out; have := Z22.out; have := Z23.out; have := Z36.out; have := Z45.out; have := Z46.out; have := Z61.out; have := Z72.out; have := Z73.out; have := Z90.out; have := Z103.out; have := Z104.out; have := Z116.out; have := Z129.out; have := Z142.out; have := Z156.out; have := Z169.out; have := Z181.out; have := Z191.out; omega))).trans k183
        clear k183
        have k194 := (hlow.cell (p := ⟨g14, 0, none⟩) (by show g14 < W69.heap.size; exact (by have := Z3.out; have := Z5.out; have := Z10.out; have := Z21.out; have := Z22.out; have := Z23.out; have := Z36.out; have := Z45.out; have := Z46.out; have := Z61.out; have := Z72.out; have := Z73.out; have := Z90.out; have := Z103.out; have := Z104.out; have := Z116.out; have := Z129.out; have := Z142.out; have := Z156.out; have := Z169.out; have := Z181.out; have := Z191.out; omega))).trans k184
        clear k184
        have k195 := (World.cell?_of_block (hhi W84.heap.size (by have := Z3.out; have := Z5.out; have := Z10.out; have := Z21.out; have := Z22.out; have := Z23.out; have := Z36.out; have := Z45.out; have := Z46.out; have := Z61.out; have := Z72.out; have := Z73.out; have := Z90.out; have := Z103.out; have := Z104.out; have := Z116.out; have := Z129.out; have := Z142.out; have := Z156.out; have := Z169.out; have := Z181.out; have := Z191.out; omega) (World.block_lt_of_cell? _ _ k185))).trans k185
        clear k185
        have B196 := Lib.hid (B187.out.trans (hlow.mono (by have := Z3.out; have := Z5.out; have := Z10.out; have := Z21.out; have := Z22.out; have := Z23.out; have := Z36.out; have := Z45.out; have := Z46.out; have := Z61.out; have := Z72.out; have := Z73.out; have := Z90.out; have := Z103.out; have := Z104.out; have := Z116.out; have := Z129.out; have := Z142.out; have := Z156.out; have := Z169.out; have := Z181.out; have := Z191.out; omega)))
        clear B187
        have B197 := Lib.hid (B188.out.trans (hlow.mono (by have := Z3.out; have := Z5.out; have := Z10.out; have := Z21.out; have := Z22.out; have := Z23.out; have := Z36.out; have := Z45.out; have := Z46.out; have := Z61.out; have := Z72.out; have := Z73.out; have := Z90.out; have := Z103.out; have := Z104.out; have := Z116.out; have := Z129.out; have := Z142.out; have := Z156.out; have := Z169.out; have := Z181.out; have := Z191.out; omega)))
        clear B188
        clear hlow hhi hfr
        go_wp2_with fail
        refine (heldDual_c (.slice q85 q86 q87) rx 1 _ O190.out.ints (by omega) (by have := HXL.out; have := HSZ1.out; have := HSZ2.out; omega)).mono ?_
        rintro e W198 ⟨rfl, hx⟩
        have Z199 := Lib.hid (hx.size)
        have k200 := (hx.cell (World.block_lt_of_cell? _ _ k192)).trans k192
        clear k192
        have k201 := (hx.cell (World.block_lt_of_cell? _ _ k193)).trans k193
        clear k193
        have k202 := (hx.cell (World.block_lt_of_cell? _ _ k194)).trans k194
        clear k194
        have k203 := (hx.cell (World.block_lt_of_cell? _ _ k195)).trans k195
        clear k195
        have O204 := Lib.hid (O190.out.same hx.block)
        clear O190
        have B205 := Lib.hid (B196.out.trans (hx.mono B196.out.size))
        clear B196
        have B206 := Lib.hid (B197.out.trans (hx.mono B197.out.size))
        clear B197
        clear hx
        go_upto_region 31 with fail
        go_cut [15, 16] (fun s6 s7 W209 => ∃ (W : World) (g : Nat) (r1 : Value), W = W209 ∧ s6 = .pointer (some ⟨g, 0, none⟩) ∧ s7 = .int .i64 pc ∧ W209.cell? ⟨g, 0, none⟩ = some r1 ∧ IntSS W209.heap r1 rx ∧ Below W198.heap.size W198 W209 ∧ W198.heap.size ≤ g)
        case first =>
          go_region_held3 (fun W => W.cell? ⟨w.heap.size, 0, none⟩ = some (.slice a1 l1 p1) ∧ W.cell? ⟨w.heap.size + 1, 0, none⟩ = some (.slice a2 l2 p2) ∧ Below W198.heap.size W198 W)
            (first | exact ⟨k200, k201, (Below.refl _ _).drew⟩ | exact heldC2 (by assumption) hx8 | exact heldC2 (by assumption) hx9 | exact heldC2 (by assumption) hx7 | exact heldC2A (by assumption) _ | exact heldC2S hs18 (by first | exact hs17.2.2.size | exact hs16.2.2.size | exact Nat.le_refl _) (World.block_lt_of_cell? _ _ k200) (World.block_lt_of_cell? _ _ k201) _)
            (first | (go_at_call 12; refine (TM1.out _ (heldC2B B205.out (by assumption) B205.out.size)).mono ?_; rintro e W16 ⟨v1, rfl, ⟨us1, hm1⟩, hx9⟩; obtain ⟨e1, e2, e3, rfl⟩ := own_shape hm1.row; have hs16 := heldC2 (by assumption) hx9; first | have n16 := new_below hx9 | have n16 := new_below_d hx9 | skip) | (go_at_call 13; refine (TM2.out _ (heldC2B B205.out (by assumption) B205.out.size)).mono ?_; rintro e W17 ⟨v2, rfl, ⟨us2, hm2⟩, hx8⟩; obtain ⟨f1, f2, f3, rfl⟩ := own_shape hm2.row; have hs17 := heldC2 (by assumption) hx8; first | have n17 := n16.behind hx8 | have n17 := new_below hx8 | skip) | (go_at_call 14; (first | refine (I.out _ _ _ (hm1.ints.same hx8.block) hm2.ints).mono ?_ | refine (I.out _ _ _ ((hm1.ints.same (alloc_old _ _)).same hx8.block) hm2.ints).mono ?_ | refine (I.out _ _ _ ((hm1.ints.same hx8.block).same (alloc_old _ _)) (hm2.ints.same (alloc_old _ _))).mono ?_); rintro e W18 ⟨r1, us7, rfl, hm7, hx7⟩; have hR := hm7.ints; obtain ⟨j1, j2, rfl, -⟩ := hR.len; have hs18 := heldC2 (by assumption) hx7; first | (have n18 := n17.behind hx7; have nc := n18.c0; have nf := n18.free 0) | (have n18 := new_below hx7; have nc := n18.c0; have nf := n18.free 0) | skip))
          all_goals
            first | go_meet | (go_wp2_with fail; go_meet)
            first | exact ⟨_, _, _, rfl, rfl, rfl, (Cell1.new W18 _ 28).c0, hR.same (alloc_old _ _), hs18.2.2.alloc hs18.2.2.size _, hs18.2.2.size⟩ | exact ⟨_, _, _, rfl, rfl, rfl, (n18.set _).c0, hR.other n18 (by decide) (by decide) _, (heldC2S hs18 (by first | exact hs17.2.2.size | exact hs16.2.2.size | exact Nat.le_refl _) (World.block_lt_of_cell? _ _ k200) (World.block_lt_of_cell? _ _ k201) _).2.2, (by first | exact hs17.2.2.size | exact hs16.2.2.size | exact Nat.le_refl _)⟩
        case rest =>
          obtain ⟨W209, g207, v208, hWe, rfl, rfl, k210, hm, hx, hge⟩ := hcut
          subst hWe
          obtain ⟨q212, q213, rfl, -⟩ := hm.len
          have R211 := Lib.hid hm
          clear hm
          have Z214 := Lib.hid (World.block_lt_of_cell? _ _ k210)
          simp only at Z214
          have Z215 := Lib.hid (hge)
          clear hge
          have Z216 := Lib.hid (hx.size)
          have k217 := (hx.cell (World.block_lt_of_cell? _ _ k200)).trans k200
          clear k200
          have k218 := (hx.cell (World.block_lt_of_cell? _ _ k201)).trans k201
          clear k201
          have k219 := (hx.cell (World.block_lt_of_cell? _ _ k202)).trans k202
          clear k202
          have k220 := (hx.cell (World.block_lt_of_cell? _ _ k203)).trans k203
          clear k203
          have O221 := Lib.hid (O204.out.same hx.block)
          clear O204
          have B222 := Lib.hid (B205.out.trans (hx.mono B205.out.size))
          clear B205
          have B223 := Lib.hid (B206.out.trans (hx.mono B206.out.size))
          clear B206
          clear hx
          go_wp2_with fail
          refine (eqDual_same _ _ rx _ R211.out (R18.out.same B223.out.block)).mono ?_
          rintro e W224 ⟨rfl, hx⟩
          have Z225 := Lib.hid (hx.size)
          have k226 := (hx.cell (World.block_lt_of_cell? _ _ k217)).trans k217
          clear k217
          have k227 := (hx.cell (World.block_lt_of_cell? _ _ k218)).trans k218
          clear k218
          have k228 := (hx.cell (World.block_lt_of_cell? _ _ k219)).trans k219
          clear k219
          have k229 := (hx.cell (World.block_lt_of_cell? _ _ k220)).trans k220
          clear k220
          have k230 := (hx.cell (World.block_lt_of_cell? _ _ k210)).trans k210
          clear k210
          have O231 := Lib.hid (O221.out.same hx.block)
          clear O221
          have B232 := Lib.hid (B222.out.trans (hx.mono B222.out.size))
          clear B222
          have B233 := Lib.hid (B223.out.trans (hx.mono B223.out.size))
          clear B223
          clear hx
          go_wp2_with fail
          refine (heldDual_c (.slice q85 q86 q87) rx 1 _ O231.out.ints (by omega) (by have := HXL.out; have := HSZ1.out; have := HSZ2.out; omega)).mono ?_
          rintro e W234 ⟨rfl, hx⟩
          have Z235 := Lib.hid (hx.size)
          have k236 := (hx.cell (World.block_lt_of_cell? _ _ k226)).trans k226
          clear k226
          have k237 := (hx.cell (World.block_lt_of_cell? _ _ k227)).trans k227
          clear k227
          have k238 := (hx.cell (World.block_lt_of_cell? _ _ k228)).trans k228
          clear k228
          have k239 := (hx.cell (World.block_lt_of_cell? _ _ k229)).trans k229
          clear k229
          have k240 := (hx.cell (World.block_lt_of_cell? _ _ k230)).trans k230
          clear k230
          have O241 := Lib.hid (O231.out.same hx.block)
          clear O231
          have B242 := Lib.hid (B232.out.trans (hx.mono B232.out.size))
          clear B232
          have B243 := Lib.hid (B233.out.trans (hx.mono B233.out.size))
          clear B233
          clear hx
          go_wp2_with fail
          go_ret
          exact ⟨rfl, B242.out⟩

namespace fnExactContractionOf_row
theorem own : ownKnob Tryz.prog.godebug = none := by kernel_rfl
theorem laidOut : laidOutB Tryz.prog = true := by kernel_rfl
set_option linter.unusedVariables false in
set_option maxRecDepth 100000 in
theorem lifted (os : Os) (started : os.Started) (H : Type) (enc : TypeId × Value → H) :
    ReturnsInHanded {} Tryz.checked os 3 .any (Rows.fnExactContractionOfSpec.pre6 enc Tryz.prog Tryz.f3 Rows.fnExactContractionOfRow.domain false) (Rows.fnExactContractionOfSpec.post enc Tryz.prog Tryz.f3 false true false false) := by
  refine returnsInHanded_of_change (C := Tryz.checked) own started (by kernel_rfl) Tryz.func3
    (ChangeSpec.witness6 (enc := enc) (C := Tryz.checked) false ⟨#[], #[.agg #[.slice none 0 0], .agg #[.slice none 0 0]], []⟩ 8 (by kernel_rfl) (by kernel_rfl) (by kernel_rfl) (by kernel_rfl)) ?_
  intro W base args ds gs before hval0 hW hcnd _
  have hval : ∀ (j : Nat) t v, Tryz.f3.params[j]? = some t → args[j]? = some v → Value.okWide Tryz.prog W .any base t v := hval0
  have hW' := hW
  obtain ⟨p, q, hA0, hV, rfl, hfz, hnd⟩ := hW
  have hA : DataW.TrodAll enc Tryz.prog W 0 (fun _ => true) true Tryz.f3.params.toList args.toList ds p := hA0
  rw [Tryz.params3] at hA hval
  obtain ⟨v0, vs0, d0, ds0, p0, q0, hargs, rfl, rfl, h0, r0⟩ := trodAll_cons hA
  obtain ⟨v1, vs1, d1, ds1, p1, q1, rfl, rfl, rfl, h1, r1⟩ := trodAll_cons r0
  obtain ⟨rfl, rfl, rfl⟩ := trodAll_nil r1
  obtain rfl : args = #[v0, v1] := by cases args; simp_all
  obtain ⟨rfl, rfl⟩ := trodVars_none hV
  have k0 := h0
  have lt0 : ∀ x ∈ p0, x.block < W.heap.size := by obtain ⟨m, hm⟩ := k0; exact DataW.trod_lt m _ _ _ hm
  obtain ⟨x0, y0, n0, rfl, f0⟩ := open_agg1 Tryz.underlying24 (by kernel_rfl) (by kernel_rfl) (hval 0 24 v0 rfl rfl) h0
  obtain ⟨a0, len0, cap0, z0, e0, w0⟩ := isRows_of Tryz.underlying22 Tryz.underlying56 Tryz.underlying2 (by kernel_rfl) (by kernel_rfl) f0
  obtain rfl : x0 = .slice a0 len0 cap0 := by simpa using e0
  have k1 := h1
  have lt1 : ∀ x ∈ p1, x.block < W.heap.size := by obtain ⟨m, hm⟩ := k1; exact DataW.trod_lt m _ _ _ hm
  obtain ⟨x1, y1, n1, rfl, f1⟩ := open_agg1 Tryz.underlying25 (by kernel_rfl) (by kernel_rfl) (hval 1 25 v1 rfl rfl) h1
  obtain ⟨a1, len1, cap1, z1, e1, w1⟩ := isRows_of Tryz.underlying22 Tryz.underlying56 Tryz.underlying2 (by kernel_rfl) (by kernel_rfl) f1
  obtain rfl : x1 = .slice a1 len1 cap1 := by simpa using e1
  clear hA0 hval0
  refine (fnExactContractionOf_walk W a0 len0 cap0 z0 w0 a1 len1 cap1 z1 w1).mono fun e W' ⟨he, bel⟩ => ?_
  subst he
  exact ⟨_, rfl, _, _, _, [], _, [], hW', trodAll_mk1 (shut_bool Tryz.underlying4 _), (trodAll_cons_mk (Below.trod laidOut (by kernel_rfl) (of_decide_eq_true (by kernel_rfl)) k0 bel lt0) (trodAll_cons_mk (Below.trod laidOut (by kernel_rfl) (of_decide_eq_true (by kernel_rfl)) k1 bel lt1) trodAll_mk0)), rfl, bel.frame _, fun h => by cases h⟩
theorem over : Rows.fnExactContractionOfRow.holds Tryz.pinned (OpenSpec.ofChange Rows.fnExactContractionOfSpec) :=
  OpenClaim.holds_of_wide 3 Tryz.f3 rfl rfl rfl rfl rfl rfl rfl ⟨rfl, rfl, rfl, rfl, rfl⟩ rfl rfl rfl rfl rfl (by kernel_rfl) Tryz.func3 (by kernel_rfl)
    (of_decide_eq_true (by kernel_rfl)) (by unfold Func.isWrapper; first | (rw [if_pos (by decide +kernel)]; kernel_rfl) | (rw [if_neg (by decide +kernel)]; exact ⟨rfl, rfl⟩))
    (fun os started H enc _ => lifted os started H enc)
end fnExactContractionOf_row
/-- The statement. -/
theorem fnExactContractionOf_proved : Rows.FnExactContractionOfSaid := fnExactContractionOf_row.over
#print axioms fnExactContractionOf_proved
end Go.Proofs.YtmnkccjddahcjaaGreat

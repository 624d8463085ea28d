/- Texts of dual elements: of the reference. -/
import Derived.Test.YtalbbjhonkcbgaaGreatDoorLTxD
import Derived.Test.YtalbbjhonkcbgaaGreatDoorLTxS
namespace Go.Proofs.YtalbbjhonkcbgaaGreatDoor
open Go.RowKit Go.Sort

theorem mfL_none {r : List Int} {m : Nat} (h : r.getD m 0 = 0) : mfL r (m + 1) = mfL r m := by rw [mfL, if_pos h, List.append_nil]
theorem mfL_some {r : List Int} {m : Nat} (h : r.getD m 0 ≠ 0) : mfL r (m + 1) = mfL r m ++ [mfW m (r.getD m 0)] := by rw [mfL, if_neg h]
theorem mf_one (T : List UInt8) (m : Nat) : T ++ mfW m 1 = (T ++ [120]) ++ dec ((m : Int) + 1) := by simp [mfW]
theorem mf_more (T : List UInt8) (m : Nat) (n : Int) (h : 1 < n) : T ++ mfW m n = ((((T ++ [120]) ++ dec ((m : Int) + 1)) ++ [94]) ++ dec n) := by
  unfold mfW; rw [if_pos h]; simp
set_option maxRecDepth 100000 in
set_option maxHeartbeats 1000000 in
theorem l06Term_c (v : Value) (r : List Int) (w : World) (h : IntS w.heap v r) (hd : Deg3 r) :
    Calls Tryz.prog 40 #[v] w fun e w' => e = .returned (.string (bs (mtW r))) ∧ Below w.heap.size w w' := by
  obtain ⟨ao, c, rfl, hm⟩ := h.len
  have H := Lib.hid h; have HD := Lib.hid hd
  have hl := hd.1
  clear h hd
  go_enter Tryz.func40, Tryz.ntmps40
  go_wp2_with fail
  go_loopw [3, 4] (fun t i wr => ∃ m : Nat, m ≤ r.length ∧ i = .int .i64 m ∧ t = .string (bs (Go.Lib.join (mfL r m) [32])) ∧ Below w.heap.size w wr) (fun _ i _ => r.length - (intOf i).toNat)
  case atStart => exact ⟨0, Nat.zero_le _, rfl, rfl, Below.refl _ _⟩
  case round =>
    obtain ⟨m, hm2, rfl, rfl, hb3⟩ := hrel
    have HB3 := Lib.hid hb3
    have hsz3 := hb3.size
    clear hb3
    have hjl := mfL_join HD.out m hm2
    by_cases hml : m < r.length
    · obtain ⟨b4, o4, q4, hv4, hc4, -⟩ := H.out.at m hml
      simp only [Value.slice.injEq, true_and] at hv4
      obtain ⟨rfl, rfl⟩ := hv4
      have hc := (HB3.out.cell (World.block_lt_of_cell? _ _ hc4)).trans hc4
      obtain ⟨n, hn, hn2⟩ := HD.out.at m hml
      have hg : r.getD m 0 = (n : Int) := by rw [show r.getD m 0 = r[m] by simp [hml]]; exact hn
      rw [hn] at hc
      clear hc4 hn
      by_cases h0 : n = 0
      · subst h0
        have HTK : Hid (Go.Lib.join (mfL r (m + 1)) [32] = Go.Lib.join (mfL r m) [32]) := by show _ = _; rw [mfL_none hg]
        clear hg
        go_wp2_with fail
        go_roundw
        case rel => exact ⟨m + 1, by omega, by go_num, by rw [HTK.out], HB3.out⟩
        case measure => simp [intOf]; omega
      · have t0 : ((n : Int) == 0) = false := by simp; omega
        have hms := mfL_some (r := r) (m := m) (by rw [hg]; omega)
        rw [hg] at hms
        have hdi := dec_len (m + 1) (by omega)
        have hdn := dec_len n hn2
        rw [Int.natCast_succ] at hdi
        have D1 := Lib.hid (fun W => l01Dec_c (m + 1) (by omega) W)
        rw [Int.natCast_succ] at D1
        have D2 := Lib.hid (fun W => l01Dec_c n hn2 W)
        by_cases hE : mfL r m = []
        · obtain ⟨T0, hT⟩ : ∃ T : List UInt8, T = Go.Lib.join (mfL r m) [32] := ⟨_, rfl⟩
          have hTe : T0 = [] := by rw [hT, hE]; rfl
          have HTK : Hid (Go.Lib.join (mfL r (m + 1)) [32] = T0 ++ mfW m (n : Int)) := by show _ = _; rw [hms, join_snoc, if_pos hE, hTe]; rfl
          have t9 : (bs T0).toList.isEmpty = true := by rw [hTe]; exact bs_isNil
          have hT0 : T0.length ≤ 71 := by rw [hTe]; simp
          rw [← hT]
          clear hT hTe hE hms hg hjl
          by_cases h1 : n = 1
          · subst h1
            have HTK2 : Hid (Go.Lib.join (mfL r (m + 1)) [32] = (T0 ++ [120]) ++ dec ((m : Int) + 1)) := by show _ = _; rw [HTK.out, ← mf_one]; rfl
            have hadd1 : ∀ W, (Op.stringOp .add (bs T0) ⟨#[120]⟩).run Tryz.prog W = .ok (.string (bs (T0 ++ [120]))) W := fun W => cat_run T0 [120] (by simp only [List.length_cons, List.length_nil]; omega) Tryz.prog W
            have hadd2 := fun W => cat_run (T0 ++ [120]) (dec ((m : Int) + 1)) (by simp only [List.length_append, List.length_cons, List.length_nil]; omega) Tryz.prog W
            clear hdi hdn D2 hT0 HTK
            generalize (T0 ++ [120]) ++ dec ((m : Int) + 1) = R2 at *
            generalize T0 ++ [120] = R1 at *
            generalize dec ((m : Int) + 1) = di at *
            generalize bs T0 = S0 at *
            go_wp2_with (go_at_call 57; refine (D1.out _).mono ?_; rintro e w1 ⟨rfl, hx1⟩; have hc1 := (hx1.cell (World.block_lt_of_cell? _ _ hc)).trans hc)
            go_roundw
            case rel => exact ⟨m + 1, by omega, by go_num, by rw [HTK2.out], HB3.out.trans (hx1.mono hsz3)⟩
            case measure => simp [intOf]; omega
          · have t2 : decide ((1 : Int) < (n : Int)) = true := by simp; omega
            have HTK2 : Hid (Go.Lib.join (mfL r (m + 1)) [32] = ((((T0 ++ [120]) ++ dec ((m : Int) + 1)) ++ [94]) ++ dec (n : Int))) := by show _ = _; rw [HTK.out, mf_more _ _ _ (by omega)]
            have hadd1 : ∀ W, (Op.stringOp .add (bs T0) ⟨#[120]⟩).run Tryz.prog W = .ok (.string (bs (T0 ++ [120]))) W := fun W => cat_run T0 [120] (by simp only [List.length_cons, List.length_nil]; omega) Tryz.prog W
            have hadd2 := fun W => cat_run (T0 ++ [120]) (dec ((m : Int) + 1)) (by simp only [List.length_append, List.length_cons, List.length_nil]; omega) Tryz.prog W
            have hadd3 : ∀ W, (Op.stringOp .add (bs ((T0 ++ [120]) ++ dec ((m : Int) + 1))) ⟨#[94]⟩).run Tryz.prog W = .ok (.string (bs (((T0 ++ [120]) ++ dec ((m : Int) + 1)) ++ [94]))) W := fun W => cat_run ((T0 ++ [120]) ++ dec ((m : Int) + 1)) [94] (by simp only [List.length_append, List.length_cons, List.length_nil]; omega) Tryz.prog W
            have hadd4 := fun W => cat_run (((T0 ++ [120]) ++ dec ((m : Int) + 1)) ++ [94]) (dec (n : Int)) (by simp only [List.length_append, List.length_cons, List.length_nil]; omega) Tryz.prog W
            clear hdi hdn hT0 HTK
            generalize (((T0 ++ [120]) ++ dec ((m : Int) + 1)) ++ [94]) ++ dec (n : Int) = R4 at *
            generalize ((T0 ++ [120]) ++ dec ((m : Int) + 1)) ++ [94] = R3 at *
            generalize (T0 ++ [120]) ++ dec ((m : Int) + 1) = R2 at *
            generalize T0 ++ [120] = R1 at *
            generalize dec ((m : Int) + 1) = di at *
            generalize dec (n : Int) = dn at *
            generalize bs T0 = S0 at *
            go_wp2_with (go_at_call 57; first | ((with_reducible refine Calls.mono (D1.out _) ?_); (rintro e w1 ⟨rfl, hx1⟩); (have hc1 := (hx1.cell (World.block_lt_of_cell? _ _ hc)).trans hc)) | ((with_reducible refine Calls.mono (D2.out _) ?_); (rintro e w2 ⟨rfl, hx2⟩)))
            go_roundw
            case rel => exact ⟨m + 1, by omega, by go_num, by rw [HTK2.out], HB3.out.trans ((hx1.trans (hx2.mono hx1.size)).mono hsz3)⟩
            case measure => simp [intOf]; omega
        · obtain ⟨R0, hT⟩ : ∃ T : List UInt8, T = Go.Lib.join (mfL r m) [32] := ⟨_, rfl⟩
          have hne : R0 ≠ [] := by
            rw [hT]
            cases hq : mfL r m with
            | nil => exact absurd hq hE
            | cons x xs =>
              rw [Go.Lib.join_cons]
              intro e
              exact (mfL_word HD.out m hm2 x (by rw [hq]; exact List.mem_cons_self ..)).2 (List.append_eq_nil_iff.1 e).1
          have t9 := bs_isEmpty hne
          obtain ⟨T0, hT1⟩ : ∃ T : List UInt8, T = R0 ++ [32] := ⟨_, rfl⟩
          have HTK : Hid (Go.Lib.join (mfL r (m + 1)) [32] = T0 ++ mfW m (n : Int)) := by show _ = _; rw [hms, join_snoc, if_neg hE, ← hT, hT1]
          have hT0 : T0.length ≤ 71 := by rw [hT1, List.length_append, hT]; simp only [List.length_cons, List.length_nil]; omega
          have hadd0 : ∀ W, (Op.stringOp .add (bs R0) ⟨#[32]⟩).run Tryz.prog W = .ok (.string (bs T0)) W := fun W => by rw [hT1]; exact cat_run R0 [32] (by rw [hT]; simp only [List.length_cons, List.length_nil]; omega) Tryz.prog W
          rw [← hT]
          clear hT hT1 hE hms hg hjl hne
          generalize bs R0 = SR at *
          by_cases h1 : n = 1
          · subst h1
            have HTK2 : Hid (Go.Lib.join (mfL r (m + 1)) [32] = (T0 ++ [120]) ++ dec ((m : Int) + 1)) := by show _ = _; rw [HTK.out, ← mf_one]; rfl
            have hadd1 : ∀ W, (Op.stringOp .add (bs T0) ⟨#[120]⟩).run Tryz.prog W = .ok (.string (bs (T0 ++ [120]))) W := fun W => cat_run T0 [120] (by simp only [List.length_cons, List.length_nil]; omega) Tryz.prog W
            have hadd2 := fun W => cat_run (T0 ++ [120]) (dec ((m : Int) + 1)) (by simp only [List.length_append, List.length_cons, List.length_nil]; omega) Tryz.prog W
            clear hdi hdn D2 hT0 HTK
            generalize (T0 ++ [120]) ++ dec ((m : Int) + 1) = R2 at *
            generalize T0 ++ [120] = R1 at *
            generalize dec ((m : Int) + 1) = di at *
            generalize bs T0 = S0 at *
            go_wp2_with (go_at_call 57; refine (D1.out _).mono ?_; rintro e w1 ⟨rfl, hx1⟩; have hc1 := (hx1.cell (World.block_lt_of_cell? _ _ hc)).trans hc)
            go_roundw
            case rel => exact ⟨m + 1, by omega, by go_num, by rw [HTK2.out], HB3.out.trans (hx1.mono hsz3)⟩
            case measure => simp [intOf]; omega
          · have t2 : decide ((1 : Int) < (n : Int)) = true := by simp; omega
            have HTK2 : Hid (Go.Lib.join (mfL r (m + 1)) [32] = ((((T0 ++ [120]) ++ dec ((m : Int) + 1)) ++ [94]) ++ dec (n : Int))) := by show _ = _; rw [HTK.out, mf_more _ _ _ (by omega)]
            have hadd1 : ∀ W, (Op.stringOp .add (bs T0) ⟨#[120]⟩).run Tryz.prog W = .ok (.string (bs (T0 ++ [120]))) W := fun W => cat_run T0 [120] (by simp only [List.length_cons, List.length_nil]; omega) Tryz.prog W
            have hadd2 := fun W => cat_run (T0 ++ [120]) (dec ((m : Int) + 1)) (by simp only [List.length_append, List.length_cons, List.length_nil]; omega) Tryz.prog W
            have hadd3 : ∀ W, (Op.stringOp .add (bs ((T0 ++ [120]) ++ dec ((m : Int) + 1))) ⟨#[94]⟩).run Tryz.prog W = .ok (.string (bs (((T0 ++ [120]) ++ dec ((m : Int) + 1)) ++ [94]))) W := fun W => cat_run ((T0 ++ [120]) ++ dec ((m : Int) + 1)) [94] (by simp only [List.length_append, List.length_cons, List.length_nil]; omega) Tryz.prog W
            have hadd4 := fun W => cat_run (((T0 ++ [120]) ++ dec ((m : Int) + 1)) ++ [94]) (dec (n : Int)) (by simp only [List.length_append, List.length_cons, List.length_nil]; omega) Tryz.prog W
            clear hdi hdn hT0 HTK
            generalize (((T0 ++ [120]) ++ dec ((m : Int) + 1)) ++ [94]) ++ dec (n : Int) = R4 at *
            generalize ((T0 ++ [120]) ++ dec ((m : Int) + 1)) ++ [94] = R3 at *
            generalize (T0 ++ [120]) ++ dec ((m : Int) + 1) = R2 at *
            generalize T0 ++ [120] = R1 at *
            generalize dec ((m : Int) + 1) = di at *
            generalize dec (n : Int) = dn at *
            generalize bs T0 = S0 at *
            go_wp2_with (go_at_call 57; first | ((with_reducible refine Calls.mono (D1.out _) ?_); (rintro e w1 ⟨rfl, hx1⟩); (have hc1 := (hx1.cell (World.block_lt_of_cell? _ _ hc)).trans hc)) | ((with_reducible refine Calls.mono (D2.out _) ?_); (rintro e w2 ⟨rfl, hx2⟩)))
            go_roundw
            case rel => exact ⟨m + 1, by omega, by go_num, by rw [HTK2.out], HB3.out.trans ((hx1.trans (hx2.mono hx1.size)).mono hsz3)⟩
            case measure => simp [intOf]; omega
    · obtain rfl : m = r.length := by omega
      by_cases hE : mfL r r.length = []
      · have HE : Hid (mtW r = [49]) := by show _ = _; unfold mtW; rw [if_pos hE]
        have t9 := bs_isNil
        have e2 : Go.Lib.join (mfL r r.length) [32] = [] := by rw [hE]; rfl
        rw [e2]
        obtain ⟨S, hS⟩ : ∃ S, S = bs [] := ⟨_, rfl⟩
        rw [← hS] at t9
        rw [← hS]
        clear e2 hE hS hjl
        go_wp2_with fail
        go_ret
        exact ⟨by rw [HE.out]; rfl, HB3.out⟩
      · have HE : Hid (mtW r = Go.Lib.join (mfL r r.length) [32]) := by show _ = _; unfold mtW; rw [if_neg hE]
        have hne : Go.Lib.join (mfL r r.length) [32] ≠ [] := by
          cases hq : mfL r r.length with
          | nil => exact absurd hq hE
          | cons x xs =>
            rw [Go.Lib.join_cons]
            intro e
            exact (mfL_word HD.out _ (Nat.le_refl _) x (by rw [hq]; exact List.mem_cons_self ..)).2 (List.append_eq_nil_iff.1 e).1
        have t9 := bs_isEmpty hne
        clear hne hE hjl
        generalize Go.Lib.join (mfL r r.length) [32] = J at *
        obtain ⟨S, hS⟩ : ∃ S, S = bs J := ⟨_, rfl⟩
        rw [← hS] at t9
        rw [← hS]
        have HS := Lib.hid hS
        clear hS
        go_wp2_with fail
        go_ret
        exact ⟨by rw [HE.out, ← HS.out]; rfl, HB3.out⟩
set_option maxRecDepth 100000 in
set_option maxHeartbeats 1000000 in
theorem l06Text_c (v : Value) (xss : List (List Int)) (w : World) (h : IntSS w.heap v xss) (hT : arT xss = true) :
    Calls Tryz.prog 18 #[v] w fun e w' => e = .returned (.string (bs (sumW mtW xss))) ∧ Below w.heap.size w w' := by
  obtain ⟨ao, c, rfl, -⟩ := h.len
  have H := Lib.hid h; have HT := Lib.hid hT
  have hl := arT_len hT
  have HJL := Lib.hid (fun (k : Nat) => join_len (m := 70) [43] ((xss.take k).map mtW) (fun x hx => by
    obtain ⟨y, hy, rfl⟩ := List.mem_map.1 hx
    exact mtW_len (arT_deg3 hT y (List.mem_of_mem_take hy))))
  clear h hT
  by_cases h0 : xss = []
  · have e : sumW mtW xss = [48] := by unfold sumW; rw [if_pos h0]
    have t1 : ((xss.length : Int) == 0) = true := by rw [h0]; rfl
    rw [e]
    clear e h0 HJL
    go_enter Tryz.func18, Tryz.ntmps18
    go_wp2_with fail
    go_ret
    exact ⟨rfl, Below.refl _ _⟩
  · have HE : Hid (sumW mtW xss = Go.Lib.join (xss.map mtW) [43]) := by show _ = _; unfold sumW; rw [if_neg h0]
    have hpos : 0 < xss.length := List.length_pos_iff.2 h0
    have t1 : ((xss.length : Int) == 0) = false := by simp; omega
    clear h0
    go_enter Tryz.func18, Tryz.ntmps18
    go_wp2_with fail
    go_loopw [3, 4] (fun t i wr => ∃ m : Nat, m ≤ xss.length ∧ i = .int .i64 m ∧ t = .string (bs (Go.Lib.join ((xss.take m).map mtW) [43])) ∧ Below w.heap.size w wr) (fun _ i _ => xss.length - (intOf i).toNat)
    case atStart => exact ⟨0, Nat.zero_le _, rfl, rfl, Below.refl _ _⟩
    case round =>
      obtain ⟨m, hm2, rfl, rfl, hb3⟩ := hrel
      have HB3 := Lib.hid hb3
      have hsz3 := hb3.size
      clear hb3
      by_cases hml : m < xss.length
      · obtain ⟨b4, o4, q4, u4, hv4, hc4, hu4, -⟩ := H.out.at m hml
        simp only [Value.slice.injEq, true_and] at hv4
        obtain ⟨rfl, rfl⟩ := hv4
        have hc := (HB3.out.cell (World.block_lt_of_cell? _ _ hc4)).trans hc4
        have hu := hu4.same HB3.out.block
        clear hc4 hu4
        have hd3 := arT_deg3 HT.out _ (List.getElem_mem hml)
        have C := Lib.hid (l06Term_c u4 xss[m] wr hu hd3)
        have hel := mtW_len hd3
        have hjl := HJL.out m
        rw [List.length_map, List.length_take, Nat.min_eq_left (by omega)] at hjl
        have hjl2 : (Go.Lib.join ((xss.take m).map mtW) [43]).length ≤ 142000 := by
          have : m * (70 + [(43 : UInt8)].length) ≤ 2000 * 71 := Nat.mul_le_mul (by omega) (by simp)
          omega
        obtain ⟨ra, rc, rfl, -⟩ := hu.len
        by_cases h0 : m = 0
        · subst h0
          obtain ⟨R0, hR0⟩ : ∃ R : List UInt8, R = [] := ⟨_, rfl⟩
          have HTK : Hid (Go.Lib.join ((xss.take (0 + 1)).map mtW) [43] = R0 ++ mtW xss[0]) := by
            show _ = _
            rw [map_take_succ mtW xss 0 hml, hR0]
            simp [Go.Lib.join_one]
          have e0 : Go.Lib.join ((xss.take 0).map mtW) [43] = R0 := by rw [hR0]; simp [Go.Lib.join_nil]
          have hl0 : R0.length = 0 := by rw [hR0]; rfl
          have hadd := fun W => cat_run R0 (mtW xss[0]) (by omega) Tryz.prog W
          rw [Nat.add_zero] at hc
          rw [e0]
          clear hjl hjl2 hel hd3 hu e0 hR0 hl0
          generalize xss[0] = r at *
          generalize R0 ++ mtW r = R1 at *
          generalize mtW r = L at *
          go_wp2_with (go_at_call 40; refine C.out.mono ?_; rintro e w1 ⟨rfl, hx1⟩)
          go_roundw
          case rel => exact ⟨1, by omega, by go_num, by rw [HTK.out], HB3.out.trans (hx1.mono hsz3)⟩
          case measure => simp [intOf]; omega
        · have tm : decide ((0 : Int) < (m : Int)) = true := by simp; omega
          have HTK : Hid (Go.Lib.join ((xss.take (m + 1)).map mtW) [43] = (Go.Lib.join ((xss.take m).map mtW) [43] ++ [43]) ++ mtW xss[m]) := by
            show _ = _
            rw [map_take_succ mtW xss m hml, join_step _ _ _ (fun e => by have := congrArg List.length e; rw [List.length_map, List.length_take, List.length_nil] at this; omega)]
          generalize Go.Lib.join ((xss.take m).map mtW) [43] = R0 at *
          have hadd0 : ∀ W, (Op.stringOp .add (bs R0) ⟨#[43]⟩).run Tryz.prog W = .ok (.string (bs (R0 ++ [43]))) W := fun W => cat_run R0 [43] (by simp only [List.length_cons, List.length_nil]; omega) Tryz.prog W
          have hadd1 := fun W => cat_run (R0 ++ [43]) (mtW xss[m]) (by simp only [List.length_append, List.length_cons, List.length_nil]; omega) Tryz.prog W
          clear hjl hjl2 hel hd3 hu
          generalize xss[m] = r at *
          generalize (R0 ++ [43]) ++ mtW r = R2 at *
          generalize R0 ++ [43] = R1 at *
          generalize mtW r = L at *
          go_wp2_with (go_at_call 40; refine C.out.mono ?_; rintro e w1 ⟨rfl, hx1⟩)
          go_roundw
          case rel => exact ⟨m + 1, by omega, by go_num, by rw [HTK.out], HB3.out.trans (hx1.mono hsz3)⟩
          case measure => simp [intOf]; omega
      · obtain rfl : m = xss.length := by omega
        rw [List.take_length]
        go_wp2_with fail
        go_ret
        exact ⟨by rw [HE.out]; rfl, HB3.out⟩
end Go.Proofs.YtalbbjhonkcbgaaGreatDoor

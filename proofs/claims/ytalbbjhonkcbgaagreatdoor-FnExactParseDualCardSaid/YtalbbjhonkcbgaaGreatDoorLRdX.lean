/- Reading texts: of the reference: ParseDual. -/
import Derived.Test.YtalbbjhonkcbgaaGreatDoorLRdV
import Derived.Test.YtalbbjhonkcbgaaGreatDoorLStep
import Derived.Test.YtalbbjhonkcbgaaGreatDoorLMil2
import Derived.Lib.SliceRun
import Derived.Deep.DeepCutAuto
import Derived.Deep.RegionLaw
namespace Go.Proofs.YtalbbjhonkcbgaaGreatDoor
open Go.RowKit Go.Sort Go.Deep

theorem ownI_litX {w : World} {B : Nat} (hB : B ≤ w.heap.size) (x : Int) : OwnI (w.alloc (.cells #[.int .i64 x] 2)) B (.slice (some ⟨w.heap.size, 0, none⟩) 1 1) [x] := World.ownsRow_lit (e := 2) (size := 1) w #[.int .i64 x] 1 hB (by unfold maxLen; omega) rfl
theorem pwR_set (m : Nat) (e : Int) : (List.replicate (m + 1) (0 : Int)).set m e = pwR (m + 1) e := by
  unfold pwR
  rw [List.replicate_succ', List.set_append_right _ _ (by simp)]
  simp
theorem pwR_len (m : Nat) (e : Int) : (pwR (m + 1) e).length = m + 1 := by simp [pwR]
set_option maxRecDepth 100000 in
theorem l06PowerR_c (m : Nat) (e : Int) (w : World) (hn : m ≤ 1000) (he : 1 ≤ e) :
    Calls Tryz.prog 38 #[.int .i64 ((m : Int) + 1), .int .i64 e] w fun r w' => ∃ v, r = .returned v ∧ OwnI w' w.heap.size v (pwR (m + 1) e) ∧ Below w.heap.size w w' := by
  have te := (neB (show e ≠ 0 by omega)).1
  have hmk := fun w => make_run (P := Tryz.prog) 30 2 _ 8 info_int64 Tryz.underlying30 rfl (by omega) (m + 1) (by omega) .i64 .i64 ((m : Int) + 1) ((m : Int) + 1) (by omega) (by omega) w
  have hmo := made_own w w.heap.size 2 (m + 1) (.int .i64 0) (Nat.le_refl _) (by omega)
  have hmo2 : (w.alloc (.cells (madeCells #[.int .i64 0] (m + 1)) 2)).ownsRow w.heap.size 2 1 (.slice (some ⟨w.heap.size, 0, none⟩) (m + 1) (m + 1)) (m + 1) ((List.replicate (m + 1) (0 : Int)).map (Value.int .i64)) := by simpa using hmo
  obtain ⟨W5, hW5⟩ : ∃ W5, W5 = w.alloc (.cells (madeCells #[.int .i64 0] (m + 1)) 2) := ⟨_, rfl⟩
  have hb5 : Below w.heap.size w W5 := by rw [hW5]; exact (Below.refl _ _).alloc (Nat.le_refl _) _
  rw [← hW5] at hmo2
  have q0 := own_int_at hmo2 m (by omega)
  rw [show (List.replicate (m + 1) (0 : Int)).getD m 0 = 0 by simp] at q0
  have f0 := hmo2.frozenAt m
  have hst := own_int_set hmo2 m e
  rw [pwR_set] at hst
  have HST : Hid (OwnI (W5.setCell ⟨w.heap.size, m, none⟩ (.int .i64 e)) w.heap.size (.slice (some ⟨w.heap.size, 0, none⟩) (m + 1) (m + 1)) (pwR (m + 1) e)) := by
    show OwnI _ _ _ _
    unfold OwnI
    rw [pwR_len]; exact hst
  have HB5 := Lib.hid (hb5.setCell (p := ⟨w.heap.size, m, none⟩) (Nat.le_refl _) (.int .i64 e))
  have HW5 := Lib.hid hW5
  clear hmo hmo2 hst hb5 hW5
  have hs1 : (m : Int) + 1 - 1 = m := by omega
  have hi0 : (0 : Int) ≤ m := by omega
  have t0 := (neB (show (m : Int) + 1 ≠ 0 by omega)).1
  go_enter Tryz.func38, Tryz.ntmps38
  go_upto_region 4 with fail
  rw [← HW5.out]
  clear hmk
  go_wp2_with fail
  go_ret
  exact ⟨_, rfl, HST.out, HB5.out⟩
theorem lrF_fail {x : List UInt8} {ws : List (List UInt8)} {out : List Int} (h : lOk x = false) : lrF (x :: ws) out = [0] := by rw [lrF, if_neg (by rw [h]; simp)]
theorem lrF_go {x : List UInt8} {ws : List (List UInt8)} {out : List Int} (h : lOk x = true) : lrF (x :: ws) out = lrF ws (joinL out (pwR (lN x).toNat (lK x))) := by rw [lrF, if_pos h]
theorem drop_atX {ws : List (List UInt8)} {k : Nat} (hk : k < ws.length) : ws.drop k = ws[k] :: ws.drop (k + 1) := List.drop_eq_getElem_cons hk
theorem sm_pwR (m : Nat) (e : Int) (h : 0 ≤ e) (h2 : e ≤ 40) : Sm 40 (pwR (m + 1) e) := fun x hx => by
  unfold pwR at hx
  rcases List.mem_append.1 hx with hx | hx
  · have := (List.mem_replicate.1 hx).2; omega
  · have : x = e := by simpa using hx
    omega
theorem lOk_yes {w : List UInt8} (h1 : (spl 94 w).length ≤ 2) (h2 : 1 ≤ lN w ∧ lN w ≤ 10) (h3 : 1 ≤ lK w ∧ lK w ≤ 40) : lOk w = true := by
  unfold lOk
  simp [h1, h2.1, h2.2, h3.1, h3.2]
theorem lOk_no {w : List UInt8} (h : ¬ ((spl 94 w).length ≤ 2 ∧ (1 ≤ lN w ∧ lN w ≤ 10) ∧ (1 ≤ lK w ∧ lK w ≤ 40))) : lOk w = false := by
  rw [← Bool.not_eq_true]
  intro e
  apply h
  unfold lOk at e
  simp only [Bool.and_eq_true, decide_eq_true_eq] at e
  exact ⟨e.1.1, e.1.2, e.2⟩
theorem in_yes {n a b : Int} (h : a ≤ n ∧ n ≤ b) : (decide (a ≤ n) && decide (n ≤ b)) = true := by simp [h.1, h.2]
theorem in_no {n a b : Int} (h : ¬ (a ≤ n ∧ n ≤ b)) : (decide (a ≤ n) && decide (n ≤ b)) = false := by
  rw [← Bool.not_eq_true]
  intro e
  simp only [Bool.and_eq_true, decide_eq_true_eq] at e
  exact h e
set_option maxRecDepth 100000 in
set_option maxHeartbeats 4000000 in
theorem l06Read_c (s : List UInt8) (hl : s.length ≤ 1048576) (w : World) :
    Calls Tryz.prog 16 #[.string (bs s)] w fun e w' => ∃ v, e = .returned v ∧ OwnI w' w.heap.size v (lrd s) ∧ Below w.heap.size w w' := by
  have hb0 : Below w.heap.size w (w.alloc (.cells #[] 2)) := (Below.refl _ _).alloc (Nat.le_refl _) _
  have ho0 := ownI_empty (w := w) (B := w.heap.size) (Nat.le_refl _)
  by_cases h0 : s = [49]
  · have e2 : lrd s = [] := by rw [h0]; rfl
    have te := eq_one s [49] h0
    rw [e2]
    clear e2 h0
    generalize bs s = sb at *
    go_enter Tryz.func16, Tryz.ntmps16
    go_wp2_with fail
    go_ret
    exact ⟨_, rfl, ho0, hb0⟩
  · have te := ne_one s [49] h0
    have HC := Lib.hid (fun W => l01Split_c 32 s (by omega) W)
    have HWL := Lib.hid (fun x hx => (spl_part 32 s x hx).1)
    have hle := spl_le 32 s
    have hp := spl_pos 32 s
    have HB0 := Lib.hid hb0; have HO0 := Lib.hid ho0
    have HLR : Hid (lrd s = lrF (spl 32 s) []) := if_neg h0
    clear h0 hb0 ho0
    generalize lrd s = rv at *
    generalize spl 32 s = ws at *
    generalize bs s = sb at *
    go_enter Tryz.func16, Tryz.ntmps16
    go_wp2_with (go_at_call 15; refine (HC.out _).mono ?_; rintro e w1 ⟨v1, rfl, hv1, hb1⟩; obtain ⟨g, cap, rfl, hgB, hgs, -⟩ := hv1.at hp; have HO1 := Lib.hid (HO0.out.same hb1.block); have HW1 := Lib.hid hv1; have HBB := Lib.hid (HB0.out.trans (hb1.mono HB0.out.size)); clear hv1 hb1)
    go_loopw [3, 5] (fun o i wr => ∃ (k : Nat) (out : List Int), k ≤ ws.length ∧ i = .int .i64 k ∧ lrF ws [] = lrF (ws.drop k) out ∧ Sm (40 * (k : Int)) out ∧ out.length ≤ 10 ∧ OwnI wr w.heap.size o out ∧ OwnW wr (w.alloc (.cells #[] 2)).heap.size (.slice (some ⟨g, 0, none⟩) ws.length cap) ws ∧ Below w.heap.size w wr) (fun _ i _ => ws.length - (intOf i).toNat)
    case atStart => exact ⟨0, [], Nat.zero_le _, rfl, rfl, (fun x hx => by cases hx), by simp, HO1.out, HW1.out, HBB.out⟩
    case round =>
      obtain ⟨k, out, hk, rfl, hpre, hsm, hol, ho, hW, hb⟩ := hrel
      have hsz := hb.size
      obtain ⟨ya, yn, yc, rfl⟩ := own_shape ho
      have HO := Lib.hid ho; have HB := Lib.hid hb; have HPRE := Lib.hid hpre; have HW := Lib.hid hW
      by_cases hkl : k < ws.length
      · have hc : wr.cell? ⟨g, k, none⟩ = some (.string (bs ws[k])) := by
          obtain ⟨g', cap', hv, -, -, hcell⟩ := hW.at hp
          simp only [Value.slice.injEq, Option.some.injEq, Addr.mk.injEq, and_true, true_and] at hv
          obtain ⟨rfl, rfl⟩ := hv
          exact hcell k hkl
        have hki : (k : Int) < (ws.length : Int) := by omega
        have hwl : ws[k].length ≤ 1048576 := by have := HWL.out _ (List.getElem_mem hkl); omega
        have HPRE0 : Hid (lrF ws [] = lrF (ws[k] :: ws.drop (k + 1)) out) := by show _ = _; rw [HPRE.out, drop_atX hkl]
        have S2 := Lib.hid (fun W => l01Split_c 94 ws[k] (by omega) W)
        have hp2 := spl_pos 94 ws[k]
        have hpl := spl_part 94 ws[k]
        obtain ⟨hs, hhs⟩ : ∃ L, spl 94 ws[k] = L := ⟨_, rfl⟩
        have HHS := Lib.hid hhs
        rw [hhs] at S2 hp2 hpl
        clear ho hb hW hpre hhs
        generalize bs ws[k] = xs at *
        go_wp2_with fail
        refine (S2.out wr).mono ?_
        rintro e w2 ⟨v2, rfl, hv2, hb2⟩
        obtain ⟨q, cap2, rfl, hqB, hqs, hcs⟩ := hv2.at hp2
        have HCS := Lib.hid hcs
        have HBX := Lib.hid (HB.out.trans (hb2.mono hsz)); have HOX := Lib.hid (HO.out.same hb2.block)
        have HWX : Hid (OwnW w2 (w.alloc (.cells #[] 2)).heap.size (.slice (some ⟨g, 0, none⟩) ws.length cap) ws) := HW.out.same hb2.block
        have hc0 := hcs 0 hp2
        clear hv2 hb2 hcs HO HB HW hc
        obtain ⟨x0, hx0⟩ : ∃ x, hs[0] = x := ⟨_, rfl⟩
        have hx0l : x0.length ≤ 1048576 := by have := (hpl hs[0] (List.getElem_mem hp2)).1; rw [hx0] at this; omega
        have HG0 : Hid (hs.getD 0 [] = x0) := by show _ = _; rw [← hx0]; simp [hp2]
        rw [hx0] at hc0
        clear hx0 hpl
        have hz := bs_size x0
        by_cases h1 : 1 < x0.length
        · have t1 : decide ((1 : Int) < (x0.length : Int)) = true := by rw [decide_eq_true_eq]; omega
          have hix : ∀ W, (Instr.index 9 (.string (bs x0)) (.int .i64 0)).run Tryz.prog W = .ok (.int .u8 (x0[0].toNat : Int)) W := fun W => idx_bs (P := Tryz.prog) 9 Tryz.underlying9 x0 0 (by omega) W
          have hsb : ∀ W, (Instr.slice 9 (.string (bs x0)) (some (.int .i64 1)) none none).run Tryz.prog W = .ok (.string (bs (x0.drop 1))) W := fun W => sub_bs_l (P := Tryz.prog) 9 Tryz.underlying9 x0 1 (by omega) W
          have hhd : x0.headD 0 = x0[0] := by cases x0 with | nil => simp at h1 | cons a l => rfl
          by_cases h120 : x0[0].toNat = 120
          · have t0 := (eqB (show ((x0[0].toNat : Nat) : Int) = 120 by omega)).1
            obtain ⟨nv, hnv⟩ : ∃ n, valW (x0.drop 1) = n := ⟨_, rfl⟩
            have HNV : Hid (lN ws[k] = nv) := by
              show _ = _
              unfold lN
              rw [HHS.out, HG0.out, if_pos ⟨h1, by rw [hhd]; exact UInt8.toNat_inj.1 h120⟩, hnv]
            have V1 := Lib.hid (fun W => l01Value_c (x0.drop 1) W)
            rw [hnv] at V1
            clear hnv h120 hhd
            generalize ((x0[0].toNat : Nat) : Int) = y0 at *
            generalize bs (x0.drop 1) = z0 at *
            generalize bs x0 = b0 at *
            go_wp2_with fail
            refine (V1.out _).mono ?_
            rintro e wz ⟨rfl, rfl⟩
            clear t0 t1 hix hsb hz hc0 h1 hx0l
            by_cases h2 : hs.length = 2
            · have t2 := (eqB (show (hs.length : Int) = 2 by omega)).1
              have t3 : decide ((2 : Int) < (hs.length : Int)) = false := by rw [decide_eq_false_iff_not]; omega
              have hs2 : hs.length ≤ 2 := by omega
              have hc1 := HCS.out 1 (by omega)
              obtain ⟨kv, hkv⟩ : ∃ n, valW hs[1] = n := ⟨_, rfl⟩
              have V2 := Lib.hid (fun W => l01Value_c hs[1] W)
              have HKV : Hid (lK ws[k] = kv) := by show _ = _; unfold lK; rw [HHS.out, if_pos h2, show hs.getD 1 [] = hs[1] by simp [show 1 < hs.length by omega], hkv]
              rw [hkv] at V2
              clear hkv
              generalize bs hs[1] = z1 at *
              go_wp2_with fail
              refine (V2.out _).mono ?_
              rintro e wz ⟨rfl, rfl⟩
              clear h2 t2 hc1 V2
              by_cases hN : 1 ≤ nv ∧ nv ≤ 10
              · by_cases hK : 1 ≤ kv ∧ kv ≤ 40
                · have hok : lOk ws[k] = true := lOk_yes (by rw [HHS.out]; exact hs2) (by rw [HNV.out]; exact hN) (by rw [HKV.out]; exact hK)
                  obtain ⟨m, hm⟩ : ∃ m : Nat, nv = (m : Int) + 1 := ⟨(nv - 1).toNat, by omega⟩
                  have PW := Lib.hid (fun W => l06PowerR_c m kv W (by omega) hK.1)
                  have hsmp := sm_pwR m kv (by omega) hK.2
                  have HSMO := Lib.hid (hsm.join hsmp (by omega) (by omega))
                  have HLO : Hid ((joinL out (pwR (m + 1) kv)).length ≤ 10) := by show _ ≤ _; rw [joinL_length, pwR_len]; omega
                  have HNX : Hid (lrF ws [] = lrF (ws.drop (k + 1)) (joinL out (pwR (m + 1) kv))) := by
                    show _ = _
                    rw [HPRE0.out, lrF_go hok, HNV.out, HKV.out, hm, show ((m : Int) + 1).toNat = m + 1 by omega]
                  have JN := Lib.hid (fun v u W (h1 : IntS W.heap v out) (h2 : IntS W.heap u (pwR (m + 1) kv)) => l06Join_c v u out (pwR (m + 1) kv) W h1 h2 (fun x hx => by have := hsm x hx; omega) (fun x hx => by have := hsmp x hx; omega) (by omega) (by rw [pwR_len]; omega))
                  have IN1 := Lib.hid (fun W => l01In_c nv 1 10 W)
                  have IN2 := Lib.hid (fun W => l01In_c kv 1 40 W)
                  rw [in_yes hN] at IN1
                  rw [in_yes hK] at IN2
                  rw [← hm] at PW
                  clear hok hsmp hsm HNV HKV hN hK hm
                  go_wp2_with (first | (go_at_call 36; first | ((with_reducible refine Calls.mono (IN1.out _) ?_); (rintro e wy ⟨rfl, rfl⟩)) | ((with_reducible refine Calls.mono (IN2.out _) ?_); (rintro e wy ⟨rfl, rfl⟩))) | (go_at_call 38; refine (PW.out _).mono ?_; rintro e w8 ⟨v8, rfl, hv8, hb8⟩; obtain ⟨pa8, pn8, pc8, rfl⟩ := own_shape hv8; have HB8 := Lib.hid (HBX.out.trans (hb8.mono HBX.out.size)); have HO8 := Lib.hid (HOX.out.same hb8.block); have HW8 := Lib.hid (HWX.out.same hb8.block); have HV8 := Lib.hid hv8; clear hb8 hv8) | (go_at_call 37; refine (JN.out _ _ _ HO8.out.ints HV8.out.ints).mono ?_; rintro e w9 ⟨v9, rfl, hv9, hb9⟩; obtain ⟨pa9, pn9, pc9, rfl⟩ := own_shape hv9; have HB9 := Lib.hid (HB8.out.trans (hb9.mono HB8.out.size)); have HW9 := Lib.hid (HW8.out.same hb9.block); have HV9 := Lib.hid (own_base hv9 HB8.out.size); clear hb9 hv9))
                  go_roundw
                  case rel => exact ⟨k + 1, _, by omega, by go_num, HNX.out, by have := HSMO.out; rw [show (40 : Int) * ((k + 1 : Nat) : Int) = 40 * (k : Int) + 40 by omega]; exact this, HLO.out, HV9.out, HW9.out, HB9.out⟩
                  case measure => simp [intOf]; omega
                · have EF : Hid (lOk ws[k] = false) := lOk_no (by rw [HHS.out, HNV.out, HKV.out]; exact fun h => hK h.2.2)
                  have IN1 := Lib.hid (fun W => l01In_c nv 1 10 W)
                  have IN2 := Lib.hid (fun W => l01In_c kv 1 40 W)
                  rw [in_yes hN] at IN1
                  rw [in_no hK] at IN2
                  clear hN hK hsm
                  go_wp2_with (first | (go_at_call 36; first | ((with_reducible refine Calls.mono (IN1.out _) ?_); (rintro e wy ⟨rfl, rfl⟩)) | ((with_reducible refine Calls.mono (IN2.out _) ?_); (rintro e wy ⟨rfl, rfl⟩))))
                  go_ret
                  exact ⟨_, rfl, by rw [HLR.out, HPRE0.out, lrF_fail EF.out]; exact ownI_litX HBX.out.size 0, HBX.out.alloc HBX.out.size _⟩
              · have EF : Hid (lOk ws[k] = false) := lOk_no (by rw [HHS.out, HNV.out]; exact fun h => hN h.2.1)
                have IN1 := Lib.hid (fun W => l01In_c nv 1 10 W)
                have IN2 := Lib.hid (fun W => l01In_c kv 1 40 W)
                rw [in_no hN] at IN1
                clear hN hsm
                go_wp2_with (first | (go_at_call 36; first | ((with_reducible refine Calls.mono (IN1.out _) ?_); (rintro e wy ⟨rfl, rfl⟩)) | ((with_reducible refine Calls.mono (IN2.out _) ?_); (rintro e wy ⟨rfl, rfl⟩))))
                go_ret
                exact ⟨_, rfl, by rw [HLR.out, HPRE0.out, lrF_fail EF.out]; exact ownI_litX HBX.out.size 0, HBX.out.alloc HBX.out.size _⟩
            · have t2 := (neB (show (hs.length : Int) ≠ 2 by omega)).1
              by_cases h3 : 2 < hs.length
              · have t3 : decide ((2 : Int) < (hs.length : Int)) = true := by rw [decide_eq_true_eq]; omega
                have EF : Hid (lOk ws[k] = false) := lOk_no (by rw [HHS.out]; exact fun h => absurd h.1 (by omega))
                have IN1 := Lib.hid (fun W => l01In_c nv 1 10 W)
                have IN2 := Lib.hid (fun W => l01In_c nv 1 10 W)
                clear hsm
                go_wp2_with (first | (go_at_call 36; first | ((with_reducible refine Calls.mono (IN1.out _) ?_); (rintro e wy ⟨rfl, rfl⟩)) | ((with_reducible refine Calls.mono (IN2.out _) ?_); (rintro e wy ⟨rfl, rfl⟩))))
                go_ret
                exact ⟨_, rfl, by rw [HLR.out, HPRE0.out, lrF_fail EF.out]; exact ownI_litX HBX.out.size 0, HBX.out.alloc HBX.out.size _⟩
              · have t3 : decide ((2 : Int) < (hs.length : Int)) = false := by rw [decide_eq_false_iff_not]; omega
                have hs2 : hs.length ≤ 2 := by omega
                have HKV : Hid (lK ws[k] = 1) := by show _ = _; unfold lK; rw [HHS.out, if_neg h2]
                clear h2 h3
                by_cases hN : 1 ≤ nv ∧ nv ≤ 10
                · by_cases hK : 1 ≤ (1 : Int) ∧ (1 : Int) ≤ 40
                  · have hok : lOk ws[k] = true := lOk_yes (by rw [HHS.out]; exact hs2) (by rw [HNV.out]; exact hN) (by rw [HKV.out]; exact hK)
                    obtain ⟨m, hm⟩ : ∃ m : Nat, nv = (m : Int) + 1 := ⟨(nv - 1).toNat, by omega⟩
                    have PW := Lib.hid (fun W => l06PowerR_c m (1 : Int) W (by omega) hK.1)
                    have hsmp := sm_pwR m (1 : Int) (by omega) hK.2
                    have HSMO := Lib.hid (hsm.join hsmp (by omega) (by omega))
                    have HLO : Hid ((joinL out (pwR (m + 1) (1 : Int))).length ≤ 10) := by show _ ≤ _; rw [joinL_length, pwR_len]; omega
                    have HNX : Hid (lrF ws [] = lrF (ws.drop (k + 1)) (joinL out (pwR (m + 1) (1 : Int)))) := by
                      show _ = _
                      rw [HPRE0.out, lrF_go hok, HNV.out, HKV.out, hm, show ((m : Int) + 1).toNat = m + 1 by omega]
                    have JN := Lib.hid (fun v u W (h1 : IntS W.heap v out) (h2 : IntS W.heap u (pwR (m + 1) (1 : Int))) => l06Join_c v u out (pwR (m + 1) (1 : Int)) W h1 h2 (fun x hx => by have := hsm x hx; omega) (fun x hx => by have := hsmp x hx; omega) (by omega) (by rw [pwR_len]; omega))
                    have IN1 := Lib.hid (fun W => l01In_c nv 1 10 W)
                    have IN2 := Lib.hid (fun W => l01In_c (1 : Int) 1 40 W)
                    rw [in_yes hN] at IN1
                    rw [in_yes hK] at IN2
                    rw [← hm] at PW
                    clear hok hsmp hsm HNV HKV hN hK hm
                    go_wp2_with (first | (go_at_call 36; first | ((with_reducible refine Calls.mono (IN1.out _) ?_); (rintro e wy ⟨rfl, rfl⟩)) | ((with_reducible refine Calls.mono (IN2.out _) ?_); (rintro e wy ⟨rfl, rfl⟩))) | (go_at_call 38; refine (PW.out _).mono ?_; rintro e w8 ⟨v8, rfl, hv8, hb8⟩; obtain ⟨pa8, pn8, pc8, rfl⟩ := own_shape hv8; have HB8 := Lib.hid (HBX.out.trans (hb8.mono HBX.out.size)); have HO8 := Lib.hid (HOX.out.same hb8.block); have HW8 := Lib.hid (HWX.out.same hb8.block); have HV8 := Lib.hid hv8; clear hb8 hv8) | (go_at_call 37; refine (JN.out _ _ _ HO8.out.ints HV8.out.ints).mono ?_; rintro e w9 ⟨v9, rfl, hv9, hb9⟩; obtain ⟨pa9, pn9, pc9, rfl⟩ := own_shape hv9; have HB9 := Lib.hid (HB8.out.trans (hb9.mono HB8.out.size)); have HW9 := Lib.hid (HW8.out.same hb9.block); have HV9 := Lib.hid (own_base hv9 HB8.out.size); clear hb9 hv9))
                    go_roundw
                    case rel => exact ⟨k + 1, _, by omega, by go_num, HNX.out, by have := HSMO.out; rw [show (40 : Int) * ((k + 1 : Nat) : Int) = 40 * (k : Int) + 40 by omega]; exact this, HLO.out, HV9.out, HW9.out, HB9.out⟩
                    case measure => simp [intOf]; omega
                  · have EF : Hid (lOk ws[k] = false) := lOk_no (by rw [HHS.out, HNV.out, HKV.out]; exact fun h => hK h.2.2)
                    have IN1 := Lib.hid (fun W => l01In_c nv 1 10 W)
                    have IN2 := Lib.hid (fun W => l01In_c (1 : Int) 1 40 W)
                    rw [in_yes hN] at IN1
                    rw [in_no hK] at IN2
                    clear hN hK hsm
                    go_wp2_with (first | (go_at_call 36; first | ((with_reducible refine Calls.mono (IN1.out _) ?_); (rintro e wy ⟨rfl, rfl⟩)) | ((with_reducible refine Calls.mono (IN2.out _) ?_); (rintro e wy ⟨rfl, rfl⟩))))
                    go_ret
                    exact ⟨_, rfl, by rw [HLR.out, HPRE0.out, lrF_fail EF.out]; exact ownI_litX HBX.out.size 0, HBX.out.alloc HBX.out.size _⟩
                · have EF : Hid (lOk ws[k] = false) := lOk_no (by rw [HHS.out, HNV.out]; exact fun h => hN h.2.1)
                  have IN1 := Lib.hid (fun W => l01In_c nv 1 10 W)
                  have IN2 := Lib.hid (fun W => l01In_c (1 : Int) 1 40 W)
                  rw [in_no hN] at IN1
                  clear hN hsm
                  go_wp2_with (first | (go_at_call 36; first | ((with_reducible refine Calls.mono (IN1.out _) ?_); (rintro e wy ⟨rfl, rfl⟩)) | ((with_reducible refine Calls.mono (IN2.out _) ?_); (rintro e wy ⟨rfl, rfl⟩))))
                  go_ret
                  exact ⟨_, rfl, by rw [HLR.out, HPRE0.out, lrF_fail EF.out]; exact ownI_litX HBX.out.size 0, HBX.out.alloc HBX.out.size _⟩
          · have t0 := (neB (show ((x0[0].toNat : Nat) : Int) ≠ 120 by omega)).1
            have HNV : Hid (lN ws[k] = -1) := by
              show _ = _
              unfold lN
              rw [HHS.out, HG0.out, if_neg (fun h => h120 (by have := h.2; rw [hhd] at this; rw [this]; rfl))]
            clear h120 hhd hsb
            generalize ((x0[0].toNat : Nat) : Int) = y0 at *
            generalize bs x0 = b0 at *
            by_cases h2 : hs.length = 2
            · have t2 := (eqB (show (hs.length : Int) = 2 by omega)).1
              have t3 : decide ((2 : Int) < (hs.length : Int)) = false := by rw [decide_eq_false_iff_not]; omega
              have hs2 : hs.length ≤ 2 := by omega
              have hc1 := HCS.out 1 (by omega)
              obtain ⟨kv, hkv⟩ : ∃ n, valW hs[1] = n := ⟨_, rfl⟩
              have V2 := Lib.hid (fun W => l01Value_c hs[1] W)
              have HKV : Hid (lK ws[k] = kv) := by show _ = _; unfold lK; rw [HHS.out, if_pos h2, show hs.getD 1 [] = hs[1] by simp [show 1 < hs.length by omega], hkv]
              rw [hkv] at V2
              clear hkv
              generalize bs hs[1] = z1 at *
              go_wp2_with fail
              refine (V2.out _).mono ?_
              rintro e wz ⟨rfl, rfl⟩
              clear h2 t2 hc1 V2
              by_cases hN : 1 ≤ (-1 : Int) ∧ (-1 : Int) ≤ 10
              · by_cases hK : 1 ≤ kv ∧ kv ≤ 40
                · have hok : lOk ws[k] = true := lOk_yes (by rw [HHS.out]; exact hs2) (by rw [HNV.out]; exact hN) (by rw [HKV.out]; exact hK)
                  obtain ⟨m, hm⟩ : ∃ m : Nat, (-1 : Int) = (m : Int) + 1 := ⟨((-1 : Int) - 1).toNat, by omega⟩
                  have PW := Lib.hid (fun W => l06PowerR_c m kv W (by omega) hK.1)
                  have hsmp := sm_pwR m kv (by omega) hK.2
                  have HSMO := Lib.hid (hsm.join hsmp (by omega) (by omega))
                  have HLO : Hid ((joinL out (pwR (m + 1) kv)).length ≤ 10) := by show _ ≤ _; rw [joinL_length, pwR_len]; omega
                  have HNX : Hid (lrF ws [] = lrF (ws.drop (k + 1)) (joinL out (pwR (m + 1) kv))) := by
                    show _ = _
                    rw [HPRE0.out, lrF_go hok, HNV.out, HKV.out, hm, show ((m : Int) + 1).toNat = m + 1 by omega]
                  have JN := Lib.hid (fun v u W (h1 : IntS W.heap v out) (h2 : IntS W.heap u (pwR (m + 1) kv)) => l06Join_c v u out (pwR (m + 1) kv) W h1 h2 (fun x hx => by have := hsm x hx; omega) (fun x hx => by have := hsmp x hx; omega) (by omega) (by rw [pwR_len]; omega))
                  have IN1 := Lib.hid (fun W => l01In_c (-1 : Int) 1 10 W)
                  have IN2 := Lib.hid (fun W => l01In_c kv 1 40 W)
                  rw [in_yes hN] at IN1
                  rw [in_yes hK] at IN2
                  rw [← hm] at PW
                  clear hok hsmp hsm HNV HKV hN hK hm
                  go_wp2_with (first | (go_at_call 36; first | ((with_reducible refine Calls.mono (IN1.out _) ?_); (rintro e wy ⟨rfl, rfl⟩)) | ((with_reducible refine Calls.mono (IN2.out _) ?_); (rintro e wy ⟨rfl, rfl⟩))) | (go_at_call 38; refine (PW.out _).mono ?_; rintro e w8 ⟨v8, rfl, hv8, hb8⟩; obtain ⟨pa8, pn8, pc8, rfl⟩ := own_shape hv8; have HB8 := Lib.hid (HBX.out.trans (hb8.mono HBX.out.size)); have HO8 := Lib.hid (HOX.out.same hb8.block); have HW8 := Lib.hid (HWX.out.same hb8.block); have HV8 := Lib.hid hv8; clear hb8 hv8) | (go_at_call 37; refine (JN.out _ _ _ HO8.out.ints HV8.out.ints).mono ?_; rintro e w9 ⟨v9, rfl, hv9, hb9⟩; obtain ⟨pa9, pn9, pc9, rfl⟩ := own_shape hv9; have HB9 := Lib.hid (HB8.out.trans (hb9.mono HB8.out.size)); have HW9 := Lib.hid (HW8.out.same hb9.block); have HV9 := Lib.hid (own_base hv9 HB8.out.size); clear hb9 hv9))
                  go_roundw
                  case rel => exact ⟨k + 1, _, by omega, by go_num, HNX.out, by have := HSMO.out; rw [show (40 : Int) * ((k + 1 : Nat) : Int) = 40 * (k : Int) + 40 by omega]; exact this, HLO.out, HV9.out, HW9.out, HB9.out⟩
                  case measure => simp [intOf]; omega
                · have EF : Hid (lOk ws[k] = false) := lOk_no (by rw [HHS.out, HNV.out, HKV.out]; exact fun h => hK h.2.2)
                  have IN1 := Lib.hid (fun W => l01In_c (-1 : Int) 1 10 W)
                  have IN2 := Lib.hid (fun W => l01In_c kv 1 40 W)
                  rw [in_yes hN] at IN1
                  rw [in_no hK] at IN2
                  clear hN hK hsm
                  go_wp2_with (first | (go_at_call 36; first | ((with_reducible refine Calls.mono (IN1.out _) ?_); (rintro e wy ⟨rfl, rfl⟩)) | ((with_reducible refine Calls.mono (IN2.out _) ?_); (rintro e wy ⟨rfl, rfl⟩))))
                  go_ret
                  exact ⟨_, rfl, by rw [HLR.out, HPRE0.out, lrF_fail EF.out]; exact ownI_litX HBX.out.size 0, HBX.out.alloc HBX.out.size _⟩
              · have EF : Hid (lOk ws[k] = false) := lOk_no (by rw [HHS.out, HNV.out]; exact fun h => hN h.2.1)
                have IN1 := Lib.hid (fun W => l01In_c (-1 : Int) 1 10 W)
                have IN2 := Lib.hid (fun W => l01In_c kv 1 40 W)
                rw [in_no hN] at IN1
                clear hN hsm
                go_wp2_with (first | (go_at_call 36; first | ((with_reducible refine Calls.mono (IN1.out _) ?_); (rintro e wy ⟨rfl, rfl⟩)) | ((with_reducible refine Calls.mono (IN2.out _) ?_); (rintro e wy ⟨rfl, rfl⟩))))
                go_ret
                exact ⟨_, rfl, by rw [HLR.out, HPRE0.out, lrF_fail EF.out]; exact ownI_litX HBX.out.size 0, HBX.out.alloc HBX.out.size _⟩
            · have t2 := (neB (show (hs.length : Int) ≠ 2 by omega)).1
              by_cases h3 : 2 < hs.length
              · have t3 : decide ((2 : Int) < (hs.length : Int)) = true := by rw [decide_eq_true_eq]; omega
                have EF : Hid (lOk ws[k] = false) := lOk_no (by rw [HHS.out]; exact fun h => absurd h.1 (by omega))
                have IN1 := Lib.hid (fun W => l01In_c (-1 : Int) 1 10 W)
                have IN2 := Lib.hid (fun W => l01In_c (-1 : Int) 1 10 W)
                clear hsm
                go_wp2_with (first | (go_at_call 36; first | ((with_reducible refine Calls.mono (IN1.out _) ?_); (rintro e wy ⟨rfl, rfl⟩)) | ((with_reducible refine Calls.mono (IN2.out _) ?_); (rintro e wy ⟨rfl, rfl⟩))))
                go_ret
                exact ⟨_, rfl, by rw [HLR.out, HPRE0.out, lrF_fail EF.out]; exact ownI_litX HBX.out.size 0, HBX.out.alloc HBX.out.size _⟩
              · have t3 : decide ((2 : Int) < (hs.length : Int)) = false := by rw [decide_eq_false_iff_not]; omega
                have hs2 : hs.length ≤ 2 := by omega
                have HKV : Hid (lK ws[k] = 1) := by show _ = _; unfold lK; rw [HHS.out, if_neg h2]
                clear h2 h3
                by_cases hN : 1 ≤ (-1 : Int) ∧ (-1 : Int) ≤ 10
                · by_cases hK : 1 ≤ (1 : Int) ∧ (1 : Int) ≤ 40
                  · have hok : lOk ws[k] = true := lOk_yes (by rw [HHS.out]; exact hs2) (by rw [HNV.out]; exact hN) (by rw [HKV.out]; exact hK)
                    obtain ⟨m, hm⟩ : ∃ m : Nat, (-1 : Int) = (m : Int) + 1 := ⟨((-1 : Int) - 1).toNat, by omega⟩
                    have PW := Lib.hid (fun W => l06PowerR_c m (1 : Int) W (by omega) hK.1)
                    have hsmp := sm_pwR m (1 : Int) (by omega) hK.2
                    have HSMO := Lib.hid (hsm.join hsmp (by omega) (by omega))
                    have HLO : Hid ((joinL out (pwR (m + 1) (1 : Int))).length ≤ 10) := by show _ ≤ _; rw [joinL_length, pwR_len]; omega
                    have HNX : Hid (lrF ws [] = lrF (ws.drop (k + 1)) (joinL out (pwR (m + 1) (1 : Int)))) := by
                      show _ = _
                      rw [HPRE0.out, lrF_go hok, HNV.out, HKV.out, hm, show ((m : Int) + 1).toNat = m + 1 by omega]
                    have JN := Lib.hid (fun v u W (h1 : IntS W.heap v out) (h2 : IntS W.heap u (pwR (m + 1) (1 : Int))) => l06Join_c v u out (pwR (m + 1) (1 : Int)) W h1 h2 (fun x hx => by have := hsm x hx; omega) (fun x hx => by have := hsmp x hx; omega) (by omega) (by rw [pwR_len]; omega))
                    have IN1 := Lib.hid (fun W => l01In_c (-1 : Int) 1 10 W)
                    have IN2 := Lib.hid (fun W => l01In_c (1 : Int) 1 40 W)
                    rw [in_yes hN] at IN1
                    rw [in_yes hK] at IN2
                    rw [← hm] at PW
                    clear hok hsmp hsm HNV HKV hN hK hm
                    go_wp2_with (first | (go_at_call 36; first | ((with_reducible refine Calls.mono (IN1.out _) ?_); (rintro e wy ⟨rfl, rfl⟩)) | ((with_reducible refine Calls.mono (IN2.out _) ?_); (rintro e wy ⟨rfl, rfl⟩))) | (go_at_call 38; refine (PW.out _).mono ?_; rintro e w8 ⟨v8, rfl, hv8, hb8⟩; obtain ⟨pa8, pn8, pc8, rfl⟩ := own_shape hv8; have HB8 := Lib.hid (HBX.out.trans (hb8.mono HBX.out.size)); have HO8 := Lib.hid (HOX.out.same hb8.block); have HW8 := Lib.hid (HWX.out.same hb8.block); have HV8 := Lib.hid hv8; clear hb8 hv8) | (go_at_call 37; refine (JN.out _ _ _ HO8.out.ints HV8.out.ints).mono ?_; rintro e w9 ⟨v9, rfl, hv9, hb9⟩; obtain ⟨pa9, pn9, pc9, rfl⟩ := own_shape hv9; have HB9 := Lib.hid (HB8.out.trans (hb9.mono HB8.out.size)); have HW9 := Lib.hid (HW8.out.same hb9.block); have HV9 := Lib.hid (own_base hv9 HB8.out.size); clear hb9 hv9))
                    go_roundw
                    case rel => exact ⟨k + 1, _, by omega, by go_num, HNX.out, by have := HSMO.out; rw [show (40 : Int) * ((k + 1 : Nat) : Int) = 40 * (k : Int) + 40 by omega]; exact this, HLO.out, HV9.out, HW9.out, HB9.out⟩
                    case measure => simp [intOf]; omega
                  · have EF : Hid (lOk ws[k] = false) := lOk_no (by rw [HHS.out, HNV.out, HKV.out]; exact fun h => hK h.2.2)
                    have IN1 := Lib.hid (fun W => l01In_c (-1 : Int) 1 10 W)
                    have IN2 := Lib.hid (fun W => l01In_c (1 : Int) 1 40 W)
                    rw [in_yes hN] at IN1
                    rw [in_no hK] at IN2
                    clear hN hK hsm
                    go_wp2_with (first | (go_at_call 36; first | ((with_reducible refine Calls.mono (IN1.out _) ?_); (rintro e wy ⟨rfl, rfl⟩)) | ((with_reducible refine Calls.mono (IN2.out _) ?_); (rintro e wy ⟨rfl, rfl⟩))))
                    go_ret
                    exact ⟨_, rfl, by rw [HLR.out, HPRE0.out, lrF_fail EF.out]; exact ownI_litX HBX.out.size 0, HBX.out.alloc HBX.out.size _⟩
                · have EF : Hid (lOk ws[k] = false) := lOk_no (by rw [HHS.out, HNV.out]; exact fun h => hN h.2.1)
                  have IN1 := Lib.hid (fun W => l01In_c (-1 : Int) 1 10 W)
                  have IN2 := Lib.hid (fun W => l01In_c (1 : Int) 1 40 W)
                  rw [in_no hN] at IN1
                  clear hN hsm
                  go_wp2_with (first | (go_at_call 36; first | ((with_reducible refine Calls.mono (IN1.out _) ?_); (rintro e wy ⟨rfl, rfl⟩)) | ((with_reducible refine Calls.mono (IN2.out _) ?_); (rintro e wy ⟨rfl, rfl⟩))))
                  go_ret
                  exact ⟨_, rfl, by rw [HLR.out, HPRE0.out, lrF_fail EF.out]; exact ownI_litX HBX.out.size 0, HBX.out.alloc HBX.out.size _⟩
        · have t1 : decide ((1 : Int) < (x0.length : Int)) = false := by rw [decide_eq_false_iff_not]; omega
          have HNV : Hid (lN ws[k] = -1) := by
            show _ = _
            unfold lN
            rw [HHS.out, HG0.out, if_neg (fun h => h1 h.1)]
          generalize bs x0 = b0 at *
          by_cases h2 : hs.length = 2
          · have t2 := (eqB (show (hs.length : Int) = 2 by omega)).1
            have t3 : decide ((2 : Int) < (hs.length : Int)) = false := by rw [decide_eq_false_iff_not]; omega
            have hs2 : hs.length ≤ 2 := by omega
            have hc1 := HCS.out 1 (by omega)
            obtain ⟨kv, hkv⟩ : ∃ n, valW hs[1] = n := ⟨_, rfl⟩
            have V2 := Lib.hid (fun W => l01Value_c hs[1] W)
            have HKV : Hid (lK ws[k] = kv) := by show _ = _; unfold lK; rw [HHS.out, if_pos h2, show hs.getD 1 [] = hs[1] by simp [show 1 < hs.length by omega], hkv]
            rw [hkv] at V2
            clear hkv
            generalize bs hs[1] = z1 at *
            go_wp2_with fail
            refine (V2.out _).mono ?_
            rintro e wz ⟨rfl, rfl⟩
            clear h2 t2 hc1 V2
            by_cases hN : 1 ≤ (-1 : Int) ∧ (-1 : Int) ≤ 10
            · by_cases hK : 1 ≤ kv ∧ kv ≤ 40
              · have hok : lOk ws[k] = true := lOk_yes (by rw [HHS.out]; exact hs2) (by rw [HNV.out]; exact hN) (by rw [HKV.out]; exact hK)
                obtain ⟨m, hm⟩ : ∃ m : Nat, (-1 : Int) = (m : Int) + 1 := ⟨((-1 : Int) - 1).toNat, by omega⟩
                have PW := Lib.hid (fun W => l06PowerR_c m kv W (by omega) hK.1)
                have hsmp := sm_pwR m kv (by omega) hK.2
                have HSMO := Lib.hid (hsm.join hsmp (by omega) (by omega))
                have HLO : Hid ((joinL out (pwR (m + 1) kv)).length ≤ 10) := by show _ ≤ _; rw [joinL_length, pwR_len]; omega
                have HNX : Hid (lrF ws [] = lrF (ws.drop (k + 1)) (joinL out (pwR (m + 1) kv))) := by
                  show _ = _
                  rw [HPRE0.out, lrF_go hok, HNV.out, HKV.out, hm, show ((m : Int) + 1).toNat = m + 1 by omega]
                have JN := Lib.hid (fun v u W (h1 : IntS W.heap v out) (h2 : IntS W.heap u (pwR (m + 1) kv)) => l06Join_c v u out (pwR (m + 1) kv) W h1 h2 (fun x hx => by have := hsm x hx; omega) (fun x hx => by have := hsmp x hx; omega) (by omega) (by rw [pwR_len]; omega))
                have IN1 := Lib.hid (fun W => l01In_c (-1 : Int) 1 10 W)
                have IN2 := Lib.hid (fun W => l01In_c kv 1 40 W)
                rw [in_yes hN] at IN1
                rw [in_yes hK] at IN2
                rw [← hm] at PW
                clear hok hsmp hsm HNV HKV hN hK hm
                go_wp2_with (first | (go_at_call 36; first | ((with_reducible refine Calls.mono (IN1.out _) ?_); (rintro e wy ⟨rfl, rfl⟩)) | ((with_reducible refine Calls.mono (IN2.out _) ?_); (rintro e wy ⟨rfl, rfl⟩))) | (go_at_call 38; refine (PW.out _).mono ?_; rintro e w8 ⟨v8, rfl, hv8, hb8⟩; obtain ⟨pa8, pn8, pc8, rfl⟩ := own_shape hv8; have HB8 := Lib.hid (HBX.out.trans (hb8.mono HBX.out.size)); have HO8 := Lib.hid (HOX.out.same hb8.block); have HW8 := Lib.hid (HWX.out.same hb8.block); have HV8 := Lib.hid hv8; clear hb8 hv8) | (go_at_call 37; refine (JN.out _ _ _ HO8.out.ints HV8.out.ints).mono ?_; rintro e w9 ⟨v9, rfl, hv9, hb9⟩; obtain ⟨pa9, pn9, pc9, rfl⟩ := own_shape hv9; have HB9 := Lib.hid (HB8.out.trans (hb9.mono HB8.out.size)); have HW9 := Lib.hid (HW8.out.same hb9.block); have HV9 := Lib.hid (own_base hv9 HB8.out.size); clear hb9 hv9))
                go_roundw
                case rel => exact ⟨k + 1, _, by omega, by go_num, HNX.out, by have := HSMO.out; rw [show (40 : Int) * ((k + 1 : Nat) : Int) = 40 * (k : Int) + 40 by omega]; exact this, HLO.out, HV9.out, HW9.out, HB9.out⟩
                case measure => simp [intOf]; omega
              · have EF : Hid (lOk ws[k] = false) := lOk_no (by rw [HHS.out, HNV.out, HKV.out]; exact fun h => hK h.2.2)
                have IN1 := Lib.hid (fun W => l01In_c (-1 : Int) 1 10 W)
                have IN2 := Lib.hid (fun W => l01In_c kv 1 40 W)
                rw [in_yes hN] at IN1
                rw [in_no hK] at IN2
                clear hN hK hsm
                go_wp2_with (first | (go_at_call 36; first | ((with_reducible refine Calls.mono (IN1.out _) ?_); (rintro e wy ⟨rfl, rfl⟩)) | ((with_reducible refine Calls.mono (IN2.out _) ?_); (rintro e wy ⟨rfl, rfl⟩))))
                go_ret
                exact ⟨_, rfl, by rw [HLR.out, HPRE0.out, lrF_fail EF.out]; exact ownI_litX HBX.out.size 0, HBX.out.alloc HBX.out.size _⟩
            · have EF : Hid (lOk ws[k] = false) := lOk_no (by rw [HHS.out, HNV.out]; exact fun h => hN h.2.1)
              have IN1 := Lib.hid (fun W => l01In_c (-1 : Int) 1 10 W)
              have IN2 := Lib.hid (fun W => l01In_c kv 1 40 W)
              rw [in_no hN] at IN1
              clear hN hsm
              go_wp2_with (first | (go_at_call 36; first | ((with_reducible refine Calls.mono (IN1.out _) ?_); (rintro e wy ⟨rfl, rfl⟩)) | ((with_reducible refine Calls.mono (IN2.out _) ?_); (rintro e wy ⟨rfl, rfl⟩))))
              go_ret
              exact ⟨_, rfl, by rw [HLR.out, HPRE0.out, lrF_fail EF.out]; exact ownI_litX HBX.out.size 0, HBX.out.alloc HBX.out.size _⟩
          · have t2 := (neB (show (hs.length : Int) ≠ 2 by omega)).1
            by_cases h3 : 2 < hs.length
            · have t3 : decide ((2 : Int) < (hs.length : Int)) = true := by rw [decide_eq_true_eq]; omega
              have EF : Hid (lOk ws[k] = false) := lOk_no (by rw [HHS.out]; exact fun h => absurd h.1 (by omega))
              have IN1 := Lib.hid (fun W => l01In_c (-1 : Int) 1 10 W)
              have IN2 := Lib.hid (fun W => l01In_c (-1 : Int) 1 10 W)
              clear hsm
              go_wp2_with (first | (go_at_call 36; first | ((with_reducible refine Calls.mono (IN1.out _) ?_); (rintro e wy ⟨rfl, rfl⟩)) | ((with_reducible refine Calls.mono (IN2.out _) ?_); (rintro e wy ⟨rfl, rfl⟩))))
              go_ret
              exact ⟨_, rfl, by rw [HLR.out, HPRE0.out, lrF_fail EF.out]; exact ownI_litX HBX.out.size 0, HBX.out.alloc HBX.out.size _⟩
            · have t3 : decide ((2 : Int) < (hs.length : Int)) = false := by rw [decide_eq_false_iff_not]; omega
              have hs2 : hs.length ≤ 2 := by omega
              have HKV : Hid (lK ws[k] = 1) := by show _ = _; unfold lK; rw [HHS.out, if_neg h2]
              clear h2 h3
              by_cases hN : 1 ≤ (-1 : Int) ∧ (-1 : Int) ≤ 10
              · by_cases hK : 1 ≤ (1 : Int) ∧ (1 : Int) ≤ 40
                · have hok : lOk ws[k] = true := lOk_yes (by rw [HHS.out]; exact hs2) (by rw [HNV.out]; exact hN) (by rw [HKV.out]; exact hK)
                  obtain ⟨m, hm⟩ : ∃ m : Nat, (-1 : Int) = (m : Int) + 1 := ⟨((-1 : Int) - 1).toNat, by omega⟩
                  have PW := Lib.hid (fun W => l06PowerR_c m (1 : Int) W (by omega) hK.1)
                  have hsmp := sm_pwR m (1 : Int) (by omega) hK.2
                  have HSMO := Lib.hid (hsm.join hsmp (by omega) (by omega))
                  have HLO : Hid ((joinL out (pwR (m + 1) (1 : Int))).length ≤ 10) := by show _ ≤ _; rw [joinL_length, pwR_len]; omega
                  have HNX : Hid (lrF ws [] = lrF (ws.drop (k + 1)) (joinL out (pwR (m + 1) (1 : Int)))) := by
                    show _ = _
                    rw [HPRE0.out, lrF_go hok, HNV.out, HKV.out, hm, show ((m : Int) + 1).toNat = m + 1 by omega]
                  have JN := Lib.hid (fun v u W (h1 : IntS W.heap v out) (h2 : IntS W.heap u (pwR (m + 1) (1 : Int))) => l06Join_c v u out (pwR (m + 1) (1 : Int)) W h1 h2 (fun x hx => by have := hsm x hx; omega) (fun x hx => by have := hsmp x hx; omega) (by omega) (by rw [pwR_len]; omega))
                  have IN1 := Lib.hid (fun W => l01In_c (-1 : Int) 1 10 W)
                  have IN2 := Lib.hid (fun W => l01In_c (1 : Int) 1 40 W)
                  rw [in_yes hN] at IN1
                  rw [in_yes hK] at IN2
                  rw [← hm] at PW
                  clear hok hsmp hsm HNV HKV hN hK hm
                  go_wp2_with (first | (go_at_call 36; first | ((with_reducible refine Calls.mono (IN1.out _) ?_); (rintro e wy ⟨rfl, rfl⟩)) | ((with_reducible refine Calls.mono (IN2.out _) ?_); (rintro e wy ⟨rfl, rfl⟩))) | (go_at_call 38; refine (PW.out _).mono ?_; rintro e w8 ⟨v8, rfl, hv8, hb8⟩; obtain ⟨pa8, pn8, pc8, rfl⟩ := own_shape hv8; have HB8 := Lib.hid (HBX.out.trans (hb8.mono HBX.out.size)); have HO8 := Lib.hid (HOX.out.same hb8.block); have HW8 := Lib.hid (HWX.out.same hb8.block); have HV8 := Lib.hid hv8; clear hb8 hv8) | (go_at_call 37; refine (JN.out _ _ _ HO8.out.ints HV8.out.ints).mono ?_; rintro e w9 ⟨v9, rfl, hv9, hb9⟩; obtain ⟨pa9, pn9, pc9, rfl⟩ := own_shape hv9; have HB9 := Lib.hid (HB8.out.trans (hb9.mono HB8.out.size)); have HW9 := Lib.hid (HW8.out.same hb9.block); have HV9 := Lib.hid (own_base hv9 HB8.out.size); clear hb9 hv9))
                  go_roundw
                  case rel => exact ⟨k + 1, _, by omega, by go_num, HNX.out, by have := HSMO.out; rw [show (40 : Int) * ((k + 1 : Nat) : Int) = 40 * (k : Int) + 40 by omega]; exact this, HLO.out, HV9.out, HW9.out, HB9.out⟩
                  case measure => simp [intOf]; omega
                · have EF : Hid (lOk ws[k] = false) := lOk_no (by rw [HHS.out, HNV.out, HKV.out]; exact fun h => hK h.2.2)
                  have IN1 := Lib.hid (fun W => l01In_c (-1 : Int) 1 10 W)
                  have IN2 := Lib.hid (fun W => l01In_c (1 : Int) 1 40 W)
                  rw [in_yes hN] at IN1
                  rw [in_no hK] at IN2
                  clear hN hK hsm
                  go_wp2_with (first | (go_at_call 36; first | ((with_reducible refine Calls.mono (IN1.out _) ?_); (rintro e wy ⟨rfl, rfl⟩)) | ((with_reducible refine Calls.mono (IN2.out _) ?_); (rintro e wy ⟨rfl, rfl⟩))))
                  go_ret
                  exact ⟨_, rfl, by rw [HLR.out, HPRE0.out, lrF_fail EF.out]; exact ownI_litX HBX.out.size 0, HBX.out.alloc HBX.out.size _⟩
              · have EF : Hid (lOk ws[k] = false) := lOk_no (by rw [HHS.out, HNV.out]; exact fun h => hN h.2.1)
                have IN1 := Lib.hid (fun W => l01In_c (-1 : Int) 1 10 W)
                have IN2 := Lib.hid (fun W => l01In_c (1 : Int) 1 40 W)
                rw [in_no hN] at IN1
                clear hN hsm
                go_wp2_with (first | (go_at_call 36; first | ((with_reducible refine Calls.mono (IN1.out _) ?_); (rintro e wy ⟨rfl, rfl⟩)) | ((with_reducible refine Calls.mono (IN2.out _) ?_); (rintro e wy ⟨rfl, rfl⟩))))
                go_ret
                exact ⟨_, rfl, by rw [HLR.out, HPRE0.out, lrF_fail EF.out]; exact ownI_litX HBX.out.size 0, HBX.out.alloc HBX.out.size _⟩
      · obtain rfl : k = ws.length := by omega
        have HR : Hid (rv = out) := by show _ = _; rw [HLR.out, HPRE.out, List.drop_length]; rfl
        clear ho hb hW hpre hsm
        go_wp2_with fail
        go_ret
        exact ⟨_, rfl, by rw [HR.out]; exact HO.out, HB.out⟩
end Go.Proofs.YtalbbjhonkcbgaaGreatDoor

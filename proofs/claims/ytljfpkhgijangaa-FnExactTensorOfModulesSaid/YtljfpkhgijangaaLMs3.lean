/- The first fault of Adem's relations, whether a module is one: of the reference. -/
import Derived.Test.YtljfpkhgijangaaLMt4
import Derived.Test.YtljfpkhgijangaaLAdm
import Derived.Test.YtljfpkhgijangaaLHeld
namespace Go.Proofs.Ytljfpkhgijangaa
open Go.RowKit Go.Sort

theorem fV_far {ds : List Int} {act : List (List Int)} (h : modT ds act = true) (a b : Nat) (hab : ds.getD (ds.length - 1) 0 - ds.getD 0 0 < a + b) : fV ds act a b = none :=
  fV_none ds act a b fun v hv => by rw [fVi, if_pos (flt_far h a b v hv hab)]
theorem fltL_empty (act : List (List Int)) : fltL [] act = [] := fltL_none [] act fun a _ => by
  unfold fAi
  split
  · exact fB_none [] act a fun b _ => by
      unfold fBi
      split
      · exact fV_none [] act a b fun v hv => by simp at hv
      · rfl
  · rfl
theorem same_iff {ds : List Int} {act : List (List Int)} (h : modT ds act = true) (a b v : Nat) (hv : v < ds.length) :
    decide (bitsL ds.length (wordM act [(a : Int), (b : Int)] (2 ^ v)) = bitsL ds.length (wordsM act (relWL a b (relL a b)) (2 ^ v))) = decide (flt act a b v = 0) := by
  rw [wordsM_rel]
  have e : wordM act [(a : Int), (b : Int)] (2 ^ v) = actZ act a (actZ act b (2 ^ v)) := rfl
  rw [e]
  have h1 : actZ act a (actZ act b (2 ^ v)) < 2 ^ ds.length := actZ_lt h _ _ (actZ_lt h _ _ (Nat.pow_lt_pow_right (by omega) hv))
  have h2 := fltS_lt h a b v hv (relL a b)
  unfold flt
  generalize actZ act a (actZ act b (2 ^ v)) = X at *
  generalize fltS act a b v (relL a b) = Y at *
  by_cases e2 : X = Y
  · subst e2; simp
  · have e3 : bitsL ds.length X ≠ bitsL ds.length Y := fun hh => e2 (bitsL_inj h1 h2 hh)
    have e4 : X ^^^ Y ≠ 0 := fun hh => e2 (by have := congrArg (· ^^^ Y) hh; simpa [Nat.xor_assoc] using this)
    simp [e3, e4]
set_option maxRecDepth 100000 in
set_option maxHeartbeats 2000000 in
theorem l11Fault_c (d a : Value) (ds : List Int) (act : List (List Int)) (w : World) (h : ModS w.heap d a ds act) (hT : modT ds act = true) :
    Calls Try.prog 165 #[.agg #[d, a]] w fun e w' => ∃ r, e = .returned r ∧ OwnI w' w.heap.size r (fltL ds act) ∧ Below w.heap.size w w' := by
  have hb : Below w.heap.size w (w.alloc (.cells #[d, a] 60)) := (Below.refl _ _).alloc (Nat.le_refl _) _
  have V := Var2.new w d a 60
  have hl := modT_len hT
  have A1 := Lib.hid (fun (u v : Value) (x y : Nat) (m : Nat) (W : World) (h : ModS W.heap d a ds act) (hu : IntS W.heap u [(x : Int), (y : Int)]) (hv : IntS W.heap v (bitsL ds.length m)) => l11Word_c d a v u ds act [(x : Int), (y : Int)] m W h hT hu hv)
  have A2 := Lib.hid (fun (u v : Value) (words : List (List Int)) (m : Nat) (W : World) (h : ModS W.heap d a ds act) (hu : IntSS W.heap u words) (hv : IntS W.heap v (bitsL ds.length m)) => l11Words_c d a v u ds act words m W h hT hu hv)
  obtain ⟨ao, ac, hdv, hm⟩ := h.1.len
  obtain ⟨bo, bc, hav, hm2⟩ := h.2.len
  subst hdv; subst hav
  have H0 := Lib.hid h; have HB := Lib.hid hb; have HVR := Lib.hid V; have HT := Lib.hid hT
  have k1 := HVR.out.c0; have k2 := HVR.out.c1
  clear h hT hb V
  by_cases h0 : ds.length = 0
  · have e : ds = [] := List.eq_nil_of_length_eq_zero h0
    subst e
    rw [fltL_empty]
    clear A1 A2
    simp only [List.length_nil] at k1 k2 HB H0 HVR ⊢
    go_enter Try.func165, Try.ntmps165
    go_wp2_with fail
    go_ret
    exact ⟨_, rfl, OwnI.nil _ _, HB.out⟩
  · obtain ⟨b1, o1, c1, hv1, hc1, -⟩ := H0.out.1.at (ds.length - 1) (by omega)
    obtain ⟨b2, o2, c2, hv2, hc2, -⟩ := H0.out.1.at 0 (by omega)
    simp only [Value.slice.injEq, true_and] at hv1 hv2
    obtain ⟨rfl, rfl⟩ := hv1
    obtain ⟨hv2, -⟩ := hv2
    simp only [Option.some.injEq, Addr.mk.injEq, and_true] at hv2
    obtain ⟨rfl, rfl⟩ := hv2
    rw [← getD_at' _ _ (by omega)] at hc1 hc2
    have s1 := modT_stem HT.out (ds.length - 1)
    have s0 := modT_stem HT.out 0
    have sp := modT_sorted HT.out (ds.length - 1) 0 (Nat.zero_le _) (by omega)
    have FAR := Lib.hid (fun x y => fV_far HT.out x y)
    obtain ⟨span, hspan⟩ : ∃ span : Nat, ds.getD (ds.length - 1) 0 - ds.getD 0 0 = span := ⟨(ds.getD (ds.length - 1) 0 - ds.getD 0 0).toNat, by omega⟩
    rw [hspan] at FAR
    have hs20 : span ≤ 20 := by omega
    have t0 := (neB (show ((ds.length : Nat) : Int) ≠ 0 by omega)).1
    have w1 : IntKind.i64.wrap ((ds.length : Int) - 1) = (ds.length : Int) - 1 := IntWalk.i64_in _ (by omega)
    have w2 : (0 : Int) ≤ (ds.length : Int) - 1 := by omega
    have w3 : ((ds.length : Int) - 1).toNat = ds.length - 1 := by omega
    have w4 : (ds.length : Int) - 1 < ds.length := by omega
    have hsp2 : ds.getD (ds.length - 1) 0 = ds.getD 0 0 + span := by omega
    rw [hsp2] at hc1
    clear hsp2 hspan
    generalize ds.getD 0 0 = X at *
    have w5 : IntKind.i64.wrap (X + span - X) = (span : Int) := by rw [IntWalk.i64_in _ (by omega)]; omega
    have hli : (0 : Int) < ds.length := by omega
    rw [Nat.add_zero] at hc2
    have hbl := World.block_lt_of_cell? _ _ hc2
    simp only at hbl
    go_enter Try.func165, Try.ntmps165
    go_wp2_with fail
    go_quiet (fail)
    clear s1 s0 sp w1 w2 w3 w4 w5 hc1 hc2
    go_wp2_with fail
    clear h0 HVR
    go_loopw [5] (fun i wr => ∃ a : Nat, 1 ≤ a ∧ a ≤ 21 ∧ i = .int .i64 a ∧ Hid (∀ i, i < a → fAi ds act i = none) ∧ Var2 wr w.heap.size (.slice (some ⟨b1, o1, none⟩) ds.length ac) (.slice bo act.length bc) 60 ∧ Below w.heap.size w wr) (fun i _ => 21 - (intOf i).toNat)
    case atStart => exact ⟨1, by omega, by omega, rfl, fun i hi => by rw [fAi, if_neg (by omega)], Var2.new _ _ _ _, below_drewN _ HB.out⟩
    case round =>
      obtain ⟨a, ha1, ha2, rfl, HA, hV, hbl⟩ := hrel
      by_cases ha : a ≤ span
      · have ta : decide ((a : Int) ≤ (span : Int)) = true := by simp; omega
        have ta2 : decide (a ≤ span) = true := by simpa using ha
        have hV1 := Lib.hid hV; have HBL := Lib.hid hbl; clear hV hbl
        go_wp2_with fail
        obtain ⟨wo, hwo⟩ : ∃ wo : World, wo = wr := ⟨_, rfl⟩
        go_loopw [6] (fun i wr => ∃ b : Nat, a / 2 + 1 ≤ b ∧ b ≤ 21 ∧ i = .int .i64 b ∧ Hid (∀ i, i < b → fBi ds act a i = none) ∧ Var2 wr w.heap.size (.slice (some ⟨b1, o1, none⟩) ds.length ac) (.slice bo act.length bc) 60 ∧ Below w.heap.size w wr) (fun i _ => 21 - (intOf i).toNat)
        case atStart => exact ⟨a / 2 + 1, by omega, by omega, by go_num, fun i hi => by rw [fBi, if_neg (by omega)], hV1.out, HBL.out⟩
        case round =>
          clear hwo HBL hV1
          obtain ⟨b, hb1, hb2, rfl, HBB, hV, hbl⟩ := hrel
          by_cases hb : a + b ≤ span
          · have tb : decide ((a : Int) + b ≤ span) = true := by simp; omega
            have tb2 : decide (a + b ≤ span) = true := by simpa using hb
            have L := Lib.hid (l03FormPair_c a b _ _ (ownI_lit2 (w := wr) (Nat.le_refl _) (a : Int) (b : Int)).ints ha1 (by omega) hb1 (by omega))
            have hBa : Hid (Below wr.heap.size wr (wr.alloc (.cells #[.int .i64 (a : Int), .int .i64 (b : Int)] 2))) := (Below.refl _ _).alloc (Nat.le_refl _) _
            have HV1 := Lib.hid hV; have HBL := Lib.hid hbl; clear hV hbl
            go_wp2_with (go_at_call 198; refine L.out.mono ?_; rintro e W2 ⟨rw2, rfl, hrw, hb2'⟩; obtain ⟨wa, wc, rfl, -⟩ := hrw.len; have HWD := Lib.hid hrw; have BU0 := Lib.hid (hBa.out.trans (hb2'.mono hBa.out.size)); have HV2 := Lib.hid (HV1.out.kept BU0.out.block); have HBL2 := Lib.hid (HBL.out.trans (BU0.out.mono HBL.out.size)); clear hrw hb2')
            clear HV1 HBL
            obtain ⟨wn, hwn⟩ : ∃ wn, wn = (relWL a b (relL a b)).length := ⟨_, rfl⟩
            rw [← hwn] at HWD ⊢
            have HWN := Lib.hid hwn; clear hwn
            go_loopw [8] (fun i wr => ∃ v : Nat, v ≤ ds.length ∧ i = .int .i64 v ∧ Hid (∀ i, i < v → fVi act a b i = none) ∧ Var2 wr w.heap.size (.slice (some ⟨b1, o1, none⟩) ds.length ac) (.slice bo act.length bc) 60 ∧ Below W2.heap.size W2 wr) (fun i _ => ds.length - (intOf i).toNat)
            case atStart => exact ⟨0, Nat.zero_le _, rfl, fun i hi => by omega, HV2.out, Below.refl _ _⟩
            case round =>
              clear HV2
              obtain ⟨v, hv, rfl, HV, hVr, hbl⟩ := hrel
              by_cases hvl : v < ds.length
              · have tv : decide ((v : Int) < (ds.length : Int)) = true := by simp; omega
                have UN := Lib.hid (l11Unit_c ds.length v wr hl hvl)
                have HVV := Lib.hid hVr; have HBR := Lib.hid hbl; clear hVr hbl
                have SM0 := fun (x y : Value) (W : World) (h1 : IntS W.heap x (bitsL ds.length (wordM act [(a : Int), (b : Int)] (2 ^ v)))) (h2 : IntS W.heap y (bitsL ds.length (wordsM act (relWL a b (relL a b)) (2 ^ v)))) => (l01Same_c x y _ _ W h1 h2).mono fun e w' ⟨he, n, hn⟩ => (⟨he, by rw [hn]; exact below_drewN n (Below.refl _ _)⟩ : e = _ ∧ Below W.heap.size W w')
                rw [same_iff HT.out a b v hvl] at SM0
                by_cases hz : flt act a b v = 0
                · have HVS : Hid (∀ i, i < v + 1 → fVi act a b i = none) := fun i hi => by
                    by_cases e : i = v
                    · subst e; rw [fVi, if_pos hz]
                    · exact HV.out i (by omega)
                  rw [show decide (flt act a b v = 0) = true by simpa using hz] at SM0
                  have SM := Lib.hid SM0
                  clear hz SM0
                  go_wp2_with (go_at_call 128; refine UN.out.mono ?_; rintro e W3 ⟨ru, rfl, hru, hb3⟩; obtain ⟨ua, un, uc, rfl⟩ := own_shape hru; have HUN := Lib.hid hru.ints; have BU := Lib.hid (HBR.out.trans (hb3.mono HBR.out.size)); have HV3 := Lib.hid (HVV.out.kept hb3.block); have BW3 := Lib.hid (HBL2.out.trans (BU.out.mono HBL2.out.size)); clear hru hb3)
                  have c0 := HV3.out.c0; have c1 := HV3.out.c1
                  have hx0 : Below W3.heap.size W3 (W3.alloc (.cells #[.int .i64 (a : Int), .int .i64 (b : Int)] 2)).drew := below_drewN 1 ((Below.refl _ _).alloc (Nat.le_refl _) _)
                  have X1 := Lib.hid (A1.out (.slice (some ⟨W3.heap.size, 0, none⟩) 2 2) _ a b (2 ^ v) (W3.alloc (.cells #[.int .i64 (a : Int), .int .i64 (b : Int)] 2)).drew (H0.out.same (BW3.out.trans (hx0.mono BW3.out.size)).block) (ownI_lit2 (w := W3) (Nat.le_refl _) (a : Int) (b : Int)).ints (HUN.out.same hx0.block))
                  have X2 := Lib.hid (fun (W : World) (h1 : ModS W.heap _ _ ds act) (h2 : IntSS W.heap (.slice wa wn wc) (relWL a b (relL a b))) (h3 : IntS W.heap (.slice ua un uc) (bitsL ds.length (2 ^ v))) => A2.out (.slice wa wn wc) (.slice ua un uc) (relWL a b (relL a b)) (2 ^ v) W h1 h2 h3)
                  clear hx0
                  generalize wordM act [(a : Int), (b : Int)] (2 ^ v) = M1 at *
                  generalize wordsM act (relWL a b (relL a b)) (2 ^ v) = M2 at *
                  go_region_held3 (fun W => W.cell? ⟨w.heap.size, 0, none⟩ = some (.slice (some ⟨b1, o1, none⟩) ds.length ac) ∧ W.cell? ⟨w.heap.size, 1, none⟩ = some (.slice bo act.length bc) ∧ Below W3.heap.size W3 W)
                    (first | exact ⟨c0, c1, (Below.refl _ _).drew⟩ | exact ⟨Go.Lib.cell?_alloc_some _ c0, Go.Lib.cell?_alloc_some _ c1, below_drewN 1 ((Below.refl _ _).alloc (Nat.le_refl _) _)⟩ | exact heldC2 (by assumption) hx6 | exact heldC2 (by assumption) hx5 | exact heldC2 (by assumption) hx4)
                    (first | (go_at_call 175; refine X1.out.mono ?_; rintro e W4 ⟨r4, rfl, hr4, hx4⟩; obtain ⟨pa4, pc4, rfl, -⟩ := hr4.len) | (go_at_call 133; refine (X2.out _ (H0.out.same (BW3.out.trans ((heldC2X (by assumption)).mono BW3.out.size)).block) (HWD.out.same (BU.out.trans ((heldC2X (by assumption)).mono BU.out.size)).block) (HUN.out.same (heldC2X (by assumption)).block)).mono ?_; rintro e W5 ⟨r5, rfl, hr5, hx5⟩; obtain ⟨pa5, pc5, rfl, -⟩ := hr5.len) | (go_at_call 189; refine (SM.out _ _ _ (hr4.same hx5.block) hr5).mono ?_; rintro e W6 ⟨rfl, hx6⟩))
                  all_goals
                    rename_i hh
                    have B6 := Lib.hid (heldC2X hh)
                    clear hh c0 c1
                    go_wp2_with fail
                    go_roundw
                    case rel => exact ⟨v + 1, by omega, by go_num, HVS, HV3.out.kept B6.out.block, BU.out.trans (B6.out.mono BU.out.size)⟩
                    case measure => simp [intOf]; omega
                · have HL := Lib.hid (fltL_hit ds act a b v HA.out HBB.out HV.out ha1 hb1 (by omega) hvl hz)
                  rw [show decide (flt act a b v = 0) = false by simpa using hz] at SM0
                  have SM := Lib.hid SM0
                  clear hz SM0
                  go_wp2_with (go_at_call 128; refine UN.out.mono ?_; rintro e W3 ⟨ru, rfl, hru, hb3⟩; obtain ⟨ua, un, uc, rfl⟩ := own_shape hru; have HUN := Lib.hid hru.ints; have BU := Lib.hid (HBR.out.trans (hb3.mono HBR.out.size)); have HV3 := Lib.hid (HVV.out.kept hb3.block); have BW3 := Lib.hid (HBL2.out.trans (BU.out.mono HBL2.out.size)); clear hru hb3)
                  have c0 := HV3.out.c0; have c1 := HV3.out.c1
                  have hx0 : Below W3.heap.size W3 (W3.alloc (.cells #[.int .i64 (a : Int), .int .i64 (b : Int)] 2)).drew := below_drewN 1 ((Below.refl _ _).alloc (Nat.le_refl _) _)
                  have X1 := Lib.hid (A1.out (.slice (some ⟨W3.heap.size, 0, none⟩) 2 2) _ a b (2 ^ v) (W3.alloc (.cells #[.int .i64 (a : Int), .int .i64 (b : Int)] 2)).drew (H0.out.same (BW3.out.trans (hx0.mono BW3.out.size)).block) (ownI_lit2 (w := W3) (Nat.le_refl _) (a : Int) (b : Int)).ints (HUN.out.same hx0.block))
                  have X2 := Lib.hid (fun (W : World) (h1 : ModS W.heap _ _ ds act) (h2 : IntSS W.heap (.slice wa wn wc) (relWL a b (relL a b))) (h3 : IntS W.heap (.slice ua un uc) (bitsL ds.length (2 ^ v))) => A2.out (.slice wa wn wc) (.slice ua un uc) (relWL a b (relL a b)) (2 ^ v) W h1 h2 h3)
                  clear hx0
                  generalize wordM act [(a : Int), (b : Int)] (2 ^ v) = M1 at *
                  generalize wordsM act (relWL a b (relL a b)) (2 ^ v) = M2 at *
                  go_region_held3 (fun W => W.cell? ⟨w.heap.size, 0, none⟩ = some (.slice (some ⟨b1, o1, none⟩) ds.length ac) ∧ W.cell? ⟨w.heap.size, 1, none⟩ = some (.slice bo act.length bc) ∧ Below W3.heap.size W3 W)
                    (first | exact ⟨c0, c1, (Below.refl _ _).drew⟩ | exact ⟨Go.Lib.cell?_alloc_some _ c0, Go.Lib.cell?_alloc_some _ c1, below_drewN 1 ((Below.refl _ _).alloc (Nat.le_refl _) _)⟩ | exact heldC2 (by assumption) hx6 | exact heldC2 (by assumption) hx5 | exact heldC2 (by assumption) hx4)
                    (first | (go_at_call 175; refine X1.out.mono ?_; rintro e W4 ⟨r4, rfl, hr4, hx4⟩; obtain ⟨pa4, pc4, rfl, -⟩ := hr4.len) | (go_at_call 133; refine (X2.out _ (H0.out.same (BW3.out.trans ((heldC2X (by assumption)).mono BW3.out.size)).block) (HWD.out.same (BU.out.trans ((heldC2X (by assumption)).mono BU.out.size)).block) (HUN.out.same (heldC2X (by assumption)).block)).mono ?_; rintro e W5 ⟨r5, rfl, hr5, hx5⟩; obtain ⟨pa5, pc5, rfl, -⟩ := hr5.len) | (go_at_call 189; refine (SM.out _ _ _ (hr4.same hx5.block) hr5).mono ?_; rintro e W6 ⟨rfl, hx6⟩))
                  all_goals
                    rename_i hh
                    have B6 := Lib.hid (BW3.out.trans ((heldC2X hh).mono BW3.out.size))
                    clear hh c0 c1
                    go_wp2_with fail
                    go_ret
                    exact ⟨_, rfl, by rw [HL.out]; exact ownI_lit3 B6.out.size _ _ _, B6.out.alloc B6.out.size _⟩
              · obtain rfl : v = ds.length := by omega
                have HBS : Hid (∀ i, i < b + 1 → fBi ds act a i = none) := fun i hi => by
                  by_cases e : i = b
                  · subst e
                    rw [fBi]
                    split
                    · exact fV_none ds act a i HV.out
                    · rfl
                  · exact HBB.out i (by omega)
                go_wp2_with fail
                go_roundw
                case rel => exact ⟨b + 1, by omega, by omega, by go_num, HBS, hVr, HBL2.out.trans (hbl.mono HBL2.out.size)⟩
                case measure => simp [intOf]; omega
          · have HAS : Hid (∀ i, i < a + 1 → fAi ds act i = none) := fun i hi => by
              by_cases e : i = a
              · subst e
                rw [fAi, if_pos ha1]
                exact fB_none ds act i fun j hj => by
                  by_cases e2 : j < b
                  · exact HBB.out j e2
                  · rw [fBi]
                    split
                    · exact FAR.out i j (by omega)
                    · rfl
              · exact HA.out i (by omega)
            have tb : decide ((a : Int) + b ≤ span) = false := by simp; omega
            have tb2 : decide (a + b ≤ span) = false := by simp; omega
            go_wp2_with fail
            go_roundw
            case rel => exact ⟨a + 1, by omega, by omega, by go_num, HAS, hV, hbl⟩
            case measure => simp [intOf]; omega
      · have ta : decide ((a : Int) ≤ (span : Int)) = false := by simp; omega
        have ta2 : decide (a ≤ span) = false := by simpa using ha
        have HN := Lib.hid (fltL_none ds act fun i hi => by
          by_cases e : i < a
          · exact HA.out i e
          · rw [fAi, if_pos (by omega)]
            exact fB_none ds act i fun j hj => by
              rw [fBi]
              split
              · exact FAR.out i j (by omega)
              · rfl)
        go_wp2_with fail
        go_ret
        exact ⟨_, rfl, by rw [HN.out]; exact OwnI.nil _ _, hbl⟩
end Go.Proofs.Ytljfpkhgijangaa

/- The first fault of Adem's relations: of the program. -/
import Derived.Test.YtalbbjhonkcbgaaGreatDoorLMt3
namespace Go.Proofs.YtalbbjhonkcbgaaGreatDoor
open Go.RowKit Go.Sort

def fVi (act : List (List Int)) (a b v : Nat) : Option (List Int) := if flt act a b v = 0 then none else some [(a : Int), (b : Int), (v : Int)]
def fBi (ds : List Int) (act : List (List Int)) (a b : Nat) : Option (List Int) := if a / 2 + 1 ≤ b ∧ a + b ≤ 20 then fV ds act a b else none
def fAi (ds : List Int) (act : List (List Int)) (a : Nat) : Option (List Int) := if 1 ≤ a then fB ds act a else none
theorem fltL_hit (ds : List Int) (act : List (List Int)) (a b v : Nat) (ha : ∀ i, i < a → fAi ds act i = none) (hb : ∀ i, i < b → fBi ds act a i = none) (hv : ∀ i, i < v → fVi act a b i = none) (h1 : 1 ≤ a) (h2 : a / 2 + 1 ≤ b) (h3 : a + b ≤ 20) (h4 : v < ds.length) (h5 : flt act a b v ≠ 0) :
    fltL ds act = [(a : Int), (b : Int), (v : Int)] := by
  have e1 : fV ds act a b = some [(a : Int), (b : Int), (v : Int)] := find_some (fVi act a b) _ v _ h4 hv (by rw [fVi, if_neg h5])
  have e2 : fB ds act a = some [(a : Int), (b : Int), (v : Int)] := find_some (fBi ds act a) _ b _ (by omega) hb (by rw [fBi, if_pos ⟨h2, h3⟩, e1])
  have e3 : fA ds act = some [(a : Int), (b : Int), (v : Int)] := find_some (fAi ds act) _ a _ (by omega) ha (by rw [fAi, if_pos h1, e2])
  rw [fltL, e3]; rfl
theorem fltL_none (ds : List Int) (act : List (List Int)) (ha : ∀ i, i < 21 → fAi ds act i = none) : fltL ds act = [] := by
  have e3 : fA ds act = none := find_none (fAi ds act) _ ha
  rw [fltL, e3]; rfl
theorem fV_none (ds : List Int) (act : List (List Int)) (a b : Nat) (h : ∀ i, i < ds.length → fVi act a b i = none) : fV ds act a b = none := find_none (fVi act a b) _ h
theorem fB_none (ds : List Int) (act : List (List Int)) (a : Nat) (h : ∀ i, i < 21 → fBi ds act a i = none) : fB ds act a = none := find_none (fBi ds act a) _ h
theorem fltS_lt {ds : List Int} {act : List (List Int)} (h : modT ds act = true) (a b v : Nat) (hv : v < ds.length) : ∀ l, fltS act a b v l < 2 ^ ds.length
  | [] => Nat.two_pow_pos _
  | j :: l => by
    rw [fltS]
    exact Nat.xor_lt_two_pow (actZ_lt h _ _ (actZ_lt h _ _ (Nat.pow_lt_pow_right (by omega) hv))) (fltS_lt h a b v hv l)
theorem fltS_snoc (act : List (List Int)) (a b v k : Nat) (l : List Nat) (hk : k < l.length) : fltS act a b v (l.take (k + 1)) = fltS act a b v (l.take k) ^^^ actZ act ((a + b - l[k] : Nat) : Int) (actZ act (l[k] : Int) (2 ^ v)) := by
  rw [List.take_succ_eq_append_getElem hk, fltS_append]; simp [fltS]
set_option maxRecDepth 100000 in
set_option maxHeartbeats 2000000 in
theorem fault_c (g : Nat) (d : Value) (us : List Value) (ds : List Int) (act : List (List Int)) (B : Nat) (w : World) (h : TabU w B g d us (tabL ds.length act)) (hd : IntS w.heap d ds) (hT : modT ds act = true) :
    Calls Tryz.prog 51 #[.pointer (some ⟨g, 0, none⟩)] w fun e w' => ∃ r, e = .returned r ∧ OwnI w' w.heap.size r (fltL ds act) ∧ (fltL ds act = [] → r = .slice none 0 0) ∧ Below w.heap.size w w' := by
  have hl := modT_len hT
  obtain ⟨ao, ac, rfl, hm⟩ := hd.len
  have HU := Lib.hid h
  have HT := Lib.hid hT
  have S := Lib.hid (fun (n v : Nat) (hv : v < 2 ^ ds.length) (W : World) (h : TabU W B g (.slice ao ds.length ac) us (tabL ds.length act)) => square_c g (.slice ao ds.length ac) us ds act B n v W h hT hv)
  clear h hT hd
  go_enter Tryz.func51, Tryz.ntmps51
  go_wp2_with fail
  go_loopw [3] (fun i wr => ∃ a : Nat, 1 ≤ a ∧ a ≤ 21 ∧ i = .int .i64 a ∧ (∀ i, i < a → fAi ds act i = none) ∧ Below w.heap.size w wr) (fun i _ => 21 - (intOf i).toNat)
  case atStart => exact ⟨1, by omega, by omega, rfl, fun i hi => by obtain rfl : i = 0 := by omega
                                                                    rfl, Below.refl _ _⟩
  case round =>
    obtain ⟨a, ha1, ha2, rfl, hA, hbl⟩ := hrel
    have HA := Lib.hid hA; clear hA
    by_cases ha : a ≤ 20
    · have ta : decide ((a : Int) ≤ 20) = true := by simp; omega
      go_wp2_with fail
      obtain ⟨wo, hwo⟩ : ∃ wo : World, wo = wr := ⟨_, rfl⟩
      have HBL := Lib.hid hbl; clear hbl
      go_loopw [4] (fun i wr => ∃ b : Nat, a / 2 + 1 ≤ b ∧ b ≤ 21 ∧ i = .int .i64 b ∧ (∀ i, i < b → fBi ds act a i = none) ∧ Below w.heap.size w wr) (fun i _ => 21 - (intOf i).toNat)
      case atStart => exact ⟨a / 2 + 1, by omega, by omega, by go_num, fun i hi => by rw [fBi, if_neg (by omega)], HBL.out⟩
      case round =>
        clear hwo HBL
        obtain ⟨b, hb1, hb2, rfl, hB, hbl⟩ := hrel
        have HB := Lib.hid hB; clear hB
        by_cases hb : a + b ≤ 20
        · have tb : decide ((a : Int) + b ≤ 20) = true := by simp; omega
          have tb2 : decide (a + b ≤ 20) = true := by simp; omega
          have R := Lib.hid (relation_c a b wr (by omega) hb1 (by omega))
          have HBL := Lib.hid hbl; clear hbl
          go_wp2_with (go_at_call 81; refine R.out.mono ?_; rintro e W2 ⟨rj, rfl, hrj, hb2⟩; obtain ⟨ja, jn, jc, rfl⟩ := own_shape hrj; have HBL2 := Lib.hid (HBL.out.trans (hb2.mono HBL.out.size)); have HRJ := Lib.hid hrj.ints; have HU2 := Lib.hid (HU.out.same HBL2.out.block); have cd := HU2.out.c0; clear hrj hb2)
          have hjn : jn = (relL a b).length := by
            obtain ⟨_, _, hv, _⟩ := HRJ.out.len
            simp only [Value.slice.injEq, List.length_map] at hv
            exact hv.2.1
          subst hjn
          have hjl : (relL a b).length ≤ 21 := by have := relL_filter_len a b (a + 1); unfold relL; omega
          have HJM : Hid (∀ j ∈ relL a b, j ≤ a) := fun j hj => by
            simp only [relL, List.mem_filter, List.mem_range] at hj; omega
          go_loop [31] (fun i => ∃ v : Nat, v ≤ ds.length ∧ i = .int .i64 v ∧ Hid (∀ i, i < v → fVi act a b i = none)) (fun i => ds.length - (intOf i).toNat)
          case atStart => exact ⟨0, Nat.zero_le _, rfl, fun i hi => by omega⟩
          case round =>
            obtain ⟨v, hv, rfl, HV⟩ := hrel
            by_cases hvl : v < ds.length
            · have hp2 : 2 ^ v < 2 ^ ds.length := Nat.pow_lt_pow_right (by omega) hvl
              have hlt16 : ∀ n x, x < 2 ^ ds.length → actZ act n x < 2 ^ ds.length := fun n x hx => actZ_lt HT.out n x hx
              have h16 : 2 ^ ds.length ≤ 2 ^ 16 := Nat.pow_le_pow_right (by omega) hl
              have S1 := Lib.hid (S.out b (2 ^ v) hp2 W2 HU2.out)
              have S2 := Lib.hid (S.out a _ (hlt16 b _ hp2) W2 HU2.out)
              rw [show (((2 ^ v : Nat)) : Int) = (2 : Int) ^ v by simp] at S1
              have HX0 := hlt16 a _ (hlt16 b _ hp2)
              have HLT := Lib.hid hlt16
              have hw := wrap64_pow v (by omega)
              clear hlt16
              have HF : Hid (flt act a b v = actZ act a (actZ act b (2 ^ v)) ^^^ fltS act a b v (relL a b)) := rfl
              have HFS := Lib.hid (fltS_lt HT.out a b v hvl)
              have HSN := Lib.hid (fltS_snoc act a b v)
              have hx00 : actZ act a (actZ act b (2 ^ v)) = actZ act a (actZ act b (2 ^ v)) ^^^ fltS act a b v ((relL a b).take 0) := by simp [fltS]
              have HX00 := Lib.hid hx00; clear hx00
              have hX16 : actZ act a (actZ act b (2 ^ v)) < 65536 := by omega
              clear HX0
              generalize actZ act a (actZ act b (2 ^ v)) = X0 at *
              go_wp2_with (go_at_call 82; first | ((with_reducible refine S1.out.mono ?_); rintro e w' ⟨rfl, rfl⟩) | ((with_reducible refine S2.out.mono ?_); rintro e w' ⟨rfl, rfl⟩))
              clear S1 S2
              go_loop [7, 44] (fun x i => ∃ k : Nat, k ≤ (relL a b).length ∧ i = .int .i64 k ∧ x = .int .i64 (X0 ^^^ fltS act a b v ((relL a b).take k) : Nat)) (fun _ i => (relL a b).length - (intOf i).toNat)
              case atStart => exact ⟨0, Nat.zero_le _, rfl, by rw [← HX00.out]⟩
              case round =>
                obtain ⟨k, hk, rfl, rfl⟩ := hrel
                have hf16 := HFS.out ((relL a b).take k)
                have hfx : X0 ^^^ fltS act a b v ((relL a b).take k) < 65536 := Nat.xor_lt_two_pow (n := 16) hX16 (by omega)
                by_cases hkl : k < (relL a b).length
                · obtain ⟨b1, o1, c1, hv1, hc1, -⟩ := HRJ.out.at k (by simpa using hkl)
                  simp only [Value.slice.injEq, List.length_map, true_and] at hv1
                  obtain ⟨rfl, rfl⟩ := hv1
                  simp only [List.getElem_map] at hc1
                  have hja := HJM.out _ (List.getElem_mem hkl)
                  have hsn := HSN.out k _ hkl
                  have HS : Hid (X0 ^^^ fltS act a b v ((relL a b).take (k + 1)) = (X0 ^^^ fltS act a b v ((relL a b).take k)) ^^^ actZ act ((a + b - (relL a b)[k] : Nat) : Int) (actZ act ((relL a b)[k] : Int) (2 ^ v))) := by
                    show _ = _
                    rw [hsn, Nat.xor_assoc]
                  clear hsn
                  generalize (relL a b)[k] = j at *
                  have S3 := Lib.hid (S.out j (2 ^ v) hp2 W2 HU2.out)
                  have S4 := Lib.hid (S.out (a + b - j) _ (HLT.out j _ hp2) W2 HU2.out)
                  have hy := HLT.out ((a + b - j : Nat) : Int) _ (HLT.out j _ hp2)
                  have hy16 : actZ act ((a + b - j : Nat) : Int) (actZ act (j : Int) (2 ^ v)) < 65536 := by omega
                  rw [show (((2 ^ v : Nat)) : Int) = (2 : Int) ^ v by simp] at S3
                  rw [show (((a + b - j : Nat)) : Int) = (a : Int) + b - j by omega] at S4 HS hy16
                  clear hy
                  generalize actZ act ((a : Int) + b - j) (actZ act (j : Int) (2 ^ v)) = Y at *
                  generalize X0 ^^^ fltS act a b v ((relL a b).take k) = X at *
                  have hxx := i64_xor_nat X Y (by omega) (by omega)
                  go_wp2_with (go_at_call 82; first | ((with_reducible refine S3.out.mono ?_); rintro e w' ⟨rfl, rfl⟩) | ((with_reducible refine S4.out.mono ?_); rintro e w' ⟨rfl, rfl⟩))
                  go_round
                  case rel => exact ⟨k + 1, by omega, by go_num, by rw [HS.out]⟩
                  case measure => simp [intOf]; omega
                · obtain rfl : k = (relL a b).length := by omega
                  rw [List.take_length, ← HF.out]
                  by_cases hz : flt act a b v = 0
                  · have HVS : Hid (∀ i, i < v + 1 → fVi act a b i = none) := fun i hi => by
                      by_cases e : i = v
                      · subst e; rw [fVi, if_pos hz]
                      · exact HV.out i (by omega)
                    rw [hz]
                    clear hz HF
                    go_wp2_with fail
                    go_round
                    case rel => exact ⟨v + 1, by omega, by go_num, HVS⟩
                    case measure => simp [intOf]; omega
                  · have HL := Lib.hid (fltL_hit ds act a b v HA.out HB.out HV.out ha1 hb1 hb hvl hz)
                    have t1 := (neB (show ((flt act a b v : Nat) : Int) ≠ 0 by omega)).2
                    clear hz HF
                    generalize flt act a b v = X at *
                    go_wp2_with fail
                    go_ret
                    refine ⟨_, rfl, by rw [HL.out]; exact ownI_lit3 HBL2.out.size _ _ _, ?_, HBL2.out.alloc HBL2.out.size _⟩
                    intro e
                    rw [HL.out] at e
                    cases e
            · obtain rfl : v = ds.length := by omega
              have HBS : Hid (∀ i, i < b + 1 → fBi ds act a i = none) := fun i hi => by
                by_cases e : i = b
                · subst e
                  rw [fBi]
                  split
                  · exact fV_none ds act a i HV.out
                  · rfl
                · exact HB.out i (by omega)
              go_wp2_with fail
              go_roundw
              case rel => exact ⟨b + 1, by omega, by omega, by go_num, HBS.out, HBL2.out⟩
              case measure => simp [intOf]; omega
        · have HAS : Hid (∀ i, i < a + 1 → fAi ds act i = none) := fun i hi => by
            by_cases e : i = a
            · subst e
              rw [fAi, if_pos ha1]
              exact fB_none ds act i fun j hj => by
                by_cases e2 : j < b
                · exact HB.out j e2
                · rw [fBi, if_neg (by omega)]
            · exact HA.out i (by omega)
          have tb : decide ((a : Int) + b ≤ 20) = false := by simp; omega
          have tb2 : decide (a + b ≤ 20) = false := by simp; omega
          go_wp2_with fail
          go_roundw
          case rel => exact ⟨a + 1, by omega, by omega, by go_num, HAS.out, hbl⟩
          case measure => simp [intOf]; omega
    · have ta : decide ((a : Int) ≤ 20) = false := by simp; omega
      have HN := Lib.hid (fltL_none ds act fun i hi => HA.out i (by omega))
      go_wp2_with fail
      go_ret
      exact ⟨_, rfl, by rw [HN.out]; exact OwnI.nil _ _, fun _ => rfl, hbl⟩
theorem two_one (w : World) (x y : Value) (t : Nat) : (w.alloc (.cells #[x, y] t)).cell? ⟨w.heap.size, 0, none⟩ = some x := (two_new w x y t).1
set_option maxRecDepth 100000 in
set_option maxHeartbeats 1000000 in
theorem isModule_c (d a : Value) (ds : List Int) (act : List (List Int)) (w : World) (h : ModS w.heap d a ds act) :
    Calls Tryz.prog 30 #[.agg #[d, a]] w fun e w' => e = .returned (.bool (isMod ds act)) ∧ Below w.heap.size w w' := by
  have hb : Below w.heap.size w (w.alloc (.cells #[d, a] 32)) := (Below.refl _ _).alloc (Nat.le_refl _) _
  have V := two_new w d a 32
  have hM := h.same hb.block
  have I := Lib.hid (isTable_c d a ds act _ hM)
  have HE : Hid (isMod ds act = (modT ds act && decide (fltL ds act = []))) := rfl
  have T := Lib.hid (fun (W : World) (h : ModS W.heap d a ds act) (hT : modT ds act = true) => tableOf_c d a ds act W h hT)
  have F := Lib.hid (fun (g : Nat) (us : List Value) (B : Nat) (W : World) (h : TabU W B g d us (tabL ds.length act)) (hd : IntS W.heap d ds) (hT : modT ds act = true) => fault_c g d us ds act B W h hd hT)
  obtain ⟨ao, ac, hv, hm⟩ := h.1.len
  obtain ⟨bo, bc, hv2, hm2⟩ := h.2.len
  subst hv; subst hv2
  have H0 := Lib.hid h; have HB := Lib.hid hb; have HV := Lib.hid V; clear h hM hb V
  have k1 := HV.out.1; have k2 := HV.out.2
  have q1 := fun (w : World) (a : Option Addr) (n c : Nat) => Lib.run_eql_slice_nil (P := Tryz.prog) w 30 2 a n c 0 0 Tryz.underlying30
  cases hT : modT ds act
  · rw [hT] at I HE
    clear hT T F
    go_enter Tryz.func30, Tryz.ntmps30
    go_wp2_with (go_at_call 49; refine I.out.mono ?_; rintro e w1 ⟨rfl, hb1⟩)
    go_ret
    exact ⟨by rw [HE.out]; rfl, HB.out.trans (hb1.mono HB.out.size)⟩
  · have HT := Lib.hid hT
    rw [hT, Bool.true_and] at HE
    rw [hT] at I
    clear hT
    by_cases hf : fltL ds act = []
    · have HF := Lib.hid hf; clear hf
      go_enter Tryz.func30, Tryz.ntmps30
      go_wp2_with (first | (go_at_call 49; refine I.out.mono ?_; rintro e w1 ⟨rfl, hb1⟩; have k3 := (hb1.cell (World.block_lt_of_cell? _ _ k1)).trans k1; have k4 := (hb1.cell (World.block_lt_of_cell? _ _ k2)).trans k2; have HB1 := Lib.hid (HB.out.trans (hb1.mono HB.out.size)); clear hb1) | (go_at_call 50; refine (T.out _ (H0.out.same HB1.out.block) HT.out).mono ?_; rintro e w2 ⟨g, us, rfl, htu, hb2⟩; have HTU := Lib.hid htu; have HB2 := Lib.hid (HB1.out.trans (hb2.mono HB1.out.size)); clear htu hb2) | (go_at_call 51; refine (F.out g us _ _ HTU.out (H0.out.1.same HB2.out.block) HT.out).mono ?_; rintro e w3 ⟨r, rfl, hr, hn, hb3⟩; have hn2 := hn HF.out; subst hn2; have HB3 := Lib.hid (HB2.out.trans (hb3.mono HB2.out.size)); clear hb3 hr hn))
      go_ret
      exact ⟨by rw [HE.out, HF.out]; rfl, HB3.out⟩
    · have HF := Lib.hid hf; clear hf
      have HE2 : Hid (isMod ds act = false) := by show _ = _; rw [HE.out]; simpa using HF.out
      go_enter Tryz.func30, Tryz.ntmps30
      go_wp2_with (first | (go_at_call 49; refine I.out.mono ?_; rintro e w1 ⟨rfl, hb1⟩; have k3 := (hb1.cell (World.block_lt_of_cell? _ _ k1)).trans k1; have k4 := (hb1.cell (World.block_lt_of_cell? _ _ k2)).trans k2; have HB1 := Lib.hid (HB.out.trans (hb1.mono HB.out.size)); clear hb1) | (go_at_call 50; refine (T.out _ (H0.out.same HB1.out.block) HT.out).mono ?_; rintro e w2 ⟨g, us, rfl, htu, hb2⟩; have HTU := Lib.hid htu; have HB2 := Lib.hid (HB1.out.trans (hb2.mono HB1.out.size)); clear htu hb2) | (go_at_call 51; refine (F.out g us _ _ HTU.out (H0.out.1.same HB2.out.block) HT.out).mono ?_; rintro e w3 ⟨r, rfl, hr, -, hb3⟩; obtain ⟨gr, cr, hre, -⟩ := hr.open (List.length_pos_iff.2 HF.out); subst hre; have HR := Lib.hid (own_base hr HB2.out.size); have HB3 := Lib.hid (HB2.out.trans (hb3.mono HB2.out.size)); clear hb3 hr))
      go_ret
      exact ⟨by rw [HE2.out]; rfl, HB3.out⟩
def mfL (ds : List Int) (act : List (List Int)) : List Int := if modT ds act then fltL ds act else []
def mfC (ds : List Int) (act : List (List Int)) : Int := if modT ds act then (if fltL ds act = [] then 4 else 0) else 1
theorem mfL_len (ds : List Int) (act : List (List Int)) : (mfL ds act).length ≤ 3 := by
  unfold mfL; split
  · exact fltL_len _ _
  · simp
end Go.Proofs.YtalbbjhonkcbgaaGreatDoor

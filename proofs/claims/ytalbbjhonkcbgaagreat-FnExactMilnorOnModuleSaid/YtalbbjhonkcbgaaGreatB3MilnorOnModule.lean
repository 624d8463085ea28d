/- Texts that lie in one file here: LMt4 LMs1 LMs2 LAdm LMs3 LModArg LCnt LSqm LSqw LMmP LMmS LMmI LSort. -/
import Derived.Test.YtalbbjhonkcbgaaGreatLStep
import Derived.Test.YtalbbjhonkcbgaaGreatLSum
import Derived.Test.YtalbbjhonkcbgaaGreatL10
import Derived.Test.YtalbbjhonkcbgaaGreatLHeld
import Derived.Test.YtalbbjhonkcbgaaGreatLArg
import Derived.Test.YtalbbjhonkcbgaaGreatBaseM
import Derived.Test.YtalbbjhonkcbgaaGreatFn
import Derived.Test.YtalbbjhonkcbgaaGreatLGen
import Derived.Test.YtalbbjhonkcbgaaGreatLHeld2
import Derived.Test.YtalbbjhonkcbgaaGreatLCmp
import Derived.Test.YtalbbjhonkcbgaaGreatLib4
import Derived.Test.YtalbbjhonkcbgaaGreatLMil2
import Derived.Test.YtalbbjhonkcbgaaGreatLRef
import Derived.Test.YtalbbjhonkcbgaaGreatLSortLay
import Derived.Shelf.SlSortCmp.NoneTotal
import Derived.Test.YtalbbjhonkcbgaaGreatBMilnorOnModule
import Derived.Test.YtalbbjhonkcbgaaGreatB2MilnorOnModule
namespace Go.Proofs.YtalbbjhonkcbgaaGreat
section
open Go.RowKit Go.Sort

def fVi (act : List (List Int)) (a b v : Nat) : Option (List Int) := if flt act a b v = 0 then none else some [(a : Int), (b : Int), (v : Int)]
def fBi (ds : List Int) (act : List (List Int)) (a b : Nat) : Option (List Int) := if a / 2 + 1 ≤ b ∧ a + b ≤ 20 then fV ds act a b else none
def fAi (ds : List Int) (act : List (List Int)) (a : Nat) : Option (List Int) := if 1 ≤ a then fB ds act a else none
theorem fltL_hit (ds : List Int) (act : List (List Int)) (a b v : Nat) (ha : ∀ i, i < a → fAi ds act i = none) (hb : ∀ i, i < b → fBi ds act a i = none) (hv : ∀ i, i < v → fVi act a b i = none) (h1 : 1 ≤ a) (h2 : a / 2 + 1 ≤ b) (h3 : a + b ≤ 20) (h4 : v < ds.length) (h5 : flt act a b v ≠ 0) :
    fltL ds act = [(a : Int), (b : Int), (v : Int)] := by
  have e1 : fV ds act a b = some [(a : Int), (b : Int), (v : Int)] := find_some (fVi act a b) _ v _ h4 hv (by rw [fVi, if_neg h5])
  have e2 : fB ds act a = some [(a : Int), (b : Int), (v : Int)] := find_some (fBi ds act a) _ b _ (by omega) hb (by rw [fBi, if_pos ⟨h2, h3⟩, e1])
  have e3 : fA ds act = some [(a : Int), (b : Int), (v : Int)] := find_some (fAi ds act) _ a _ (by omega) ha (by rw [fAi, if_pos h1, e2])
  rw [fltL, e3]; rfl
theorem fltL_none (ds : List Int) (act : List (List Int)) (ha : ∀ i, i < 21 → fAi ds act i = none) : fltL ds act = [] := by
  have e3 : fA ds act = none := find_none (fAi ds act) _ ha
  rw [fltL, e3]; rfl
theorem fV_none (ds : List Int) (act : List (List Int)) (a b : Nat) (h : ∀ i, i < ds.length → fVi act a b i = none) : fV ds act a b = none := find_none (fVi act a b) _ h
theorem fB_none (ds : List Int) (act : List (List Int)) (a : Nat) (h : ∀ i, i < 21 → fBi ds act a i = none) : fB ds act a = none := find_none (fBi ds act a) _ h
theorem fltS_lt {ds : List Int} {act : List (List Int)} (h : modT ds act = true) (a b v : Nat) (hv : v < ds.length) : ∀ l, fltS act a b v l < 2 ^ ds.length
  | [] => Nat.two_pow_pos _
  | j :: l => by
    rw [fltS]
    exact Nat.xor_lt_two_pow (actZ_lt h _ _ (actZ_lt h _ _ (Nat.pow_lt_pow_right (by omega) hv))) (fltS_lt h a b v hv l)
theorem fltS_snoc (act : List (List Int)) (a b v k : Nat) (l : List Nat) (hk : k < l.length) : fltS act a b v (l.take (k + 1)) = fltS act a b v (l.take k) ^^^ actZ act ((a + b - l[k] : Nat) : Int) (actZ act (l[k] : Int) (2 ^ v)) := by
  rw [List.take_succ_eq_append_getElem hk, fltS_append]; simp [fltS]
set_option maxRecDepth 100000 in
set_option maxHeartbeats 2000000 in
theorem fault_c (g : Nat) (d : Value) (us : List Value) (ds : List Int) (act : List (List Int)) (B : Nat) (w : World) (h : TabU w B g d us (tabL ds.length act)) (hd : IntS w.heap d ds) (hT : modT ds act = true) :
    Calls Tryz.prog 94 #[.pointer (some ⟨g, 0, none⟩)] w fun e w' => ∃ r, e = .returned r ∧ OwnI w' w.heap.size r (fltL ds act) ∧ (fltL ds act = [] → r = .slice none 0 0) ∧ Below w.heap.size w w' := by
  have hl := modT_len hT
  obtain ⟨ao, ac, rfl, hm⟩ := hd.len
  have HU := Lib.hid h
  have HT := Lib.hid hT
  have S := Lib.hid (fun (n v : Nat) (hv : v < 2 ^ ds.length) (W : World) (h : TabU W B g (.slice ao ds.length ac) us (tabL ds.length act)) => square_c g (.slice ao ds.length ac) us ds act B n v W h hT hv)
  clear h hT hd
  go_enter Tryz.func94, Tryz.ntmps94
  go_wp2_with fail
  go_loopw [3] (fun i wr => ∃ a : Nat, 1 ≤ a ∧ a ≤ 21 ∧ i = .int .i64 a ∧ (∀ i, i < a → fAi ds act i = none) ∧ Below w.heap.size w wr) (fun i _ => 21 - (intOf i).toNat)
  case atStart => exact ⟨1, by omega, by omega, rfl, fun i hi => by obtain rfl : i = 0 := by omega
                                                                    rfl, Below.refl _ _⟩
  case round =>
    obtain ⟨a, ha1, ha2, rfl, hA, hbl⟩ := hrel
    have HA := Lib.hid hA; clear hA
    by_cases ha : a ≤ 20
    · have ta : decide ((a : Int) ≤ 20) = true := by simp; omega
      go_wp2_with fail
      obtain ⟨wo, hwo⟩ : ∃ wo : World, wo = wr := ⟨_, rfl⟩
      have HBL := Lib.hid hbl; clear hbl
      go_loopw [4] (fun i wr => ∃ b : Nat, a / 2 + 1 ≤ b ∧ b ≤ 21 ∧ i = .int .i64 b ∧ (∀ i, i < b → fBi ds act a i = none) ∧ Below w.heap.size w wr) (fun i _ => 21 - (intOf i).toNat)
      case atStart => exact ⟨a / 2 + 1, by omega, by omega, by go_num, fun i hi => by rw [fBi, if_neg (by omega)], HBL.out⟩
      case round =>
        clear hwo HBL
        obtain ⟨b, hb1, hb2, rfl, hB, hbl⟩ := hrel
        have HB := Lib.hid hB; clear hB
        by_cases hb : a + b ≤ 20
        · have tb : decide ((a : Int) + b ≤ 20) = true := by simp; omega
          have tb2 : decide (a + b ≤ 20) = true := by simp; omega
          have R := Lib.hid (relation_c a b wr (by omega) hb1 (by omega))
          have HBL := Lib.hid hbl; clear hbl
          go_wp2_with (go_at_call 111; refine R.out.mono ?_; rintro e W2 ⟨rj, rfl, hrj, hb2⟩; obtain ⟨ja, jn, jc, rfl⟩ := own_shape hrj; have HBL2 := Lib.hid (HBL.out.trans (hb2.mono HBL.out.size)); have HRJ := Lib.hid hrj.ints; have HU2 := Lib.hid (HU.out.same HBL2.out.block); have cd := HU2.out.c0; clear hrj hb2)
          have hjn : jn = (relL a b).length := by
            obtain ⟨_, _, hv, _⟩ := HRJ.out.len
            simp only [Value.slice.injEq, List.length_map] at hv
            exact hv.2.1
          subst hjn
          have hjl : (relL a b).length ≤ 21 := by have := relL_filter_len a b (a + 1); unfold relL; omega
          have HJM : Hid (∀ j ∈ relL a b, j ≤ a) := fun j hj => by
            simp only [relL, List.mem_filter, List.mem_range] at hj; omega
          go_loop [31] (fun i => ∃ v : Nat, v ≤ ds.length ∧ i = .int .i64 v ∧ Hid (∀ i, i < v → fVi act a b i = none)) (fun i => ds.length - (intOf i).toNat)
          case atStart => exact ⟨0, Nat.zero_le _, rfl, fun i hi => by omega⟩
          case round =>
            obtain ⟨v, hv, rfl, HV⟩ := hrel
            by_cases hvl : v < ds.length
            · have hp2 : 2 ^ v < 2 ^ ds.length := Nat.pow_lt_pow_right (by omega) hvl
              have hlt16 : ∀ n x, x < 2 ^ ds.length → actZ act n x < 2 ^ ds.length := fun n x hx => actZ_lt HT.out n x hx
              have h16 : 2 ^ ds.length ≤ 2 ^ 16 := Nat.pow_le_pow_right (by omega) hl
              have S1 := Lib.hid (S.out b (2 ^ v) hp2 W2 HU2.out)
              have S2 := Lib.hid (S.out a _ (hlt16 b _ hp2) W2 HU2.out)
              rw [show (((2 ^ v : Nat)) : Int) = (2 : Int) ^ v by simp] at S1
              have HX0 := hlt16 a _ (hlt16 b _ hp2)
              have HLT := Lib.hid hlt16
              have hw := wrap64_pow v (by omega)
              clear hlt16
              have HF : Hid (flt act a b v = actZ act a (actZ act b (2 ^ v)) ^^^ fltS act a b v (relL a b)) := rfl
              have HFS := Lib.hid (fltS_lt HT.out a b v hvl)
              have HSN := Lib.hid (fltS_snoc act a b v)
              have hx00 : actZ act a (actZ act b (2 ^ v)) = actZ act a (actZ act b (2 ^ v)) ^^^ fltS act a b v ((relL a b).take 0) := by simp [fltS]
              have HX00 := Lib.hid hx00; clear hx00
              have hX16 : actZ act a (actZ act b (2 ^ v)) < 65536 := by omega
              clear HX0
              generalize actZ act a (actZ act b (2 ^ v)) = X0 at *
              go_wp2_with (go_at_call 96; first | ((with_reducible refine S1.out.mono ?_); rintro e w' ⟨rfl, rfl⟩) | ((with_reducible refine S2.out.mono ?_); rintro e w' ⟨rfl, rfl⟩))
              clear S1 S2
              go_loop [7, 44] (fun x i => ∃ k : Nat, k ≤ (relL a b).length ∧ i = .int .i64 k ∧ x = .int .i64 (X0 ^^^ fltS act a b v ((relL a b).take k) : Nat)) (fun _ i => (relL a b).length - (intOf i).toNat)
              case atStart => exact ⟨0, Nat.zero_le _, rfl, by rw [← HX00.out]⟩
              case round =>
                obtain ⟨k, hk, rfl, rfl⟩ := hrel
                have hf16 := HFS.out ((relL a b).take k)
                have hfx : X0 ^^^ fltS act a b v ((relL a b).take k) < 65536 := Nat.xor_lt_two_pow (n := 16) hX16 (by omega)
                by_cases hkl : k < (relL a b).length
                · obtain ⟨b1, o1, c1, hv1, hc1, -⟩ := HRJ.out.at k (by simpa using hkl)
                  simp only [Value.slice.injEq, List.length_map, true_and] at hv1
                  obtain ⟨rfl, rfl⟩ := hv1
                  simp only [List.getElem_map] at hc1
                  have hja := HJM.out _ (List.getElem_mem hkl)
                  have hsn := HSN.out k _ hkl
                  have HS : Hid (X0 ^^^ fltS act a b v ((relL a b).take (k + 1)) = (X0 ^^^ fltS act a b v ((relL a b).take k)) ^^^ actZ act ((a + b - (relL a b)[k] : Nat) : Int) (actZ act ((relL a b)[k] : Int) (2 ^ v))) := by
                    show _ = _
                    rw [hsn, Nat.xor_assoc]
                  clear hsn
                  generalize (relL a b)[k] = j at *
                  have S3 := Lib.hid (S.out j (2 ^ v) hp2 W2 HU2.out)
                  have S4 := Lib.hid (S.out (a + b - j) _ (HLT.out j _ hp2) W2 HU2.out)
                  have hy := HLT.out ((a + b - j : Nat) : Int) _ (HLT.out j _ hp2)
                  have hy16 : actZ act ((a + b - j : Nat) : Int) (actZ act (j : Int) (2 ^ v)) < 65536 := by omega
                  rw [show (((2 ^ v : Nat)) : Int) = (2 : Int) ^ v by simp] at S3
                  rw [show (((a + b - j : Nat)) : Int) = (a : Int) + b - j by omega] at S4 HS hy16
                  clear hy
                  generalize actZ act ((a : Int) + b - j) (actZ act (j : Int) (2 ^ v)) = Y at *
                  generalize X0 ^^^ fltS act a b v ((relL a b).take k) = X at *
                  have hxx := i64_xor_nat X Y (by omega) (by omega)
                  go_wp2_with (go_at_call 96; first | ((with_reducible refine S3.out.mono ?_); rintro e w' ⟨rfl, rfl⟩) | ((with_reducible refine S4.out.mono ?_); rintro e w' ⟨rfl, rfl⟩))
                  go_round
                  case rel => exact ⟨k + 1, by omega, by go_num, by rw [HS.out]⟩
                  case measure => simp [intOf]; omega
                · obtain rfl : k = (relL a b).length := by omega
                  rw [List.take_length, ← HF.out]
                  by_cases hz : flt act a b v = 0
                  · have HVS : Hid (∀ i, i < v + 1 → fVi act a b i = none) := fun i hi => by
                      by_cases e : i = v
                      · subst e; rw [fVi, if_pos hz]
                      · exact HV.out i (by omega)
                    rw [hz]
                    clear hz HF
                    go_wp2_with fail
                    go_round
                    case rel => exact ⟨v + 1, by omega, by go_num, HVS⟩
                    case measure => simp [intOf]; omega
                  · have HL := Lib.hid (fltL_hit ds act a b v HA.out HB.out HV.out ha1 hb1 hb hvl hz)
                    have t1 := (neB (show ((flt act a b v : Nat) : Int) ≠ 0 by omega)).2
                    clear hz HF
                    generalize flt act a b v = X at *
                    go_wp2_with fail
                    go_ret
                    refine ⟨_, rfl, by rw [HL.out]; exact ownI_lit3 HBL2.out.size _ _ _, ?_, HBL2.out.alloc HBL2.out.size _⟩
                    intro e
                    rw [HL.out] at e
                    cases e
            · obtain rfl : v = ds.length := by omega
              have HBS : Hid (∀ i, i < b + 1 → fBi ds act a i = none) := fun i hi => by
                by_cases e : i = b
                · subst e
                  rw [fBi]
                  split
                  · exact fV_none ds act a i HV.out
                  · rfl
                · exact HB.out i (by omega)
              go_wp2_with fail
              go_roundw
              case rel => exact ⟨b + 1, by omega, by omega, by go_num, HBS.out, HBL2.out⟩
              case measure => simp [intOf]; omega
        · have HAS : Hid (∀ i, i < a + 1 → fAi ds act i = none) := fun i hi => by
            by_cases e : i = a
            · subst e
              rw [fAi, if_pos ha1]
              exact fB_none ds act i fun j hj => by
                by_cases e2 : j < b
                · exact HB.out j e2
                · rw [fBi, if_neg (by omega)]
            · exact HA.out i (by omega)
          have tb : decide ((a : Int) + b ≤ 20) = false := by simp; omega
          have tb2 : decide (a + b ≤ 20) = false := by simp; omega
          go_wp2_with fail
          go_roundw
          case rel => exact ⟨a + 1, by omega, by omega, by go_num, HAS.out, hbl⟩
          case measure => simp [intOf]; omega
    · have ta : decide ((a : Int) ≤ 20) = false := by simp; omega
      have HN := Lib.hid (fltL_none ds act fun i hi => HA.out i (by omega))
      go_wp2_with fail
      go_ret
      exact ⟨_, rfl, by rw [HN.out]; exact OwnI.nil _ _, fun _ => rfl, hbl⟩
theorem two_one (w : World) (x y : Value) (t : Nat) : (w.alloc (.cells #[x, y] t)).cell? ⟨w.heap.size, 0, none⟩ = some x := (two_new w x y t).1
set_option maxRecDepth 100000 in
set_option maxHeartbeats 1000000 in
theorem isModule_c (d a : Value) (ds : List Int) (act : List (List Int)) (w : World) (h : ModS w.heap d a ds act) :
    Calls Tryz.prog 69 #[.agg #[d, a]] w fun e w' => e = .returned (.bool (isMod ds act)) ∧ Below w.heap.size w w' := by
  have hb : Below w.heap.size w (w.alloc (.cells #[d, a] 32)) := (Below.refl _ _).alloc (Nat.le_refl _) _
  have V := two_new w d a 32
  have hM := h.same hb.block
  have I := Lib.hid (isTable_c d a ds act _ hM)
  have HE : Hid (isMod ds act = (modT ds act && decide (fltL ds act = []))) := rfl
  have T := Lib.hid (fun (W : World) (h : ModS W.heap d a ds act) (hT : modT ds act = true) => tableOf_c d a ds act W h hT)
  have F := Lib.hid (fun (g : Nat) (us : List Value) (B : Nat) (W : World) (h : TabU W B g d us (tabL ds.length act)) (hd : IntS W.heap d ds) (hT : modT ds act = true) => fault_c g d us ds act B W h hd hT)
  obtain ⟨ao, ac, hv, hm⟩ := h.1.len
  obtain ⟨bo, bc, hv2, hm2⟩ := h.2.len
  subst hv; subst hv2
  have H0 := Lib.hid h; have HB := Lib.hid hb; have HV := Lib.hid V; clear h hM hb V
  have k1 := HV.out.1; have k2 := HV.out.2
  have q1 := fun (w : World) (a : Option Addr) (n c : Nat) => Lib.run_eql_slice_nil (P := Tryz.prog) w 22 2 a n c 0 0 Tryz.underlying22
  cases hT : modT ds act
  · rw [hT] at I HE
    clear hT T F
    go_enter Tryz.func69, Tryz.ntmps69
    go_wp2_with (go_at_call 93; refine I.out.mono ?_; rintro e w1 ⟨rfl, hb1⟩)
    go_ret
    exact ⟨by rw [HE.out]; rfl, HB.out.trans (hb1.mono HB.out.size)⟩
  · have HT := Lib.hid hT
    rw [hT, Bool.true_and] at HE
    rw [hT] at I
    clear hT
    by_cases hf : fltL ds act = []
    · have HF := Lib.hid hf; clear hf
      go_enter Tryz.func69, Tryz.ntmps69
      go_wp2_with (first | (go_at_call 93; refine I.out.mono ?_; rintro e w1 ⟨rfl, hb1⟩; have k3 := (hb1.cell (World.block_lt_of_cell? _ _ k1)).trans k1; have k4 := (hb1.cell (World.block_lt_of_cell? _ _ k2)).trans k2; have HB1 := Lib.hid (HB.out.trans (hb1.mono HB.out.size)); clear hb1) | (go_at_call 42; refine (T.out _ (H0.out.same HB1.out.block) HT.out).mono ?_; rintro e w2 ⟨g, us, rfl, htu, hb2⟩; have HTU := Lib.hid htu; have HB2 := Lib.hid (HB1.out.trans (hb2.mono HB1.out.size)); clear htu hb2) | (go_at_call 94; refine (F.out g us _ _ HTU.out (H0.out.1.same HB2.out.block) HT.out).mono ?_; rintro e w3 ⟨r, rfl, hr, hn, hb3⟩; have hn2 := hn HF.out; subst hn2; have HB3 := Lib.hid (HB2.out.trans (hb3.mono HB2.out.size)); clear hb3 hr hn))
      go_ret
      exact ⟨by rw [HE.out, HF.out]; rfl, HB3.out⟩
    · have HF := Lib.hid hf; clear hf
      have HE2 : Hid (isMod ds act = false) := by show _ = _; rw [HE.out]; simpa using HF.out
      go_enter Tryz.func69, Tryz.ntmps69
      go_wp2_with (first | (go_at_call 93; refine I.out.mono ?_; rintro e w1 ⟨rfl, hb1⟩; have k3 := (hb1.cell (World.block_lt_of_cell? _ _ k1)).trans k1; have k4 := (hb1.cell (World.block_lt_of_cell? _ _ k2)).trans k2; have HB1 := Lib.hid (HB.out.trans (hb1.mono HB.out.size)); clear hb1) | (go_at_call 42; refine (T.out _ (H0.out.same HB1.out.block) HT.out).mono ?_; rintro e w2 ⟨g, us, rfl, htu, hb2⟩; have HTU := Lib.hid htu; have HB2 := Lib.hid (HB1.out.trans (hb2.mono HB1.out.size)); clear htu hb2) | (go_at_call 94; refine (F.out g us _ _ HTU.out (H0.out.1.same HB2.out.block) HT.out).mono ?_; rintro e w3 ⟨r, rfl, hr, -, hb3⟩; obtain ⟨gr, cr, hre, -⟩ := hr.open (List.length_pos_iff.2 HF.out); subst hre; have HR := Lib.hid (own_base hr HB2.out.size); have HB3 := Lib.hid (HB2.out.trans (hb3.mono HB2.out.size)); clear hb3 hr))
      go_ret
      exact ⟨by rw [HE2.out]; rfl, HB3.out⟩
def mfL (ds : List Int) (act : List (List Int)) : List Int := if modT ds act then fltL ds act else []
def mfC (ds : List Int) (act : List (List Int)) : Int := if modT ds act then (if fltL ds act = [] then 4 else 0) else 1
theorem mfL_len (ds : List Int) (act : List (List Int)) : (mfL ds act).length ≤ 3 := by
  unfold mfL; split
  · exact fltL_len _ _
  · simp
end
section
open Go.RowKit Go.Sort

theorem l11Unit_c (size v : Nat) (w : World) (hs : size ≤ 16) (hv : v < size) :
    Calls Tryz.prog 52 #[.int .i64 size, .int .i64 v] w fun e w' => ∃ r, e = .returned r ∧ OwnI w' w.heap.size r (bitsL size (2 ^ v)) ∧ Below w.heap.size w w' := by
  have hmk := fun w => make_run (P := Tryz.prog) 22 2 _ 8 info_int64 Tryz.underlying22 rfl (by omega) size (by omega) .i64 .i64 (size : Int) (size : Int) rfl rfl w
  have ho := made_own w w.heap.size 2 size (.int .i64 0) (Nat.le_refl _) (by omega)
  rw [show List.replicate size (Value.int .i64 0) = (List.replicate size (0 : Int)).map (Value.int .i64) by simp] at ho
  have h1 := own_int_at ho v hv
  have hf := World.ownsRow.frozenAt ho v
  have h2 := own_int_set ho v 1
  rw [bitsL_unit size v hv] at h2
  have hb := ((Below.refl w.heap.size w).alloc (Nat.le_refl _) (.cells (madeCells #[.int .i64 0] size) 2)).setCell (p := ⟨w.heap.size, v, none⟩) (Nat.le_refl _) (.int .i64 1)
  rw [World.setCell_alloc_at _ _ _ _ _ rfl] at h2 hb
  have H2 := Lib.hid h2; have HB := Lib.hid hb; clear h2 hb ho
  have hvi : (v : Int) < size := by omega
  rw [show (List.replicate size (0 : Int)).getD v 0 = 0 by simp [hv]] at h1
  go_enter Tryz.func52, Tryz.ntmps52
  go_wp2_with fail
  go_ret
  exact ⟨_, rfl, by unfold OwnI; rw [bitsL_length]; exact H2.out, HB.out⟩
set_option maxRecDepth 100000 in
set_option maxHeartbeats 1000000 in
theorem l11Plus_c (v u : Value) (xs ys : List Int) (w : World) (h : IntS w.heap v xs) (hu : IntS w.heap u ys) (hl : ys.length = xs.length) (h16 : xs.length ≤ 16) (hx : ∀ x ∈ xs, 0 ≤ x ∧ x ≤ 1) (hy : ∀ x ∈ ys, 0 ≤ x ∧ x ≤ 1) :
    Calls Tryz.prog 56 #[v, u] w fun e w' => ∃ r, e = .returned r ∧ OwnI w' w.heap.size r (plusL xs ys xs.length) ∧ Below w.heap.size w w' := by
  obtain ⟨ao, c, rfl, hm⟩ := h.len
  obtain ⟨bo, d, rfl, hn⟩ := hu.len
  have H := Lib.hid h; have HU := Lib.hid hu; have HX := Lib.hid hx; have HY := Lib.hid hy; have HL := Lib.hid hl
  clear h hu hx hy hl
  go_enter Tryz.func56, Tryz.ntmps56
  go_wp2_with fail
  go_loopw [5, 6] (fun o i wr => ∃ k : Nat, k ≤ xs.length ∧ i = .int .i64 k ∧ OwnI wr w.heap.size o (plusL xs ys k) ∧ Below w.heap.size w wr) (fun _ i _ => xs.length - (intOf i).toNat)
  case atStart => exact ⟨0, Nat.zero_le _, rfl, ownI_empty (Nat.le_refl _), (Below.refl _ _).alloc (Nat.le_refl _) _⟩
  case round =>
    obtain ⟨k, hk, rfl, hown, hbl⟩ := hrel
    obtain ⟨va, vn, vc, rfl⟩ := own_shape hown
    by_cases hlt : k < xs.length
    · have hlt2 : k < ys.length := by have := HL.out; omega
      obtain ⟨b1, o1, c1, hv1, hc1, -⟩ := H.out.at k hlt
      simp only [Value.slice.injEq, true_and] at hv1
      obtain ⟨rfl, rfl⟩ := hv1
      obtain ⟨b2, o2, c2, hv2, hc2, -⟩ := HU.out.at k hlt2
      simp only [Value.slice.injEq, true_and] at hv2
      obtain ⟨rfl, rfl⟩ := hv2
      have hx1 := HX.out _ (List.getElem_mem hlt)
      have hy1 := HY.out _ (List.getElem_mem hlt2)
      have g1 := (hbl.cell (World.block_lt_of_cell? _ _ hc1)).trans hc1
      have g2 := (hbl.cell (World.block_lt_of_cell? _ _ hc2)).trans hc2
      have HC1 := Lib.hid hc1; have HC2 := Lib.hid hc2
      clear hc1 hc2
      have HS := Lib.hid (plusL_succ xs ys k)
      rw [show xs.getD k 0 = xs[k] by simp [hlt], show ys.getD k 0 = ys[k] by simp [hlt2]] at HS
      have HO := Lib.hid hown; have HBL := Lib.hid hbl; have hsz := hbl.size
      have hln : (plusL xs ys k).length < 4398046511104 := by simp [plusL]; omega
      clear hown hbl
      generalize xs[k] = x at *
      generalize ys[k] = y at *
      have s1 : IntKind.i64.wrap (x + y) = x + y := IntWalk.i64_in _ (by omega)
      have s0 : 0 ≤ x + y := by omega
      have ht : (x + y).tmod 2 = (x + y) % 2 := Int.tmod_eq_emod_of_nonneg s0
      have ki : (k : Int) < xs.length := by omega
      have ki2 : (k : Int) < ys.length := by omega
      go_wp2_with fail
      go_region_held3 (fun W => W.cell? ⟨b1, o1 + k, none⟩ = some (.int .i64 x) ∧ W.cell? ⟨b2, o2 + k, none⟩ = some (.int .i64 y)) (first | exact ⟨(hbl'.cell (World.block_lt_of_cell? _ _ HC1.out)).trans HC1.out, (hbl'.cell (World.block_lt_of_cell? _ _ HC2.out)).trans HC2.out⟩ | exact ⟨g1, g2⟩ | go_keep) (first | (refine step_append_int (by rfl) _ _ (by rfl) w.heap.size _ _ (by exact HO.out.same (alloc_old wr (.cells #[.int .i64 ((x + y) % 2)] 2))) (by rfl) wr.heap.size ((x + y) % 2) (by rfl) (by exact heap_alloc_new wr _) (by exact below_drewN 1 (HBL.out.alloc hsz _)) (by simp; omega) hln ?_; intro v' w' hown' hbl' _ _; obtain ⟨va2, vn2, vc2, hv2⟩ := own_shape hown'; subst hv2))
      clear ht g1 g2
      go_wp2_with fail
      go_roundw
      case rel => exact ⟨k + 1, by omega, by go_num, by rw [HS.out]; exact hown', hbl'⟩
      case measure => simp [intOf]; omega
    · obtain rfl : k = xs.length := by omega
      go_wp2_with fail
      go_ret
      exact ⟨_, rfl, hown, hbl⟩
theorem hitM_on (n : Int) (v : Nat) (p q c : Int) (h : p = n) (b : v.testBit q.toNat = true) : hitM n v [p, q, c] = 2 ^ c.toNat := by
  rw [hitM, if_pos ⟨by simpa using h, by simpa using b⟩]; simp
theorem hitM_off (n : Int) (v : Nat) (p q c : Int) (h : p ≠ n ∨ v.testBit q.toNat = false) : hitM n v [p, q, c] = 0 := by
  rw [hitM, if_neg]
  rintro ⟨h1, h2⟩
  rcases h with h | h
  · exact h (by simpa using h1)
  · rw [show ([p, q, c] : List Int).getD 1 0 = q from rfl, h] at h2; cases h2
theorem bits01 (size m : Nat) : ∀ x ∈ bitsL size m, 0 ≤ x ∧ x ≤ 1 := by
  intro x hx
  simp only [bitsL, List.mem_map] at hx
  obtain ⟨i, _, rfl⟩ := hx
  split <;> omega
set_option maxRecDepth 100000 in
set_option maxHeartbeats 2000000 in
theorem l11Act_c (d a v : Value) (ds : List Int) (act : List (List Int)) (n : Int) (m : Nat) (w : World) (h : ModS w.heap d a ds act) (hT : modT ds act = true) (hv : IntS w.heap v (bitsL ds.length m)) :
    Calls Tryz.prog 82 #[.agg #[d, a], .int .i64 n, v] w fun e w' => ∃ r, e = .returned r ∧ OwnI w' w.heap.size r (bitsL ds.length (actZ act n m)) ∧ Below w.heap.size w w' := by
  have hb : Below w.heap.size w (w.alloc (.cells #[d, a] 32)) := (Below.refl _ _).alloc (Nat.le_refl _) _
  have V := Var2.new w d a 32
  have hM := h.same hb.block
  have hs16 := modT_len hT
  obtain ⟨ao, ac, hdv, hm⟩ := h.1.len
  obtain ⟨bo, bc, hav, hm2⟩ := h.2.len
  subst hdv; subst hav
  by_cases hn : n = 0
  · have e : actZ act n m = m := by rw [actZ, if_pos hn]
    rw [e]
    have HT := Lib.hid (l01Own_c v _ _ (hv.same hb.block) (by rw [bitsL_length]; omega))
    obtain ⟨vo, vc, hvv, -⟩ := hv.len
    subst hvv
    have t1 := (eqB hn).1
    have HB := Lib.hid hb
    clear h V hM hT hv e hn hb
    go_enter Tryz.func82, Tryz.ntmps82
    go_wp2_with (go_at_call 85; refine HT.out.mono ?_; rintro e w1 ⟨r, rfl, hr, hb1⟩; obtain ⟨ra, rn, rc, rfl⟩ := own_shape hr)
    go_ret
    exact ⟨_, rfl, own_base hr HB.out.size, HB.out.trans (hb1.mono HB.out.size)⟩
  · have e : actZ act n m = actM n m act := by rw [actZ, if_neg hn]
    rw [e]
    have t1 := (neB hn).1
    have hmk := fun w => make_run (P := Tryz.prog) 22 2 _ 8 info_int64 Tryz.underlying22 rfl (by omega) ds.length (by omega) .i64 .i64 (ds.length : Int) (ds.length : Int) rfl rfl w
    obtain ⟨vo, vc, hvv, -⟩ := hv.len
    rw [bitsL_length] at hvv
    subst hvv
    have H0 := Lib.hid h; have HV := Lib.hid hv; have HT := Lib.hid hT; have HB := Lib.hid hb; have HVR := Lib.hid V
    have k1 := HVR.out.c0; have k2 := HVR.out.c1
    clear h hM hT hv e hn hb V
    go_enter Tryz.func82, Tryz.ntmps82
    go_wp2_with fail
    go_loopw [8] (fun i wr => ∃ k : Nat, k ≤ act.length ∧ i = .int .i64 k ∧ OwnI wr (w.heap.size + 1) (.slice (some ⟨w.heap.size + 1, 0, none⟩) ds.length ds.length) (bitsL ds.length (actM n m (act.take k))) ∧ Var2 wr w.heap.size (.slice ao ds.length ac) (.slice bo act.length bc) 32 ∧ Below w.heap.size w wr) (fun i _ => act.length - (intOf i).toNat)
    case atStart =>
      refine ⟨0, Nat.zero_le _, rfl, ?_, HVR.out.kept (alloc_old _ _), HB.out.alloc (by simp) _⟩
      have ho := made_own (w.alloc (.cells #[.slice ao ds.length ac, .slice bo act.length bc] 32)) (w.heap.size + 1) 2 ds.length (.int .i64 0) (by simp) (by omega)
      rw [size_alloc_w] at ho
      unfold OwnI
      rw [bitsL_length, List.take_zero, actM, bitsL_zero]
      simpa using ho
    case round =>
      obtain ⟨k, hk, rfl, hown, hV, hbl⟩ := hrel
      have c0 := hV.c0; have c1 := hV.c1
      by_cases hlt : k < act.length
      · obtain ⟨b1, o1, c1', u, hv1, hc1, hu, -⟩ := H0.out.2.at k hlt
        simp only [Value.slice.injEq, true_and] at hv1
        obtain ⟨rfl, rfl⟩ := hv1
        have hc := (hbl.cell (World.block_lt_of_cell? _ _ hc1)).trans hc1
        clear hc1
        have hcell := modT_cell HT.out _ (List.getElem_mem hlt)
        have htk := actM_take n m act k hlt
        have hu2 := hu.same hbl.block
        generalize act[k] = x at *
        obtain ⟨p, q, s, rfl⟩ : ∃ p q s, x = [p, q, s] := by
          match x, hcell.1 with
          | [p, q, s], _ => exact ⟨p, q, s, rfl⟩
        simp only [List.getD_cons_zero, List.getD_cons_succ] at hcell
        obtain ⟨-, hp1, hq0, hq1, hs0, hs1, -⟩ := hcell
        obtain ⟨b, rfl⟩ := Int.eq_ofNat_of_zero_le hq0
        obtain ⟨c, rfl⟩ := Int.eq_ofNat_of_zero_le hs0
        have hbl1 : b < ds.length := by omega
        have hcl : c < ds.length := by omega
        obtain ⟨ua, uc, rfl, -⟩ := hu.len
        obtain ⟨b2, o2, c2, hv2, hd0, -⟩ := hu2.at 0 (by simp)
        obtain ⟨b3, o3, c3, hv3, hd1, -⟩ := hu2.at 1 (by simp)
        obtain ⟨b4, o4, c4, hv4, hd2, -⟩ := hu2.at 2 (by simp)
        simp only [Value.slice.injEq, true_and] at hv2 hv3 hv4
        obtain ⟨rfl, rfl⟩ := hv2
        obtain ⟨hv3, -⟩ := hv3
        obtain ⟨hv4, -⟩ := hv4
        simp only [Option.some.injEq, Addr.mk.injEq, and_true] at hv3 hv4
        obtain ⟨rfl, rfl⟩ := hv3
        obtain ⟨rfl, rfl⟩ := hv4
        simp only [List.getElem_cons_zero, List.getElem_cons_succ, Nat.add_zero] at hd0 hd1 hd2
        obtain ⟨b5, o5, c5, hv5, hw1, -⟩ := (HV.out.same hbl.block).at b (by rw [bitsL_length]; exact hbl1)
        rw [bitsL_length] at hv5
        simp only [Value.slice.injEq, true_and] at hv5
        obtain ⟨rfl, rfl⟩ := hv5
        rw [← getD_at', bitsL_at _ _ _ hbl1] at hw1
        have hbi : (b : Int) < ds.length := by omega
        clear hu hu2
        by_cases hpn : p = n
        · have t2 := (eqB hpn).1
          cases htb : m.testBit b
          · have HS : Hid (actM n m (act.take (k + 1)) = actM n m (act.take k)) := by
              show _ = _; rw [htk, hitM_off _ _ _ _ _ (.inr (by simpa using htb))]; simp
            rw [htb, if_neg (by simp)] at hw1
            have HO := Lib.hid hown; have HV2 := Lib.hid hV; have HBL := Lib.hid hbl
            clear htk htb hpn hown hV hbl
            go_wp2_with fail
            go_roundw
            case rel => exact ⟨k + 1, by omega, by go_num, by rw [HS.out]; exact HO.out, HV2.out, HBL.out⟩
            case measure => simp [intOf]; omega
          · have HS : Hid (actM n m (act.take (k + 1)) = actM n m (act.take k) ^^^ 2 ^ c) := by
              show _ = _; rw [htk, hitM_on _ _ _ _ _ hpn (by simpa using htb)]; simp
            rw [htb, if_pos rfl] at hw1
            have hrow : wr.ownsRow (w.heap.size + 1) 2 1 (.slice (some ⟨w.heap.size + 1, 0, none⟩) ds.length ds.length) ds.length ((bitsL ds.length (actM n m (act.take k))).map (Value.int .i64)) := by unfold OwnI at hown; rwa [bitsL_length] at hown
            have hcc := own_int_at hrow c hcl
            have hf := hrow.frozenAt c
            have hst := own_int_set hrow c (1 - (bitsL ds.length (actM n m (act.take k))).getD c 0)
            rw [bitsL_toggle _ _ _ hcl, ← HS.out] at hst
            have hy := bits01 ds.length (actM n m (act.take k)) ((bitsL ds.length (actM n m (act.take k))).getD c 0) (by rw [getD_at' _ _ (by rw [bitsL_length]; exact hcl)]; exact List.getElem_mem _)
            generalize (bitsL ds.length (actM n m (act.take k))).getD c 0 = y at *
            have sy : IntKind.i64.wrap (1 - y) = 1 - y := IntWalk.i64_in _ (by omega)
            have hst2 := hV.setFar ⟨w.heap.size + 1, c, none⟩ (by simp) (.int .i64 (1 - y))
            have hst3 := hbl.setCell (p := ⟨w.heap.size + 1, c, none⟩) (by simp) (.int .i64 (1 - y))
            have G := Lib.hid (And.intro hst (And.intro hst2 hst3))
            have hci : (c : Int) < ds.length := by omega
            clear htk htb hpn hown hV hbl hst hst2 hst3 hrow HS
            go_wp2_with fail
            go_region_law (fail)
            all_goals
              go_wp2_with fail
              go_roundw
              case rel => exact ⟨k + 1, by omega, by go_num, by unfold OwnI; rw [bitsL_length]; exact own_same G.out.1 (fun _ _ => rfl), G.out.2.1.kept (fun _ _ => rfl), below_drewN 1 G.out.2.2⟩
              case measure => simp [intOf]; omega
        · have t2 := (neB hpn).1
          have HS : Hid (actM n m (act.take (k + 1)) = actM n m (act.take k)) := by
            show _ = _; rw [htk, hitM_off _ _ _ _ _ (.inl hpn)]; simp
          have HO := Lib.hid hown; have HV2 := Lib.hid hV; have HBL := Lib.hid hbl
          clear htk hpn hown hV hbl hw1
          go_wp2_with fail
          go_roundw
          case rel => exact ⟨k + 1, by omega, by go_num, by rw [HS.out]; exact HO.out, HV2.out, HBL.out⟩
          case measure => simp [intOf]; omega
      · obtain rfl : k = act.length := by omega
        rw [List.take_length] at hown
        go_wp2_with fail
        go_ret
        exact ⟨_, rfl, own_base hown (by omega), hbl⟩
end
section
open Go.RowKit Go.Sort

/-- What a word makes of a mask. -/
def wordM (act : List (List Int)) (word : List Int) (m : Nat) : Nat := word.foldr (fun n v => actZ act n v) m
theorem wordM_drop (act : List (List Int)) (word : List Int) (m k : Nat) (hk : k < word.length) : wordM act (word.drop k) m = actZ act word[k] (wordM act (word.drop (k + 1)) m) := by
  rw [List.drop_eq_getElem_cons hk]; rfl
/-- What words make of a mask. -/
def wordsM (act : List (List Int)) (words : List (List Int)) (m : Nat) : Nat := words.foldl (fun s x => s ^^^ wordM act x m) 0
theorem wordsM_take (act : List (List Int)) (words : List (List Int)) (m k : Nat) (hk : k < words.length) : wordsM act (words.take (k + 1)) m = wordsM act (words.take k) m ^^^ wordM act words[k] m := by
  unfold wordsM; rw [List.take_succ_eq_append_getElem hk, List.foldl_append]; rfl
set_option maxRecDepth 100000 in
set_option maxHeartbeats 2000000 in
theorem l11Word_c (d a v u : Value) (ds : List Int) (act : List (List Int)) (word : List Int) (m : Nat) (w : World) (h : ModS w.heap d a ds act) (hT : modT ds act = true) (hu : IntS w.heap u word) (hv : IntS w.heap v (bitsL ds.length m)) :
    Calls Tryz.prog 54 #[.agg #[d, a], u, v] w fun e w' => ∃ r, e = .returned r ∧ IntS w'.heap r (bitsL ds.length (wordM act word m)) ∧ Below w.heap.size w w' := by
  have hb : Below w.heap.size w (w.alloc (.cells #[d, a] 32)) := (Below.refl _ _).alloc (Nat.le_refl _) _
  have V := Var2.new w d a 32
  have A := Lib.hid (fun (n : Int) (x : Value) (m : Nat) (W : World) (h : ModS W.heap d a ds act) (hx : IntS W.heap x (bitsL ds.length m)) => l11Act_c d a x ds act n m W h hT hx)
  obtain ⟨ao, ac, hdv, hm⟩ := h.1.len
  obtain ⟨bo, bc, hav, hm2⟩ := h.2.len
  subst hdv; subst hav
  obtain ⟨uo, uc, huv, hul⟩ := hu.len
  subst huv
  obtain ⟨vo, vc, hvv, -⟩ := hv.len
  subst hvv
  rw [bitsL_length] at hv ⊢
  have H0 := Lib.hid h; have HU := Lib.hid hu; have HV := Lib.hid (hv.same hb.block); have HB := Lib.hid hb; have HVR := Lib.hid V
  have k1 := HVR.out.c0; have k2 := HVR.out.c1
  clear h hT hv hu hb V
  go_enter Tryz.func54, Tryz.ntmps54
  go_wp2_with fail
  go_loopw [2, 7] (fun v i wr => ∃ (k : Nat) (x : Int), k ≤ word.length ∧ x = (k : Int) - 1 ∧ i = .int .i64 x ∧ IntS wr.heap v (bitsL ds.length (wordM act (word.drop k) m)) ∧ Var2 wr w.heap.size (.slice ao ds.length ac) (.slice bo act.length bc) 32 ∧ Below w.heap.size w wr) (fun _ i _ => (intOf i + 1).toNat)
  case atStart => exact ⟨word.length, (word.length : Int) - 1, Nat.le_refl _, rfl, rfl, by rw [List.drop_length]; exact HV.out, HVR.out, HB.out⟩
  case round =>
    obtain ⟨k, x, hk, hx, rfl, hv, hV, hbl⟩ := hrel
    obtain ⟨pa, pc, rfl, -⟩ := hv.len
    rw [bitsL_length] at hv ⊢
    have c0 := hV.c0; have c1 := hV.c1
    rcases k with _ | j
    · have t0 : decide (0 ≤ x) = false := by simp; omega
      rw [List.drop_zero] at hv
      go_wp2_with fail
      go_ret
      exact ⟨_, rfl, hv, hbl⟩
    · obtain rfl : x = j := by omega
      have hj : j < word.length := by omega
      obtain ⟨b1, o1, c1', hv1, hc1, -⟩ := (HU.out.same hbl.block).at j hj
      simp only [Value.slice.injEq, true_and] at hv1
      obtain ⟨rfl, rfl⟩ := hv1
      have HS := Lib.hid (wordM_drop act word m j hj)
      have HA := Lib.hid (fun (W : World) (h1 : ModS W.heap (.slice ao ds.length ac) (.slice bo act.length bc) ds act) (h2 : IntS W.heap (.slice pa ds.length pc) (bitsL ds.length (wordM act (word.drop (j + 1)) m))) => A.out word[j] _ _ W h1 h2)
      have HIV := Lib.hid hv; have HV2 := Lib.hid hV; have HBL := Lib.hid hbl
      have hji : (j : Int) < word.length := by omega
      clear hx hv hV hbl hk
      generalize word[j] = n at *
      go_wp2_with fail
      go_still_tail 6, (by kernel_rfl)
      change wpList _ _ _ _ _ wr.drew
      obtain ⟨W2, hW2⟩ : ∃ W2, W2 = wr.drew := ⟨_, rfl⟩
      have e1 : Hid (ModS W2.heap (.slice ao ds.length ac) (.slice bo act.length bc) ds act) := by show ModS _ _ _ _ _; rw [hW2]; exact H0.out.same HBL.out.block
      have e2 : Hid (IntS W2.heap (.slice pa ds.length pc) (bitsL ds.length (wordM act (word.drop (j + 1)) m))) := by show IntS _ _ _; rw [hW2]; exact HIV.out
      have e3 : Hid (Var2 W2 w.heap.size (.slice ao ds.length ac) (.slice bo act.length bc) 32) := by show Var2 _ _ _ _ _; rw [hW2]; exact HV2.out
      have e4 : Hid (Below w.heap.size w W2) := by show Below _ _ _; rw [hW2]; exact below_drewN 1 HBL.out
      rw [← hW2]
      clear hW2 HIV HV2 HBL c0 c1 hc1
      go_wp2_with (go_at_call 82; refine (HA.out _ e1.out e2.out).mono ?_; rintro e W3 ⟨r, rfl, hr, hb3⟩; obtain ⟨ra, rn, rc, rfl⟩ := own_shape hr)
      go_roundw
      case rel => exact ⟨j, (j : Int) - 1, by omega, rfl, rfl, by rw [HS.out]; exact hr.ints, e3.out.kept hb3.block, e4.out.trans (hb3.mono e4.out.size)⟩
      case measure => simp [intOf]
theorem heldC3 {x1 x2 x3 : Value} {g1 g2 g3 : Addr} {w0 W W' : World} (h : W.cell? g1 = some x1 ∧ W.cell? g2 = some x2 ∧ W.cell? g3 = some x3 ∧ Below w0.heap.size w0 W) (hb : Below W.heap.size W W') : W'.cell? g1 = some x1 ∧ W'.cell? g2 = some x2 ∧ W'.cell? g3 = some x3 ∧ Below w0.heap.size w0 W' :=
  ⟨(hb.cell (World.block_lt_of_cell? _ _ h.1)).trans h.1, (hb.cell (World.block_lt_of_cell? _ _ h.2.1)).trans h.2.1, (hb.cell (World.block_lt_of_cell? _ _ h.2.2.1)).trans h.2.2.1, h.2.2.2.trans (hb.mono h.2.2.2.size)⟩
theorem heldC3X {x1 x2 x3 : Value} {g1 g2 g3 : Addr} {w0 W : World} (h : W.cell? g1 = some x1 ∧ W.cell? g2 = some x2 ∧ W.cell? g3 = some x3 ∧ Below w0.heap.size w0 W) : Below w0.heap.size w0 W := h.2.2.2
set_option maxRecDepth 100000 in
set_option maxHeartbeats 2000000 in
theorem l11Words_c (d a v u : Value) (ds : List Int) (act words : List (List Int)) (m : Nat) (w : World) (h : ModS w.heap d a ds act) (hT : modT ds act = true) (hu : IntSS w.heap u words) (hv : IntS w.heap v (bitsL ds.length m)) :
    Calls Tryz.prog 36 #[.agg #[d, a], u, v] w fun e w' => ∃ r, e = .returned r ∧ IntS w'.heap r (bitsL ds.length (wordsM act words m)) ∧ Below w.heap.size w w' := by
  have hb : Below w.heap.size w (w.alloc (.cells #[d, a] 32)) := (Below.refl _ _).alloc (Nat.le_refl _) _
  have V := Var2.new w d a 32
  have hs16 := modT_len hT
  have A := Lib.hid (fun (x y : Value) (word : List Int) (m : Nat) (W : World) (h : ModS W.heap d a ds act) (hy : IntS W.heap y word) (hx : IntS W.heap x (bitsL ds.length m)) => l11Word_c d a x y ds act word m W h hT hy hx)
  have P := Lib.hid (fun (x y : Value) (m n : Nat) (W : World) (h1 : IntS W.heap x (bitsL ds.length m)) (h2 : IntS W.heap y (bitsL ds.length n)) => l11Plus_c x y _ _ W h1 h2 (by rw [bitsL_length, bitsL_length]) (by rw [bitsL_length]; exact hs16) (bits01 _ _) (bits01 _ _))
  simp only [bitsL_length, plusL_bits] at P
  have hmk := fun w => make_run (P := Tryz.prog) 22 2 _ 8 info_int64 Tryz.underlying22 rfl (by omega) ds.length (by omega) .i64 .i64 (ds.length : Int) (ds.length : Int) rfl rfl w
  obtain ⟨ao, ac, hdv, hm⟩ := h.1.len
  obtain ⟨bo, bc, hav, hm2⟩ := h.2.len
  subst hdv; subst hav
  obtain ⟨uo, uc, huv, hul⟩ := hu.len
  subst huv
  obtain ⟨vo, vc, hvv, -⟩ := hv.len
  subst hvv
  rw [bitsL_length] at hv ⊢
  have H0 := Lib.hid h; have HU := Lib.hid hu; have HV := Lib.hid hv; have HB := Lib.hid hb; have HVR := Lib.hid V
  have k1 := HVR.out.c0; have k2 := HVR.out.c1
  clear h hT hv hu hb V
  go_enter Tryz.func36, Tryz.ntmps36
  go_wp2_with fail
  go_loopw [7, 8] (fun o i wr => ∃ k : Nat, k ≤ words.length ∧ i = .int .i64 k ∧ IntS wr.heap o (bitsL ds.length (wordsM act (words.take k) m)) ∧ Var2 wr w.heap.size (.slice ao ds.length ac) (.slice bo act.length bc) 32 ∧ Below w.heap.size w wr) (fun _ i _ => words.length - (intOf i).toNat)
  case atStart =>
    refine ⟨0, Nat.zero_le _, rfl, ?_, HVR.out.kept (alloc_old _ _), HB.out.alloc (by simp) _⟩
    have ho := made_own (w.alloc (.cells #[.slice ao ds.length ac, .slice bo act.length bc] 32)) (w.heap.size + 1) 2 ds.length (.int .i64 0) (by simp) (by omega)
    rw [size_alloc_w] at ho
    have ho2 : OwnI ((w.alloc (.cells #[.slice ao ds.length ac, .slice bo act.length bc] 32)).alloc (.cells (madeCells #[.int .i64 0] ds.length) 2)) (w.heap.size + 1) (.slice (some ⟨w.heap.size + 1, 0, none⟩) ds.length ds.length) (bitsL ds.length (wordsM act (words.take 0) m)) := by
      unfold OwnI
      rw [bitsL_length, List.take_zero, wordsM, List.foldl_nil, bitsL_zero]
      simpa using ho
    exact ho2.ints
  case round =>
    obtain ⟨k, hk, rfl, ho, hV, hbl⟩ := hrel
    obtain ⟨pa, pc, rfl, -⟩ := ho.len
    rw [bitsL_length] at ho ⊢
    have c0 := hV.c0; have c1 := hV.c1
    by_cases hlt : k < words.length
    · obtain ⟨b1, o1, c1', uk, hv1, hc1, huk, -⟩ := (HU.out.same hbl.block).at (w := wr) k hlt
      simp only [Value.slice.injEq, true_and] at hv1
      obtain ⟨rfl, rfl⟩ := hv1
      have HS := Lib.hid (wordsM_take act words m k hlt)
      have HO := Lib.hid ho; have HV2 := Lib.hid hV; have HBL := Lib.hid hbl; have HUK := Lib.hid huk
      obtain ⟨qa, qc, rfl, -⟩ := huk.len
      have hki : (k : Int) < words.length := by omega
      clear ho hV hbl hk huk
      generalize words[k] = word at *
      go_wp2_with fail
      go_region_held3 (fun W => W.cell? ⟨w.heap.size, 0, none⟩ = some (.slice ao ds.length ac) ∧ W.cell? ⟨w.heap.size, 1, none⟩ = some (.slice bo act.length bc) ∧ W.cell? ⟨b1, o1 + k, none⟩ = some (.slice qa word.length qc) ∧ Below wr.heap.size wr W)
        (first | exact ⟨c0, c1, hc1, (Below.refl _ _).drew⟩ | exact heldC3 (by assumption) hx)
        (first | (go_at_call 54; refine (A.out _ _ word m _ (H0.out.same (HBL.out.trans ((heldC3X (by assumption)).mono HBL.out.size)).block) (HUK.out.same (heldC3X (by assumption)).block) (HV.out.same (HBL.out.trans ((heldC3X (by assumption)).mono HBL.out.size)).block)).mono ?_; rintro e W3 ⟨r, rfl, hr, hx⟩; obtain ⟨ra, rc, rfl, -⟩ := hr.len) | (go_at_call 56; refine (P.out _ _ _ _ _ (HO.out.same (heldC3X (by assumption)).block) hr).mono ?_; rintro e W4 ⟨r4, rfl, hr4, hx⟩; obtain ⟨sa, sn, sc, rfl⟩ := own_shape hr4))
      all_goals
        rename_i hh
        have HB4 := Lib.hid hh.2.2.2
        clear hh hx c0 c1 hc1
        go_wp2_with fail
        go_roundw
        case rel => exact ⟨k + 1, by omega, by go_num, by rw [HS.out]; exact hr4.ints, HV2.out.kept HB4.out.block, HBL.out.trans (HB4.out.mono HBL.out.size)⟩
        case measure => simp [intOf]; omega
    · obtain rfl : k = words.length := by omega
      rw [List.take_length] at ho
      go_wp2_with fail
      go_ret
      exact ⟨_, rfl, ho, hbl⟩
end
section
open Go.RowKit Go.Sort

def frontL (i : Int) (word : List Int) : List Int := if i = 0 then word else i :: word
theorem l03Front_c (i : Int) (v : Value) (word : List Int) (w : World) (h : IntS w.heap v word) (hl : word.length ≤ 1000) :
    Calls Tryz.prog 102 #[.int .i64 i, v] w fun e w' => ∃ r, e = .returned r ∧ OwnI w' w.heap.size r (frontL i word) ∧ Below w.heap.size w w' := by
  by_cases hi : i = 0
  · have t1 := (eqB hi).1
    rw [frontL, if_pos hi]
    have C := Lib.hid (l01Own_c v word w h (by omega))
    obtain ⟨vo, vc, hvv, -⟩ := h.len
    subst hvv
    clear hi h
    go_enter Tryz.func102, Tryz.ntmps102
    go_wp2_with (go_at_call 85; refine C.out.mono ?_; rintro e w1 ⟨r, rfl, hr, hb1⟩; obtain ⟨ra, rn, rc, rfl⟩ := own_shape hr)
    go_ret
    exact ⟨_, rfl, hr, hb1⟩
  · have t1 := (neB hi).1
    rw [frontL, if_neg hi]
    have ho : OwnI (w.alloc (.cells #[.int .i64 i] 2)) w.heap.size (.slice (some ⟨w.heap.size, 0, none⟩) 1 1) [i] := World.ownsRow_lit (e := 2) (size := 1) w #[.int .i64 i] 1 (Nat.le_refl _) (by unfold maxLen; omega) rfl
    have hx := h.same (alloc_old w (.cells #[.int .i64 i] 2))
    obtain ⟨vo, vc, hvv, -⟩ := h.len
    subst hvv
    have HO := Lib.hid ho; have HX := Lib.hid hx
    clear hi h ho hx
    have hs : w.heap.size ≤ (w.alloc (.cells #[.int .i64 i] 2)).heap.size := by simp
    go_enter Tryz.func102, Tryz.ntmps102
    go_wp2_with (at_builtin; refine append_ints rfl _ _ rfl w.heap.size _ _ [i] word HO.out rfl HX.out rfl ((Below.refl _ _).alloc (Nat.le_refl _) _) hs (by simp; omega) ?_; intro v' w' hown' hbl' _ _; obtain ⟨ra, rn, rc, rfl⟩ := own_shape hown')
    go_ret
    exact ⟨_, rfl, by simpa using hown', hbl'⟩
theorem l01ParityN_c (n k : Nat) (w : World) (hn : n ≤ 1000) (hk : k ≤ 1000) : Calls Tryz.prog 103 #[.int .i64 n, .int .i64 k] w fun e w' => e = .returned (.int .i64 (if n &&& k = k then 1 else 0)) ∧ w = w' := by
  by_cases h : k ≤ n
  · refine (l01Parity_c n k w (by omega) (by omega)).mono fun e w' ⟨he, hw⟩ => ⟨?_, hw⟩
    rw [he]
    refine ret_int ?_
    unfold parI par
    rw [i64_and_nat n k (by omega) (by omega)]
    by_cases e : n &&& k = k
    · rw [if_pos e, if_pos (by rw [e]; simp)]
    · rw [if_neg e, if_neg (by simp; omega)]
  · have e : ¬ n &&& k = k := fun e => h (by rw [← e]; exact Nat.and_le_left)
    rw [if_neg e]
    have t1 : decide ((k : Int) < 0) = false := by simp
    have t2 : decide ((n : Int) < (k : Int)) = true := by simp; omega
    have t3 : decide (n < k) = true := by simp; omega
    go_enter Tryz.func103, Tryz.ntmps103
    go_wp2
    go_ret
    exact ⟨rfl, rfl⟩
theorem put_one (x : List Int) : put x [] = [x] := rfl
/-- Sq^i times one admissible word that stays so. -/
def stays (i : Int) (word : List Int) : Prop := i = 0 ∨ word = [] ∨ 2 * word.getD 0 0 ≤ i
set_option maxRecDepth 100000 in
set_option maxHeartbeats 1000000 in
theorem l03LeftOne_c (i : Int) (v : Value) (word : List Int) (w : World) (h : IntSS w.heap v [word]) (hl : word.length ≤ 1000) (hs : stays i word) (hb : ∀ x ∈ word, -1000 ≤ x ∧ x ≤ 1000) :
    Calls Tryz.prog 81 #[.int .i64 i, v] w fun e w' => ∃ r, e = .returned r ∧ IntSS w'.heap r [frontL i word] ∧ Below w.heap.size w w' := by
  have F := Lib.hid (fun (u : Value) (W : World) (h : IntS W.heap u word) => l03Front_c i u word W h hl)
  have PT := Lib.hid (fun (x y : Value) (W : World) (h : IntSS W.heap x []) (hu : IntS W.heap y (frontL i word)) => l01Put_c x y [] (frontL i word) W h hu (by simp) (by unfold frontL; split; omega; simp; omega))
  simp only [put_one] at PT
  obtain ⟨ao, c, hv, -⟩ := h.len
  subst hv
  have H := Lib.hid h; clear h
  go_enter Tryz.func81, Tryz.ntmps81
  go_wp2_with fail
  go_loopw [5, 6] (fun o k wr => ∃ n : Nat, n ≤ 1 ∧ k = .int .i64 n ∧ IntSS wr.heap o (if n = 0 then [] else [frontL i word]) ∧ Below w.heap.size w wr) (fun _ k _ => 1 - (intOf k).toNat)
  case atStart => exact ⟨0, by omega, rfl, (ownII_empty (Nat.le_refl _)).ints, (Below.refl _ _).alloc (Nat.le_refl _) _⟩
  case round =>
    obtain ⟨n, hn, rfl, ho, hbl⟩ := hrel
    obtain ⟨va, vc, hv, -⟩ := ho.len
    subst hv
    rcases n with _ | n
    · simp only [if_true, List.length_nil] at ho ⊢
      obtain ⟨b1, o1, c1, u, hv1, hc1, hu, -⟩ := (H.out.same hbl.block).at (w := wr) 0 (by simp)
      simp only [Value.slice.injEq, true_and] at hv1
      obtain ⟨rfl, rfl⟩ := hv1
      simp only [List.getElem_cons_zero] at hu
      obtain ⟨ua, uc, rfl, -⟩ := hu.len
      have HU := Lib.hid hu; have HO := Lib.hid ho; have HBL := Lib.hid hbl
      have hci : Hid (0 < word.length → ∃ b o, ua = some ⟨b, o, none⟩ ∧ wr.cell? ⟨b, o, none⟩ = some (.int .i64 (word.getD 0 0))) := fun h0 => by
        obtain ⟨b, o, c, hv, hc, -⟩ := HU.out.at 0 h0
        simp only [Value.slice.injEq, true_and] at hv
        exact ⟨b, o, hv.1, by rw [Nat.add_zero] at hc; rw [hc]; simp [h0]⟩
      rw [Nat.add_zero] at hc1
      clear hu ho hbl
      have hlen1 : ([word] : List (List Int)).length = 1 := rfl
      have hl1 : decide ((0 : Int) < (([word] : List (List Int)).length : Int)) = true := by simp
      simp only [List.length_singleton] at hl1 H ⊢
      by_cases e1 : i = 0
      · have t1 := (eqB e1).1
        clear e1 hs hci hlen1
        go_wp2_with (first | (go_at_call 102; refine (F.out _ _ HU.out).mono ?_; rintro e w2 ⟨r2, rfl, hr2, hb2⟩; obtain ⟨ra, rn, rc, rfl⟩ := own_shape hr2; have HR2 := Lib.hid hr2.ints; have HB2 := Lib.hid hb2; clear hr2 hb2) | (go_at_call 101; refine (PT.out _ _ _ (HO.out.same HB2.out.block) HR2.out).mono ?_; rintro e w3 ⟨r3, rfl, hr3, hb3⟩; obtain ⟨sa, sc, rfl, -⟩ := hr3.len))
        go_roundw
        case rel => exact ⟨1, by omega, by go_num, by simpa using hr3, HBL.out.trans ((HB2.out.trans (hb3.mono HB2.out.size)).mono HBL.out.size)⟩
        case measure => simp [intOf]
      · have t1 := (neB e1).1
        by_cases e2 : word.length = 0
        · obtain rfl : word = [] := List.eq_nil_of_length_eq_zero e2
          clear e1 hs hci hlen1 e2
          go_wp2_with (first | (go_at_call 102; refine (F.out _ _ HU.out).mono ?_; rintro e w2 ⟨r2, rfl, hr2, hb2⟩; obtain ⟨ra, rn, rc, rfl⟩ := own_shape hr2; have HR2 := Lib.hid hr2.ints; have HB2 := Lib.hid hb2; clear hr2 hb2) | (go_at_call 101; refine (PT.out _ _ _ (HO.out.same HB2.out.block) HR2.out).mono ?_; rintro e w3 ⟨r3, rfl, hr3, hb3⟩; obtain ⟨sa, sc, rfl, -⟩ := hr3.len))
          go_roundw
          case rel => exact ⟨1, by omega, by go_num, by simpa using hr3, HBL.out.trans ((HB2.out.trans (hb3.mono HB2.out.size)).mono HBL.out.size)⟩
          case measure => simp [intOf]
        · have h0 : 0 < word.length := by omega
          obtain ⟨b, o, rfl, hcx⟩ := hci.out h0
          have hx := hb (word.getD 0 0) (by rw [getD_at' _ _ h0]; exact List.getElem_mem _)
          have h2 : 2 * word.getD 0 0 ≤ i := by
            rcases hs with h | h | h
            · exact absurd h e1
            · rw [h] at h0; simp at h0
            · exact h
          have t2 := (neB (show ((word.length : Nat) : Int) ≠ 0 by omega)).1
          have t3 : decide (2 * word.getD 0 0 ≤ i) = true := by simpa using h2
          have hli : (0 : Int) < word.length := by omega
          clear e1 hs hci hlen1 e2 h2
          generalize word.getD 0 0 = x at *
          go_wp2_with (first | (go_at_call 102; refine (F.out _ _ HU.out).mono ?_; rintro e w2 ⟨r2, rfl, hr2, hb2⟩; obtain ⟨ra, rn, rc, rfl⟩ := own_shape hr2; have HR2 := Lib.hid hr2.ints; have HB2 := Lib.hid hb2; clear hr2 hb2) | (go_at_call 101; refine (PT.out _ _ _ (HO.out.same HB2.out.block) HR2.out).mono ?_; rintro e w3 ⟨r3, rfl, hr3, hb3⟩; obtain ⟨sa, sc, rfl, -⟩ := hr3.len))
          go_roundw
          case rel => exact ⟨1, by omega, by go_num, by simpa using hr3, HBL.out.trans ((HB2.out.trans (hb3.mono HB2.out.size)).mono HBL.out.size)⟩
          case measure => simp [intOf]
    · obtain rfl : n = 0 := by omega
      simp only [if_neg (show ¬ (0 + 1 = 0) by omega), List.length_singleton] at ho ⊢
      go_wp2_with fail
      go_ret
      exact ⟨_, rfl, ho, hbl⟩
/-- The word of a relation's j. -/
def pairW (a b j : Nat) : List Int := if j = 0 then [((a + b : Nat) : Int)] else [((a + b - j : Nat) : Int), (j : Int)]
def relWL (a b : Nat) (l : List Nat) : List (List Int) := (l.map (pairW a b)).reverse
theorem pairW_front (a b j : Nat) : frontL ((a + b - j : Nat) : Int) (frontL (j : Int) []) = if a + b - j = 0 then frontL (j : Int) [] else pairW a b j := by
  unfold frontL pairW
  by_cases h1 : a + b - j = 0
  · simp [h1]
  · rw [if_neg (by omega), if_neg h1]
    by_cases h2 : j = 0
    · subst h2; simp
    · rw [if_neg (by omega), if_neg h2]
theorem pairW_lt (a b j k : Nat) (h : j < k) (hk : k ≤ a + b) : ltL (pairW a b k) (pairW a b j) = true := by
  unfold pairW
  rw [if_neg (show ¬ k = 0 by omega)]
  by_cases h2 : j = 0
  · rw [if_pos h2, ltL, if_pos (by omega)]
  · rw [if_neg h2, ltL, if_pos (by omega)]
theorem mrg_front (x : List Int) : ∀ (l : List (List Int)), (∀ y ∈ l, ltL x y = true) → mrg l [x] = x :: l
  | [], _ => by rw [mrg]
  | y :: l, h => by
    have h1 := h y (List.mem_cons_self ..)
    rw [mrg, if_neg (by rw [ltL_asymm _ _ h1]; decide), if_pos h1, mrg_nil]
theorem relWL_snoc (a b j : Nat) (l : List Nat) (h : ∀ i ∈ l, i < j) (hj : j ≤ a + b) : mrg (relWL a b l) [pairW a b j] = relWL a b (l ++ [j]) := by
  rw [mrg_front]
  · simp [relWL]
  · intro y hy
    simp only [relWL, List.mem_reverse, List.mem_map] at hy
    obtain ⟨i, hi, rfl⟩ := hy
    exact pairW_lt a b i j (h i hi) hj
theorem relWL_len (a b : Nat) (l : List Nat) : (relWL a b l).length = l.length := by simp [relWL]
theorem relWL_rows (a b : Nat) (l : List Nat) : ∀ r ∈ relWL a b l, r.length ≤ 2 := by
  intro r hr
  simp only [relWL, List.mem_reverse, List.mem_map] at hr
  obtain ⟨i, _, rfl⟩ := hr
  unfold pairW; split <;> simp
/-- What the words of a relation make of a basis element. -/
theorem wordsM_rel (act : List (List Int)) (a b v : Nat) (l : List Nat) : wordsM act (relWL a b l) (2 ^ v) = fltS act a b v l := by
  induction l with
  | nil => rfl
  | cons j l ih =>
    have e : relWL a b (j :: l) = relWL a b l ++ [pairW a b j] := by simp [relWL]
    have e2 : wordM act (pairW a b j) (2 ^ v) = actZ act ((a + b - j : Nat) : Int) (actZ act (j : Int) (2 ^ v)) := by
      unfold pairW
      by_cases h : j = 0
      · subst h; simp [wordM, actZ]
      · rw [if_neg h]; rfl
    rw [e, wordsM, List.foldl_append]
    show wordsM act (relWL a b l) (2 ^ v) ^^^ wordM act (pairW a b j) (2 ^ v) = _
    rw [ih, e2, fltS, Nat.xor_comm]
set_option maxRecDepth 100000 in
set_option maxHeartbeats 2000000 in
theorem l03LeftPair_c (a b : Nat) (v : Value) (w : World) (h : IntSS w.heap v [[(b : Int)]]) (ha1 : 1 ≤ a) (ha : a ≤ 40) (hb1 : a / 2 + 1 ≤ b) (hb2 : b ≤ 40) :
    Calls Tryz.prog 81 #[.int .i64 a, v] w fun e w' => ∃ r, e = .returned r ∧ IntSS w'.heap r (relWL a b (relL a b)) ∧ Below w.heap.size w w' := by
  obtain ⟨ao, c, hv, -⟩ := h.len
  subst hv
  simp only [List.length_singleton] at h ⊢
  have H := Lib.hid h; clear h
  go_enter Tryz.func81, Tryz.ntmps81
  go_wp2_with fail
  go_loopw [5, 6] (fun o k wr => ∃ n : Nat, n ≤ 1 ∧ k = .int .i64 n ∧ IntSS wr.heap o (if n = 0 then [] else relWL a b (relL a b)) ∧ Below w.heap.size w wr) (fun _ k _ => 1 - (intOf k).toNat)
  case atStart => exact ⟨0, by omega, rfl, (ownII_empty (Nat.le_refl _)).ints, (Below.refl _ _).alloc (Nat.le_refl _) _⟩
  case round =>
    obtain ⟨n, hn, rfl, ho, hbl⟩ := hrel
    obtain ⟨va, vc, hv, -⟩ := ho.len
    subst hv
    rcases n with _ | n
    · simp only [if_true, List.length_nil] at ho ⊢
      rw [show (((0 : Nat)) : Int) = 0 from rfl]
      obtain ⟨b1, o1, c1, u, hv1, hc1, hu, -⟩ := (H.out.same hbl.block).at (w := wr) 0 (by simp)
      simp only [Value.slice.injEq, List.length_singleton, true_and] at hv1
      obtain ⟨rfl, rfl⟩ := hv1
      simp only [List.getElem_cons_zero, Nat.add_zero] at hu hc1
      obtain ⟨ub, uo, uc, rfl, hd0, -⟩ := hu.at 0 (by simp)
      simp only [List.getElem_cons_zero, Nat.add_zero, List.length_singleton] at hd0 hu hc1
      have HRS : Hid (IntS wr.heap (.slice (dropA (some ⟨ub, uo, none⟩) uc 1) 0 (uc - 1)) []) := IntS.drop (xs := [(b : Int)]) hu rfl 1 (Nat.le_refl _)
      have HO := Lib.hid ho; have HBL := Lib.hid hbl
      have hub := World.block_lt_of_cell? _ _ hd0
      simp only at hub
      clear hu ho hbl
      have t1 := (neB (show ((a : Nat) : Int) ≠ 0 by omega)).1
      have t3 : decide (2 * (b : Int) ≤ (a : Int)) = false := by simp; omega
      have t4 : decide (2 * b ≤ a) = false := by simp; omega
      by_cases huc : uc = 1
      · subst huc
        rw [show dropA (some ⟨ub, uo, none⟩) 1 1 = some ⟨ub, uo, none⟩ from rfl] at HRS
        have e1 : Hid (IntSS (wr.alloc (.cells #[.slice (some ⟨ub, uo, none⟩) 0 0] 22)).drew.heap (.slice (some ⟨wr.heap.size, 0, none⟩) 1 1) [[]]) := (ref_one HRS.out (Nat.le_refl _)).ints (alloc_old wr _)
        have e2 : Hid (Below w.heap.size w (wr.alloc (.cells #[.slice (some ⟨ub, uo, none⟩) 0 0] 22)).drew) := below_drewN 1 (HBL.out.alloc HBL.out.size _)
        have e3 : Hid (IntSS (wr.alloc (.cells #[.slice (some ⟨ub, uo, none⟩) 0 0] 22)).drew.heap (.slice va 0 vc) []) := HO.out.same (alloc_old wr _)
        obtain ⟨W1, hW1⟩ : ∃ W1, W1 = (wr.alloc (.cells #[.slice (some ⟨ub, uo, none⟩) 0 0] 22)).drew := ⟨_, rfl⟩
        rw [← hW1] at e1 e2 e3
        go_wp2_with fail
        go_region
        rw [← hW1]
        clear hW1
        go_wp2_with fail
        go_loopw [5, 10] (fun o j wr' => ∃ k : Nat, k ≤ a / 2 + 1 ∧ j = .int .i64 k ∧ IntSS wr'.heap o (relWL a b ((List.range k).filter (relB a b))) ∧ Below W1.heap.size W1 wr') (fun _ j _ => 41 - (intOf j).toNat)
        case atStart => exact ⟨0, by omega, rfl, e3.out, Below.refl _ _⟩
        case round =>
          obtain ⟨k, hk, rfl, ho, hbl⟩ := hrel
          obtain ⟨va, vc, hv, -⟩ := ho.len
          subst hv
          have HO := Lib.hid ho; have HBL := Lib.hid hbl
          have hln : (relWL a b ((List.range k).filter (relB a b))).length ≤ 21 := by rw [relWL_len]; have := relL_filter_len a b k; omega
          clear ho hbl
          by_cases hka : k ≤ a / 2
          · have hka2 : 2 * k ≤ a := by omega
            have t0 : decide (2 * (k : Int) ≤ (a : Int)) = true := by simp; omega
            have t1' : decide (2 * k ≤ a) = true := by simpa using hka2
            have PA := Lib.hid (fun (W : World) => l01ParityN_c (b - k - 1) (a - 2 * k) W (by omega) (by omega))
            rw [show ((b - k - 1 : Nat) : Int) = (b : Int) - k - 1 by omega, show ((a - 2 * k : Nat) : Int) = (a : Int) - 2 * k by omega] at PA
            cases hr : relB a b k
            · have h2 : ¬ ((b - k - 1) &&& (a - 2 * k) = a - 2 * k) := by simpa [relB, hka2] using hr
              rw [if_neg h2] at PA
              have HS : Hid ((List.range (k + 1)).filter (relB a b) = (List.range k).filter (relB a b)) := by show _ = _; rw [List.range_succ, List.filter_append]; simp [hr]
              clear hr h2
              go_wp2_with (go_at_call 103; refine (PA.out _).mono ?_; rintro e W2 ⟨rfl, rfl⟩)
              go_roundw
              case rel => exact ⟨k + 1, by omega, by go_num, by rw [HS.out]; exact HO.out, HBL.out⟩
              case measure => simp [intOf]; omega
            · have h2 : (b - k - 1) &&& (a - 2 * k) = a - 2 * k := by simpa [relB, hka2] using hr
              rw [if_pos h2] at PA
              have L1 := Lib.hid (fun (x : Value) (W : World) (h : IntSS W.heap x [[]]) => l03LeftOne_c (k : Int) x [] W h (by simp) (.inr (.inl rfl)) (by simp))
              have L2 := Lib.hid (fun (x : Value) (W : World) (h : IntSS W.heap x [frontL (k : Int) []]) => l03LeftOne_c ((a + b - k : Nat) : Int) x (frontL (k : Int) []) W h (by unfold frontL; split <;> simp) (by unfold frontL stays; split; exact .inr (.inl rfl); right; right; simp; omega) (by unfold frontL; split; simp; simp; omega))
              rw [pairW_front, if_neg (by omega), show ((a + b - k : Nat) : Int) = (a : Int) + b - k by omega] at L2
              have SM := Lib.hid (fun (x y : Value) (W : World) (h1 : IntSS W.heap x (relWL a b ((List.range k).filter (relB a b)))) (h2 : IntSS W.heap y [pairW a b k]) => l01Sum_c x y _ _ W h1 h2 (by rw [relWL_len]; have := relL_filter_len a b k; simp; omega) (fun r hr => by have := relWL_rows a b _ r hr; omega) (fun r hr => by rw [List.mem_singleton] at hr; rw [hr]; unfold pairW; split <;> simp))
              rw [relWL_snoc a b k _ (fun i hi => by simp only [List.mem_filter, List.mem_range] at hi; exact hi.1) (by omega), show (List.range k).filter (relB a b) ++ [k] = (List.range (k + 1)).filter (relB a b) by rw [List.range_succ, List.filter_append]; simp [hr]] at SM
              clear hr h2
              have hss := e1.out.same HBL.out.block
              have HSS := Lib.hid hss; clear hss
              go_wp2_with (first | (go_at_call 103; refine (PA.out _).mono ?_; rintro e W2 ⟨rfl, rfl⟩) | ((go_at_call 81; with_reducible refine (L1.out _ _ HSS.out).mono ?_); rintro e W3 ⟨r3, rfl, hr3, hb3⟩; obtain ⟨pa3, pc3, rfl, -⟩ := hr3.len; simp only [List.length_singleton] at hr3; have H3 := Lib.hid hr3; have B3 := Lib.hid hb3; clear hr3 hb3) | ((go_at_call 81; with_reducible refine (L2.out _ _ H3.out).mono ?_); rintro e W4 ⟨r4, rfl, hr4, hb4⟩; obtain ⟨pa4, pc4, rfl, -⟩ := hr4.len; simp only [List.length_singleton] at hr4; have H4 := Lib.hid hr4; have B4 := Lib.hid (B3.out.trans (hb4.mono B3.out.size)); clear hr4 hb4) | (go_at_call 60; refine (SM.out _ _ _ (HO.out.same B4.out.block) H4.out).mono ?_; rintro e W5 ⟨r5, rfl, ⟨us5, hr5⟩, hb5⟩; obtain ⟨pa5, pn5, pc5, rfl⟩ := own_shape hr5.row))
              go_roundw
              case rel => exact ⟨k + 1, by omega, by go_num, hr5.ints, HBL.out.trans ((B4.out.trans (hb5.mono B4.out.size)).mono HBL.out.size)⟩
              case measure => simp [intOf]; omega
          · obtain rfl : k = a / 2 + 1 := by omega
            have HE : Hid (relL a b = (List.range (a / 2 + 1)).filter (relB a b)) := by
              rcases relB_over a b (a / 2 + 1) (by omega) with h | h
              · exact h
              · exfalso; omega
            have t0 : decide (2 * ((a / 2 + 1 : Nat) : Int) ≤ (a : Int)) = false := by simp; omega
            generalize a / 2 + 1 = q at *
            go_wp2_with fail
            go_roundw
            case rel => exact ⟨1, by omega, by go_num, by rw [if_neg (by omega), HE.out]; exact HO.out, e2.out.trans (HBL.out.mono e2.out.size)⟩
            case measure => simp [intOf]
      · have hdr : dropA (some ⟨ub, uo, none⟩) uc 1 = some ⟨ub, uo + 1, none⟩ := by simp [dropA, huc, Addr.add]
        rw [hdr] at HRS
        clear hdr
        have e1 : Hid (IntSS (wr.alloc (.cells #[.slice (some ⟨ub, uo + 1, none⟩) 0 (uc - 1)] 22)).drew.heap (.slice (some ⟨wr.heap.size, 0, none⟩) 1 1) [[]]) := (ref_one HRS.out (Nat.le_refl _)).ints (alloc_old wr _)
        have e2 : Hid (Below w.heap.size w (wr.alloc (.cells #[.slice (some ⟨ub, uo + 1, none⟩) 0 (uc - 1)] 22)).drew) := below_drewN 1 (HBL.out.alloc HBL.out.size _)
        have e3 : Hid (IntSS (wr.alloc (.cells #[.slice (some ⟨ub, uo + 1, none⟩) 0 (uc - 1)] 22)).drew.heap (.slice va 0 vc) []) := HO.out.same (alloc_old wr _)
        obtain ⟨W1, hW1⟩ : ∃ W1, W1 = (wr.alloc (.cells #[.slice (some ⟨ub, uo + 1, none⟩) 0 (uc - 1)] 22)).drew := ⟨_, rfl⟩
        rw [← hW1] at e1 e2 e3
        go_wp2_with fail
        go_region
        rw [← hW1]
        clear hW1
        go_wp2_with fail
        go_loopw [5, 10] (fun o j wr' => ∃ k : Nat, k ≤ a / 2 + 1 ∧ j = .int .i64 k ∧ IntSS wr'.heap o (relWL a b ((List.range k).filter (relB a b))) ∧ Below W1.heap.size W1 wr') (fun _ j _ => 41 - (intOf j).toNat)
        case atStart => exact ⟨0, by omega, rfl, e3.out, Below.refl _ _⟩
        case round =>
          obtain ⟨k, hk, rfl, ho, hbl⟩ := hrel
          obtain ⟨va, vc, hv, -⟩ := ho.len
          subst hv
          have HO := Lib.hid ho; have HBL := Lib.hid hbl
          have hln : (relWL a b ((List.range k).filter (relB a b))).length ≤ 21 := by rw [relWL_len]; have := relL_filter_len a b k; omega
          clear ho hbl
          by_cases hka : k ≤ a / 2
          · have hka2 : 2 * k ≤ a := by omega
            have t0 : decide (2 * (k : Int) ≤ (a : Int)) = true := by simp; omega
            have t1' : decide (2 * k ≤ a) = true := by simpa using hka2
            have PA := Lib.hid (fun (W : World) => l01ParityN_c (b - k - 1) (a - 2 * k) W (by omega) (by omega))
            rw [show ((b - k - 1 : Nat) : Int) = (b : Int) - k - 1 by omega, show ((a - 2 * k : Nat) : Int) = (a : Int) - 2 * k by omega] at PA
            cases hr : relB a b k
            · have h2 : ¬ ((b - k - 1) &&& (a - 2 * k) = a - 2 * k) := by simpa [relB, hka2] using hr
              rw [if_neg h2] at PA
              have HS : Hid ((List.range (k + 1)).filter (relB a b) = (List.range k).filter (relB a b)) := by show _ = _; rw [List.range_succ, List.filter_append]; simp [hr]
              clear hr h2
              go_wp2_with (go_at_call 103; refine (PA.out _).mono ?_; rintro e W2 ⟨rfl, rfl⟩)
              go_roundw
              case rel => exact ⟨k + 1, by omega, by go_num, by rw [HS.out]; exact HO.out, HBL.out⟩
              case measure => simp [intOf]; omega
            · have h2 : (b - k - 1) &&& (a - 2 * k) = a - 2 * k := by simpa [relB, hka2] using hr
              rw [if_pos h2] at PA
              have L1 := Lib.hid (fun (x : Value) (W : World) (h : IntSS W.heap x [[]]) => l03LeftOne_c (k : Int) x [] W h (by simp) (.inr (.inl rfl)) (by simp))
              have L2 := Lib.hid (fun (x : Value) (W : World) (h : IntSS W.heap x [frontL (k : Int) []]) => l03LeftOne_c ((a + b - k : Nat) : Int) x (frontL (k : Int) []) W h (by unfold frontL; split <;> simp) (by unfold frontL stays; split; exact .inr (.inl rfl); right; right; simp; omega) (by unfold frontL; split; simp; simp; omega))
              rw [pairW_front, if_neg (by omega), show ((a + b - k : Nat) : Int) = (a : Int) + b - k by omega] at L2
              have SM := Lib.hid (fun (x y : Value) (W : World) (h1 : IntSS W.heap x (relWL a b ((List.range k).filter (relB a b)))) (h2 : IntSS W.heap y [pairW a b k]) => l01Sum_c x y _ _ W h1 h2 (by rw [relWL_len]; have := relL_filter_len a b k; simp; omega) (fun r hr => by have := relWL_rows a b _ r hr; omega) (fun r hr => by rw [List.mem_singleton] at hr; rw [hr]; unfold pairW; split <;> simp))
              rw [relWL_snoc a b k _ (fun i hi => by simp only [List.mem_filter, List.mem_range] at hi; exact hi.1) (by omega), show (List.range k).filter (relB a b) ++ [k] = (List.range (k + 1)).filter (relB a b) by rw [List.range_succ, List.filter_append]; simp [hr]] at SM
              clear hr h2
              have hss := e1.out.same HBL.out.block
              have HSS := Lib.hid hss; clear hss
              go_wp2_with (first | (go_at_call 103; refine (PA.out _).mono ?_; rintro e W2 ⟨rfl, rfl⟩) | ((go_at_call 81; with_reducible refine (L1.out _ _ HSS.out).mono ?_); rintro e W3 ⟨r3, rfl, hr3, hb3⟩; obtain ⟨pa3, pc3, rfl, -⟩ := hr3.len; simp only [List.length_singleton] at hr3; have H3 := Lib.hid hr3; have B3 := Lib.hid hb3; clear hr3 hb3) | ((go_at_call 81; with_reducible refine (L2.out _ _ H3.out).mono ?_); rintro e W4 ⟨r4, rfl, hr4, hb4⟩; obtain ⟨pa4, pc4, rfl, -⟩ := hr4.len; simp only [List.length_singleton] at hr4; have H4 := Lib.hid hr4; have B4 := Lib.hid (B3.out.trans (hb4.mono B3.out.size)); clear hr4 hb4) | (go_at_call 60; refine (SM.out _ _ _ (HO.out.same B4.out.block) H4.out).mono ?_; rintro e W5 ⟨r5, rfl, ⟨us5, hr5⟩, hb5⟩; obtain ⟨pa5, pn5, pc5, rfl⟩ := own_shape hr5.row))
              go_roundw
              case rel => exact ⟨k + 1, by omega, by go_num, hr5.ints, HBL.out.trans ((B4.out.trans (hb5.mono B4.out.size)).mono HBL.out.size)⟩
              case measure => simp [intOf]; omega
          · obtain rfl : k = a / 2 + 1 := by omega
            have HE : Hid (relL a b = (List.range (a / 2 + 1)).filter (relB a b)) := by
              rcases relB_over a b (a / 2 + 1) (by omega) with h | h
              · exact h
              · exfalso; omega
            have t0 : decide (2 * ((a / 2 + 1 : Nat) : Int) ≤ (a : Int)) = false := by simp; omega
            generalize a / 2 + 1 = q at *
            go_wp2_with fail
            go_roundw
            case rel => exact ⟨1, by omega, by go_num, by rw [if_neg (by omega), HE.out]; exact HO.out, e2.out.trans (HBL.out.mono e2.out.size)⟩
            case measure => simp [intOf]
    · obtain rfl : n = 0 := by omega
      simp only [if_neg (show ¬ (0 + 1 = 0) by omega)] at ho ⊢
      go_wp2_with fail
      go_ret
      exact ⟨_, rfl, ho, hbl⟩
set_option maxRecDepth 100000 in
set_option maxHeartbeats 1000000 in
theorem l03FormPair_c (a b : Nat) (v : Value) (w : World) (h : IntS w.heap v [(a : Int), (b : Int)]) (ha1 : 1 ≤ a) (ha : a ≤ 40) (hb1 : a / 2 + 1 ≤ b) (hb2 : b ≤ 40) :
    Calls Tryz.prog 51 #[v] w fun e w' => ∃ r, e = .returned r ∧ IntSS w'.heap r (relWL a b (relL a b)) ∧ Below w.heap.size w w' := by
  have L1 := Lib.hid (fun (x : Value) (W : World) (h : IntSS W.heap x [[]]) => l03LeftOne_c (b : Int) x [] W h (by simp) (.inr (.inl rfl)) (by simp))
  rw [show frontL (b : Int) [] = [(b : Int)] by rw [frontL, if_neg (by omega)]] at L1
  have L2 := Lib.hid (fun (x : Value) (W : World) (h : IntSS W.heap x [[(b : Int)]]) => l03LeftPair_c a b x W h ha1 ha hb1 hb2)
  obtain ⟨b1, o1, c, rfl, hc0, -⟩ := h.at 0 (by simp)
  obtain ⟨b2, o2, c2, hv2, hc1, -⟩ := h.at 1 (by simp)
  simp only [Value.slice.injEq, Option.some.injEq, Addr.mk.injEq, and_true, true_and] at hv2
  obtain ⟨⟨rfl, rfl⟩, -⟩ := hv2
  simp only [List.getElem_cons_zero, List.getElem_cons_succ, Nat.add_zero, List.length_cons, List.length_nil] at hc0 hc1 ⊢
  have HC0 := Lib.hid hc0; have HC1 := Lib.hid hc1
  clear h hc0 hc1
  have h0 : IntS (w.alloc (.cells #[] 2)).heap (.slice (some ⟨w.heap.size, 0, none⟩) 0 0) [] := (ownI_empty (Nat.le_refl _)).ints
  have h1 : Hid (IntSS ((w.alloc (.cells #[] 2)).alloc (.cells #[.slice (some ⟨w.heap.size, 0, none⟩) 0 0] 22)).heap (.slice (some ⟨w.heap.size + 1, 0, none⟩) 1 1) [[]]) := by
    have := (ref_one h0 (Nat.le_refl _)).ints (alloc_old (w.alloc (.cells #[] 2)) (.cells #[.slice (some ⟨w.heap.size, 0, none⟩) 0 0] 22))
    rw [size_alloc_w] at this
    exact this
  have hB : Hid (Below w.heap.size w ((w.alloc (.cells #[] 2)).alloc (.cells #[.slice (some ⟨w.heap.size, 0, none⟩) 0 0] 22))) := ((Below.refl _ _).alloc (Nat.le_refl _) _).alloc (by simp) _
  clear h0
  go_enter Tryz.func51, Tryz.ntmps51
  go_wp2_with fail
  go_loopw [3, 4] (fun o i wr => ∃ (x : Int), i = .int .i64 x ∧ (x = 1 ∧ IntSS wr.heap o [[]] ∨ x = 0 ∧ IntSS wr.heap o [[(b : Int)]] ∨ x = -1 ∧ IntSS wr.heap o (relWL a b (relL a b))) ∧ Below w.heap.size w wr) (fun _ i _ => (intOf i + 1).toNat)
  case atStart => exact ⟨1, rfl, .inl ⟨rfl, h1.out⟩, hB.out⟩
  case round =>
    obtain ⟨x, rfl, hx, hbl⟩ := hrel
    have c0 := (hbl.cell (World.block_lt_of_cell? _ _ HC0.out)).trans HC0.out
    have c1 := (hbl.cell (World.block_lt_of_cell? _ _ HC1.out)).trans HC1.out
    have HBL := Lib.hid hbl
    clear hbl
    rcases hx with ⟨rfl, ho⟩ | ⟨rfl, ho⟩ | ⟨rfl, ho⟩
    · obtain ⟨pa, pc, rfl, -⟩ := ho.len
      have HO := Lib.hid ho; clear ho
      go_wp2_with (go_at_call 81; refine (L1.out _ _ HO.out).mono ?_; rintro e W3 ⟨r3, rfl, hr3, hb3⟩; obtain ⟨pa3, pc3, rfl, -⟩ := hr3.len)
      go_roundw
      case rel => exact ⟨0, rfl, .inr (.inl ⟨rfl, hr3⟩), HBL.out.trans (hb3.mono HBL.out.size)⟩
      case measure => simp [intOf]
    · obtain ⟨pa, pc, rfl, -⟩ := ho.len
      have HO := Lib.hid ho; clear ho
      go_wp2_with (go_at_call 81; refine (L2.out _ _ HO.out).mono ?_; rintro e W3 ⟨r3, rfl, hr3, hb3⟩; obtain ⟨pa3, pc3, rfl, -⟩ := hr3.len)
      go_roundw
      case rel => exact ⟨-1, rfl, .inr (.inr ⟨rfl, hr3⟩), HBL.out.trans (hb3.mono HBL.out.size)⟩
      case measure => simp [intOf]
    · obtain ⟨pa, pc, rfl, -⟩ := ho.len
      have t0 : decide ((0 : Int) ≤ -1) = false := by decide
      go_wp2_with fail
      go_ret
      exact ⟨_, rfl, ho, HBL.out⟩
end
section
open Go.RowKit Go.Sort

theorem fV_far {ds : List Int} {act : List (List Int)} (h : modT ds act = true) (a b : Nat) (hab : ds.getD (ds.length - 1) 0 - ds.getD 0 0 < a + b) : fV ds act a b = none :=
  fV_none ds act a b fun v hv => by rw [fVi, if_pos (flt_far h a b v hv hab)]
theorem fltL_empty (act : List (List Int)) : fltL [] act = [] := fltL_none [] act fun a _ => by
  unfold fAi
  split
  · exact fB_none [] act a fun b _ => by
      unfold fBi
      split
      · exact fV_none [] act a b fun v hv => by simp at hv
      · rfl
  · rfl
theorem same_iff {ds : List Int} {act : List (List Int)} (h : modT ds act = true) (a b v : Nat) (hv : v < ds.length) :
    decide (bitsL ds.length (wordM act [(a : Int), (b : Int)] (2 ^ v)) = bitsL ds.length (wordsM act (relWL a b (relL a b)) (2 ^ v))) = decide (flt act a b v = 0) := by
  rw [wordsM_rel]
  have e : wordM act [(a : Int), (b : Int)] (2 ^ v) = actZ act a (actZ act b (2 ^ v)) := rfl
  rw [e]
  have h1 : actZ act a (actZ act b (2 ^ v)) < 2 ^ ds.length := actZ_lt h _ _ (actZ_lt h _ _ (Nat.pow_lt_pow_right (by omega) hv))
  have h2 := fltS_lt h a b v hv (relL a b)
  unfold flt
  generalize actZ act a (actZ act b (2 ^ v)) = X at *
  generalize fltS act a b v (relL a b) = Y at *
  by_cases e2 : X = Y
  · subst e2; simp
  · have e3 : bitsL ds.length X ≠ bitsL ds.length Y := fun hh => e2 (bitsL_inj h1 h2 hh)
    have e4 : X ^^^ Y ≠ 0 := fun hh => e2 (by have := congrArg (· ^^^ Y) hh; simpa [Nat.xor_assoc] using this)
    simp [e3, e4]
set_option maxRecDepth 100000 in
set_option maxHeartbeats 2000000 in
theorem l11Fault_c (d a : Value) (ds : List Int) (act : List (List Int)) (w : World) (h : ModS w.heap d a ds act) (hT : modT ds act = true) :
    Calls Tryz.prog 31 #[.agg #[d, a]] w fun e w' => ∃ r, e = .returned r ∧ OwnI w' w.heap.size r (fltL ds act) ∧ Below w.heap.size w w' := by
  have hb : Below w.heap.size w (w.alloc (.cells #[d, a] 32)) := (Below.refl _ _).alloc (Nat.le_refl _) _
  have V := Var2.new w d a 32
  have hl := modT_len hT
  have A1 := Lib.hid (fun (u v : Value) (x y : Nat) (m : Nat) (W : World) (h : ModS W.heap d a ds act) (hu : IntS W.heap u [(x : Int), (y : Int)]) (hv : IntS W.heap v (bitsL ds.length m)) => l11Word_c d a v u ds act [(x : Int), (y : Int)] m W h hT hu hv)
  have A2 := Lib.hid (fun (u v : Value) (words : List (List Int)) (m : Nat) (W : World) (h : ModS W.heap d a ds act) (hu : IntSS W.heap u words) (hv : IntS W.heap v (bitsL ds.length m)) => l11Words_c d a v u ds act words m W h hT hu hv)
  obtain ⟨ao, ac, hdv, hm⟩ := h.1.len
  obtain ⟨bo, bc, hav, hm2⟩ := h.2.len
  subst hdv; subst hav
  have H0 := Lib.hid h; have HB := Lib.hid hb; have HVR := Lib.hid V; have HT := Lib.hid hT
  have k1 := HVR.out.c0; have k2 := HVR.out.c1
  clear h hT hb V
  by_cases h0 : ds.length = 0
  · have e : ds = [] := List.eq_nil_of_length_eq_zero h0
    subst e
    rw [fltL_empty]
    clear A1 A2
    simp only [List.length_nil] at k1 k2 HB H0 HVR ⊢
    go_enter Tryz.func31, Tryz.ntmps31
    go_wp2_with fail
    go_ret
    exact ⟨_, rfl, OwnI.nil _ _, HB.out⟩
  · obtain ⟨b1, o1, c1, hv1, hc1, -⟩ := H0.out.1.at (ds.length - 1) (by omega)
    obtain ⟨b2, o2, c2, hv2, hc2, -⟩ := H0.out.1.at 0 (by omega)
    simp only [Value.slice.injEq, true_and] at hv1 hv2
    obtain ⟨rfl, rfl⟩ := hv1
    obtain ⟨hv2, -⟩ := hv2
    simp only [Option.some.injEq, Addr.mk.injEq, and_true] at hv2
    obtain ⟨rfl, rfl⟩ := hv2
    rw [← getD_at' _ _ (by omega)] at hc1 hc2
    have s1 := modT_stem HT.out (ds.length - 1)
    have s0 := modT_stem HT.out 0
    have sp := modT_sorted HT.out (ds.length - 1) 0 (Nat.zero_le _) (by omega)
    have FAR := Lib.hid (fun x y => fV_far HT.out x y)
    obtain ⟨span, hspan⟩ : ∃ span : Nat, ds.getD (ds.length - 1) 0 - ds.getD 0 0 = span := ⟨(ds.getD (ds.length - 1) 0 - ds.getD 0 0).toNat, by omega⟩
    rw [hspan] at FAR
    have hs20 : span ≤ 20 := by omega
    have t0 := (neB (show ((ds.length : Nat) : Int) ≠ 0 by omega)).1
    have w1 : IntKind.i64.wrap ((ds.length : Int) - 1) = (ds.length : Int) - 1 := IntWalk.i64_in _ (by omega)
    have w2 : (0 : Int) ≤ (ds.length : Int) - 1 := by omega
    have w3 : ((ds.length : Int) - 1).toNat = ds.length - 1 := by omega
    have w4 : (ds.length : Int) - 1 < ds.length := by omega
    have hsp2 : ds.getD (ds.length - 1) 0 = ds.getD 0 0 + span := by omega
    rw [hsp2] at hc1
    clear hsp2 hspan
    generalize ds.getD 0 0 = X at *
    have w5 : IntKind.i64.wrap (X + span - X) = (span : Int) := by rw [IntWalk.i64_in _ (by omega)]; omega
    have hli : (0 : Int) < ds.length := by omega
    rw [Nat.add_zero] at hc2
    have hbl := World.block_lt_of_cell? _ _ hc2
    simp only at hbl
    go_enter Tryz.func31, Tryz.ntmps31
    go_wp2_with fail
    go_quiet (fail)
    clear s1 s0 sp w1 w2 w3 w4 w5 hc1 hc2
    go_wp2_with fail
    clear h0 HVR
    go_loopw [5] (fun i wr => ∃ a : Nat, 1 ≤ a ∧ a ≤ 21 ∧ i = .int .i64 a ∧ Hid (∀ i, i < a → fAi ds act i = none) ∧ Var2 wr w.heap.size (.slice (some ⟨b1, o1, none⟩) ds.length ac) (.slice bo act.length bc) 32 ∧ Below w.heap.size w wr) (fun i _ => 21 - (intOf i).toNat)
    case atStart => exact ⟨1, by omega, by omega, rfl, fun i hi => by rw [fAi, if_neg (by omega)], Var2.new _ _ _ _, below_drewN _ HB.out⟩
    case round =>
      obtain ⟨a, ha1, ha2, rfl, HA, hV, hbl⟩ := hrel
      by_cases ha : a ≤ span
      · have ta : decide ((a : Int) ≤ (span : Int)) = true := by simp; omega
        have ta2 : decide (a ≤ span) = true := by simpa using ha
        have hV1 := Lib.hid hV; have HBL := Lib.hid hbl; clear hV hbl
        go_wp2_with fail
        obtain ⟨wo, hwo⟩ : ∃ wo : World, wo = wr := ⟨_, rfl⟩
        go_loopw [6] (fun i wr => ∃ b : Nat, a / 2 + 1 ≤ b ∧ b ≤ 21 ∧ i = .int .i64 b ∧ Hid (∀ i, i < b → fBi ds act a i = none) ∧ Var2 wr w.heap.size (.slice (some ⟨b1, o1, none⟩) ds.length ac) (.slice bo act.length bc) 32 ∧ Below w.heap.size w wr) (fun i _ => 21 - (intOf i).toNat)
        case atStart => exact ⟨a / 2 + 1, by omega, by omega, by go_num, fun i hi => by rw [fBi, if_neg (by omega)], hV1.out, HBL.out⟩
        case round =>
          clear hwo HBL hV1
          obtain ⟨b, hb1, hb2, rfl, HBB, hV, hbl⟩ := hrel
          by_cases hb : a + b ≤ span
          · have tb : decide ((a : Int) + b ≤ span) = true := by simp; omega
            have tb2 : decide (a + b ≤ span) = true := by simpa using hb
            have L := Lib.hid (l03FormPair_c a b _ _ (ownI_lit2 (w := wr) (Nat.le_refl _) (a : Int) (b : Int)).ints ha1 (by omega) hb1 (by omega))
            have hBa : Hid (Below wr.heap.size wr (wr.alloc (.cells #[.int .i64 (a : Int), .int .i64 (b : Int)] 2))) := (Below.refl _ _).alloc (Nat.le_refl _) _
            have HV1 := Lib.hid hV; have HBL := Lib.hid hbl; clear hV hbl
            go_wp2_with (go_at_call 51; refine L.out.mono ?_; rintro e W2 ⟨rw2, rfl, hrw, hb2'⟩; obtain ⟨wa, wc, rfl, -⟩ := hrw.len; have HWD := Lib.hid hrw; have BU0 := Lib.hid (hBa.out.trans (hb2'.mono hBa.out.size)); have HV2 := Lib.hid (HV1.out.kept BU0.out.block); have HBL2 := Lib.hid (HBL.out.trans (BU0.out.mono HBL.out.size)); clear hrw hb2')
            clear HV1 HBL
            obtain ⟨wn, hwn⟩ : ∃ wn, wn = (relWL a b (relL a b)).length := ⟨_, rfl⟩
            rw [← hwn] at HWD ⊢
            have HWN := Lib.hid hwn; clear hwn
            go_loopw [8] (fun i wr => ∃ v : Nat, v ≤ ds.length ∧ i = .int .i64 v ∧ Hid (∀ i, i < v → fVi act a b i = none) ∧ Var2 wr w.heap.size (.slice (some ⟨b1, o1, none⟩) ds.length ac) (.slice bo act.length bc) 32 ∧ Below W2.heap.size W2 wr) (fun i _ => ds.length - (intOf i).toNat)
            case atStart => exact ⟨0, Nat.zero_le _, rfl, fun i hi => by omega, HV2.out, Below.refl _ _⟩
            case round =>
              clear HV2
              obtain ⟨v, hv, rfl, HV, hVr, hbl⟩ := hrel
              by_cases hvl : v < ds.length
              · have tv : decide ((v : Int) < (ds.length : Int)) = true := by simp; omega
                have UN := Lib.hid (l11Unit_c ds.length v wr hl hvl)
                have HVV := Lib.hid hVr; have HBR := Lib.hid hbl; clear hVr hbl
                have SM0 := fun (x y : Value) (W : World) (h1 : IntS W.heap x (bitsL ds.length (wordM act [(a : Int), (b : Int)] (2 ^ v)))) (h2 : IntS W.heap y (bitsL ds.length (wordsM act (relWL a b (relL a b)) (2 ^ v)))) => (l01Same_c x y _ _ W h1 h2).mono fun e w' ⟨he, n, hn⟩ => (⟨he, by rw [hn]; exact below_drewN n (Below.refl _ _)⟩ : e = _ ∧ Below W.heap.size W w')
                rw [same_iff HT.out a b v hvl] at SM0
                by_cases hz : flt act a b v = 0
                · have HVS : Hid (∀ i, i < v + 1 → fVi act a b i = none) := fun i hi => by
                    by_cases e : i = v
                    · subst e; rw [fVi, if_pos hz]
                    · exact HV.out i (by omega)
                  rw [show decide (flt act a b v = 0) = true by simpa using hz] at SM0
                  have SM := Lib.hid SM0
                  clear hz SM0
                  go_wp2_with (go_at_call 52; refine UN.out.mono ?_; rintro e W3 ⟨ru, rfl, hru, hb3⟩; obtain ⟨ua, un, uc, rfl⟩ := own_shape hru; have HUN := Lib.hid hru.ints; have BU := Lib.hid (HBR.out.trans (hb3.mono HBR.out.size)); have HV3 := Lib.hid (HVV.out.kept hb3.block); have BW3 := Lib.hid (HBL2.out.trans (BU.out.mono HBL2.out.size)); clear hru hb3)
                  have c0 := HV3.out.c0; have c1 := HV3.out.c1
                  have hx0 : Below W3.heap.size W3 (W3.alloc (.cells #[.int .i64 (a : Int), .int .i64 (b : Int)] 2)).drew := below_drewN 1 ((Below.refl _ _).alloc (Nat.le_refl _) _)
                  have X1 := Lib.hid (A1.out (.slice (some ⟨W3.heap.size, 0, none⟩) 2 2) _ a b (2 ^ v) (W3.alloc (.cells #[.int .i64 (a : Int), .int .i64 (b : Int)] 2)).drew (H0.out.same (BW3.out.trans (hx0.mono BW3.out.size)).block) (ownI_lit2 (w := W3) (Nat.le_refl _) (a : Int) (b : Int)).ints (HUN.out.same hx0.block))
                  have X2 := Lib.hid (fun (W : World) (h1 : ModS W.heap _ _ ds act) (h2 : IntSS W.heap (.slice wa wn wc) (relWL a b (relL a b))) (h3 : IntS W.heap (.slice ua un uc) (bitsL ds.length (2 ^ v))) => A2.out (.slice wa wn wc) (.slice ua un uc) (relWL a b (relL a b)) (2 ^ v) W h1 h2 h3)
                  clear hx0
                  generalize wordM act [(a : Int), (b : Int)] (2 ^ v) = M1 at *
                  generalize wordsM act (relWL a b (relL a b)) (2 ^ v) = M2 at *
                  go_region_held3 (fun W => W.cell? ⟨w.heap.size, 0, none⟩ = some (.slice (some ⟨b1, o1, none⟩) ds.length ac) ∧ W.cell? ⟨w.heap.size, 1, none⟩ = some (.slice bo act.length bc) ∧ Below W3.heap.size W3 W)
                    (first | exact ⟨c0, c1, (Below.refl _ _).drew⟩ | exact ⟨Go.Lib.cell?_alloc_some _ c0, Go.Lib.cell?_alloc_some _ c1, below_drewN 1 ((Below.refl _ _).alloc (Nat.le_refl _) _)⟩ | exact heldC2 (by assumption) hx6 | exact heldC2 (by assumption) hx5 | exact heldC2 (by assumption) hx4)
                    (first | (go_at_call 54; refine X1.out.mono ?_; rintro e W4 ⟨r4, rfl, hr4, hx4⟩; obtain ⟨pa4, pc4, rfl, -⟩ := hr4.len) | (go_at_call 36; refine (X2.out _ (H0.out.same (BW3.out.trans ((heldC2X (by assumption)).mono BW3.out.size)).block) (HWD.out.same (BU.out.trans ((heldC2X (by assumption)).mono BU.out.size)).block) (HUN.out.same (heldC2X (by assumption)).block)).mono ?_; rintro e W5 ⟨r5, rfl, hr5, hx5⟩; obtain ⟨pa5, pc5, rfl, -⟩ := hr5.len) | (go_at_call 53; refine (SM.out _ _ _ (hr4.same hx5.block) hr5).mono ?_; rintro e W6 ⟨rfl, hx6⟩))
                  all_goals
                    rename_i hh
                    have B6 := Lib.hid (heldC2X hh)
                    clear hh c0 c1
                    go_wp2_with fail
                    go_roundw
                    case rel => exact ⟨v + 1, by omega, by go_num, HVS, HV3.out.kept B6.out.block, BU.out.trans (B6.out.mono BU.out.size)⟩
                    case measure => simp [intOf]; omega
                · have HL := Lib.hid (fltL_hit ds act a b v HA.out HBB.out HV.out ha1 hb1 (by omega) hvl hz)
                  rw [show decide (flt act a b v = 0) = false by simpa using hz] at SM0
                  have SM := Lib.hid SM0
                  clear hz SM0
                  go_wp2_with (go_at_call 52; refine UN.out.mono ?_; rintro e W3 ⟨ru, rfl, hru, hb3⟩; obtain ⟨ua, un, uc, rfl⟩ := own_shape hru; have HUN := Lib.hid hru.ints; have BU := Lib.hid (HBR.out.trans (hb3.mono HBR.out.size)); have HV3 := Lib.hid (HVV.out.kept hb3.block); have BW3 := Lib.hid (HBL2.out.trans (BU.out.mono HBL2.out.size)); clear hru hb3)
                  have c0 := HV3.out.c0; have c1 := HV3.out.c1
                  have hx0 : Below W3.heap.size W3 (W3.alloc (.cells #[.int .i64 (a : Int), .int .i64 (b : Int)] 2)).drew := below_drewN 1 ((Below.refl _ _).alloc (Nat.le_refl _) _)
                  have X1 := Lib.hid (A1.out (.slice (some ⟨W3.heap.size, 0, none⟩) 2 2) _ a b (2 ^ v) (W3.alloc (.cells #[.int .i64 (a : Int), .int .i64 (b : Int)] 2)).drew (H0.out.same (BW3.out.trans (hx0.mono BW3.out.size)).block) (ownI_lit2 (w := W3) (Nat.le_refl _) (a : Int) (b : Int)).ints (HUN.out.same hx0.block))
                  have X2 := Lib.hid (fun (W : World) (h1 : ModS W.heap _ _ ds act) (h2 : IntSS W.heap (.slice wa wn wc) (relWL a b (relL a b))) (h3 : IntS W.heap (.slice ua un uc) (bitsL ds.length (2 ^ v))) => A2.out (.slice wa wn wc) (.slice ua un uc) (relWL a b (relL a b)) (2 ^ v) W h1 h2 h3)
                  clear hx0
                  generalize wordM act [(a : Int), (b : Int)] (2 ^ v) = M1 at *
                  generalize wordsM act (relWL a b (relL a b)) (2 ^ v) = M2 at *
                  go_region_held3 (fun W => W.cell? ⟨w.heap.size, 0, none⟩ = some (.slice (some ⟨b1, o1, none⟩) ds.length ac) ∧ W.cell? ⟨w.heap.size, 1, none⟩ = some (.slice bo act.length bc) ∧ Below W3.heap.size W3 W)
                    (first | exact ⟨c0, c1, (Below.refl _ _).drew⟩ | exact ⟨Go.Lib.cell?_alloc_some _ c0, Go.Lib.cell?_alloc_some _ c1, below_drewN 1 ((Below.refl _ _).alloc (Nat.le_refl _) _)⟩ | exact heldC2 (by assumption) hx6 | exact heldC2 (by assumption) hx5 | exact heldC2 (by assumption) hx4)
                    (first | (go_at_call 54; refine X1.out.mono ?_; rintro e W4 ⟨r4, rfl, hr4, hx4⟩; obtain ⟨pa4, pc4, rfl, -⟩ := hr4.len) | (go_at_call 36; refine (X2.out _ (H0.out.same (BW3.out.trans ((heldC2X (by assumption)).mono BW3.out.size)).block) (HWD.out.same (BU.out.trans ((heldC2X (by assumption)).mono BU.out.size)).block) (HUN.out.same (heldC2X (by assumption)).block)).mono ?_; rintro e W5 ⟨r5, rfl, hr5, hx5⟩; obtain ⟨pa5, pc5, rfl, -⟩ := hr5.len) | (go_at_call 53; refine (SM.out _ _ _ (hr4.same hx5.block) hr5).mono ?_; rintro e W6 ⟨rfl, hx6⟩))
                  all_goals
                    rename_i hh
                    have B6 := Lib.hid (BW3.out.trans ((heldC2X hh).mono BW3.out.size))
                    clear hh c0 c1
                    go_wp2_with fail
                    go_ret
                    exact ⟨_, rfl, by rw [HL.out]; exact ownI_lit3 B6.out.size _ _ _, B6.out.alloc B6.out.size _⟩
              · obtain rfl : v = ds.length := by omega
                have HBS : Hid (∀ i, i < b + 1 → fBi ds act a i = none) := fun i hi => by
                  by_cases e : i = b
                  · subst e
                    rw [fBi]
                    split
                    · exact fV_none ds act a i HV.out
                    · rfl
                  · exact HBB.out i (by omega)
                go_wp2_with fail
                go_roundw
                case rel => exact ⟨b + 1, by omega, by omega, by go_num, HBS, hVr, HBL2.out.trans (hbl.mono HBL2.out.size)⟩
                case measure => simp [intOf]; omega
          · have HAS : Hid (∀ i, i < a + 1 → fAi ds act i = none) := fun i hi => by
              by_cases e : i = a
              · subst e
                rw [fAi, if_pos ha1]
                exact fB_none ds act i fun j hj => by
                  by_cases e2 : j < b
                  · exact HBB.out j e2
                  · rw [fBi]
                    split
                    · exact FAR.out i j (by omega)
                    · rfl
              · exact HA.out i (by omega)
            have tb : decide ((a : Int) + b ≤ span) = false := by simp; omega
            have tb2 : decide (a + b ≤ span) = false := by simp; omega
            go_wp2_with fail
            go_roundw
            case rel => exact ⟨a + 1, by omega, by omega, by go_num, HAS, hV, hbl⟩
            case measure => simp [intOf]; omega
      · have ta : decide ((a : Int) ≤ (span : Int)) = false := by simp; omega
        have ta2 : decide (a ≤ span) = false := by simpa using ha
        have HN := Lib.hid (fltL_none ds act fun i hi => by
          by_cases e : i < a
          · exact HA.out i e
          · rw [fAi, if_pos (by omega)]
            exact fB_none ds act i fun j hj => by
              rw [fBi]
              split
              · exact FAR.out i j (by omega)
              · rfl)
        go_wp2_with fail
        go_ret
        exact ⟨_, rfl, by rw [HN.out]; exact OwnI.nil _ _, hbl⟩
end
section
open Go.RowKit Go.Sort

def szM (len : Nat) (act : List (List Int)) (left : Nat) : Int := if len + (act.length + cnt act) ≤ left then (left : Int) - (len + (act.length + cnt act) : Nat) else -1
theorem szModule_c (a : Option Addr) (len cap : Nat) (b : Option Addr) (l2 c2 : Nat) (act : List (List Int)) (left : Nat) (w : World) (hl : len ≤ 9223372036854775807) (h : IsRows w b l2 act) (h1 : left ≤ 1048576) :
    Calls Tryz.prog 4 #[.agg #[.slice a len cap, .slice b l2 c2], .int .i64 left] w fun e w' => e = .returned (.int .i64 (szM len act left)) ∧ Below w.heap.size w w' := by
  have hb : Below w.heap.size w (w.alloc (.cells #[.slice a len cap, .slice b l2 c2] 25)) := (Below.refl _ _).alloc (Nat.le_refl _) _
  have S1 := Lib.hid (szInt64S_c a len cap left (w.alloc (.cells #[.slice a len cap, .slice b l2 c2] 25)) h1 hl)
  have V := two_new w (.slice a len cap) (.slice b l2 c2) 25
  have HB := Lib.hid hb
  have k1 := V.1; have k2 := V.2
  by_cases hs : len ≤ left
  · rw [if_pos hs] at S1
    have S2 := Lib.hid (szInt64SS_c b l2 c2 act (left - len) _ (h.same hb.block hb.size) (by omega))
    rw [show ((left - len : Nat) : Int) = (left : Int) - len by omega] at S2
    have t1 : decide ((left : Int) - len < 0) = false := by simp; omega
    have e : szM len act left = szR act (left - len) := by unfold szM szR; split <;> split <;> omega
    rw [e]
    by_cases hn : szR act (left - len) < 0
    · have e2 : szR act (left - len) = -1 := by unfold szR at *; split at hn <;> omega
      rw [e2] at S2 ⊢
      clear e e2 hn hs h hb V
      go_enter Tryz.func4, Tryz.ntmps4
      go_wp2_with (first | (go_at_call 18; refine S1.out.mono ?_; rintro e w1 ⟨rfl, rfl⟩) | (go_at_call 19; refine S2.out.mono ?_; rintro e w1 ⟨rfl, rfl⟩))
      go_ret
      exact ⟨rfl, HB.out⟩
    · generalize szR act (left - len) = s at *
      have t2 : decide (s < 0) = false := by simpa using hn
      clear e hs h hb V
      go_enter Tryz.func4, Tryz.ntmps4
      go_wp2_with (first | (go_at_call 18; refine S1.out.mono ?_; rintro e w1 ⟨rfl, rfl⟩) | (go_at_call 19; refine S2.out.mono ?_; rintro e w1 ⟨rfl, rfl⟩))
      go_ret
      exact ⟨rfl, HB.out⟩
  · rw [if_neg hs] at S1
    have e : szM len act left = -1 := by unfold szM; rw [if_neg (by omega)]
    rw [e]
    clear e hs h hb V
    go_enter Tryz.func4, Tryz.ntmps4
    go_wp2_with (go_at_call 18; refine S1.out.mono ?_; rintro e w1 ⟨rfl, rfl⟩)
    go_ret
    exact ⟨rfl, HB.out⟩
set_option maxRecDepth 100000 in
set_option maxHeartbeats 1000000 in
theorem toModule_c (a : Option Addr) (len cap : Nat) (zs : List Int) (b : Option Addr) (l2 c2 : Nat) (act : List (List Int)) (w : World) (hz : IsRow .i64 w a len cap zs) (h : IsRows w b l2 act) (h1 : len ≤ 1048576) (h2 : act.length + cnt act ≤ 1048576) :
    Calls Tryz.prog 7 #[.agg #[.slice a len cap, .slice b l2 c2]] w fun e w' => ∃ d v us, e = .returned (.agg #[d, v]) ∧ OwnM w' w.heap.size d v us (zs.take len) act ∧ Below w.heap.size w w' := by
  obtain ⟨w3, hw3⟩ : ∃ w3, w3 = ((w.alloc (.cells #[.slice a len cap, .slice b l2 c2] 25)).alloc (.cells #[.slice none 0 0, .slice none 0 0] 32)).alloc (.cells #[.slice none 0 0, .slice none 0 0] 32) := ⟨_, rfl⟩
  have hb : Below w.heap.size w w3 := by rw [hw3]; exact (((Below.refl _ _).alloc (Nat.le_refl _) _).alloc (by simp) _).alloc (by simp; omega) _
  have hsz : w3.heap.size = w.heap.size + 3 := by rw [hw3]; simp
  have V0 : Var2 w3 w.heap.size (.slice a len cap) (.slice b l2 c2) 25 := by rw [hw3]; exact ((Var2.new w _ _ _).kept (alloc_old _ _)).kept (alloc_old _ _)
  have V1 : Var2 w3 (w.heap.size + 1) (.slice none 0 0) (.slice none 0 0) 32 := by
    rw [hw3]
    have := (Var2.new (w.alloc (.cells #[.slice a len cap, .slice b l2 c2] 25)) (.slice none 0 0) (.slice none 0 0) 32).kept (alloc_old _ (.cells #[.slice none 0 0, .slice none 0 0] 32))
    rw [size_alloc_w] at this
    exact this
  have V2 : Var2 w3 (w.heap.size + 1 + 1) (.slice none 0 0) (.slice none 0 0) 32 := by
    rw [hw3]
    have := Var2.new ((w.alloc (.cells #[.slice a len cap, .slice b l2 c2] 25)).alloc (.cells #[.slice none 0 0, .slice none 0 0] 32)) (.slice none 0 0) (.slice none 0 0) 32
    rw [size_alloc_w, size_alloc_w] at this
    exact this
  have T1 := Lib.hid (toInt64S_c a len cap zs w3 (hz.same hb.block) h1)
  have T2 := Lib.hid (fun (W : World) (hW : Below w.heap.size w W) => toInt64SS_c b l2 c2 act W (h.same hW.block hW.size) h2)
  have HB := Lib.hid hb; have HSZ := Lib.hid hsz; have H0 := Lib.hid V0; have H1 := Lib.hid V1; have H2 := Lib.hid V2
  clear hb hsz V0 V1 V2 hz h h1 h2
  have HW := Lib.hid hw3
  clear hw3
  go_enter Tryz.func7, Tryz.ntmps7
  go_wp2_with fail
  rw [← HW.out]
  refine T1.out.mono ?_
  rintro e w4 ⟨d, rfl, hd, hb4⟩
  obtain ⟨da, dn, dc, rfl⟩ := own_shape hd
  have V0 := H0.out.kept hb4.block
  have V1 := H1.out.kept hb4.block
  have V2 := H2.out.kept hb4.block
  have f0 := V2.free 0; have e0 := V2.c0; have g1 := V0.c1
  have q0 := V0.lt; have q1 := V1.lt; have q2 := V2.lt
  obtain ⟨w5, hw5⟩ : ∃ w5, w5 = w4.setCell ⟨w.heap.size + 1 + 1, 0, none⟩ (.slice da dn dc) := ⟨_, rfl⟩
  have HB5 : Hid (Below w.heap.size w w5) := by show Below _ _ _; rw [hw5]; exact (HB.out.trans (hb4.mono (by have := HSZ.out; omega))).setCell (by show w.heap.size ≤ w.heap.size + 1 + 1; omega) _
  have D5 : Hid (OwnI w5 w.heap.size (.slice da dn dc) (zs.take len)) := by show OwnI _ _ _ _; rw [hw5]; exact OwnI.setVar (own_base hd (by have := HSZ.out; omega)) V2 (by decide) _
  have A0 : Hid (Var2 w5 w.heap.size (.slice a len cap) (.slice b l2 c2) 25) := by show Var2 _ _ _ _ _; rw [hw5]; exact V0.setFar _ (by show w.heap.size ≠ w.heap.size + 1 + 1; omega) _
  have A1 : Hid (Var2 w5 (w.heap.size + 1) (.slice none 0 0) (.slice none 0 0) 32) := by show Var2 _ _ _ _ _; rw [hw5]; exact V1.setFar _ (by show w.heap.size + 1 ≠ w.heap.size + 1 + 1; omega) _
  have A2 : Hid (Var2 w5 (w.heap.size + 1 + 1) (.slice da dn dc) (.slice none 0 0) 32) := by show Var2 _ _ _ _ _; rw [hw5]; exact V2.set0 _
  have HW5 := Lib.hid hw5
  clear hd hb4 V0 V1 V2 hw5 T1
  go_wp2_with fail
  rw [← HW5.out]
  clear HW5 f0 e0 g1 q0 q1 q2
  refine (T2.out _ HB5.out).mono ?_
  rintro e w6 ⟨v, rfl, ⟨us, hU⟩, hb6⟩
  obtain ⟨va, vn, vc, rfl⟩ := own_shape hU.row
  have V0 := A0.out.kept hb6.block
  have V1 := A1.out.kept hb6.block
  have V2 := A2.out.kept hb6.block
  have f1 := V2.free 1; have e1 := V2.c1; have e0 := V2.c0
  have p0 := V1.c0; have p1 := V1.c1; have pf0 := V1.free 0; have pf1 := V1.free 1
  have HU := Lib.hid hU; have HB6 := Lib.hid hb6; have D6 := Lib.hid (D5.out.same hb6.block); have K1 := Lib.hid V1; have K2 := Lib.hid V2
  have hsz5 : w.heap.size + 2 < w5.heap.size := A2.out.lt
  clear hU hb6 V0 V1 V2
  go_wp2_with fail
  have M6 : OwnM w6 w.heap.size (.slice da dn dc) (.slice va vn vc) us (zs.take len) act := by
    refine ⟨D6.out, ⟨own_base HU.out.row HB5.out.size, fun i u xs hu hx => own_base (HU.out.each i u xs hu hx) HB5.out.size, HU.out.apart⟩, ?_⟩
    intro u hu
    cases hb : (Value.slice da dn dc).ownBlock with
    | none => exact .inl rfl
    | some b =>
      right
      intro e
      obtain ⟨i, hi, rfl⟩ := List.getElem_of_mem hu
      have hl := HU.out.len
      have h1 := (World.ownsRow.lt D5.out b hb).2
      have h2 := (World.ownsRow.lt (HU.out.each i _ _ (List.getElem?_eq_getElem hi) (List.getElem?_eq_getElem (show i < act.length by omega))) b e.symm).1
      omega
  have B6 := HB5.out.trans (HB6.out.mono HB5.out.size)
  have W1 := K1.out.setFar ⟨w.heap.size + 1 + 1, 1, none⟩ (by show w.heap.size + 1 ≠ w.heap.size + 1 + 1; omega) (.slice va vn vc)
  have W2 := W1.set0 (.slice da dn dc)
  have W3 := W2.set1 (.slice va vn vc)
  have r0 := W3.c0; have r1 := W3.c1
  exact bodyPost_ret (v := .agg #[.slice da dn dc, .slice va vn vc]) (by simp [results, Tryz.results7, go_sem, r0, r1]) rfl
    ⟨_, _, us, rfl, ((M6.setVar K2.out (by decide) (by decide) _).setVar W1 (by decide) (by decide) _).setVar W2 (by decide) (by decide) _, ((B6.setCell (by show w.heap.size ≤ w.heap.size + 1 + 1; omega) _).setCell (by show w.heap.size ≤ w.heap.size + 1; omega) _).setCell (by show w.heap.size ≤ w.heap.size + 1; omega) _⟩
theorem own_len {w : World} {B : Nat} {ra : Option Addr} {rn rc : Nat} {xs : List Int} (h : OwnI w B (.slice ra rn rc) xs) : rn = xs.length := by
  obtain ⟨_, _, hv, _⟩ := h.ints.len
  simp only [Value.slice.injEq] at hv
  exact hv.2.1
set_option maxRecDepth 100000 in
set_option maxHeartbeats 1000000 in
theorem l11Is_c (d a : Value) (ds : List Int) (act : List (List Int)) (w : World) (h : ModS w.heap d a ds act) :
    Calls Tryz.prog 20 #[.agg #[d, a]] w fun e w' => e = .returned (.bool (isMod ds act)) ∧ Below w.heap.size w w' := by
  have hb : Below w.heap.size w (w.alloc (.cells #[d, a] 32)) := (Below.refl _ _).alloc (Nat.le_refl _) _
  have V := two_new w d a 32
  have hM := h.same hb.block
  have I := Lib.hid (l11Shape_c d a ds act _ hM)
  have HE : Hid (isMod ds act = (modT ds act && decide (fltL ds act = []))) := rfl
  have F := Lib.hid (fun (W : World) (h : ModS W.heap d a ds act) (hT : modT ds act = true) => l11Fault_c d a ds act W h hT)
  obtain ⟨ao, ac, hv, hm⟩ := h.1.len
  obtain ⟨bo, bc, hv2, hm2⟩ := h.2.len
  subst hv; subst hv2
  have H0 := Lib.hid h; have HB := Lib.hid hb; have HV := Lib.hid V; clear h hM hb V
  have k1 := HV.out.1; have k2 := HV.out.2
  cases hT : modT ds act
  · rw [hT] at I HE
    clear hT F
    go_enter Tryz.func20, Tryz.ntmps20
    go_wp2_with (go_at_call 30; refine I.out.mono ?_; rintro e w1 ⟨rfl, hb1⟩)
    go_ret
    exact ⟨by rw [HE.out]; rfl, HB.out.trans (hb1.mono HB.out.size)⟩
  · have HT := Lib.hid hT
    rw [hT, Bool.true_and] at HE
    rw [hT] at I
    clear hT
    have HX : Hid (∀ n, n = (fltL ds act).length → decide (fltL ds act = []) = ((n : Int) == 0)) := fun n hn => by
      subst hn
      cases fltL ds act <;> simp
      omega
    go_enter Tryz.func20, Tryz.ntmps20
    go_wp2_with (first | (go_at_call 30; refine I.out.mono ?_; rintro e w1 ⟨rfl, hb1⟩; have k3 := (hb1.cell (World.block_lt_of_cell? _ _ k1)).trans k1; have k4 := (hb1.cell (World.block_lt_of_cell? _ _ k2)).trans k2; have HB1 := Lib.hid (HB.out.trans (hb1.mono HB.out.size)); clear hb1) | (go_at_call 31; refine (F.out _ (H0.out.same HB1.out.block) HT.out).mono ?_; rintro e w2 ⟨r, rfl, hr, hb2⟩; obtain ⟨ra, rn, rc, rfl⟩ := own_shape hr; have hrn := own_len hr; have HR := Lib.hid (own_base hr HB1.out.size); have HB2 := Lib.hid (HB1.out.trans (hb2.mono HB1.out.size)); clear hr hb2))
    go_ret
    exact ⟨by rw [HE.out, HX.out _ rfl]; rfl, HB2.out⟩
end
section
open Go.RowKit Go.Sort

def cntD (ds : List Int) : List Int := (List.range 21).map fun (i : Nat) => (((ds.filter fun x => x == (i : Int)).length : Nat) : Int)
theorem cntD_len (ds : List Int) : (cntD ds).length = 21 := by simp [cntD]
theorem cntD_at (ds : List Int) (i : Nat) (h : i < 21) : (cntD ds).getD i 0 = (((ds.filter fun x => x == (i : Int)).length : Nat) : Int) := by simp [cntD, h]
theorem cntD_take (ds : List Int) (k i : Nat) (hk : k < ds.length) (hi : i < 21) (h : ds.getD k 0 = i) : (cntD (ds.take k)).set i ((cntD (ds.take k)).getD i 0 + 1) = cntD (ds.take (k + 1)) := by
  rw [show ds.getD k 0 = ds[k] by simp [hk]] at h
  apply List.ext_getElem?
  intro j
  by_cases hj : j < 21
  · rw [List.take_succ_eq_append_getElem hk]
    by_cases e : i = j
    · subst e
      rw [List.getElem?_set_self (by rw [cntD_len]; omega), cntD_at _ _ hi]
      simp only [cntD, List.getElem?_map, List.getElem?_range hi, Option.map_some, List.filter_append, List.length_append, h]
      simp
    · rw [List.getElem?_set_ne e]
      simp only [cntD, List.getElem?_map, List.getElem?_range hj, Option.map_some, List.filter_append, List.length_append, h]
      have : ((i : Int) == (j : Int)) = false := by simp; omega
      simp [this]
  · rw [List.getElem?_eq_none (by rw [List.length_set, cntD_len]; omega), List.getElem?_eq_none (by rw [cntD_len]; omega)]
theorem cntD_le (ds : List Int) (k i : Nat) (h : i < 21) : 0 ≤ (cntD (ds.take k)).getD i 0 ∧ (cntD (ds.take k)).getD i 0 ≤ k := by
  rw [cntD_at _ _ h]
  have := List.length_filter_le (fun x => x == (i : Int)) (ds.take k)
  rw [List.length_take] at this
  omega
theorem made_cnt (w : World) : OwnI (w.alloc (.cells (madeCells #[.int .i64 0] 21) 2)) w.heap.size (.slice (some ⟨w.heap.size, 0, none⟩) 21 21) (cntD []) := by
  have := made_own w w.heap.size 2 21 (.int .i64 0) (Nat.le_refl _) (by omega)
  unfold OwnI
  rw [cntD_len]
  simpa [cntD, List.map_const'] using this
def cmC (ds : List Int) (act : List (List Int)) : Int := if isMod ds act then 0 else 1
theorem isMod_T {ds : List Int} {act : List (List Int)} (h : isMod ds act = true) : modT ds act = true := by
  simp only [isMod, Bool.and_eq_true] at h; exact h.1
end
section
open Go.RowKit Go.Sort

def bitI (x : Int) : Bool := decide (0 ≤ x) && decide (x ≤ 1)
def vecB (ds xs : List Int) : Bool := decide (xs.length = ds.length) && xs.all bitI
def maskN (xs : List Int) : Nat → Nat
  | 0 => 0
  | k + 1 => maskN xs k ||| (if xs.getD k 0 = 1 then 2 ^ k else 0)
theorem maskN_bit (xs : List Int) (i : Nat) : ∀ k, (maskN xs k).testBit i = decide (i < k ∧ xs.getD i 0 = 1)
  | 0 => by simp [maskN]
  | k + 1 => by
    rw [maskN, Nat.testBit_or, maskN_bit xs i k]
    by_cases e : i = k
    · subst e
      split
      next h => rw [List.getD_eq_getElem?_getD] at h; simp [h]
      next h => rw [List.getD_eq_getElem?_getD] at h; simp [h]
    · have h2 : (if xs.getD k 0 = 1 then 2 ^ k else 0 : Nat).testBit i = false := by
        split
        · rw [Nat.testBit_two_pow]; simp; omega
        · simp
      rw [h2, Bool.or_false]
      congr 1
      apply propext
      constructor
      · rintro ⟨h, h'⟩; exact ⟨by omega, h'⟩
      · rintro ⟨h, h'⟩; exact ⟨by omega, h'⟩
theorem maskN_lt (xs : List Int) (k : Nat) : maskN xs k < 2 ^ k := by
  apply Nat.lt_pow_two_of_testBit
  intro i hi
  rw [maskN_bit]; simp; omega
theorem vecB_len {ds xs : List Int} (h : vecB ds xs = true) : xs.length = ds.length := by
  simp only [vecB, Bool.and_eq_true, decide_eq_true_eq] at h; exact h.1
theorem vecB_bit {ds xs : List Int} (h : vecB ds xs = true) (x : Int) (hx : x ∈ xs) : x = 0 ∨ x = 1 := by
  simp only [vecB, Bool.and_eq_true, decide_eq_true_eq, List.all_eq_true, bitI] at h
  have := h.2 x hx; omega
theorem vecB_mask {ds xs : List Int} (h : vecB ds xs = true) : bitsL ds.length (maskN xs xs.length) = xs := by
  have hl := vecB_len h
  refine (bitsL_ext hl fun i hi => ?_).symm
  rw [maskN_bit]
  have hm := vecB_bit h xs[i] (List.getElem_mem _)
  rw [show xs.getD i 0 = xs[i] by simp [hl, hi]]
  rcases hm with e | e <;> rw [e] <;> simp [hl, hi]
theorem bitsL_succ (k m : Nat) : bitsL (k + 1) m = bitsL k m ++ [if m.testBit k then 1 else 0] := by simp [bitsL, List.range_succ]

theorem isBit_c (x : Int) (w : World) : Calls Tryz.prog 95 #[.int .i64 x] w fun e w' => e = .returned (.bool (bitI x)) ∧ w = w' := by
  go_enter Tryz.func95, Tryz.ntmps95
  go_wp2_with (go_at_call 92; refine (in_c _ _ _ _).mono ?_; rintro e w' ⟨rfl, rfl⟩)
  go_ret
  exact ⟨rfl, rfl⟩
theorem enters_isBit : Enters Tryz.prog 95 := fun args w => by kernel_rfl
theorem maskOf_c (v : Value) (xs : List Int) (w : World) (h : IntS w.heap v xs) (hb : ∀ x ∈ xs, x = 0 ∨ x = 1) (hl : xs.length ≤ 16) :
    Calls Tryz.prog 44 #[v] w fun e w' => e = .returned (.int .i64 (maskN xs xs.length : Nat)) ∧ w = w' := by
  obtain ⟨ao, c, rfl, hm⟩ := h.len
  have H := Lib.hid h; have HX := Lib.hid hb; clear h hb
  have HB := Lib.hid (maskN_lt xs)
  go_enter Tryz.func44, Tryz.ntmps44
  go_wp2
  go_loop [3, 8] (fun t i => ∃ k : Nat, k ≤ xs.length ∧ i = .int .i64 k ∧ t = .int .i64 (maskN xs k : Nat)) (fun _ i => xs.length - (intOf i).toNat)
  case atStart => exact ⟨0, Nat.zero_le _, rfl, rfl⟩
  case round =>
    obtain ⟨k, hk, rfl, rfl⟩ := hrel
    by_cases hlt : k < xs.length
    · obtain ⟨b1, o1, c1, hv1, hc1, -⟩ := H.out.at k hlt
      simp only [Value.slice.injEq, true_and] at hv1
      obtain ⟨rfl, rfl⟩ := hv1
      have hx := HX.out _ (List.getElem_mem hlt)
      have hM := HB.out k
      have hp : 2 ^ k < 2 ^ 16 := Nat.pow_lt_pow_right (by omega) (by omega)
      have hw := wrap64_pow k (by omega)
      have HS : Hid (maskN xs (k + 1) = maskN xs k ||| (if xs[k] = 1 then 2 ^ k else 0)) := by
        show _ = _; rw [maskN, show xs.getD k 0 = xs[k] by simp [hlt]]
      have hor0 := i64_or_nat (maskN xs k) 0 (by omega) (by omega)
      have hor1 := i64_or_nat (maskN xs k) (2 ^ k) (by omega) (by omega)
      rw [show (((2 ^ k : Nat)) : Int) = (2 : Int) ^ k by simp] at hor1
      have hor0' : bits .or .i64 (maskN xs k : Int) 0 = (maskN xs k : Int) := by simpa using hor0
      clear hor0
      generalize xs[k] = x at *
      rcases hx with rfl | rfl
      · rw [if_neg (by omega), Nat.or_zero] at HS
        clear hor1
        generalize maskN xs k = t at *
        go_wp2
        go_round
        case rel => exact ⟨k + 1, by omega, by go_num, by rw [HS.out]⟩
        case measure => simp [intOf]; omega
      · rw [if_pos rfl] at HS
        clear hor0'
        generalize maskN xs k = t at *
        go_wp2
        go_round
        case rel => exact ⟨k + 1, by omega, by go_num, by rw [HS.out]⟩
        case measure => simp [intOf]; omega
    · obtain rfl : k = xs.length := by omega
      go_wp2
      go_ret
      exact ⟨rfl, rfl⟩
set_option maxHeartbeats 400000 in
theorem digitsOf_c (m size : Nat) (w : World) (hs : size ≤ 16) (hm : m < 2 ^ 16) :
    Calls Tryz.prog 71 #[.int .i64 m, .int .i64 size] w fun e w' => ∃ r, e = .returned r ∧ OwnI w' w.heap.size r (bitsL size m) ∧ Below w.heap.size w w' := by
  go_enter Tryz.func71, Tryz.ntmps71
  go_wp2_with fail
  go_loopw [5, 9] (fun o i wr => ∃ k : Nat, k ≤ size ∧ i = .int .i64 k ∧ OwnI wr w.heap.size o (bitsL k m) ∧ Below w.heap.size w wr) (fun _ i _ => size - (intOf i).toNat)
  case atStart => exact ⟨0, Nat.zero_le _, rfl, ownI_empty (Nat.le_refl _), (Below.refl _ _).alloc (Nat.le_refl _) _⟩
  case round =>
    obtain ⟨k, hk, rfl, hown, hbl⟩ := hrel
    obtain ⟨va, vn, vc, rfl⟩ := own_shape hown
    have HO := Lib.hid hown; have HBL := Lib.hid hbl; have hsz := hbl.size
    have hln : (bitsL k m).length ≤ 4398046511104 := by rw [bitsL_length]; omega
    clear hown hbl
    by_cases hlt : k < size
    · have hb : bits BinOp.and IntKind.i64 ((m : Int) / 2 ^ k) 1 = if m.testBit k then 1 else 0 := by
        rw [show ((m : Int) / 2 ^ k) = ((m / 2 ^ k : Nat) : Int) by simp, show (1 : Int) = ((1 : Nat) : Int) from rfl, i64_and_nat _ _ (Nat.lt_of_le_of_lt (Nat.div_le_self _ _) (by omega)) (by omega), Nat.and_one_is_mod,
          Nat.testBit_eq_decide_div_mod_eq]
        rcases Nat.mod_two_eq_zero_or_one (m / 2 ^ k) with h | h <;> rw [h] <;> rfl
      have HS := Lib.hid (bitsL_succ k m)
      generalize (if m.testBit k then (1 : Int) else 0) = y at *
      go_wp2_with (first | (at_builtin; refine append_int rfl _ _ rfl w.heap.size _ _ _ HO.out rfl HBL.out hsz _ rfl rfl hln ?_; intro v' wr0 hown' hbl' _ _; obtain ⟨va2, vn2, vc2, hv2⟩ := own_shape hown'; subst hv2))
      go_roundw
      case rel => exact ⟨k + 1, by omega, by go_num, by rw [HS.out]; exact hown', hbl'⟩
      case measure => simp [intOf]; omega
    · obtain rfl : k = size := by omega
      go_wp2_with fail
      go_ret
      exact ⟨_, rfl, HO.out, HBL.out⟩
theorem vectorOf_c (d a : Value) (ds : List Int) (m : Nat) (w : World) (h : IntS w.heap d ds) (hs : ds.length ≤ 16) (hm : m < 2 ^ 16) :
    Calls Tryz.prog 41 #[.agg #[d, a], .int .i64 m] w fun e w' => ∃ r, e = .returned r ∧ OwnI w' w.heap.size r (bitsL ds.length m) ∧ Below w.heap.size w w' := by
  have hb : Below w.heap.size w (w.alloc (.cells #[d, a] 32)) := (Below.refl _ _).alloc (Nat.le_refl _) _
  have V := two_new w d a 32
  have D := Lib.hid (digitsOf_c m ds.length (w.alloc (.cells #[d, a] 32)) hs hm)
  obtain ⟨ao, ac, rfl, -⟩ := h.len
  have HB := Lib.hid hb; have k1 := V.1; have k2 := V.2
  clear h hb V
  go_enter Tryz.func41, Tryz.ntmps41
  go_wp2_with (go_at_call 71; refine D.out.mono ?_; rintro e w1 ⟨r, rfl, hr, hb1⟩; obtain ⟨ra, rn, rc, rfl⟩ := own_shape hr)
  go_ret
  exact ⟨_, rfl, own_base hr HB.out.size, HB.out.trans (hb1.mono HB.out.size)⟩
theorem isVector_c (d a v : Value) (ds xs : List Int) (w : World) (h : IntS w.heap d ds) (hv : IntS w.heap v xs) :
    Calls Tryz.prog 70 #[.agg #[d, a], v] w fun e w' => e = .returned (.bool (vecB ds xs)) ∧ Below w.heap.size w w' := by
  have hb : Below w.heap.size w (w.alloc (.cells #[d, a] 32)) := (Below.refl _ _).alloc (Nat.le_refl _) _
  have V := two_new w d a 32
  have A := Lib.hid (all_c v xs 95 #[] bitI _ (hv.same hb.block) enters_isBit (fun w1 _ x _ => (isBit_c x w1).mono fun _ _ ⟨he, hw⟩ => ⟨he, 0, hw.symm⟩))
  obtain ⟨ao, ac, rfl, hm⟩ := h.len
  obtain ⟨bo, bc, rfl, hm2⟩ := hv.len
  have HB := Lib.hid hb; have k1 := V.1; have k2 := V.2
  have HE : Hid (vecB ds xs = (decide (xs.length = ds.length) && xs.all bitI)) := rfl
  clear h hv hb V
  by_cases e : xs.length = ds.length
  · have t1 := (eqB (show ((xs.length : Nat) : Int) = ds.length by omega)).1
    rw [decide_eq_true e, Bool.true_and] at HE
    rw [HE.out]
    clear e HE
    go_enter Tryz.func70, Tryz.ntmps70
    go_wp2_with (go_at_call 88; refine A.out.mono ?_; rintro e w1 ⟨rfl, hb1⟩)
    go_ret
    exact ⟨rfl, HB.out.trans (hb1.mono HB.out.size)⟩
  · have t1 := (neB (show ((xs.length : Nat) : Int) ≠ ds.length by omega)).1
    rw [decide_eq_false e, Bool.false_and] at HE
    rw [HE.out]
    clear e HE A
    go_enter Tryz.func70, Tryz.ntmps70
    go_wp2_with fail
    go_ret
    exact ⟨rfl, HB.out⟩
theorem all_snoc (xs : List Int) (k : Nat) (hk : k < xs.length) (h : ∀ i, i < k → bitI (xs.getD i 0) = true) (h2 : bitI xs[k] = true) : ∀ i, i < k + 1 → bitI (xs.getD i 0) = true := by
  intro i hi
  by_cases e : i = k
  · subst e; rw [show xs.getD i 0 = xs[i] by simp [hk]]; exact h2
  · exact h i (by omega)
theorem all_of (xs : List Int) (h : ∀ i, i < xs.length → bitI (xs.getD i 0) = true) : xs.all bitI = true := by
  rw [List.all_eq_true]
  intro x hx
  obtain ⟨i, hi, rfl⟩ := List.getElem_of_mem hx
  have := h i hi
  rwa [show xs.getD i 0 = xs[i] by simp [hi]] at this
theorem all_not (xs : List Int) (k : Nat) (hk : k < xs.length) (h2 : bitI xs[k] = false) : xs.all bitI = false := by
  cases e : xs.all bitI
  · rfl
  · rw [List.all_eq_true] at e; rw [e _ (List.getElem_mem hk)] at h2; cases h2
theorem l11Vector_c (d a v : Value) (ds xs : List Int) (w : World) (h : IntS w.heap d ds) (hv : IntS w.heap v xs) :
    Calls Tryz.prog 22 #[.agg #[d, a], v] w fun e w' => e = .returned (.bool (vecB ds xs)) ∧ Below w.heap.size w w' := by
  have hb : Below w.heap.size w (w.alloc (.cells #[d, a] 32)) := (Below.refl _ _).alloc (Nat.le_refl _) _
  have V := two_new w d a 32
  have I := Lib.hid (hv.same hb.block)
  obtain ⟨ao, ac, rfl, hm⟩ := h.len
  obtain ⟨bo, bc, rfl, hm2⟩ := hv.len
  have HB := Lib.hid hb; have k1 := V.1; have k2 := V.2
  have HE : Hid (vecB ds xs = (decide (xs.length = ds.length) && xs.all bitI)) := rfl
  clear h hv hb V
  go_enter Tryz.func22, Tryz.ntmps22
  go_wp2
  go_loop [5] (fun i => ∃ k : Nat, k ≤ xs.length ∧ i = .int .i64 k ∧ ∀ i, i < k → bitI (xs.getD i 0) = true) (fun i => xs.length - (intOf i).toNat)
  case atStart => exact ⟨0, Nat.zero_le _, rfl, fun i hi => by omega⟩
  case round =>
    obtain ⟨k, hk, rfl, hpre⟩ := hrel
    have HP := Lib.hid hpre; clear hpre
    by_cases hlt : k < xs.length
    · obtain ⟨b1, o1, c1, hv1, hc1, -⟩ := I.out.at k hlt
      simp only [Value.slice.injEq, true_and] at hv1
      obtain ⟨rfl, rfl⟩ := hv1
      have HN := Lib.hid (all_not xs k hlt); have HS := Lib.hid (all_snoc xs k hlt HP.out)
      have C := Lib.hid (l01In_c xs[k] 0 1)
      generalize xs[k] = x at *
      have hx : bitI x = (decide (0 ≤ x) && decide (x ≤ 1)) := rfl
      rw [← hx] at C
      clear hx
      cases hbx : bitI x
      · have HF : Hid (vecB ds xs = false) := by show _ = _; rw [HE.out, HN.out hbx, Bool.and_false]
        rw [hbx] at C
        clear hbx
        go_wp2_with (go_at_call 35; refine (C.out _).mono ?_; rintro e w' ⟨rfl, rfl⟩)
        go_ret
        exact ⟨by rw [HF.out]; rfl, HB.out⟩
      · have HT := Lib.hid (HS.out hbx)
        rw [hbx] at C
        clear hbx
        go_wp2_with (go_at_call 35; refine (C.out _).mono ?_; rintro e w' ⟨rfl, rfl⟩)
        go_round
        case rel => exact ⟨k + 1, by omega, by go_num, HT.out⟩
        case measure => simp [intOf]; omega
    · obtain rfl : k = xs.length := by omega
      have HA := Lib.hid (all_of xs HP.out)
      by_cases e : xs.length = ds.length
      · have t1 := (eqB (show ((xs.length : Nat) : Int) = ds.length by omega)).1
        have HF : Hid (vecB ds xs = true) := by show _ = _; rw [HE.out, HA.out, decide_eq_true e]; rfl
        clear e
        go_wp2
        go_ret
        exact ⟨by rw [HF.out]; rfl, HB.out⟩
      · have t1 := (neB (show ((xs.length : Nat) : Int) ≠ ds.length by omega)).1
        have HF : Hid (vecB ds xs = false) := by show _ = _; rw [HE.out, decide_eq_false e]; rfl
        clear e
        go_wp2
        go_ret
        exact ⟨by rw [HF.out]; rfl, HB.out⟩
def sqmC (ds : List Int) (act : List (List Int)) (n : Int) (xs : List Int) : Int := if isMod ds act then (if vecB ds xs then (if 0 ≤ n ∧ n ≤ 40 then 0 else 2) else 2) else 1
def sqmL (ds : List Int) (act : List (List Int)) (n : Int) (xs : List Int) : List Int := if isMod ds act && vecB ds xs && (decide (0 ≤ n) && decide (n ≤ 40)) then bitsL ds.length (actZ act n (maskN xs xs.length)) else []
theorem sqmL_len (ds : List Int) (act : List (List Int)) (n : Int) (xs : List Int) : (sqmL ds act n xs).length ≤ 16 := by
  unfold sqmL
  split
  · rename_i h
    simp only [Bool.and_eq_true] at h
    have := modT_len (isMod_T h.1.1)
    rw [bitsL_length]; exact this
  · simp
theorem acted_c (d a v : Value) (ds : List Int) (act : List (List Int)) (xs : List Int) (w : World) (h : ModS w.heap d a ds act) (hv : IntS w.heap v xs) :
    Calls Tryz.prog 40 #[.agg #[d, a], v] w fun e w' => e = .returned (.int .i64 (if isMod ds act then (if vecB ds xs then 0 else 2) else 1)) ∧ Below w.heap.size w w' := by
  have hb : Below w.heap.size w (w.alloc (.cells #[d, a] 32)) := (Below.refl _ _).alloc (Nat.le_refl _) _
  have V := two_new w d a 32
  have I := Lib.hid (isModule_c d a ds act _ (h.same hb.block))
  have J := Lib.hid (fun (W : World) (h : IntS W.heap d ds) (hv : IntS W.heap v xs) => isVector_c d a v ds xs W h hv)
  obtain ⟨ao, ac, hdv, hm⟩ := h.1.len
  obtain ⟨bo, bc, hav, hm2⟩ := h.2.len
  obtain ⟨vo, vc, hvv, hm3⟩ := hv.len
  subst hdv; subst hav; subst hvv
  have H0 := Lib.hid h; have HV0 := Lib.hid hv; have HB := Lib.hid hb; have HV := Lib.hid V; clear h hb V hv
  have k1 := HV.out.1; have k2 := HV.out.2
  cases hT : isMod ds act
  · rw [hT] at I
    rw [if_neg (by simp)]
    clear hT
    go_enter Tryz.func40, Tryz.ntmps40
    go_wp2_with (go_at_call 69; refine I.out.mono ?_; rintro e w1 ⟨rfl, hb1⟩)
    go_ret
    exact ⟨rfl, HB.out.trans (hb1.mono HB.out.size)⟩
  · rw [hT] at I
    rw [if_pos rfl]
    clear hT
    cases hV : vecB ds xs
    · rw [hV] at J
      rw [if_neg (by simp)]
      clear hV
      go_enter Tryz.func40, Tryz.ntmps40
      go_wp2_with (first | (go_at_call 69; refine I.out.mono ?_; rintro e w1 ⟨rfl, hb1⟩; have k3 := (hb1.cell (World.block_lt_of_cell? _ _ k1)).trans k1; have k4 := (hb1.cell (World.block_lt_of_cell? _ _ k2)).trans k2; have HB1 := Lib.hid (HB.out.trans (hb1.mono HB.out.size)); clear hb1) | (go_at_call 70; refine (J.out _ (H0.out.1.same HB1.out.block) (HV0.out.same HB1.out.block)).mono ?_; rintro e w2 ⟨rfl, hb2⟩))
      go_ret
      exact ⟨rfl, HB1.out.trans (hb2.mono HB1.out.size)⟩
    · rw [hV] at J
      rw [if_pos rfl]
      clear hV
      go_enter Tryz.func40, Tryz.ntmps40
      go_wp2_with (first | (go_at_call 69; refine I.out.mono ?_; rintro e w1 ⟨rfl, hb1⟩; have k3 := (hb1.cell (World.block_lt_of_cell? _ _ k1)).trans k1; have k4 := (hb1.cell (World.block_lt_of_cell? _ _ k2)).trans k2; have HB1 := Lib.hid (HB.out.trans (hb1.mono HB.out.size)); clear hb1) | (go_at_call 70; refine (J.out _ (H0.out.1.same HB1.out.block) (HV0.out.same HB1.out.block)).mono ?_; rintro e w2 ⟨rfl, hb2⟩))
      go_ret
      exact ⟨rfl, HB1.out.trans (hb2.mono HB1.out.size)⟩
end
section
open Go.RowKit Go.Sort

theorem wordM_lt {ds : List Int} {act : List (List Int)} (h : modT ds act = true) (m : Nat) (hm : m < 2 ^ ds.length) : ∀ word, wordM act word m < 2 ^ ds.length
  | [] => hm
  | n :: word => actZ_lt h n _ (wordM_lt h m hm word)
theorem wordsM_lt {ds : List Int} {act : List (List Int)} (h : modT ds act = true) (m : Nat) (hm : m < 2 ^ ds.length) (words : List (List Int)) : ∀ k, wordsM act (words.take k) m < 2 ^ ds.length
  | 0 => Nat.two_pow_pos _
  | k + 1 => by
    by_cases hk : k < words.length
    · rw [wordsM_take act words m k hk]; exact Nat.xor_lt_two_pow (wordsM_lt h m hm words k) (wordM_lt h m hm _)
    · have := wordsM_lt h m hm words k
      rwa [List.take_of_length_le (by omega)] at this ⊢
set_option maxHeartbeats 1000000 in
theorem tword_c (g : Nat) (d u : Value) (us : List Value) (ds word : List Int) (act : List (List Int)) (B m : Nat) (w : World) (h : TabU w B g d us (tabL ds.length act)) (hT : modT ds act = true) (hm : m < 2 ^ ds.length) (hu : IntS w.heap u word) (hw : ∀ x ∈ word, 1 ≤ x ∧ x ≤ 40) :
    Calls Tryz.prog 72 #[.pointer (some ⟨g, 0, none⟩), u, .int .i64 m] w fun e w' => e = .returned (.int .i64 (wordM act word m : Nat)) ∧ w = w' := by
  obtain ⟨uo, uc, rfl, hul⟩ := hu.len
  have S := Lib.hid (fun (n v : Nat) (hv : v < 2 ^ ds.length) => square_c g d us ds act B n v w h hT hv)
  have HU := Lib.hid hu; have HW := Lib.hid hw
  have HL := Lib.hid (fun k => wordM_lt hT m hm (word.drop k))
  clear h hT hm hu hw
  go_enter Tryz.func72, Tryz.ntmps72
  go_wp2_with fail
  go_loop [2, 7] (fun v i => ∃ (k : Nat) (x : Int), k ≤ word.length ∧ x = (k : Int) - 1 ∧ i = .int .i64 x ∧ v = .int .i64 (wordM act (word.drop k) m : Nat)) (fun _ i => (intOf i + 1).toNat)
  case atStart => exact ⟨word.length, (word.length : Int) - 1, Nat.le_refl _, rfl, rfl, by rw [List.drop_length]; rfl⟩
  case round =>
    obtain ⟨k, x, hk, hx, rfl, rfl⟩ := hrel
    rcases k with _ | j
    · have t0 : decide (0 ≤ x) = false := by simp; omega
      go_wp2_with fail
      go_ret
      exact ⟨rfl, rfl⟩
    · obtain rfl : x = j := by omega
      have hj : j < word.length := by omega
      obtain ⟨b1, o1, c1, hv1, hc1, -⟩ := HU.out.at j hj
      simp only [Value.slice.injEq, true_and] at hv1
      obtain ⟨rfl, rfl⟩ := hv1
      have HS := Lib.hid (wordM_drop act word m j hj)
      have hn := HW.out _ (List.getElem_mem hj)
      obtain ⟨n, hnn⟩ := Int.eq_ofNat_of_zero_le (show 0 ≤ word[j] by omega)
      have SQ := Lib.hid (S.out n _ (HL.out (j + 1)))
      have hji : (j : Int) < word.length := by omega
      rw [hnn] at HS hc1
      clear hn hnn hx hk
      generalize wordM act (word.drop (j + 1)) m = q at *
      go_wp2_with (go_at_call 96; refine SQ.out.mono ?_; rintro e w' ⟨rfl, rfl⟩)
      go_round
      case rel => exact ⟨j, (j : Int) - 1, by omega, rfl, rfl, by rw [HS.out]⟩
      case measure => simp [intOf]
set_option maxHeartbeats 1000000 in
theorem twords_c (g : Nat) (d u : Value) (us : List Value) (ds : List Int) (act words : List (List Int)) (B m : Nat) (w : World) (h : TabU w B g d us (tabL ds.length act)) (hT : modT ds act = true) (hm : m < 2 ^ ds.length) (hu : IntSS w.heap u words) (hw : ∀ r ∈ words, ∀ x ∈ r, 1 ≤ x ∧ x ≤ 40) :
    Calls Tryz.prog 43 #[.pointer (some ⟨g, 0, none⟩), u, .int .i64 m] w fun e w' => e = .returned (.int .i64 (wordsM act words m : Nat)) ∧ w = w' := by
  obtain ⟨uo, uc, rfl, hul⟩ := hu.len
  have h16 := modT_len hT
  have hp : 2 ^ ds.length ≤ 2 ^ 16 := Nat.pow_le_pow_right (by omega) h16
  have S := Lib.hid (fun (x : Value) (r : List Int) (hx : IntS w.heap x r) (hr : r ∈ words) => tword_c g d x us ds r act B m w h hT hm hx (hw r hr))
  have HU := Lib.hid hu
  have HL := Lib.hid (wordsM_lt hT m hm words); have HL2 := Lib.hid (wordM_lt hT m hm)
  clear h hT hm hu hw
  go_enter Tryz.func43, Tryz.ntmps43
  go_wp2_with fail
  go_loop [7, 12] (fun v i => ∃ k : Nat, k ≤ words.length ∧ i = .int .i64 k ∧ v = .int .i64 (wordsM act (words.take k) m : Nat)) (fun _ i => words.length - (intOf i).toNat)
  case atStart => exact ⟨0, Nat.zero_le _, rfl, rfl⟩
  case round =>
    obtain ⟨k, hk, rfl, rfl⟩ := hrel
    by_cases hlt : k < words.length
    · obtain ⟨b1, o1, c1, x, hv1, hc1, hx, -⟩ := HU.out.at k hlt
      simp only [Value.slice.injEq, true_and] at hv1
      obtain ⟨rfl, rfl⟩ := hv1
      have HS := Lib.hid (wordsM_take act words m k hlt)
      have SQ := Lib.hid (S.out x _ hx (List.getElem_mem hlt))
      have b1 := HL.out k; have b2 := HL2.out words[k]
      have hxr := i64_xor_nat (wordsM act (words.take k) m) (wordM act words[k] m) (by omega) (by omega)
      obtain ⟨xa, xc, rfl, -⟩ := hx.len
      clear hx b1 b2
      generalize wordsM act (words.take k) m = p at *
      generalize wordM act words[k] m = q at *
      generalize words[k].length = xl at *
      go_wp2_with (go_at_call 72; refine SQ.out.mono ?_; rintro e w' ⟨rfl, rfl⟩)
      go_round
      case rel => exact ⟨k + 1, by omega, by go_num, by rw [HS.out]⟩
      case measure => simp [intOf]; omega
    · obtain rfl : k = words.length := by omega
      rw [List.take_length]
      go_wp2_with fail
      go_ret
      exact ⟨rfl, rfl⟩
def ssmC (ds : List Int) (act tss : List (List Int)) (xs : List Int) : Int := if isMod ds act && sqT tss then (if vecB ds xs then 0 else 2) else 1
def ssmL (ds : List Int) (act tss : List (List Int)) (xs : List Int) : List Int := if isMod ds act && sqT tss && vecB ds xs then bitsL ds.length (wordsM act tss (maskN xs xs.length)) else []
theorem ssmL_len (ds : List Int) (act tss : List (List Int)) (xs : List Int) : (ssmL ds act tss xs).length ≤ 16 := by
  unfold ssmL
  split
  · rename_i h
    simp only [Bool.and_eq_true] at h
    rw [bitsL_length]; exact modT_len (isMod_T h.1.1)
  · simp
theorem heldC3B {x1 x2 x3 : Value} {g1 g2 g3 : Addr} {w w0 W : World} {B : Nat} (k : Below B w w0) (h : W.cell? g1 = some x1 ∧ W.cell? g2 = some x2 ∧ W.cell? g3 = some x3 ∧ Below w0.heap.size w0 W) (hB : B ≤ w0.heap.size) : Below B w W := k.trans (h.2.2.2.mono hB)
set_option maxRecDepth 100000 in
set_option maxHeartbeats 1000000 in
theorem implSquaresOnModule_c (d a v t : Value) (ds : List Int) (act tss : List (List Int)) (xs : List Int) (w : World) (h : ModS w.heap d a ds act) (ht : IntSS w.heap t tss) (hv : IntS w.heap v xs) :
    Calls Tryz.prog 26 #[.agg #[d, a], .agg #[t], v] w fun e w' => ∃ r, e = .returned (.tuple #[r, .int .i64 (ssmC ds act tss xs)]) ∧ OwnI w' w.heap.size r (ssmL ds act tss xs) ∧ Below w.heap.size w w' := by
  have hb0 : Below w.heap.size w (w.alloc (.cells #[d, a] 32)) := (Below.refl _ _).alloc (Nat.le_refl _) _
  have hb : Below w.heap.size w ((w.alloc (.cells #[d, a] 32)).alloc (.cells #[t] 51)) := hb0.alloc (by simp) _
  have V := two_new w d a 32
  have k1 := Go.Lib.cell?_alloc_some (.cells #[t] 51) V.1
  have k2 := Go.Lib.cell?_alloc_some (.cells #[t] 51) V.2
  have k3 := (Cell1.new (w.alloc (.cells #[d, a] 32)) t 51).c0
  rw [size_alloc_w] at k3
  have Q := Lib.hid (isSquares_c t tss _ (ht.same hb.block))
  have I := Lib.hid (fun (W : World) (h : ModS W.heap d a ds act) (hv : IntS W.heap v xs) => acted_c d a v ds act xs W h hv)
  obtain ⟨ao, ac, hdv, hm⟩ := h.1.len
  obtain ⟨bo, bc, hav, hm2⟩ := h.2.len
  obtain ⟨vo, vc, hvv, hm3⟩ := hv.len
  obtain ⟨tp, tc, htv, hm4⟩ := ht.len
  subst hdv; subst hav; subst hvv; subst htv
  have H0 := Lib.hid h; have HV0 := Lib.hid hv; have HT0 := Lib.hid ht; have HB := Lib.hid hb; clear h hb V hv ht hb0
  cases hQ : sqT tss
  · have e1 : ssmL ds act tss xs = [] := by simp [ssmL, hQ]
    have e2 : ssmC ds act tss xs = 1 := by simp [ssmC, hQ]
    rw [hQ] at Q
    rw [e1, e2]
    clear hQ e1 e2 I
    go_enter Tryz.func26, Tryz.ntmps26
    go_wp2_with (go_at_call 39; refine Q.out.mono ?_; rintro e w1 ⟨rfl, hb1⟩)
    go_ret2
    exact ⟨_, rfl, OwnI.nil _ _, HB.out.trans (hb1.mono HB.out.size)⟩
  rw [hQ] at Q
  cases hT : isMod ds act
  · have e1 : ssmL ds act tss xs = [] := by simp [ssmL, hT]
    have e2 : ssmC ds act tss xs = 1 := by simp [ssmC, hT]
    rw [hT] at I
    simp only [Bool.false_eq_true, if_false] at I
    rw [e1, e2]
    clear hT hQ e1 e2
    go_enter Tryz.func26, Tryz.ntmps26
    go_wp2_with fail
    refine Q.out.mono ?_
    rintro e w1 ⟨rfl, hb1⟩
    have k4 := (hb1.cell (World.block_lt_of_cell? _ _ k1)).trans k1
    have k5 := (hb1.cell (World.block_lt_of_cell? _ _ k2)).trans k2
    have HB1 := Lib.hid (HB.out.trans (hb1.mono HB.out.size))
    clear hb1 k1 k2 k3 Q
    go_wp2_with fail
    refine (I.out _ (H0.out.same HB1.out.block) (HV0.out.same HB1.out.block)).mono ?_
    rintro e w2 ⟨rfl, hb2⟩
    go_wp2_with fail
    go_ret2
    exact ⟨_, rfl, OwnI.nil _ _, HB1.out.trans (hb2.mono HB1.out.size)⟩
  rw [hT] at I
  simp only [if_true] at I
  cases hV : vecB ds xs
  · have e1 : ssmL ds act tss xs = [] := by simp [ssmL, hV]
    have e2 : ssmC ds act tss xs = 2 := by simp [ssmC, hT, hV, hQ]
    rw [hV] at I
    simp only [Bool.false_eq_true, if_false] at I
    rw [e1, e2]
    clear hT hQ hV e1 e2
    go_enter Tryz.func26, Tryz.ntmps26
    go_wp2_with fail
    refine Q.out.mono ?_
    rintro e w1 ⟨rfl, hb1⟩
    have k4 := (hb1.cell (World.block_lt_of_cell? _ _ k1)).trans k1
    have k5 := (hb1.cell (World.block_lt_of_cell? _ _ k2)).trans k2
    have HB1 := Lib.hid (HB.out.trans (hb1.mono HB.out.size))
    clear hb1 k1 k2 k3 Q
    go_wp2_with fail
    refine (I.out _ (H0.out.same HB1.out.block) (HV0.out.same HB1.out.block)).mono ?_
    rintro e w2 ⟨rfl, hb2⟩
    go_wp2_with fail
    go_ret2
    exact ⟨_, rfl, OwnI.nil _ _, HB1.out.trans (hb2.mono HB1.out.size)⟩
  rw [hV] at I
  simp only [if_true] at I
  have hT1 := isMod_T hT
  have hm16 := modT_len hT1
  have hlen := vecB_len hV
  have e1 : ssmL ds act tss xs = bitsL ds.length (wordsM act tss (maskN xs xs.length)) := by simp [ssmL, hT, hV, hQ]
  have e2 : ssmC ds act tss xs = 0 := by simp [ssmC, hT, hV, hQ]
  have hlt : maskN xs xs.length < 2 ^ ds.length := by rw [← hlen]; exact maskN_lt xs _
  have hlt2 : wordsM act tss (maskN xs xs.length) < 2 ^ 16 := by
    have := wordsM_lt hT1 _ hlt tss tss.length
    rw [List.take_length] at this
    exact Nat.lt_of_lt_of_le this (Nat.pow_le_pow_right (by omega) hm16)
  have T := Lib.hid (fun (W : World) (h : ModS W.heap (.slice ao ds.length ac) (.slice bo act.length bc) ds act) => tableOf_c _ _ ds act W h hT1)
  have M := Lib.hid (fun (W : World) (h : IntS W.heap (.slice vo xs.length vc) xs) => maskOf_c _ xs W h (vecB_bit hV) (by omega))
  have S := Lib.hid (fun (g : Nat) (us : List Value) (B : Nat) (W : World) (h : TabU W B g (.slice ao ds.length ac) us (tabL ds.length act)) (hu : IntSS W.heap (.slice tp tss.length tc) tss) => twords_c g _ _ us ds act tss B _ W h hT1 hlt hu (fun r hr x hx => wordB_let (sqT_rows hQ r hr) x hx))
  have O := Lib.hid (fun (W : World) (h : IntS W.heap (.slice ao ds.length ac) ds) => vectorOf_c (.slice ao ds.length ac) (.slice bo act.length bc) ds _ W h hm16 hlt2)
  rw [e1, e2]
  clear hT hV hQ e1 e2 hT1 hlt hlt2 hm16 hlen
  generalize wordsM act tss (maskN xs xs.length) = Y at *
  generalize maskN xs xs.length = X at *
  go_enter Tryz.func26, Tryz.ntmps26
  go_wp2_with fail
  refine Q.out.mono ?_
  rintro e w1 ⟨rfl, hb1⟩
  have k4 := (hb1.cell (World.block_lt_of_cell? _ _ k1)).trans k1
  have k5 := (hb1.cell (World.block_lt_of_cell? _ _ k2)).trans k2
  have k6 := (hb1.cell (World.block_lt_of_cell? _ _ k3)).trans k3
  have HB1 := Lib.hid (HB.out.trans (hb1.mono HB.out.size))
  clear hb1 k1 k2 k3 Q
  go_wp2_with fail
  refine (I.out _ (H0.out.same HB1.out.block) (HV0.out.same HB1.out.block)).mono ?_
  rintro e w2 ⟨rfl, hb2⟩
  have k1 := (hb2.cell (World.block_lt_of_cell? _ _ k4)).trans k4
  have k2 := (hb2.cell (World.block_lt_of_cell? _ _ k5)).trans k5
  have k3 := (hb2.cell (World.block_lt_of_cell? _ _ k6)).trans k6
  have HB2 := Lib.hid (HB1.out.trans (hb2.mono HB1.out.size))
  clear hb2 k4 k5 k6 I HB HB1
  go_wp2_with fail
  go_region_held3 (fun W => W.cell? ⟨w.heap.size, 0, none⟩ = some (.slice ao ds.length ac) ∧ W.cell? ⟨w.heap.size, 1, none⟩ = some (.slice bo act.length bc) ∧ W.cell? ⟨w.heap.size + 1, 0, none⟩ = some (.slice tp tss.length tc) ∧ Below w2.heap.size w2 W)
    (first | exact ⟨k1, k2, k3, (Below.refl _ _).drew⟩ | exact heldC3 (by assumption) hx | exact heldC3 (by assumption) hx4 | assumption)
    (first | (go_at_call 42; refine (T.out _ (H0.out.same (heldC3B HB2.out (by assumption) HB2.out.size).block)).mono ?_; rintro e W2 ⟨g, us, rfl, htu, hx⟩) | (go_at_call 44; refine (M.out _ (HV0.out.same (heldC3B HB2.out (by assumption) HB2.out.size).block)).mono ?_; rintro e W3 ⟨rfl, rfl⟩) | (go_at_call 43; refine (S.out g us _ _ htu (HT0.out.same (heldC3B HB2.out (by assumption) HB2.out.size).block)).mono ?_; rintro e W3 ⟨rfl, rfl⟩) | (go_at_call 41; refine (O.out _ (H0.out.1.same (heldC3B HB2.out (by assumption) HB2.out.size).block)).mono ?_; rintro e W4 ⟨r, rfl, hr, hx4⟩; obtain ⟨ra, rn, rc, rfl⟩ := own_shape hr))
  all_goals
    rename_i hh
    have HB4 := Lib.hid (heldC3B HB2.out hh HB2.out.size)
    go_wp2_with fail
    go_ret2
    exact ⟨_, rfl, own_base hr (Nat.le_trans HB2.out.size hx.size), HB4.out⟩
end
section
open Go.RowKit Go.Sort

theorem lead_let : ∀ r : List Int, isExp r = true → deg r ≤ 40 → (leadL r).sum = deg r ∧ 0 ≤ deg r ∧ ∀ x ∈ leadL r, 1 ≤ x ∧ x ≤ 40
  | [], _, _ => ⟨rfl, by simp [deg, degA], fun x hx => by simp [leadL] at hx⟩
  | x :: r, h, hd => by
    have hw := wt_pos (x :: r) h (by simp)
    have e := deg_cons x r
    have ht := isExp_tail h
    have h0 := deg_nn ht
    obtain ⟨h1, h2, h3⟩ := lead_let r ht (by omega)
    refine ⟨by rw [leadL, List.sum_cons, h1, e], by omega, fun y hy => ?_⟩
    rw [leadL] at hy
    rcases List.mem_cons.1 hy with rfl | hy
    · omega
    · exact h3 y hy
theorem lead_word {r : List Int} {d : Int} (h : isExp r = true) (hd : deg r = d) (h40 : d ≤ 40) : wordB (leadL r) = true ∧ (leadL r).sum = d := by
  obtain ⟨h1, h2, h3⟩ := lead_let r h (by omega)
  have hl : (leadL r).length ≤ 5 := by rw [lead_len]; exact exp_len5 h (by omega)
  refine ⟨?_, by omega⟩
  simp only [wordB, Bool.and_eq_true, decide_eq_true_eq, List.all_eq_true]
  refine ⟨⟨by omega, fun x hx => ?_⟩, by omega⟩
  have := h3 x hx
  simp [letB, this]
/-- The program's test of its own words. -/
theorem smR_sqT {xss : List (List Int)} (h : arT xss = true) : sqT (smR xss) = true := by
  have hS := smR_ok h
  have hd := degT_in h
  have hl := smR_small xss
  have key : ∀ j, j < (smR xss).length → wordB ((smR xss).getD j []) = true ∧ ((smR xss).getD j []).sum = degT xss := fun j hj => by
    obtain ⟨r, h1, h2, h3⟩ := hS.lead _ (List.getElem_mem hj)
    rw [show (smR xss).getD j [] = (smR xss)[j] by simp [hj], h3]
    exact lead_word h1 h2 hd.2
  refine sqT_yes _ (by omega) (ascB_true _ fun i hi => ?_) fun j hj => ⟨(key j hj).1, ?_⟩
  · have := List.pairwise_iff_getElem.1 hS.asc i (i + 1) (by omega) hi (by omega)
    simpa [show i < (smR xss).length by omega, hi] using this
  · rw [(key j hj).2, (key 0 (by omega)).2]
theorem smR_let {xss : List (List Int)} (h : arT xss = true) : ∀ r ∈ smR xss, ∀ x ∈ r, 1 ≤ x ∧ x ≤ 40 := fun r hr x hx => wordB_let (sqT_rows (smR_sqT h) r hr) x hx
def mmoC (ds : List Int) (act tss : List (List Int)) (xs : List Int) : Int := if isMod ds act && arT tss then (if vecB ds xs then 0 else 2) else 1
noncomputable def mmoL (ds : List Int) (act tss : List (List Int)) (xs : List Int) : List Int := if isMod ds act && arT tss && vecB ds xs then bitsL ds.length (wordsM act (smR tss) (maskN xs xs.length)) else []
theorem mmoL_ssm {ds : List Int} {act tss : List (List Int)} {xs : List Int} (h : arT tss = true) : ssmL ds act (smR tss) xs = mmoL ds act tss xs ∧ ssmC ds act (smR tss) xs = mmoC ds act tss xs := by
  unfold ssmL mmoL ssmC mmoC
  rw [smR_sqT h, h]
  exact ⟨rfl, rfl⟩
theorem mmoL_len (ds : List Int) (act tss : List (List Int)) (xs : List Int) : (mmoL ds act tss xs).length ≤ 16 := by
  unfold mmoL
  split
  · rename_i h
    simp only [Bool.and_eq_true] at h
    rw [bitsL_length]; exact modT_len (isMod_T h.1.1)
  · simp
theorem wordsM_nil (act : List (List Int)) (m : Nat) : wordsM act [] m = 0 := rfl
end
section
open Go.RowKit Go.Sort

set_option maxRecDepth 100000 in
set_option maxHeartbeats 1000000 in
theorem l11Milnor_c (d a v t : Value) (ds : List Int) (act tss : List (List Int)) (m : Nat) (w : World) (h : ModS w.heap d a ds act) (hT : modT ds act = true) (ht : IntSS w.heap t tss) (hv : IntS w.heap v (bitsL ds.length m)) (hA : arT tss = true) :
    Calls Tryz.prog 23 #[.agg #[d, a], t, v] w fun e w' => ∃ r, e = .returned r ∧ IntS w'.heap r (bitsL ds.length (wordsM act (smR tss) m)) ∧ Below w.heap.size w w' := by
  have hb : Below w.heap.size w (w.alloc (.cells #[d, a] 32)) := (Below.refl _ _).alloc (Nat.le_refl _) _
  have V := two_new w d a 32
  have k1 := V.1; have k2 := V.2
  have hs16 := modT_len hT
  have hmk := fun w => make_run (P := Tryz.prog) 22 2 _ 8 info_int64 Tryz.underlying22 rfl (by omega) ds.length (by omega) .i64 .i64 (ds.length : Int) (ds.length : Int) rfl rfl w
  obtain ⟨ao, ac, hdv, hm⟩ := h.1.len
  obtain ⟨bo, bc, hav, hm2⟩ := h.2.len
  obtain ⟨vo, vc, hvv, -⟩ := hv.len
  obtain ⟨tp, tc, htv, hm4⟩ := ht.len
  rw [bitsL_length] at hvv
  subst hdv; subst hav; subst hvv; subst htv
  have H0 := Lib.hid h; have HV0 := Lib.hid hv; have HT0 := Lib.hid ht; have HB := Lib.hid hb
  by_cases h0 : tss.length = 0
  · have e2 : bitsL ds.length (wordsM act (smR tss) m) = List.replicate ds.length 0 := by rw [List.eq_nil_of_length_eq_zero h0, smR_nil, wordsM_nil, bitsL_zero]
    have t0 := (eqB (show (tss.length : Int) = 0 by omega)).1
    have t1 : tss.length = 0 := h0
    rw [e2]
    clear e2 h0 h hT hv ht hb V hA hm hm2 hm4
    rw [t1] at HT0 ⊢
    clear t0 t1
    go_enter Tryz.func23, Tryz.ntmps23
    go_wp2_with fail
    go_ret
    have ho := made_own (w.alloc (.cells #[.slice ao ds.length ac, .slice bo act.length bc] 32)) (w.heap.size + 1) 2 ds.length (.int .i64 0) (by simp) (by omega)
    rw [size_alloc_w] at ho
    have ho2 : OwnI ((w.alloc (.cells #[.slice ao ds.length ac, .slice bo act.length bc] 32)).alloc (.cells (madeCells #[.int .i64 0] ds.length) 2)) (w.heap.size + 1) (.slice (some ⟨w.heap.size + 1, 0, none⟩) ds.length ds.length) (List.replicate ds.length 0) := by
      unfold OwnI
      simpa using ho
    exact ⟨_, rfl, ho2.ints, HB.out.alloc (by simp) _⟩
  · have t0 := (neB (show (tss.length : Int) ≠ 0 by omega)).1
    have A := Lib.hid (fun (W : World) (h : IntSS W.heap (.slice tp tss.length tc) tss) => l05Squares_c _ tss W h hA (by omega))
    have C := Lib.hid (fun (u : Value) (W : World) (h : ModS W.heap (.slice ao ds.length ac) (.slice bo act.length bc) ds act) (hu : IntSS W.heap u (smR tss)) (hv : IntS W.heap (.slice vo ds.length vc) (bitsL ds.length m)) => l11Words_c _ _ _ u ds act (smR tss) m W h hT hu hv)
    have HEQ := Lib.hid (fun S hS => smR_eq (S := S) hA hS)
    clear h0 h hT hv ht hb V hA hm hm2 hm4
    generalize bitsL ds.length (wordsM act (smR tss) m) = Y at *
    generalize smR tss = rx at *
    go_enter Tryz.func23, Tryz.ntmps23
    go_wp2_with fail
    go_region_held3 (fun W => W.cell? ⟨w.heap.size, 0, none⟩ = some (.slice ao ds.length ac) ∧ W.cell? ⟨w.heap.size, 1, none⟩ = some (.slice bo act.length bc) ∧ Below w.heap.size w W)
      (first | exact ⟨k1, k2, HB.out.drew⟩ | exact heldC2 (by assumption) hx | exact heldC2 (by assumption) hx4 | assumption)
      (first | (go_at_call 37; refine (A.out _ (HT0.out.same (heldC2X (by assumption)).block)).mono ?_; rintro e W3 ⟨r2, S, rfl, hS, hU2, hx⟩; obtain rfl : S = rx := HEQ.out _ hS; obtain ⟨sa, sc, rfl, -⟩ := hU2.len) | (go_at_call 36; refine (C.out _ _ (H0.out.same (heldC2X (by assumption)).block) hU2 (HV0.out.same (heldC2X (by assumption)).block)).mono ?_; rintro e W4 ⟨r4, rfl, hr4, hx4⟩; obtain ⟨ra, rc, rfl, -⟩ := hr4.len))
    all_goals
      rename_i hh
      go_wp2_with fail
      go_ret
      exact ⟨_, rfl, hr4, heldC2X hh⟩
set_option maxRecDepth 100000 in
set_option maxHeartbeats 1000000 in
theorem specMilnorOnModule_c (d a v t : Value) (ds : List Int) (act tss : List (List Int)) (xs : List Int) (w : World) (h : ModS w.heap d a ds act) (ht : IntSS w.heap t tss) (hv : IntS w.heap v xs) :
    Calls Tryz.prog 6 #[.agg #[d, a], .agg #[t], v] w fun e w' => ∃ r, e = .returned (.tuple #[r, .int .i64 (mmoC ds act tss xs)]) ∧ IntS w'.heap r (mmoL ds act tss xs) ∧ Below w.heap.size w w' := by
  have hb0 : Below w.heap.size w (w.alloc (.cells #[d, a] 32)) := (Below.refl _ _).alloc (Nat.le_refl _) _
  have hb : Below w.heap.size w ((w.alloc (.cells #[d, a] 32)).alloc (.cells #[t] 34)) := hb0.alloc (by simp) _
  have V := two_new w d a 32
  have k1 := Go.Lib.cell?_alloc_some (.cells #[t] 34) V.1
  have k2 := Go.Lib.cell?_alloc_some (.cells #[t] 34) V.2
  have k3 := (Cell1.new (w.alloc (.cells #[d, a] 32)) t 34).c0
  rw [size_alloc_w] at k3
  have I := Lib.hid (l11Is_c d a ds act _ (h.same hb.block))
  have Q := Lib.hid (fun (W : World) (h : IntSS W.heap t tss) => l04Is_c t tss W h)
  have J := Lib.hid (fun (W : World) (h : IntS W.heap d ds) (hv : IntS W.heap v xs) => l11Vector_c d a v ds xs W h hv)
  have C := Lib.hid (fun (W : World) (h : ModS W.heap d a ds act) (hT : modT ds act = true) (ht : IntSS W.heap t tss) (hv : IntS W.heap v (bitsL ds.length (maskN xs xs.length))) (hQ : arT tss = true) => l11Milnor_c d a v t ds act tss (maskN xs xs.length) W h hT ht hv hQ)
  obtain ⟨ao, ac, hdv, hm⟩ := h.1.len
  obtain ⟨bo, bc, hav, hm2⟩ := h.2.len
  obtain ⟨vo, vc, hvv, hm3⟩ := hv.len
  obtain ⟨tp, tc, htv, hm4⟩ := ht.len
  subst hdv; subst hav; subst hvv; subst htv
  have H0 := Lib.hid h; have HV0 := Lib.hid hv; have HT0 := Lib.hid ht; have HB := Lib.hid hb; clear h hb V hv ht hb0
  cases hT : isMod ds act
  · have e1 : mmoL ds act tss xs = [] := by simp [mmoL, hT]
    have e2 : mmoC ds act tss xs = 1 := by simp [mmoC, hT]
    rw [hT] at I
    rw [e1, e2]
    clear hT e1 e2
    go_enter Tryz.func6, Tryz.ntmps6
    go_wp2_with fail
    refine I.out.mono ?_
    rintro e w1 ⟨rfl, hb1⟩
    go_wp2_with fail
    go_ret2
    exact ⟨_, rfl, IntS.nil _, HB.out.trans (hb1.mono HB.out.size)⟩
  rw [hT] at I
  cases hQ : arT tss
  · have e1 : mmoL ds act tss xs = [] := by simp [mmoL, hQ]
    have e2 : mmoC ds act tss xs = 1 := by simp [mmoC, hQ]
    rw [hQ] at Q
    rw [e1, e2]
    clear hQ hT e1 e2
    go_enter Tryz.func6, Tryz.ntmps6
    go_wp2_with fail
    refine I.out.mono ?_
    rintro e w1 ⟨rfl, hb1⟩
    have k6 := (hb1.cell (World.block_lt_of_cell? _ _ k3)).trans k3
    have HB1 := Lib.hid (HB.out.trans (hb1.mono HB.out.size))
    clear hb1 k1 k2 k3 I
    go_wp2_with fail
    refine (Q.out _ (HT0.out.same HB1.out.block)).mono ?_
    rintro e w2 ⟨rfl, hb2⟩
    go_wp2_with fail
    go_ret2
    exact ⟨_, rfl, IntS.nil _, HB1.out.trans (hb2.mono HB1.out.size)⟩
  rw [hQ] at Q
  cases hV : vecB ds xs
  · have e1 : mmoL ds act tss xs = [] := by simp [mmoL, hV]
    have e2 : mmoC ds act tss xs = 2 := by simp [mmoC, hT, hV, hQ]
    rw [hV] at J
    rw [e1, e2]
    clear hT hQ hV e1 e2
    go_enter Tryz.func6, Tryz.ntmps6
    go_wp2_with fail
    refine I.out.mono ?_
    rintro e w1 ⟨rfl, hb1⟩
    have k4 := (hb1.cell (World.block_lt_of_cell? _ _ k1)).trans k1
    have k5 := (hb1.cell (World.block_lt_of_cell? _ _ k2)).trans k2
    have k6 := (hb1.cell (World.block_lt_of_cell? _ _ k3)).trans k3
    have HB1 := Lib.hid (HB.out.trans (hb1.mono HB.out.size))
    clear hb1 k1 k2 k3 I
    go_wp2_with fail
    refine (Q.out _ (HT0.out.same HB1.out.block)).mono ?_
    rintro e w2 ⟨rfl, hb2⟩
    have k1 := (hb2.cell (World.block_lt_of_cell? _ _ k4)).trans k4
    have k2 := (hb2.cell (World.block_lt_of_cell? _ _ k5)).trans k5
    have HB2 := Lib.hid (HB1.out.trans (hb2.mono HB1.out.size))
    clear hb2 k4 k5 k6 Q
    go_wp2_with fail
    refine (J.out _ (H0.out.1.same HB2.out.block) (HV0.out.same HB2.out.block)).mono ?_
    rintro e w3 ⟨rfl, hb3⟩
    go_wp2_with fail
    go_ret2
    exact ⟨_, rfl, IntS.nil _, HB2.out.trans (hb3.mono HB2.out.size)⟩
  rw [hV] at J
  have HT1 := Lib.hid (isMod_T hT); have HAR := Lib.hid hQ
  have e1 : mmoL ds act tss xs = bitsL ds.length (wordsM act (smR tss) (maskN xs xs.length)) := by simp [mmoL, hT, hV, hQ]
  have e2 : mmoC ds act tss xs = 0 := by simp [mmoC, hT, hV, hQ]
  rw [vecB_mask hV] at C
  rw [e1, e2]
  clear hT hV hQ e1 e2
  generalize bitsL ds.length (wordsM act (smR tss) (maskN xs xs.length)) = Y at *
  go_enter Tryz.func6, Tryz.ntmps6
  go_wp2_with fail
  refine I.out.mono ?_
  rintro e w1 ⟨rfl, hb1⟩
  have k4 := (hb1.cell (World.block_lt_of_cell? _ _ k1)).trans k1
  have k5 := (hb1.cell (World.block_lt_of_cell? _ _ k2)).trans k2
  have k6 := (hb1.cell (World.block_lt_of_cell? _ _ k3)).trans k3
  have HB1 := Lib.hid (HB.out.trans (hb1.mono HB.out.size))
  clear hb1 k1 k2 k3 I
  go_wp2_with fail
  refine (Q.out _ (HT0.out.same HB1.out.block)).mono ?_
  rintro e w2 ⟨rfl, hb2⟩
  have k1 := (hb2.cell (World.block_lt_of_cell? _ _ k4)).trans k4
  have k2 := (hb2.cell (World.block_lt_of_cell? _ _ k5)).trans k5
  have k3 := (hb2.cell (World.block_lt_of_cell? _ _ k6)).trans k6
  have HB2 := Lib.hid (HB1.out.trans (hb2.mono HB1.out.size))
  clear hb2 k4 k5 k6 Q
  go_wp2_with fail
  refine (J.out _ (H0.out.1.same HB2.out.block) (HV0.out.same HB2.out.block)).mono ?_
  rintro e w3 ⟨rfl, hb3⟩
  have k4 := (hb3.cell (World.block_lt_of_cell? _ _ k1)).trans k1
  have k5 := (hb3.cell (World.block_lt_of_cell? _ _ k2)).trans k2
  have k6 := (hb3.cell (World.block_lt_of_cell? _ _ k3)).trans k3
  have HB3 := Lib.hid (HB2.out.trans (hb3.mono HB2.out.size))
  clear hb3 k1 k2 k3 J
  go_wp2_with fail
  refine (C.out _ (H0.out.same HB3.out.block) HT1.out (HT0.out.same HB3.out.block) (HV0.out.same HB3.out.block) HAR.out).mono ?_
  rintro e w4 ⟨r, rfl, hr, hb4⟩
  obtain ⟨ra, rc, rfl, -⟩ := hr.len
  generalize Y.length = yl at *
  go_wp2_with fail
  go_ret2
  exact ⟨_, rfl, hr, HB3.out.trans (hb4.mono HB3.out.size)⟩
end
section
open Go.RowKit Go.Sort

set_option maxRecDepth 100000 in
set_option maxHeartbeats 1000000 in
theorem implMilnorOnModule_of (SO : SortOk) (d a v t : Value) (ds : List Int) (act tss : List (List Int)) (xs : List Int) (w : World) (h : ModS w.heap d a ds act) (ht : IntSS w.heap t tss) (hv : IntS w.heap v xs) :
    Calls Tryz.prog 10 #[.agg #[d, a], .agg #[t], v] w fun e w' => ∃ r, e = .returned (.tuple #[r, .int .i64 (mmoC ds act tss xs)]) ∧ OwnI w' w.heap.size r (mmoL ds act tss xs) ∧ Below w.heap.size w w' := by
  have hb0 : Below w.heap.size w (w.alloc (.cells #[d, a] 32)) := (Below.refl _ _).alloc (Nat.le_refl _) _
  have hb : Below w.heap.size w ((w.alloc (.cells #[d, a] 32)).alloc (.cells #[t] 34)) := hb0.alloc (by simp) _
  have V := two_new w d a 32
  have k1 := Go.Lib.cell?_alloc_some (.cells #[t] 34) V.1
  have k2 := Go.Lib.cell?_alloc_some (.cells #[t] 34) V.2
  have k3 := (Cell1.new (w.alloc (.cells #[d, a] 32)) t 34).c0
  rw [size_alloc_w] at k3
  have Q := Lib.hid (isMilnor_c t tss _ (ht.same hb.block))
  obtain ⟨ao, ac, hdv, hm⟩ := h.1.len
  obtain ⟨bo, bc, hav, hm2⟩ := h.2.len
  obtain ⟨vo, vc, hvv, hm3⟩ := hv.len
  obtain ⟨tp, tc, htv, hm4⟩ := ht.len
  subst hdv; subst hav; subst hvv; subst htv
  have H0 := Lib.hid h; have HV0 := Lib.hid hv; have HT0 := Lib.hid ht; have HB := Lib.hid hb; clear h hb V hv ht hb0
  cases hQ : arT tss
  · have e1 : mmoL ds act tss xs = [] := by simp [mmoL, hQ]
    have e2 : mmoC ds act tss xs = 1 := by simp [mmoC, hQ]
    rw [hQ] at Q
    rw [e1, e2]
    clear hQ e1 e2 SO
    go_enter Tryz.func10, Tryz.ntmps10
    go_wp2_with (go_at_call 25; refine Q.out.mono ?_; rintro e w1 ⟨rfl, hb1⟩)
    go_ret2
    exact ⟨_, rfl, OwnI.nil _ _, HB.out.trans (hb1.mono HB.out.size)⟩
  rw [hQ] at Q
  have A := Lib.hid (fun (W : World) (h : IntSS W.heap (.slice tp tss.length tc) tss) => squaresOf_of SO _ tss W h hQ)
  have C := Lib.hid (fun (u : Value) (W : World) (h : ModS W.heap (.slice ao ds.length ac) (.slice bo act.length bc) ds act) (hu : IntSS W.heap u (smR tss)) (hv : IntS W.heap (.slice vo xs.length vc) xs) => implSquaresOnModule_c _ _ _ u ds act (smR tss) xs W h hu hv)
  have HEQ := Lib.hid (fun S hS => smR_eq (S := S) hQ hS)
  have e1 := (mmoL_ssm (ds := ds) (act := act) (xs := xs) hQ).1
  have e2 := (mmoL_ssm (ds := ds) (act := act) (xs := xs) hQ).2
  rw [e1, e2] at C
  clear hQ e1 e2 SO
  generalize mmoL ds act tss xs = Y at *
  generalize mmoC ds act tss xs = Z at *
  generalize smR tss = rx at *
  go_enter Tryz.func10, Tryz.ntmps10
  go_wp2_with fail
  refine Q.out.mono ?_
  rintro e w1 ⟨rfl, hb1⟩
  have k4 := (hb1.cell (World.block_lt_of_cell? _ _ k1)).trans k1
  have k5 := (hb1.cell (World.block_lt_of_cell? _ _ k2)).trans k2
  have k6 := (hb1.cell (World.block_lt_of_cell? _ _ k3)).trans k3
  have HB1 := Lib.hid (HB.out.trans (hb1.mono HB.out.size))
  clear hb1 k1 k2 k3 Q
  go_wp2_with fail
  go_region_held3 (fun W => W.cell? ⟨w.heap.size, 0, none⟩ = some (.slice ao ds.length ac) ∧ W.cell? ⟨w.heap.size, 1, none⟩ = some (.slice bo act.length bc) ∧ W.cell? ⟨w.heap.size + 1, 0, none⟩ = some (.slice tp tss.length tc) ∧ Below w1.heap.size w1 W)
    (first | exact ⟨k4, k5, k6, (Below.refl _ _).drew⟩ | exact heldC3 (by assumption) hx | exact heldC3 (by assumption) hx4 | assumption)
    (first | (go_at_call 27; refine (A.out _ (HT0.out.same (heldC3B HB1.out (by assumption) HB1.out.size).block)).mono ?_; rintro e W3 ⟨r2, us2, S, rfl, hS, hU2, hx⟩; obtain rfl : S = rx := HEQ.out _ hS; obtain ⟨sa, sn, sc, rfl⟩ := own_shape hU2.row) | (go_at_call 26; refine (C.out _ _ (H0.out.same (heldC3B HB1.out (by assumption) HB1.out.size).block) hU2.ints (HV0.out.same (heldC3B HB1.out (by assumption) HB1.out.size).block)).mono ?_; rintro e W4 ⟨r, rfl, hr, hx4⟩; obtain ⟨ra, rn, rc, rfl⟩ := own_shape hr))
  all_goals
    rename_i hh
    have HB4 := Lib.hid (heldC3B HB1.out hh HB1.out.size)
    go_wp2_with fail
    go_ret2
    exact ⟨_, rfl, own_base hr (Nat.le_trans HB1.out.size hx.size), HB4.out⟩
end
section
open Go.RowKit Go.Sort Go.Shelf

/-- A slice with what it reads as. -/
def SElt (h : Array Obj) : Type := {p : Value × List Int // IntS h p.1 p.2}
instance (h : Array Obj) : Inhabited (SElt h) := ⟨⟨(.slice none 0 0, []), IntS.nil h⟩⟩
def encE {h : Array Obj} (x : SElt h) : Value := x.1.1
def cfE {h : Array Obj} (x y : SElt h) : Int := cmpL x.1.2 y.1.2
theorem encE_one {h : Array Obj} (x : SElt h) : (encE x).oneCell' = true := by
  rcases x.2 with ⟨hv, _⟩ | ⟨b, off, cap, cur, hv, _⟩
  · unfold encE; rw [hv]; rfl
  · unfold encE; rw [hv]; rfl
theorem ltOf_cfE {h : Array Obj} (x y : SElt h) : ltOf cfE x y = ltL x.1.2 y.1.2 := cmpL_neg _ _
theorem swo_cfE (h : Array Obj) : SWO (ltOf (cfE (h := h))) where
  irrefl x := by rw [ltOf_cfE]; exact ltL_irrefl _
  trans x y z h1 h2 := by rw [ltOf_cfE] at *; exact ltL_trans _ _ _ h1 h2
  ntrans x y z h1 h2 := by rw [ltOf_cfE] at *; exact ltL_ntrans _ _ _ h1 h2
theorem heap_sorted {w : World} {g m : Nat} {α : Type} [Inhabited α] {enc : α → Value} {d : Array α} {os : Array Obj} {cur : Array Value} {T : Nat} (hg : w.heap[g]? = some (.cells cur T (0, 0))) :
    (sortWorld enc w g 0 m d os).heap[g]? = some (.cells (putCells enc 0 d cur) T (0, 0)) := by
  have hlt := (Array.getElem?_eq_some_iff.1 hg).1
  show ((w.heap.modify g (onCells (putCells enc 0 d))) ++ os)[g]? = _
  rw [Array.getElem?_append_left (by simpa using hlt), Array.getElem?_modify, if_pos rfl, hg]
  rfl
theorem heap_sorted_far {w : World} {g m k : Nat} {α : Type} [Inhabited α] {enc : α → Value} {d : Array α} {os : Array Obj} (hk : k < w.heap.size) (ne : k ≠ g) :
    (sortWorld enc w g 0 m d os).heap[k]? = w.heap[k]? := by
  show ((w.heap.modify g (onCells (putCells enc 0 d))) ++ os)[k]? = _
  rw [Array.getElem?_append_left (by simpa using hk), Array.getElem?_modify, if_neg (fun e => ne e.symm)]
theorem size_sorted {w : World} {g m : Nat} {α : Type} [Inhabited α] {enc : α → Value} {d : Array α} {os : Array Obj} : w.heap.size ≤ (sortWorld enc w g 0 m d os).heap.size := by
  show w.heap.size ≤ ((w.heap.modify g (onCells (putCells enc 0 d))) ++ os).size
  simp
theorem keep_sorted {w : World} {g m : Nat} {α : Type} [Inhabited α] {enc : α → Value} {d : Array α} {os : Array Obj} {cur : Array Value} {T : Nat} (hg : w.heap[g]? = some (.cells cur T (0, 0))) (ne : T ≠ 2) : KeepI w (sortWorld enc w g 0 m d os) := by
  intro b cs f hb
  by_cases e : b = g
  · subst e
    rw [hg] at hb
    simp only [Option.some.injEq, Obj.cells.injEq] at hb
    exact absurd hb.2.1 ne
  · rw [heap_sorted_far (Array.getElem?_eq_some_iff.1 hb).1 e]; exact hb
theorem putCells_take {α : Type} [Inhabited α] {enc : α → Value} {d : Array α} {cur : Array Value} (h : d.size ≤ cur.size) : (putCells enc 0 d cur).toList.take d.size = d.toList.map enc := by
  apply List.ext_getElem?
  intro i
  by_cases hi : i < d.size
  · rw [List.getElem?_take, if_pos hi, List.getElem?_map]
    simp only [putCells, Array.toList_mapIdx, List.getElem?_mapIdx, Array.getElem?_toList]
    rw [Array.getElem?_eq_getElem (by omega), Array.getElem?_eq_getElem hi]
    simp [hi]
  · rw [List.getElem?_eq_none (by simp; omega), List.getElem?_eq_none (by simp; omega)]
theorem sortSS_c (v : Value) (us : List Value) (xss : List (List Int)) (B : Nat) (w : World) (hR : RefR w B w.heap v us xss) (hB : B ≤ w.heap.size) (hlen : xss.length < 4611686018427387904) :
    Calls Tryz.prog 79 #[v, .func (.func 75) #[] #[]] w fun e w' => e = .returned (.tuple #[]) ∧ ∃ us' xss', RefR w' B w.heap v us' xss' ∧ xss'.Perm xss ∧ xss'.Pairwise (fun a b => ltL b a = false) ∧ Below B w w' ∧ KeepI w w' := by
  by_cases h0 : xss.length = 0
  · obtain rfl : xss = [] := List.eq_nil_of_length_eq_zero h0
    have hus : us = [] := List.eq_nil_of_length_eq_zero hR.len
    subst hus
    obtain ⟨ao, l, c, rfl⟩ := own_shape hR.row
    have hl : l = 0 := by
      obtain ⟨_, _, hv, _⟩ := SlAt.len (slAt_of_own hR.row)
      simp only [Value.slice.injEq] at hv
      exact hv.2.1
    subst hl
    have h := AnyF.slices_SortFunc_none { sortLay with } ao c (.func (.func 75) #[] #[]) w
    exact h.mono fun e w' ⟨he, hw⟩ => ⟨he, [], [], by rw [hw]; exact hR, List.Perm.refl _, List.Pairwise.nil, by rw [hw]; exact Below.refl _ _, by rw [hw]; exact KeepI.refl _⟩
  · have hrow := hR.row
    rcases hrow.2 with ⟨_, h1⟩ | ⟨g, cap, cur, rfl, hgB, hg, h2, h3, h4, h5⟩
    · exact absurd h1 (by simpa using h0)
    rw [Nat.mul_one] at h4 h5
    have hus := hR.len
    let d : Array (SElt w.heap) := Array.ofFn fun i : Fin xss.length => ⟨(us[i]'(by have := i.2; omega), xss[i]), hR.each i _ _ (List.getElem?_eq_getElem (by have := i.2; omega)) (List.getElem?_eq_getElem i.2)⟩
    have hds : d.size = xss.length := Array.size_ofFn
    have hdu : d.toList.map encE = us := by
      apply List.ext_getElem
      · simp [hds, hus]
      · intro i h1 h2
        have e : d[i]'(by simpa using h1) = _ := Array.getElem_ofFn _
        simp only [List.getElem_map, Array.getElem_toList]
        rw [e]; rfl
    have hdx : d.toList.map (fun x => x.1.2) = xss := by
      apply List.ext_getElem
      · simp [hds]
      · intro i h1 h2
        have e : d[i]'(by simpa using h1) = _ := Array.getElem_ofFn _
        simp only [List.getElem_map, Array.getElem_toList]
        rw [e]; rfl
    have hH : Holds encE w g 0 d := fun j hj => by
      rw [hds] at hj
      refine ⟨?_, by rw [Nat.zero_add]; exact hrow.frozenAt j⟩
      rw [Nat.zero_add, hrow.cellAt j (by omega), getElem!_pos d j (by omega)]
      have := congrArg (fun l : List Value => l[j]?) hdu
      simp only [List.getElem?_map, Array.getElem?_toList] at this
      rw [← this, Array.getElem?_eq_getElem (by omega)]
      rfl
    have hcmp : CmpLays1 Tryz.prog 75 #[] (encE (h := w.heap)) cfE g 0 d.size w := fun m os dk _ x y => by
      have hk : KeepI w (sortWorld encE w g 0 m dk os) := keep_sorted hg (by decide)
      refine (compare_c (encE x) (encE y) x.1.2 y.1.2 _ (IntS.keep x.2 hk) (IntS.keep y.2 hk)).mono fun e w' ⟨he, hw⟩ => ⟨he, 0, #[], ?_⟩
      rw [← hw, grow_empty]; rfl
    have hcon := Any.slices_SortFunc sortLay (encE (h := w.heap)) encE_one cfE (swo_cfE _) 75 #[] g 0 cap d w enters_compare hcmp hH (Array.getElem?_eq_some_iff.1 hg).1 (by omega)
    rw [hds] at hcon
    refine Calls.mono hcon fun e w' ⟨he, d', n, os, hp, hs, hw⟩ => ⟨he, d'.toList.map encE, d'.toList.map (fun x => x.1.2), ?_⟩
    obtain ⟨hp1, hp2, hp3⟩ := hp
    have hd's : d'.size = xss.length := by rw [hp1, hds]
    have hperm : d'.toList.Perm d.toList := by
      rw [show d'.extract 0 xss.length = d' by rw [← hd's]; simp, show d.extract 0 xss.length = d by rw [← hds]; simp] at hp3
      exact hp3
    refine ⟨⟨⟨by simp [hd's], .inr ⟨g, cap, putCells encE 0 d' cur, by simp [hd's], hgB, by rw [hw]; exact heap_sorted hg, by simpa [hd's] using h2, h3, by simpa [putCells] using h4, ?_⟩⟩, fun i u xs hu hx => ?_⟩, ?_, ?_, ?_, ?_⟩
    · rw [Nat.mul_one, List.length_map, Array.length_toList, hd's, ← hd's]
      exact putCells_take (by omega)
    · simp only [List.getElem?_map, Option.map_eq_some_iff] at hu hx
      obtain ⟨z, hz, rfl⟩ := hu
      obtain ⟨z', hz', rfl⟩ := hx
      rw [hz] at hz'
      obtain rfl := Option.some.inj hz'
      exact z.2
    · rw [← hdx]; exact hperm.map _
    · rw [List.pairwise_iff_getElem]
      intro i j hi hj hij
      simp only [List.length_map, Array.length_toList] at hi hj
      have := hs i j (Nat.zero_le _) hij (by omega)
      rw [ltOf_cfE, getElem!_pos d' j hj, getElem!_pos d' i hi] at this
      simpa using this
    · rw [hw]
      exact ⟨rfl, rfl, rfl, size_sorted, fun k hk => heap_sorted_far (by omega) (by omega)⟩
    · rw [hw]; exact keep_sorted hg (by decide)
theorem sortSS_c2 (v : Value) (us : List Value) (xss : List (List Int)) (B : Nat) (w : World) (hR : RefR w B w.heap v us xss) (hB : B ≤ w.heap.size) (hlen : xss.length < 4611686018427387904) :
    Calls Tryz.prog 79 #[v, .func (.func 75) #[] #[]] w fun e w' => e = .returned (.tuple #[]) ∧ ∃ us' xss', RefR w' B w.heap v us' xss' ∧ (us'.zip xss').Perm (us.zip xss) ∧ xss'.Pairwise (fun a b => ltL b a = false) ∧ Below B w w' ∧ (∀ b, b < w.heap.size → some b ≠ v.ownBlock → w'.heap[b]? = w.heap[b]?) := by
  by_cases h0 : xss.length = 0
  · obtain rfl : xss = [] := List.eq_nil_of_length_eq_zero h0
    have hus : us = [] := List.eq_nil_of_length_eq_zero hR.len
    subst hus
    obtain ⟨ao, l, c, rfl⟩ := own_shape hR.row
    have hl : l = 0 := by
      obtain ⟨_, _, hv, _⟩ := SlAt.len (slAt_of_own hR.row)
      simp only [Value.slice.injEq] at hv
      exact hv.2.1
    subst hl
    have h := AnyF.slices_SortFunc_none { sortLay with } ao c (.func (.func 75) #[] #[]) w
    exact h.mono fun e w' ⟨he, hw⟩ => ⟨he, [], [], by rw [hw]; exact hR, List.Perm.refl _, List.Pairwise.nil, by rw [hw]; exact Below.refl _ _, fun b _ _ => by rw [hw]⟩
  · have hrow := hR.row
    rcases hrow.2 with ⟨_, h1⟩ | ⟨g, cap, cur, rfl, hgB, hg, h2, h3, h4, h5⟩
    · exact absurd h1 (by simpa using h0)
    rw [Nat.mul_one] at h4 h5
    have hus := hR.len
    let d : Array (SElt w.heap) := Array.ofFn fun i : Fin xss.length => ⟨(us[i]'(by have := i.2; omega), xss[i]), hR.each i _ _ (List.getElem?_eq_getElem (by have := i.2; omega)) (List.getElem?_eq_getElem i.2)⟩
    have hds : d.size = xss.length := Array.size_ofFn
    have hdu : d.toList.map encE = us := by
      apply List.ext_getElem
      · simp [hds, hus]
      · intro i h1 h2
        have e : d[i]'(by simpa using h1) = _ := Array.getElem_ofFn _
        simp only [List.getElem_map, Array.getElem_toList]
        rw [e]; rfl
    have hdx : d.toList.map (fun x => x.1.2) = xss := by
      apply List.ext_getElem
      · simp [hds]
      · intro i h1 h2
        have e : d[i]'(by simpa using h1) = _ := Array.getElem_ofFn _
        simp only [List.getElem_map, Array.getElem_toList]
        rw [e]; rfl
    have hH : Holds encE w g 0 d := fun j hj => by
      rw [hds] at hj
      refine ⟨?_, by rw [Nat.zero_add]; exact hrow.frozenAt j⟩
      rw [Nat.zero_add, hrow.cellAt j (by omega), getElem!_pos d j (by omega)]
      have := congrArg (fun l : List Value => l[j]?) hdu
      simp only [List.getElem?_map, Array.getElem?_toList] at this
      rw [← this, Array.getElem?_eq_getElem (by omega)]
      rfl
    have hcmp : CmpLays1 Tryz.prog 75 #[] (encE (h := w.heap)) cfE g 0 d.size w := fun m os dk _ x y => by
      have hk : KeepI w (sortWorld encE w g 0 m dk os) := keep_sorted hg (by decide)
      refine (compare_c (encE x) (encE y) x.1.2 y.1.2 _ (IntS.keep x.2 hk) (IntS.keep y.2 hk)).mono fun e w' ⟨he, hw⟩ => ⟨he, 0, #[], ?_⟩
      rw [← hw, grow_empty]; rfl
    have hcon := Any.slices_SortFunc sortLay (encE (h := w.heap)) encE_one cfE (swo_cfE _) 75 #[] g 0 cap d w enters_compare hcmp hH (Array.getElem?_eq_some_iff.1 hg).1 (by omega)
    rw [hds] at hcon
    refine Calls.mono hcon fun e w' ⟨he, d', n, os, hp, hs, hw⟩ => ⟨he, d'.toList.map encE, d'.toList.map (fun x => x.1.2), ?_⟩
    obtain ⟨hp1, hp2, hp3⟩ := hp
    have hd's : d'.size = xss.length := by rw [hp1, hds]
    have hperm : d'.toList.Perm d.toList := by
      rw [show d'.extract 0 xss.length = d' by rw [← hd's]; simp, show d.extract 0 xss.length = d by rw [← hds]; simp] at hp3
      exact hp3
    refine ⟨⟨⟨by simp [hd's], .inr ⟨g, cap, putCells encE 0 d' cur, by simp [hd's], hgB, by rw [hw]; exact heap_sorted hg, by simpa [hd's] using h2, h3, by simpa [putCells] using h4, ?_⟩⟩, fun i u xs hu hx => ?_⟩, ?_, ?_, ?_, ?_⟩
    · rw [Nat.mul_one, List.length_map, Array.length_toList, hd's, ← hd's]
      exact putCells_take (by omega)
    · simp only [List.getElem?_map, Option.map_eq_some_iff] at hu hx
      obtain ⟨z, hz, rfl⟩ := hu
      obtain ⟨z', hz', rfl⟩ := hx
      rw [hz] at hz'
      obtain rfl := Option.some.inj hz'
      exact z.2
    · have e : (us.zip xss) = d.toList.map fun x => (encE x, x.1.2) := by rw [← List.zip_map', hdu, hdx]
      rw [e, List.zip_map']; exact hperm.map _
    · rw [List.pairwise_iff_getElem]
      intro i j hi hj hij
      simp only [List.length_map, Array.length_toList] at hi hj
      have := hs i j (Nat.zero_le _) hij (by omega)
      rw [ltOf_cfE, getElem!_pos d' j hj, getElem!_pos d' i hi] at this
      simpa using this
    · rw [hw]
      exact ⟨rfl, rfl, rfl, size_sorted, fun k hk => heap_sorted_far (by omega) (by omega)⟩
    · intro b hb hne
      rw [hw]; exact heap_sorted_far hb (fun e => hne (by rw [e]; rfl))
end
end Go.Proofs.YtalbbjhonkcbgaaGreat

/- Reading texts: of the program: ParseDual. -/
import Derived.Test.YtalbbjhonkcbgaaGreatDoorLRdV
import Derived.Test.YtalbbjhonkcbgaaGreatDoorLRdLay2
namespace Go.Proofs.YtalbbjhonkcbgaaGreatDoor
open Go.RowKit Go.Sort

/-- Numbers of at most 15 digits. -/
structure Big (r : List Int) : Prop where
  len : r.length ≤ 20
  num : ∀ x ∈ r, 0 ≤ x ∧ x < 1000000000000000
theorem Big.at {r : List Int} (h : Big r) (i : Nat) (hi : i < r.length) : ∃ n : Nat, r[i] = (n : Int) ∧ n < 1000000000000000 := by
  have := h.num _ (List.getElem_mem hi)
  exact ⟨r[i].toNat, by omega, by omega⟩
theorem mfW_lenG (i n : Nat) (hi : i < 100) (hn : n < 1000000000000000) : (mfW i (n : Int)).length ≤ 40 := by
  unfold mfW
  have h1 := dec_lenG (i + 1) (by omega)
  rw [Int.natCast_succ] at h1
  have h2 := dec_lenG n hn
  simp only [List.length_append, List.length_cons, List.length_nil]
  split
  · simp only [List.length_append, List.length_cons, List.length_nil]; omega
  · simp only [List.length_nil]; omega
theorem mfL_wordG {r : List Int} (h : Big r) : ∀ k, k ≤ r.length → ∀ x ∈ mfL r k, x.length ≤ 40
  | 0, _, x, hx => by simp [mfL] at hx
  | k + 1, hk, x, hx => by
    unfold mfL at hx
    rcases List.mem_append.1 hx with hx | hx
    · exact mfL_wordG h k (by omega) x hx
    · split at hx
      · simp at hx
      · rw [List.mem_singleton] at hx
        obtain ⟨n, hn, hn2⟩ := h.at k (by omega)
        have e : r.getD k 0 = (n : Int) := by rw [show r.getD k 0 = r[k]'(by omega) by simp [show k < r.length by omega]]; exact hn
        rw [hx, e]
        exact mfW_lenG k n (by have := h.len; omega) hn2
set_option maxRecDepth 100000 in
set_option maxHeartbeats 1000000 in
theorem monomialTextG_c (v : Value) (r : List Int) (w : World) (h : IntS w.heap v r) (hd : Big r) (hG : Glob w) :
    Calls Tryz.prog 43 #[v] w fun e w' => e = .returned (.string (bs (mtW r))) ∧ Below w.heap.size w w' := by
  obtain ⟨ao, c, rfl, hm⟩ := h.len
  have H := Lib.hid h; have HD := Lib.hid hd; have HG := Lib.hid hG
  have hl := hd.len
  have HJ := Lib.hid (fun (v : Value) (B : Nat) (W : World) (h : OwnW W B v (mfL r r.length)) => joinW_c v (mfL r r.length) [32] B W h (by have := mfL_len r r.length; omega) (fun x hx => by have := mfL_wordG hd _ (Nat.le_refl _) x hx; omega) (by simp))
  clear h hd hG
  go_enter Tryz.func43, Tryz.ntmps43
  go_wp2_with fail
  go_loopw [3, 9] (fun y i wr => ∃ m : Nat, m ≤ r.length ∧ i = .int .i64 m ∧ OwnW wr w.heap.size y (mfL r m) ∧ Below w.heap.size w wr) (fun _ i _ => r.length - (intOf i).toNat)
  case atStart => exact ⟨0, Nat.zero_le _, rfl, ownW_empty (Nat.le_refl _), (Below.refl _ _).alloc (Nat.le_refl _) _⟩
  case round =>
    obtain ⟨m, hm2, rfl, hy, hb3⟩ := hrel
    obtain ⟨ya, yn, yc, rfl⟩ := own_shape hy
    have HY := Lib.hid hy; have HB3 := Lib.hid hb3
    have hsz3 := hb3.size
    by_cases hml : m < r.length
    · obtain ⟨b4, o4, q4, hv4, hc4, -⟩ := H.out.at m hml
      simp only [Value.slice.injEq, true_and] at hv4
      obtain ⟨rfl, rfl⟩ := hv4
      have hc := (HB3.out.cell (World.block_lt_of_cell? _ _ hc4)).trans hc4
      obtain ⟨n, hn, hn2⟩ := HD.out.at m hml
      have hg : r.getD m 0 = (n : Int) := by rw [show r.getD m 0 = r[m] by simp [hml]]; exact hn
      have HLN := Lib.hid (show (mfL r m).length ≤ 4398046511104 by have := mfL_len r m; omega)
      rw [hn] at hc
      have hdi := dec_lenG (m + 1) (by omega)
      have hdn := dec_lenG n hn2
      rw [Int.natCast_succ] at hdi
      have D1 := Lib.hid (fun W (hW : Glob W) => decimalG_c (m + 1) (by omega) W hW)
      have ed : ∀ k : Nat, bs (Go.Lib.decDigits k) = bs (dec (k : Int)) := fun k => by unfold dec; rw [Int.toNat_natCast]
      rw [ed] at D1
      rw [Int.natCast_succ] at D1
      have D2 := Lib.hid (fun W (hW : Glob W) => decimalG_c n (by omega) W hW)
      rw [ed] at D2
      clear hc4 hn hy hb3 ed
      by_cases h0 : n = 0
      · subst h0
        have HTK : Hid (mfL r (m + 1) = mfL r m) := by show _ = _; rw [mfL, hg, if_pos (by rfl), List.append_nil]
        clear hg D1 D2 hdi hdn
        go_wp2_with fail
        go_roundw
        case rel => exact ⟨m + 1, by omega, by go_num, by rw [HTK.out]; exact HY.out, HB3.out⟩
        case measure => simp [intOf]; omega
      · by_cases h1 : n = 1
        · subst h1
          have HTK : Hid (mfL r (m + 1) = mfL r m ++ [[120] ++ dec ((m : Int) + 1)]) := by
            show _ = _
            rw [mfL, hg, if_neg (by decide)]
            simp [mfW]
          have hadd : ∀ W, (Op.stringOp .add ⟨#[120]⟩ (bs (dec ((m : Int) + 1)))).run Tryz.prog W = .ok (.string (bs ([120] ++ dec ((m : Int) + 1)))) W := fun W => cat_run [120] _ (by simp only [List.length_cons, List.length_nil]; omega) Tryz.prog W
          clear hg hdi hdn D2
          generalize [120] ++ dec ((m : Int) + 1) = R at *
          generalize dec ((m : Int) + 1) = di at *
          go_wp2_with fail
          refine (D1.out wr (HG.out.below HB3.out)).mono ?_
          rintro e w1 ⟨rfl, hx1⟩
          have HY1 := Lib.hid (HY.out.same hx1.block); have HB1 := Lib.hid (HB3.out.trans (hx1.mono hsz3))
          clear hx1
          go_wp2_with (at_builtin; refine append_word (w := w1) rfl _ _ rfl _ _ _ _ HY1.out rfl HB1.out HB1.out.size _ rfl (by simp) HLN.out ?_; intro v' w' hown' hbl' _ _; obtain ⟨pv, nv, cv, rfl⟩ := own_shape hown')
          go_roundw
          case rel => exact ⟨m + 1, by omega, by go_num, by rw [HTK.out]; exact hown', hbl'⟩
          case measure => simp [intOf]; omega
        · have t1 : ((n : Int) == 1) = false := by simp; omega
          have t2 : decide ((1 : Int) < (n : Int)) = true := by simp; omega
          have HTK : Hid (mfL r (m + 1) = mfL r m ++ [(([120] ++ dec ((m : Int) + 1)) ++ [94]) ++ dec (n : Int)]) := by
            show _ = _
            rw [mfL, hg, if_neg (by omega)]
            unfold mfW
            rw [if_pos (by omega)]
            simp
          have hadd1 : ∀ W, (Op.stringOp .add ⟨#[120]⟩ (bs (dec ((m : Int) + 1)))).run Tryz.prog W = .ok (.string (bs ([120] ++ dec ((m : Int) + 1)))) W := fun W => cat_run [120] _ (by simp only [List.length_cons, List.length_nil]; omega) Tryz.prog W
          have hadd2 : ∀ W, (Op.stringOp .add (bs ([120] ++ dec ((m : Int) + 1))) ⟨#[94]⟩).run Tryz.prog W = .ok (.string (bs (([120] ++ dec ((m : Int) + 1)) ++ [94]))) W := fun W => cat_run ([120] ++ dec ((m : Int) + 1)) [94] (by simp only [List.length_append, List.length_cons, List.length_nil]; omega) Tryz.prog W
          have hadd3 := fun W => cat_run (([120] ++ dec ((m : Int) + 1)) ++ [94]) (dec (n : Int)) (by simp only [List.length_append, List.length_cons, List.length_nil]; omega) Tryz.prog W
          clear hg hdi hdn
          generalize (([120] ++ dec ((m : Int) + 1)) ++ [94]) ++ dec (n : Int) = R3 at *
          generalize ([120] ++ dec ((m : Int) + 1)) ++ [94] = R2 at *
          generalize [120] ++ dec ((m : Int) + 1) = R at *
          generalize dec ((m : Int) + 1) = di at *
          generalize dec (n : Int) = dn at *
          go_wp2_with fail
          refine (D1.out wr (HG.out.below HB3.out)).mono ?_
          rintro e w1 ⟨rfl, hx1⟩
          have HY1 := Lib.hid (HY.out.same hx1.block); have HB1 := Lib.hid (HB3.out.trans (hx1.mono hsz3))
          clear hx1
          go_wp2_with fail
          refine (D2.out w1 (HG.out.below HB1.out)).mono ?_
          rintro e w2 ⟨rfl, hx2⟩
          have HY2 := Lib.hid (HY1.out.same hx2.block); have HB2 := Lib.hid (HB1.out.trans (hx2.mono HB1.out.size))
          clear hx2
          go_wp2_with (at_builtin; refine append_word (w := w2) rfl _ _ rfl _ _ _ _ HY2.out rfl HB2.out HB2.out.size _ rfl (by simp) HLN.out ?_; intro v' w' hown' hbl' _ _; obtain ⟨pv, nv, cv, rfl⟩ := own_shape hown')
          go_roundw
          case rel => exact ⟨m + 1, by omega, by go_num, by rw [HTK.out]; exact hown', hbl'⟩
          case measure => simp [intOf]; omega
    · obtain rfl : m = r.length := by omega
      have hyn := own_lenW hy
      clear hy hb3
      by_cases hz : mfL r r.length = []
      · have HE : Hid (mtW r = [49]) := by show _ = _; unfold mtW; rw [if_pos hz]
        have hy0 : yn = 0 := by rw [hyn, hz]; rfl
        subst hy0
        clear hyn hz
        go_wp2_with fail
        go_ret
        exact ⟨by rw [HE.out]; rfl, HB3.out⟩
      · have HE : Hid (mtW r = Go.Lib.join (mfL r r.length) [32]) := by show _ = _; unfold mtW; rw [if_neg hz]
        have hp : 0 < yn := by rw [hyn]; exact List.length_pos_iff.2 hz
        have t1 : ((yn : Int) == 0) = false := by simp; omega
        clear hyn hz
        go_wp2_with (go_at_call 53; refine (HJ.out _ _ _ HY.out).mono ?_; rintro e w1 ⟨rfl, hb⟩)
        go_ret
        exact ⟨by rw [HE.out]; rfl, HB3.out.trans (hb.mono hsz3)⟩
/-- strings.Cut at one byte. -/
theorem cutB_c (c : UInt8) (t : List UInt8) (hl : t.length ≤ 1048576) (w : World) (hG : Glob w) :
    Calls Tryz.prog 27 #[.string (bs t), .string ⟨#[c]⟩] w fun e w' => e = .returned (.tuple #[.string (bs (Go.Lib.cut t [c]).1), .string (bs (Go.Lib.cut t [c]).2.1), .bool (Go.Lib.cut t [c]).2.2]) ∧ Below w.heap.size w w' := by
  obtain ⟨m, hm⟩ := hG.max
  refine (Go.Proofs.Tryz.strings_Cut (bs t) ⟨#[c]⟩ m w (by rw [bs_size]; omega) hm).mono ?_
  rintro e w' ⟨rfl, n, rfl⟩
  rw [bs_data]
  exact ⟨rfl, below_drewN n (Below.refl _ _)⟩
theorem cutB_len (c : UInt8) (t : List UInt8) : (Go.Lib.cut t [c]).1.length ≤ t.length ∧ (Go.Lib.cut t [c]).2.1.length ≤ t.length := by
  rcases cut_c c t with ⟨_, h⟩ | ⟨p, l, h1, _, h⟩
  · rw [h]; simp
  · rw [h, h1]; simp; omega
theorem cutX_c (t : List UInt8) (w : World) :
    Calls Tryz.prog 41 #[.string (bs t), .string ⟨#[120]⟩] w fun e w' => e = .returned (.tuple #[.string (bs (Go.Lib.trimPrefix t [120])), .bool (Go.Lib.hasPrefix t [120])]) ∧ w = w' := by
  refine (Go.Proofs.Tryz.strings_CutPrefix (bs t) ⟨#[120]⟩ w).mono ?_
  rintro e w' ⟨rfl, rfl⟩
  rw [bs_data]
  exact ⟨rfl, rfl⟩
theorem trim_len (t : List UInt8) : (Go.Lib.trimPrefix t [120]).length ≤ t.length := by unfold Go.Lib.trimPrefix; split <;> simp
theorem rdF_fail {x : List UInt8} {ws : List (List UInt8)} {out : List Int} (h : stepB x out = false) : rdF (x :: ws) out = none := by rw [rdF, if_neg (by rw [h]; simp)]
theorem rdF_go {x : List UInt8} {ws : List (List UInt8)} {out : List Int} (h : stepB x out = true) : rdF (x :: ws) out = rdF ws (padTo out (wI x - 1) ++ [(wN x : Int)]) := by rw [rdF, if_pos h]
theorem drop_at {ws : List (List UInt8)} {k : Nat} (hk : k < ws.length) : ws.drop k = ws[k] :: ws.drop (k + 1) := List.drop_eq_getElem_cons hk
theorem wI_lt {x : List UInt8} (h : readB (plcW x) = true) : wI x < 1000000000000000 := valN_small h
theorem wN_lt {x : List UInt8} (h : wOk x = true) : wN x < 1000000000000000 := by
  unfold wN
  unfold wOk at h
  simp only [Bool.and_eq_true, Bool.or_eq_true, Bool.not_eq_true'] at h
  split
  · rename_i e
    rcases h.2 with h | h
    · rw [e] at h; cases h
    · exact valN_small h
  · omega
theorem big_step {out : List Int} {i : Nat} {n : Nat} (h : Big out) (hi : 1 ≤ i) (hi2 : i ≤ 20) (hl : out.length < i) (hn : n < 1000000000000000) : Big (padTo out (i - 1) ++ [(n : Int)]) := by
  refine ⟨by rw [List.length_append, padTo_len _ _ (by omega)]; simp; omega, fun x hx => ?_⟩
  rcases List.mem_append.1 hx with hx | hx
  · unfold padTo at hx
    rcases List.mem_append.1 hx with hx | hx
    · exact h.num x hx
    · have := (List.mem_replicate.1 hx).2; omega
  · have : x = (n : Int) := by simpa using hx
    omega
set_option maxRecDepth 100000 in
set_option maxHeartbeats 4000000 in
theorem readMonomial_c (s : List UInt8) (hl : s.length ≤ 1048576) (w : World) (hG : Glob w) :
    Calls Tryz.prog 20 #[.string (bs s)] w fun e w' => ∃ v r, e = .returned (.tuple #[v, .bool (rmOk s)]) ∧ (rmOk s = true → r = rmV s) ∧ OwnI w' w.heap.size v r ∧ Below w.heap.size w w' := by
  have hb0 : Below w.heap.size w (w.alloc (.cells #[] 2)) := (Below.refl _ _).alloc (Nat.le_refl _) _
  have ho0 := ownI_empty (w := w) (B := w.heap.size) (Nat.le_refl _)
  by_cases h0 : s = [49]
  · have e1 : rmOk s = true := by rw [h0]; rfl
    have e2 : rmV s = [] := by rw [h0]; rfl
    have te := eq_one s [49] h0
    rw [e1, e2]
    clear e1 e2 h0 hG
    generalize bs s = sb at *
    go_enter Tryz.func20, Tryz.ntmps20
    go_wp2_with fail
    go_ret2
    exact ⟨_, [], rfl, fun _ => rfl, ho0, hb0⟩
  · have te := ne_one s [49] h0
    have HC := Lib.hid (fun W (hW : Glob W) => split_c 32 s (by omega) W hW)
    have HWL := Lib.hid (fun x hx => (spl_part 32 s x hx).1)
    have hle := spl_le 32 s
    have HG := Lib.hid hG; have HB0 := Lib.hid hb0; have HO0 := Lib.hid ho0
    obtain ⟨OK, hOK⟩ : ∃ b, b = rmOk s := ⟨_, rfl⟩
    have HOK : Hid (OK = (match rdF (spl 32 s) [] with | some r => mtW r == s | none => false)) := by
      show _ = _
      rw [hOK]
      have : (s == [49]) = false := by simpa using h0
      unfold rmOk
      rw [this, Bool.false_or]
      rfl
    have HRV : Hid (rmV s = (rdF (spl 32 s) []).getD []) := if_neg h0
    have HTX : Hid (∀ r, (mtW r == s) = ((bs (mtW r)).toList == (bs s).toList)) := fun r => by rw [Go.Lib.toList_data, Go.Lib.toList_data, bs_data, bs_data]
    rw [← hOK]
    clear hOK h0 hG hb0 ho0
    generalize rmV s = rv at *
    generalize spl 32 s = ws at *
    generalize bs s = sb at *
    go_enter Tryz.func20, Tryz.ntmps20
    go_wp2_with (go_at_call 29; refine (HC.out _ (HG.out.below HB0.out)).mono ?_; rintro e w1 ⟨g, rfl, hgB, hWS, hb1⟩; have HB1 := Lib.hid hb1; have HO1 := Lib.hid (HO0.out.same hb1.block); have HW1 := Lib.hid hWS; have HBB := Lib.hid (HB0.out.trans (hb1.mono HB0.out.size)); clear hb1 hWS)
    go_loopw [4, 23] (fun o i wr => ∃ (k : Nat) (out : List Int), k ≤ ws.length ∧ i = .int .i64 k ∧ rdF ws [] = rdF (ws.drop k) out ∧ Big out ∧ OwnI wr w.heap.size o out ∧ WordsAt wr g ws ∧ Below w.heap.size w wr) (fun _ i _ => ws.length - (intOf i).toNat)
    case atStart => exact ⟨0, [], Nat.zero_le _, rfl, rfl, ⟨by simp, fun x hx => by cases hx⟩, HO1.out, HW1.out, HBB.out⟩
    case round =>
      obtain ⟨k, out, hk, rfl, hpre, hbig, ho, hW, hb⟩ := hrel
      have hsz := hb.size
      obtain ⟨ya, yc, hv, -⟩ := ho.ints.len
      subst hv
      have HO := Lib.hid ho; have HB := Lib.hid hb; have HPRE := Lib.hid hpre; have HW := Lib.hid hW; have HBIG := Lib.hid hbig
      by_cases hkl : k < ws.length
      · have hc := hW.cell k hkl
        have hki : (k : Int) < (ws.length : Int) := by omega
        have hwl : ws[k].length ≤ 1048576 := by have := HWL.out _ (List.getElem_mem hkl); omega
        have HPRE0 : Hid (rdF ws [] = rdF (ws[k] :: ws.drop (k + 1)) out) := by show _ = _; rw [HPRE.out, drop_at hkl]
        have htl := trim_len ws[k]
        have hcl := cutB_len 94 (Go.Lib.trimPrefix ws[k] [120])
        have CX := Lib.hid (fun W => cutX_c ws[k] W)
        have CB := Lib.hid (fun W (hW : Glob W) => cutB_c 94 (Go.Lib.trimPrefix ws[k] [120]) (by omega) W hW)
        have R1 := Lib.hid (fun W (hW : Glob W) => readDecimal_c (plcW ws[k]) (by unfold plcW; omega) W hW)
        have R2 := Lib.hid (fun W (hW : Glob W) => readDecimal_c (powW ws[k]) (by unfold powW; omega) W hW)
        have CB : Hid (∀ W, Glob W → Calls Tryz.prog 27 #[.string (bs (Go.Lib.trimPrefix ws[k] [120])), .string ⟨#[94]⟩] W fun e w' => e = .returned (.tuple #[.string (bs (plcW ws[k])), .string (bs (powW ws[k])), .bool (exaW ws[k])]) ∧ Below W.heap.size W w') := CB.out
        have HST : Hid (stepB ws[k] out = (Go.Lib.hasPrefix ws[k] [120] && readB (plcW ws[k]) && (!exaW ws[k] || readB (powW ws[k])) && decide (out.length < wI ws[k]) && decide (wI ws[k] ≤ 20))) := rfl
        have HWNL : Hid (stepB ws[k] out = true → wN ws[k] < 1000000000000000) := fun h => by
          unfold stepB at h
          simp only [Bool.and_eq_true] at h
          exact wN_lt h.1.1
        have HWN0 : Hid (wN ws[k] = if exaW ws[k] then valN (powW ws[k]) else 1) := rfl
        have HWI0 : Hid (wI ws[k] = valN (plcW ws[k])) := rfl
        have HWIL : Hid (readB (plcW ws[k]) = true → wI ws[k] < 1000000000000000) := fun h => wI_lt h
        clear ho hb hW hpre hbig htl hcl hwl
        generalize Go.Lib.hasPrefix ws[k] [120] = hp at *
        generalize bs (Go.Lib.trimPrefix ws[k] [120]) = rs at *
        generalize bs (plcW ws[k]) = ps at *
        generalize bs (powW ws[k]) = qs at *
        generalize readB (plcW ws[k]) = b1 at *
        generalize valN (plcW ws[k]) = v1 at *
        go_wp2_with fail
        refine (CX.out wr).mono ?_
        rintro e w2 ⟨rfl, rfl⟩
        go_wp2_with fail
        refine (CB.out _ (HG.out.below HB.out)).mono ?_
        rintro e w3 ⟨rfl, hb3⟩
        have HB3 := Lib.hid (HB.out.trans (hb3.mono hsz)); have HO3 := Lib.hid (HO.out.same hb3.block); have HW3 := Lib.hid (HW.out.same hb3.block)
        clear hb3
        go_wp2_with fail
        refine (R1.out _ (HG.out.below HB3.out)).mono ?_
        rintro e w4 ⟨ni, rfl, hni, hb4⟩
        have HBT := Lib.hid (HB3.out.trans (hb4.mono HB3.out.size)); have HOT := Lib.hid (HO3.out.same hb4.block); have HWT := Lib.hid (HW3.out.same hb4.block)
        have HNI1 := Lib.hid hni
        clear hb4 hni HB HO HW HB3 HO3 HW3
        obtain ⟨wi, hwi⟩ : ∃ n, wI ws[k] = n := ⟨_, rfl⟩
        obtain ⟨wn, hwn⟩ : ∃ n, wN ws[k] = n := ⟨_, rfl⟩
        rw [hwi] at HST HWI0 HWIL
        rw [hwn] at HWNL HWN0
        have HWI := Lib.hid hwi; have HWNE := Lib.hid hwn
        clear hwi hwn
        obtain rfl : wi = v1 := HWI0.out
        have HFAIL : Hid (stepB ws[k] out = false → OK = false) := fun h => by rw [HOK.out, HPRE0.out, rdF_fail h]
        generalize exaW ws[k] = ex at *
        generalize readB (powW ws[k]) = b2 at *
        generalize valN (powW ws[k]) = v2 at *
        generalize bs ws[k] = xs at *
        cases ex
        · obtain rfl : wn = 1 := HWN0.out
          cases hp
          · have EF : Hid (OK = false) := HFAIL.out (by rw [HST.out]; rfl)
            go_wp2_with fail
            go_ret2
            exact ⟨_, [], by rw [EF.out]; rfl, (fun h => by rw [EF.out] at h; cases h), OwnI.nil _ _, HBT.out⟩
          cases b1
          · have EF : Hid (OK = false) := HFAIL.out (by rw [HST.out]; rfl)
            go_wp2_with fail
            go_ret2
            exact ⟨_, [], by rw [EF.out]; rfl, (fun h => by rw [EF.out] at h; cases h), OwnI.nil _ _, HBT.out⟩
          obtain rfl : ni = (wi : Int) := HNI1.out rfl
          by_cases hi1 : out.length < wi
          · by_cases hi2 : wi ≤ 20
            · have HYES : Hid (stepB ws[k] out = true) := by show _ = _; rw [HST.out]; simp [hi1, hi2]
              have HWN := Lib.hid (HWNL.out HYES.out)
              have t1 : decide (wi ≤ out.length) = false := by simp; omega
              have t2 : decide ((20 : Int) < (wi : Int)) = false := by simp; omega
              have s1 : IntKind.i64.wrap ((wi : Int) - 1) = (wi : Int) - 1 := IntWalk.i64_in _ (by omega)
              have hol := HBIG.out.len
              go_wp2_with fail
              clear t1 t2
              rename World => WB
              go_loopg [4] 21 (fun kk o wr => ∃ j : Nat, j ≤ wi - 1 - out.length ∧ wi - 1 - out.length ≤ kk + j ∧ OwnI wr w.heap.size o (out ++ List.replicate j 0) ∧ WordsAt wr g ws ∧ Below w.heap.size w wr)
              case atStart => exact ⟨0, Nat.zero_le _, by omega, by simpa using HOT.out, HWT.out, HBT.out⟩
              case round =>
                clear HOT HWT HBT
                obtain ⟨j, hj, hkk, ho, hW, hb⟩ := hrel
                have hsz := hb.size
                obtain ⟨ya, yc, hv, -⟩ := ho.ints.len
                rw [show (out ++ List.replicate j (0 : Int)).length = out.length + j by simp] at hv
                subst hv
                have HO := Lib.hid ho; have HB := Lib.hid hb; have HW := Lib.hid hW
                by_cases hjd : j < wi - 1 - out.length
                · have t1 : decide (((out.length + j : Nat) : Int) < (wi : Int) - 1) = true := by simp; omega
                  have HN : Hid ((out ++ List.replicate j 0).length ≤ 4398046511104) := by show _ ≤ _; simp; omega
                  have hk1 : 1 ≤ gk := by omega
                  clear ho hb hW
                  go_wp2_with (at_builtin; refine append_int (w := wr) rfl _ _ rfl _ _ _ 0 HO.out rfl HB.out hsz _ rfl (by simp) HN.out ?_; intro v' w' hown' hbl' _ hk4; obtain ⟨pv, nv, cv, rfl⟩ := own_shape hown')
                  go_roundg (gk - 1)
                  case measure => omega
                  case rel => exact ⟨j + 1, by omega, by omega, by rw [List.replicate_succ', ← List.append_assoc]; exact hown', HW.out.app HO.out hk4 (by decide), hbl'⟩
                · have t1 : decide (((out.length + j : Nat) : Int) < (wi : Int) - 1) = false := by simp; omega
                  have HPD : Hid (out ++ List.replicate j 0 = padTo out (wi - 1)) := by show _ = _; unfold padTo; rw [show wi - 1 - out.length = j by omega]
                  have HN : Hid ((out ++ List.replicate j 0).length ≤ 4398046511104) := by show _ ≤ _; simp; omega
                  have HB2 : Hid (Big (padTo out (wi - 1) ++ [1])) := big_step HBIG.out (by omega) hi2 hi1 HWN.out
                  have HNX : Hid (rdF ws [] = rdF (ws.drop (k + 1)) (padTo out (wi - 1) ++ [1])) := by
                    show _ = _
                    rw [HPRE0.out, rdF_go HYES.out, HWI.out, HWNE.out]
                    all_goals rfl
                  clear ho hb hW
                  go_wp2_with (at_builtin; refine append_int (w := wr) rfl _ _ rfl _ _ _ (1) HO.out rfl HB.out hsz _ rfl (by simp) HN.out ?_; intro v' w' hown' hbl' _ hk4; obtain ⟨pv, nv, cv, rfl⟩ := own_shape hown')
                  go_roundw
                  case rel => exact ⟨k + 1, _, by omega, by go_num, HNX.out, HB2.out, by rw [← HPD.out]; exact hown', HW.out.app HO.out hk4 (by decide), hbl'⟩
                  case measure => simp [intOf]; omega
            · have EF : Hid (OK = false) := HFAIL.out (by rw [HST.out]; simp [hi2])
              have t1 : decide (wi ≤ out.length) = false := by simp; omega
              have t2 : decide ((20 : Int) < (wi : Int)) = true := by simp; omega
              go_wp2_with fail
              go_ret2
              exact ⟨_, [], by rw [EF.out]; rfl, (fun h => by rw [EF.out] at h; cases h), OwnI.nil _ _, HBT.out⟩
          · have EF : Hid (OK = false) := HFAIL.out (by rw [HST.out]; simp [hi1])
            have t1 : decide (wi ≤ out.length) = true := by simp; omega
            go_wp2_with fail
            go_ret2
            exact ⟨_, [], by rw [EF.out]; rfl, (fun h => by rw [EF.out] at h; cases h), OwnI.nil _ _, HBT.out⟩
        · obtain rfl : wn = v2 := HWN0.out
          go_wp2_with fail
          refine (R2.out _ (HG.out.below HBT.out)).mono ?_
          rintro e w5 ⟨nn, rfl, hnn, hb5⟩
          have HOT := Lib.hid (HOT.out.same hb5.block); have HWT := Lib.hid (HWT.out.same hb5.block)
          have HBT := Lib.hid (HBT.out.trans (hb5.mono HBT.out.size))
          have HNN := Lib.hid hnn
          clear hb5 hnn
          cases hp
          · have EF : Hid (OK = false) := HFAIL.out (by rw [HST.out]; rfl)
            go_wp2_with fail
            go_ret2
            exact ⟨_, [], by rw [EF.out]; rfl, (fun h => by rw [EF.out] at h; cases h), OwnI.nil _ _, HBT.out⟩
          cases b1
          · have EF : Hid (OK = false) := HFAIL.out (by rw [HST.out]; rfl)
            go_wp2_with fail
            go_ret2
            exact ⟨_, [], by rw [EF.out]; rfl, (fun h => by rw [EF.out] at h; cases h), OwnI.nil _ _, HBT.out⟩
          cases b2
          · have EF : Hid (OK = false) := HFAIL.out (by rw [HST.out]; rfl)
            go_wp2_with fail
            go_ret2
            exact ⟨_, [], by rw [EF.out]; rfl, (fun h => by rw [EF.out] at h; cases h), OwnI.nil _ _, HBT.out⟩
          obtain rfl : ni = (wi : Int) := HNI1.out rfl
          obtain rfl : nn = (wn : Int) := HNN.out rfl
          by_cases hi1 : out.length < wi
          · by_cases hi2 : wi ≤ 20
            · have HYES : Hid (stepB ws[k] out = true) := by show _ = _; rw [HST.out]; simp [hi1, hi2]
              have HWN := Lib.hid (HWNL.out HYES.out)
              have t1 : decide (wi ≤ out.length) = false := by simp; omega
              have t2 : decide ((20 : Int) < (wi : Int)) = false := by simp; omega
              have s1 : IntKind.i64.wrap ((wi : Int) - 1) = (wi : Int) - 1 := IntWalk.i64_in _ (by omega)
              have hol := HBIG.out.len
              go_wp2_with fail
              clear t1 t2
              rename World => WB
              go_loopg [4] 21 (fun kk o wr => ∃ j : Nat, j ≤ wi - 1 - out.length ∧ wi - 1 - out.length ≤ kk + j ∧ OwnI wr w.heap.size o (out ++ List.replicate j 0) ∧ WordsAt wr g ws ∧ Below w.heap.size w wr)
              case atStart => exact ⟨0, Nat.zero_le _, by omega, by simpa using HOT.out, HWT.out, HBT.out⟩
              case round =>
                clear HOT HWT HBT
                obtain ⟨j, hj, hkk, ho, hW, hb⟩ := hrel
                have hsz := hb.size
                obtain ⟨ya, yc, hv, -⟩ := ho.ints.len
                rw [show (out ++ List.replicate j (0 : Int)).length = out.length + j by simp] at hv
                subst hv
                have HO := Lib.hid ho; have HB := Lib.hid hb; have HW := Lib.hid hW
                by_cases hjd : j < wi - 1 - out.length
                · have t1 : decide (((out.length + j : Nat) : Int) < (wi : Int) - 1) = true := by simp; omega
                  have HN : Hid ((out ++ List.replicate j 0).length ≤ 4398046511104) := by show _ ≤ _; simp; omega
                  have hk1 : 1 ≤ gk := by omega
                  clear ho hb hW
                  go_wp2_with (at_builtin; refine append_int (w := wr) rfl _ _ rfl _ _ _ 0 HO.out rfl HB.out hsz _ rfl (by simp) HN.out ?_; intro v' w' hown' hbl' _ hk4; obtain ⟨pv, nv, cv, rfl⟩ := own_shape hown')
                  go_roundg (gk - 1)
                  case measure => omega
                  case rel => exact ⟨j + 1, by omega, by omega, by rw [List.replicate_succ', ← List.append_assoc]; exact hown', HW.out.app HO.out hk4 (by decide), hbl'⟩
                · have t1 : decide (((out.length + j : Nat) : Int) < (wi : Int) - 1) = false := by simp; omega
                  have HPD : Hid (out ++ List.replicate j 0 = padTo out (wi - 1)) := by show _ = _; unfold padTo; rw [show wi - 1 - out.length = j by omega]
                  have HN : Hid ((out ++ List.replicate j 0).length ≤ 4398046511104) := by show _ ≤ _; simp; omega
                  have HB2 : Hid (Big (padTo out (wi - 1) ++ [(wn : Int)])) := big_step HBIG.out (by omega) hi2 hi1 HWN.out
                  have HNX : Hid (rdF ws [] = rdF (ws.drop (k + 1)) (padTo out (wi - 1) ++ [(wn : Int)])) := by
                    show _ = _
                    rw [HPRE0.out, rdF_go HYES.out, HWI.out, HWNE.out]
                    all_goals rfl
                  clear ho hb hW
                  go_wp2_with (at_builtin; refine append_int (w := wr) rfl _ _ rfl _ _ _ ((wn : Int)) HO.out rfl HB.out hsz _ rfl (by simp) HN.out ?_; intro v' w' hown' hbl' _ hk4; obtain ⟨pv, nv, cv, rfl⟩ := own_shape hown')
                  go_roundw
                  case rel => exact ⟨k + 1, _, by omega, by go_num, HNX.out, HB2.out, by rw [← HPD.out]; exact hown', HW.out.app HO.out hk4 (by decide), hbl'⟩
                  case measure => simp [intOf]; omega
            · have EF : Hid (OK = false) := HFAIL.out (by rw [HST.out]; simp [hi2])
              have t1 : decide (wi ≤ out.length) = false := by simp; omega
              have t2 : decide ((20 : Int) < (wi : Int)) = true := by simp; omega
              go_wp2_with fail
              go_ret2
              exact ⟨_, [], by rw [EF.out]; rfl, (fun h => by rw [EF.out] at h; cases h), OwnI.nil _ _, HBT.out⟩
          · have EF : Hid (OK = false) := HFAIL.out (by rw [HST.out]; simp [hi1])
            have t1 : decide (wi ≤ out.length) = true := by simp; omega
            go_wp2_with fail
            go_ret2
            exact ⟨_, [], by rw [EF.out]; rfl, (fun h => by rw [EF.out] at h; cases h), OwnI.nil _ _, HBT.out⟩
      · obtain rfl : k = ws.length := by omega
        have HR : Hid (rdF ws [] = some out) := by show _ = _; rw [HPRE.out, List.drop_length]; rfl
        have MT := Lib.hid (fun W (h : IntS W.heap (.slice ya out.length yc) out) (hW : Glob W) => monomialTextG_c _ out W h HBIG.out hW)
        have HRV2 : Hid (rv = out) := by show _ = _; rw [HRV.out, HR.out]; rfl
        have hb0 : OK = ((bs (mtW out)).toList == sb.toList) := by rw [HOK.out, HR.out]; exact HTX.out out
        have HOKB := Lib.hid hb0
        clear ho hb hW hpre hbig hb0 HTX
        generalize bs (mtW out) = sm at *
        go_wp2_with fail
        refine (MT.out _ HO.out.ints (HG.out.below HB.out)).mono ?_
        rintro e w3 ⟨rfl, hb3⟩
        have HO3 := Lib.hid (HO.out.same hb3.block); have HB3 := Lib.hid (HB.out.trans (hb3.mono hsz))
        clear hb3
        go_wp2_with fail
        go_ret2
        exact ⟨_, out, by rw [HOKB.out]; rfl, fun _ => HRV2.out.symm, HO3.out, HB3.out⟩
theorem enters_readMonomial : Enters Tryz.prog 20 := fun args w => by kernel_rfl
set_option maxRecDepth 100000 in
set_option maxHeartbeats 1000000 in
theorem implParseDual_c (t : List UInt8) (hl : t.length ≤ 1048576) (w : World) (hG : Glob w) :
    Calls Tryz.prog 6 #[.string (bs t)] w fun e w' => ∃ r us, e = .returned (.tuple #[.agg #[r], .int .i64 (pduC t)]) ∧ OwnU w' w.heap.size r us (pduL t) ∧ Below w.heap.size w w' := by
  have hb0 : Below w.heap.size w (w.alloc (.cells #[.slice none 0 0] 24)) := (Below.refl _ _).alloc (Nat.le_refl _) _
  have k0 := Cell1.new w (.slice none 0 0) 24
  have C := Lib.hid (fun W (hW : Glob W) => readSum_c t hl 20 rmOk rmV W hW enters_readMonomial (fun W2 x hx hW2 => readMonomial_c x (by have := (spl_part 43 t x hx).1; omega) W2 hW2))
  have L := Lib.hid (fun v xs W (h : IntSS W.heap v xs) => isDual_c v xs W h)
  have hsm := pdu_same t
  have HC : Hid (pduC t = if (rsOk rmOk t && arT (rsV rmV t)) = true then 0 else 6) := by
    show _ = _
    unfold pduC; rw [← hsm.1]
  have HL : Hid (pduL t = if (rsOk rmOk t && arT (rsV rmV t)) = true then rsV rmV t else []) := by
    show _ = _
    unfold pduL
    cases h : pduB t
    · rw [if_neg (by simp), if_neg (by have := hsm.1; rw [h] at this; rw [this]; simp)]
    · rw [if_pos rfl, if_pos (by have := hsm.1; rw [h] at this; exact this)]
      exact (hsm.2 h).symm
  have HG := Lib.hid (hG.below hb0)
  clear hsm hG
  generalize pduC t = pc at *
  generalize pduL t = pl at *
  generalize rsV rmV t = rv at *
  generalize bs t = s at *
  have HB0 := Lib.hid hb0; have K0 := Lib.hid k0
  clear hb0 k0
  have HSZ : Hid (w.heap.size + 1 = (w.alloc (.cells #[.slice none 0 0] 24)).heap.size) := by show _ = _; simp
  cases hO : rsOk rmOk t
  · rw [hO] at C HC HL
    obtain rfl : pc = 6 := HC.out
    obtain rfl : pl = [] := HL.out
    clear HC HL hO
    go_enter Tryz.func6, Tryz.ntmps6
    go_wp2_with fail
    refine (C.out _ HG.out).mono ?_
    rintro e w1 ⟨v, us, xs, rfl, -, hI, hb1⟩
    obtain ⟨va, vc, rfl, -⟩ := hI.ints.len
    have K1 := Lib.hid (K0.out.kept hb1.block)
    have HB1 := Lib.hid (HB0.out.trans (hb1.mono HB0.out.size))
    have K2 := Lib.hid (K1.out.kept (alloc_old w1 (.cells #[.slice va xs.length vc] 24)))
    have HB2 := Lib.hid (HB1.out.alloc HB1.out.size (.cells #[.slice va xs.length vc] 24))
    have q1 := K2.out.c0; have f1 := K2.out.free 0
    clear hI hb1 L
    go_wp2_with fail
    have g0 := (K2.out.set (.slice none 0 0)).c0
    exact bodyPost_ret (v := .tuple #[.agg #[.slice none 0 0], .int .i64 6]) (by simp [results, Tryz.results6, go_sem, g0]) rfl
      ⟨_, [], rfl, ownU_nil0 _ _, HB2.out.setCell (Nat.le_refl _) _⟩
  · rw [hO] at C HC HL
    clear hO
    go_enter Tryz.func6, Tryz.ntmps6
    go_wp2_with fail
    refine (C.out _ HG.out).mono ?_
    rintro e w1 ⟨v, us, xs, rfl, hx, hI, hb1⟩
    obtain rfl : xs = rv := by simpa using hx
    clear hx
    obtain ⟨va, vc, rfl, -⟩ := hI.ints.len
    have HB1 := Lib.hid (HB0.out.trans (hb1.mono HB0.out.size))
    have K1 := Lib.hid (K0.out.kept hb1.block)
    have K2 := Lib.hid (K1.out.kept (alloc_old w1 (.cells #[.slice va xs.length vc] 24)))
    have N2 := Lib.hid (Cell1.new w1 (.slice va xs.length vc) 24)
    have HB2 := Lib.hid (HB1.out.alloc HB1.out.size (.cells #[.slice va xs.length vc] 24))
    have HI2 := Lib.hid (hI.same (alloc_old w1 (.cells #[.slice va xs.length vc] 24)))
    have q1 := K2.out.c0; have f1 := K2.out.free 0; have q2 := N2.out.c0
    have LL := Lib.hid (L.out _ _ _ HI2.out.ints)
    clear hI hb1 L
    cases hA : arT xs
    · rw [hA] at LL HC HL
      obtain rfl : pc = 6 := HC.out
      obtain rfl : pl = [] := HL.out
      clear HC HL hA
      go_wp2_with fail
      refine LL.out.mono ?_
      rintro e w3 ⟨rfl, hb3⟩
      have K3 := Lib.hid (K2.out.kept hb3.block)
      have HB3 := Lib.hid (HB2.out.trans (hb3.mono HB2.out.size))
      have q1 := K3.out.c0; have f1 := K3.out.free 0
      clear hb3
      go_wp2_with fail
      have g0 := (K3.out.set (.slice none 0 0)).c0
      exact bodyPost_ret (v := .tuple #[.agg #[.slice none 0 0], .int .i64 6]) (by simp [results, Tryz.results6, go_sem, g0]) rfl
        ⟨_, [], rfl, ownU_nil0 _ _, HB3.out.setCell (Nat.le_refl _) _⟩
    · rw [hA] at LL HC HL
      obtain rfl : pc = 0 := HC.out
      obtain rfl : pl = xs := HL.out
      clear HC HL hA
      go_wp2_with fail
      refine LL.out.mono ?_
      rintro e w3 ⟨rfl, hb3⟩
      have K3 := Lib.hid (K2.out.kept hb3.block)
      have N3 := Lib.hid (N2.out.kept hb3.block)
      have HB3 := Lib.hid (HB2.out.trans (hb3.mono HB2.out.size))
      have HI3 := Lib.hid (HI2.out.same hb3.block)
      have q1 := K3.out.c0; have f1 := K3.out.free 0; have q2 := N3.out.c0
      clear hb3
      go_wp2_with fail
      have g0 := (K3.out.set (.slice va pl.length vc)).c0
      exact bodyPost_ret (v := .tuple #[.agg #[.slice va pl.length vc], .int .i64 0]) (by simp [results, Tryz.results6, go_sem, g0]) rfl
        ⟨_, us, rfl, ownU_var1 HI3.out (by have := HSZ.out; omega) _ (by have := HSZ.out; omega), HB3.out.setCell (Nat.le_refl _) _⟩
end Go.Proofs.YtalbbjhonkcbgaaGreatDoor

/- Texts that lie in one file here: LMsu4 LMsu5 LMsu6 LRes LFillS LBas LBas2 LProdT LMulM LSort LMsu7 LDr4c. -/
import Derived.Test.YtmnkccjddahcjaaGreatFn
import Derived.Test.YtmnkccjddahcjaaGreatLStep2
import Derived.Test.YtmnkccjddahcjaaGreatLAdd3
import Derived.Test.YtmnkccjddahcjaaGreatLCount
import Derived.Test.YtmnkccjddahcjaaGreatLFill0
import Derived.Test.YtmnkccjddahcjaaGreatLCopy
import Derived.Test.YtmnkccjddahcjaaGreatLOdd2
import Derived.Deep.DeepCutAuto
import Derived.Test.YtmnkccjddahcjaaGreatLFill
import Derived.Test.YtmnkccjddahcjaaGreatLMulD
import Derived.Test.YtmnkccjddahcjaaGreatLAdd2
import Derived.Test.YtmnkccjddahcjaaGreatLBound
import Derived.Test.YtmnkccjddahcjaaGreatLCmp
import Derived.Test.YtmnkccjddahcjaaGreatLib4
import Derived.Test.YtmnkccjddahcjaaGreatLMil2
import Derived.Test.YtmnkccjddahcjaaGreatLRef
import Derived.Test.YtmnkccjddahcjaaGreatLSortLay
import Derived.Shelf.SlSortCmp.NoneTotal
import Derived.Test.YtmnkccjddahcjaaGreatLPart
import Derived.Test.YtmnkccjddahcjaaGreatBMilnorSums
namespace Go.Proofs.YtmnkccjddahcjaaGreat
section
open Go.RowKit Go.Sort

def bit5 (x : Int) : Bool := decide (0 ≤ x) && decide (x ≤ 1)
theorem bit5_cases {x : Int} (h : bit5 x = true) : x = 0 ∨ x = 1 := by simp only [bit5, Bool.and_eq_true, decide_eq_true_eq] at h; omega
def mocC (n : Int) (ys : List Int) : Int := if 0 ≤ n ∧ n ≤ 40 then (if ys.length = (partL n.toNat).length then (if ys.all bit5 = true then 0 else 2) else 2) else 2
def selL (T : List (List Int)) (ys : List Int) : Nat → List (List Int)
  | 0 => []
  | k + 1 => selL T ys k ++ (if ys.getD k 0 = 1 then [T.getD k []] else [])
def mocL (n : Int) (ys : List Int) : List (List Int) := if mocC n ys = 0 then selL (partL n.toNat) ys ys.length else []
theorem selL_le (T : List (List Int)) (ys : List Int) : ∀ k, (selL T ys k).length ≤ k
  | 0 => Nat.le_refl _
  | k + 1 => by
    have := selL_le T ys k
    rw [selL, List.length_append]
    split <;> simp <;> omega
theorem isBit5_c (x : Int) (w : World) : Calls Tryz.prog 143 #[.int .i64 x] w fun e w' => e = .returned (.bool (bit5 x)) ∧ w = w' := by
  go_enter Tryz.func143, Tryz.ntmps143
  go_wp2_with (go_at_call 153; refine (in_c _ _ _ _).mono ?_; rintro e w' ⟨rfl, rfl⟩)
  go_ret
  exact ⟨rfl, rfl⟩
theorem enters_isBit5 : Enters Tryz.prog 143 := fun args w => by kernel_rfl
def ElC (w w' : World) (e : Ending) (c : Int) (xss : List (List Int)) : Prop := ∃ r, e = .returned (.tuple #[.agg #[r], .int .i64 c]) ∧ IntSS w'.heap r xss ∧ Below w.heap.size w w'
set_option maxRecDepth 100000 in
set_option maxHeartbeats 1000000 in
theorem implMilnorOfCoordinates_of (SO : SortOk2) (v : Value) (n : Int) (ys : List Int) (w : World) (hy : IntS w.heap v ys) :
    Calls Tryz.prog 54 #[.int .i64 n, v] w fun e w' => ElC w w' e (mocC n ys) (mocL n ys) := by
  have D := Lib.hid (isDeg_c n)
  have k4 := Cell1.new w (.slice none 0 0) 31
  obtain ⟨W1, hW1⟩ : ∃ W1, W1 = w.alloc (.cells #[.slice none 0 0] 31) := ⟨_, rfl⟩
  have hb1 : Below w.heap.size w W1 := by rw [hW1]; exact (Below.refl _ _).alloc (Nat.le_refl _) _
  rw [← hW1] at k4
  have K4 := Lib.hid k4; have HB1 := Lib.hid hb1; have HW1 := Lib.hid hW1
  have HY := Lib.hid hy
  obtain ⟨yo, yc, rfl, -⟩ := hy.len
  clear k4 hb1 hW1 hy
  by_cases h : 0 ≤ n ∧ n ≤ 40
  · obtain ⟨d, rfl⟩ : ∃ d : Nat, n = d := ⟨n.toNat, by omega⟩
    have hd : d ≤ 40 := by omega
    rw [deg_in hd] at D
    have P := Lib.hid (fun W => partitions_of SO d W hd)
    have hL := partL_len hd
    have HC : Hid (mocC d ys = if ys.length = (partL d).length then (if ys.all bit5 = true then 0 else 2) else 2) := by show _ = _; unfold mocC; rw [if_pos h]; rfl
    have HM : Hid (mocL d ys = if mocC d ys = 0 then selL (partL d) ys ys.length else []) := by show _ = _; unfold mocL; rfl
    clear SO h
    generalize mocC (d : Int) ys = mc at *
    generalize mocL (d : Int) ys = ml at *
    generalize partL d = T at *
    go_enter Tryz.func54, Tryz.ntmps54
    go_wp2_with fail
    rw [← HW1.out]
    refine (D.out _).mono ?_
    rintro e wx ⟨rfl, rfl⟩
    go_wp2_with fail
    refine (P.out _).mono ?_
    rintro e w2 ⟨r2, us2, rfl, hU2, hb2⟩
    obtain ⟨pa, pn, pc, rfl⟩ := own_shape hU2.row
    obtain rfl : pn = T.length := by
      obtain ⟨_, _, hv, _⟩ := hU2.ints.len
      simp only [Value.slice.injEq] at hv
      exact hv.2.1
    have K42 := Lib.hid (K4.out.kept hb2.block)
    have HT2 := Lib.hid hU2.ints
    have HB2 := Lib.hid (HB1.out.trans (hb2.mono HB1.out.size))
    have RX := Lib.hid ((ref_empty (w := w2) (B := w2.heap.size) w2.heap (Nat.le_refl _)).grow (alloc_old w2 (.cells #[] 56)))
    have BX3 := Lib.hid ((Below.refl w2.heap.size w2).alloc (Nat.le_refl _) (.cells #[] 56))
    have HY2 := Lib.hid (HY.out.same HB2.out.block)
    have q42 := (K42.out.kept BX3.out.block).c0
    have f42 := (K42.out.kept BX3.out.block).free 0
    clear hU2 hb2 HW1 D P
    by_cases hl : ys.length = T.length
    · have AL := Lib.hid (all_c _ ys 143 #[] bit5 _ (HY2.out.same BX3.out.block) enters_isBit5 (fun w1 _ x _ => (isBit5_c x w1).mono fun _ _ ⟨he, hw⟩ => ⟨he, 0, hw.symm⟩))
      rw [if_pos hl] at HC
      have u0 := (eqB (show ((ys.length : Nat) : Int) = T.length by omega)).2
      have HLQ := Lib.hid hl
      clear hl
      cases hb : ys.all bit5
      · rw [hb] at AL HC
        have hmc : mc = 2 := by rw [HC.out]; rfl
        have hml : ml = [] := by rw [HM.out, hmc]; rfl
        subst hmc; subst hml
        clear HC HM hb
        obtain ⟨W3, hW3⟩ : ∃ W3, W3 = w2.alloc (.cells #[] 56) := ⟨_, rfl⟩
        rw [← hW3] at RX BX3 AL q42 f42
        have HW3 := Lib.hid hW3; clear hW3
        go_wp2_with (go_at_call 142; rw [← HW3.out]; refine AL.out.mono ?_; rintro e w5 ⟨rfl, hb5⟩; have KX := Lib.hid ((K42.out.kept BX3.out.block).kept hb5.block); have q5 := KX.out.c0; have f5 := KX.out.free 0; have BX := Lib.hid ((HB2.out.trans (BX3.out.mono HB2.out.size)).trans (hb5.mono (Nat.le_trans HB2.out.size BX3.out.size))); clear q42 f42 hb5)
        have g0 := (KX.out.set (.slice none 0 0)).c0
        exact bodyPost_ret (v := .tuple #[.agg #[.slice none 0 0], .int .i64 2]) (by simp [results, Tryz.results54, go_sem, g0]) rfl
          ⟨_, rfl, IntSS.nil _, BX.out.setCell (by exact Nat.le_refl _) _⟩
      · rw [hb] at AL HC
        have hmc : mc = 0 := by rw [HC.out]; rfl
        have hml : ml = selL T ys ys.length := by rw [HM.out, hmc]; rfl
        have HBT : Hid (∀ x ∈ ys, x = 0 ∨ x = 1) := by
          show ∀ x ∈ ys, _
          intro x hx
          exact bit5_cases (List.all_eq_true.1 hb x hx)
        subst hmc; subst hml
        clear HC HM hb
        obtain ⟨W3, hW3⟩ : ∃ W3, W3 = w2.alloc (.cells #[] 56) := ⟨_, rfl⟩
        rw [← hW3] at RX BX3 AL q42 f42
        have HW3 := Lib.hid hW3; clear hW3
        go_wp2_with (go_at_call 142; rw [← HW3.out]; refine AL.out.mono ?_; rintro e w5 ⟨rfl, hb5⟩; have B5 := Lib.hid (BX3.out.trans (hb5.mono BX3.out.size)); have RX5 := Lib.hid (RX.out.keepD hb5.block); clear q42 f42 hb5)
        go_loopw [7, 30] (fun o i wr => ∃ (k : Nat) (us : List Value), k ≤ ys.length ∧ i = .int .i64 k ∧ RefR wr w2.heap.size wr.heap o us (selL T ys k) ∧ Below w2.heap.size w2 wr) (fun _ i _ => ys.length - (intOf i).toNat)
        case atStart => exact ⟨0, [], Nat.zero_le _, rfl, RX5.out, B5.out⟩
        case round =>
          obtain ⟨k, us, hk, rfl, hR, hbl⟩ := hrel
          obtain ⟨va, vn, vc, rfl⟩ := own_shape hR.row
          have HR := Lib.hid hR; have HB := Lib.hid hbl; have hsz := hbl.size
          have HLN : Hid ((selL T ys k).length ≤ 4398046511104) := by show _ ≤ _; have := selL_le T ys k; have := HLQ.out; omega
          by_cases hlt : k < ys.length
          · obtain ⟨b1, o1, c1, hv1, hc1, -⟩ := HY2.out.at k hlt
            simp only [Value.slice.injEq, true_and] at hv1
            obtain ⟨rfl, rfl⟩ := hv1
            have hc := (hbl.cell (World.block_lt_of_cell? _ _ hc1)).trans hc1
            have hkT : k < T.length := by have := HLQ.out; omega
            obtain ⟨b2, o2, c2, u, hv2, hd1, hu, -⟩ := HT2.out.at k hkT
            simp only [Value.slice.injEq, true_and] at hv2
            obtain ⟨rfl, rfl⟩ := hv2
            have hd := (hbl.cell (World.block_lt_of_cell? _ _ hd1)).trans hd1
            have HV := Lib.hid (hu.same hbl.block)
            have HS : Hid (selL T ys (k + 1) = selL T ys k ++ (if ys[k] = 1 then [T[k]] else [])) := by
              show _ = _; rw [selL, show ys.getD k 0 = ys[k] by simp [hlt], show T.getD k [] = T[k] by simp [show k < T.length by omega]]
            have hbit := HBT.out _ (List.getElem_mem hlt)
            obtain ⟨ua, uc, rfl, -⟩ := hu.len
            clear hu hR hbl hc1 hd1
            generalize ys[k] = y at *
            generalize T[k] = x at *
            rcases hbit with rfl | rfl
            · rw [if_neg (by omega), List.append_nil] at HS
              go_wp2_with fail
              go_roundw
              case rel => exact ⟨k + 1, _, by omega, by go_num, by rw [HS.out]; exact HR.out, HB.out⟩
              case measure => simp [intOf]; omega
            · rw [if_pos rfl] at HS
              go_wp2_with (at_builtin; refine append_ref1 rfl _ _ rfl w2.heap.size _ _ us _ x HR.out rfl (by exact HV.out) HB.out hsz _ rfl rfl HLN.out ?_; intro v5 w5 hR5 hb5 _ _ _ _; obtain ⟨sa, sn, sc, rfl⟩ := own_shape hR5.row)
              go_roundw
              case rel => exact ⟨k + 1, _, by omega, by go_num, by rw [HS.out]; exact hR5, hb5⟩
              case measure => simp [intOf]; omega
          · obtain rfl : k = ys.length := by omega
            have KX := Lib.hid (K42.out.kept hbl.block)
            have q5 := KX.out.c0; have f5 := KX.out.free 0
            clear hR hbl
            go_wp2_with fail
            have g0 := (KX.out.set (.slice va vn vc)).c0
            exact bodyPost_ret (v := .tuple #[.agg #[.slice va vn vc], .int .i64 0]) (by simp [results, Tryz.results54, go_sem, g0]) rfl
              ⟨_, rfl, HR.out.intsS.setVar KX.out (by decide) (by decide), (HB2.out.trans (HB.out.mono HB2.out.size)).setCell (by exact Nat.le_refl _) _⟩
    · rw [if_neg hl] at HC
      have u0 := (neB (show ((ys.length : Nat) : Int) ≠ T.length by omega)).2
      have hmc : mc = 2 := HC.out
      have hml : ml = [] := by rw [HM.out, hmc]; rfl
      subst hmc; subst hml
      clear HC HM hl
      have KX := Lib.hid (K42.out.kept BX3.out.block)
      have BX := Lib.hid (HB2.out.trans (BX3.out.mono HB2.out.size))
      go_wp2_with fail
      have g0 := (KX.out.set (.slice none 0 0)).c0
      exact bodyPost_ret (v := .tuple #[.agg #[.slice none 0 0], .int .i64 2]) (by simp [results, Tryz.results54, go_sem, g0]) rfl
        ⟨_, rfl, IntSS.nil _, BX.out.setCell (by exact Nat.le_refl _) _⟩
  · have hmc : mocC n ys = 2 := if_neg h
    have hml : mocL n ys = [] := by unfold mocL; rw [hmc]; rfl
    rw [hmc, hml]
    rw [deg_out h] at D
    clear SO h hmc hml
    go_enter Tryz.func54, Tryz.ntmps54
    go_wp2_with fail
    rw [← HW1.out]
    refine (D.out _).mono ?_
    rintro e wx ⟨rfl, rfl⟩
    have q4 := K4.out.c0; have f4 := K4.out.free 0
    clear HW1
    go_wp2_with fail
    have g0 := (K4.out.set (.slice none 0 0)).c0
    exact bodyPost_ret (v := .tuple #[.agg #[.slice none 0 0], .int .i64 2]) (by simp [results, Tryz.results54, go_sem, g0]) rfl
      ⟨_, rfl, IntSS.nil _, HB1.out.setCell (by exact Nat.le_refl _) _⟩
section
variable {ops : Array Oper} {o : Oper} {a : Act} {Q : Exit → Act → World → Prop} {K : Act → World → Prop} {E : Prop}
/-- 'append(out, row)' at a step of a region that draws: out a row of references at an earlier world wE, where the row reads too. -/
theorem step_append_ref1 {w w0 wE : World} (hg : o.guard = none) (s x : Operand)
    (ho : o.op = .call { callee := .builtin .append, args := #[s, x], argTypes := #[22, 22] })
    (B : Nat) (v u : Value) (us : List Value) (xss : List (List Int)) (xs : List Int) (hU : RefR wE B wE.heap v us xss) (hs : a.eval s = v) (hu : IntS wE.heap u xs) (hE : Below wE.heap.size wE w) (hbl : Below B w0 wE) (hB : B ≤ wE.heap.size)
    (b : Nat) (hx : a.eval x = .slice (some ⟨b, 0, none⟩) 1 1) (hb : w.heap[b]? = some (.cells #[u] 56 (0, 0))) (hn : xss.length < 4398046511104)
    (hK : ∀ v' w', RefR w' B w'.heap v' (us ++ [u]) (xss ++ [xs]) → Below B w0 w' → w.heap.size ≤ w'.heap.size → (∀ b, b < w.heap.size → some b ≠ v.ownBlock → w'.heap[b]? = w.heap[b]?) → K (a.put o.dst v') w') :
    if Region.wanted o (yielded ops a.tmps) = true then Oper.wp Tryz.prog o a w K Q else E := by
  obtain ⟨i0, hi, hz0, hz1, hz2⟩ := info_parts info_slI
  have hrow := own_same hU.row hE.block
  refine step_append_all hg s x _ ho B _ i0 _ 24 Tryz.underlying22 hi hz0 hz1 hz2 rfl (by omega) v _ _ _ [u] hrow hs (slAt_one hb) hx (hbl.trans (hE.mono hB)) (Nat.le_trans hB hE.size) (fun z hz => ?_) (by simp; omega) ?_
  · rw [List.mem_singleton] at hz; rw [hz]; exact slAt_oneCell hu
  · intro v' w' h1 h2 h3 h4
    have hk := KeepI.grown hrow (by decide) h4
    exact hK v' w' ⟨by simpa using h1, append_each hU.len (fun i y ys hy hz => ((hU.each i y ys hy hz).same hE.block).keep hk) (fun i y ys hy hz => by
      match i, hy, hz with
      | 0, hy, hz =>
        simp at hy hz
        subst hy; subst hz; exact (hu.same hE.block).keep hk)⟩ h2 h3 h4
end
set_option maxRecDepth 100000 in
set_option maxHeartbeats 1000000 in
theorem specMilnorOfCoordinates_c (v : Value) (n : Int) (ys : List Int) (w : World) (hy : IntS w.heap v ys) :
    Calls Tryz.prog 55 #[.int .i64 n, v] w fun e w' => ElC w w' e (mocC n ys) (mocL n ys) := by
  have D := Lib.hid (l01In_c n 0 40)
  have k4 := Cell1.new w (.slice none 0 0) 31
  obtain ⟨W1, hW1⟩ : ∃ W1, W1 = w.alloc (.cells #[.slice none 0 0] 31) := ⟨_, rfl⟩
  have hb1 : Below w.heap.size w W1 := by rw [hW1]; exact (Below.refl _ _).alloc (Nat.le_refl _) _
  rw [← hW1] at k4
  have K4 := Lib.hid k4; have HB1 := Lib.hid hb1; have HW1 := Lib.hid hW1
  have HY := Lib.hid hy
  obtain ⟨yo, yc, rfl, -⟩ := hy.len
  clear k4 hb1 hW1 hy
  by_cases h : 0 ≤ n ∧ n ≤ 40
  · obtain ⟨d, rfl⟩ : ∃ d : Nat, n = d := ⟨n.toNat, by omega⟩
    have hd : d ≤ 40 := by omega
    rw [deg_in hd] at D
    have P := Lib.hid (fun W => l04Basis_c d W hd)
    have hL := partL_len hd
    have HC : Hid (mocC d ys = if ys.length = (partL d).length then (if ys.all bit5 = true then 0 else 2) else 2) := by show _ = _; unfold mocC; rw [if_pos h]; rfl
    have HM : Hid (mocL d ys = if mocC d ys = 0 then selL (partL d) ys ys.length else []) := by show _ = _; unfold mocL; rfl
    clear h
    generalize mocC (d : Int) ys = mc at *
    generalize mocL (d : Int) ys = ml at *
    generalize partL d = T at *
    go_enter Tryz.func55, Tryz.ntmps55
    go_wp2_with fail
    rw [← HW1.out]
    refine (D.out _).mono ?_
    rintro e wx ⟨rfl, rfl⟩
    go_wp2_with fail
    refine (P.out _).mono ?_
    rintro e w2 ⟨r2, us2, rfl, hU2, hb2⟩
    obtain ⟨pa, pn, pc, rfl⟩ := own_shape hU2.row
    obtain rfl : pn = T.length := by
      obtain ⟨_, _, hv, _⟩ := hU2.ints.len
      simp only [Value.slice.injEq] at hv
      exact hv.2.1
    have K42 := Lib.hid (K4.out.kept hb2.block)
    have HT2 := Lib.hid hU2.ints
    have HB2 := Lib.hid (HB1.out.trans (hb2.mono HB1.out.size))
    have BX3 := Lib.hid ((Below.refl w2.heap.size w2).alloc (Nat.le_refl _) (.cells #[.slice none 0 0] 31))
    have K73 := Lib.hid (Cell1.new w2 (.slice none 0 0) 31)
    have HY2 := Lib.hid (HY.out.same HB2.out.block)
    have q42 := (K42.out.kept BX3.out.block).c0
    have f42 := (K42.out.kept BX3.out.block).free 0
    have HLT := Lib.hid K42.out.lt
    clear hU2 hb2 HW1 D P
    by_cases hl : ys.length = T.length
    · rw [if_pos hl] at HC
      have u0 := (eqB (show ((T.length : Nat) : Int) = ys.length by omega)).2
      have HLQ := Lib.hid hl
      clear hl
      go_wp2_with fail
      clear q42 f42 u0
      go_loopw [8] (fun i wr => ∃ (k : Nat) (o : Value) (us : List Value), k ≤ ys.length ∧ i = .int .i64 k ∧ (∀ j, j < k → bit5 (ys.getD j 0) = true) ∧ Cell1 wr w2.heap.size o 31 ∧ RefR wr w2.heap.size wr.heap o us (selL T ys k) ∧ Below w2.heap.size w2 wr) (fun i _ => ys.length - (intOf i).toNat)
      case atStart => exact ⟨0, .slice none 0 0, [], Nat.zero_le _, rfl, fun j hj => absurd hj (Nat.not_lt_zero _), K73.out, RefR.nil _ _, BX3.out⟩
      case round =>
        obtain ⟨k, o, us, hk, rfl, hbits, hK7, hR, hbl⟩ := hrel
        obtain ⟨va, vn, vc, rfl⟩ := own_shape hR.row
        have HR := Lib.hid hR; have HB := Lib.hid hbl; have hsz := hbl.size; have K7 := Lib.hid hK7
        have HLN : Hid ((selL T ys k).length < 4398046511104) := by show _ < _; have := selL_le T ys k; have := HLQ.out; omega
        have HBT := Lib.hid hbits
        clear hbits hK7
        by_cases hlt : k < ys.length
        · obtain ⟨b1, o1, c1, hv1, hc1, -⟩ := HY2.out.at k hlt
          simp only [Value.slice.injEq, true_and] at hv1
          obtain ⟨rfl, rfl⟩ := hv1
          have hc := (hbl.cell (World.block_lt_of_cell? _ _ hc1)).trans hc1
          have hkT : k < T.length := by have := HLQ.out; omega
          obtain ⟨b2, o2, c2, u, hv2, hd1, hu, -⟩ := HT2.out.at k hkT
          simp only [Value.slice.injEq, true_and] at hv2
          obtain ⟨rfl, rfl⟩ := hv2
          have hd := (hbl.cell (World.block_lt_of_cell? _ _ hd1)).trans hd1
          have HV := Lib.hid (hu.same hbl.block)
          have hgd : ys.getD k 0 = ys[k] := by simp [hlt]
          have HS : Hid (selL T ys (k + 1) = selL T ys k ++ (if ys[k] = 1 then [T[k]] else [])) := by
            show _ = _; rw [selL, hgd, show T.getD k [] = T[k] by simp [hkT]]
          have HN : Hid (bit5 ys[k] = false → ys.all bit5 = false) := fun hn => by
            rw [List.all_eq_false]
            exact ⟨ys[k], List.getElem_mem hlt, by rw [hn]; simp⟩
          have HBK : Hid (bit5 ys[k] = true → ∀ j, j < k + 1 → bit5 (ys.getD j 0) = true) := fun hb j hj => by
            by_cases e : j = k
            · subst e; rw [hgd]; exact hb
            · exact HBT.out j (by omega)
          have IN := Lib.hid (l01In_c ys[k] 0 1)
          obtain ⟨ua, uc, rfl, -⟩ := hu.len
          clear hu hR hbl hc1 hd1 hgd
          generalize ys[k] = y at *
          generalize T[k] = x at *
          cases hb : bit5 y
          · have hmc : mc = 2 := by rw [HC.out, HN.out hb]; rfl
            have hml : ml = [] := by rw [HM.out, hmc]; rfl
            subst hmc; subst hml
            rw [show (decide (0 ≤ y) && decide (y ≤ 1)) = false from hb] at IN
            have KX := Lib.hid (K42.out.kept HB.out.block)
            have BX := Lib.hid (HB2.out.trans (HB.out.mono HB2.out.size))
            have q5 := KX.out.c0; have f5 := KX.out.free 0
            clear HC HM HN HBK hb HS
            go_wp2_with (go_at_call 140; refine (IN.out _).mono ?_; rintro e wy ⟨rfl, rfl⟩)
            have g0 := (KX.out.set (.slice none 0 0)).c0
            exact bodyPost_ret (v := .tuple #[.agg #[.slice none 0 0], .int .i64 2]) (by simp [results, Tryz.results55, go_sem, g0]) rfl
              ⟨_, rfl, IntSS.nil _, BX.out.setCell (by exact Nat.le_refl _) _⟩
          · rw [show (decide (0 ≤ y) && decide (y ≤ 1)) = true from hb] at IN
            have HBK1 := Lib.hid (HBK.out hb)
            have hy01 := bit5_cases hb
            clear HN HBK hb
            rcases hy01 with rfl | rfl
            · rw [if_neg (by omega), List.append_nil] at HS
              go_wp2_with (go_at_call 140; refine (IN.out _).mono ?_; rintro e wy ⟨rfl, rfl⟩)
              go_roundw
              case rel => exact ⟨k + 1, _, _, by omega, by go_num, HBK1.out, K7.out, by rw [HS.out]; exact HR.out, HB.out⟩
              case measure => simp [intOf]; omega
            · rw [if_pos rfl] at HS
              have q7 := K7.out.c0
              have hE1 : Below wr.heap.size wr ((wr.alloc (.cells #[.slice ua x.length uc] 56)).drew) := below_drewN 1 ((Below.refl _ _).alloc (Nat.le_refl _) _)
              have q7b : ∀ o, ((wr.alloc o).drew).cell? ⟨w2.heap.size, 0, none⟩ = some (.slice va vn vc) := fun o => Go.Lib.cell?_alloc_some o q7
              have q7c : ∀ o, (wr.alloc o).cell? ⟨w2.heap.size, 0, none⟩ = some (.slice va vn vc) := fun o => Go.Lib.cell?_alloc_some o q7
              have RD := Lib.hid (own_same HR.out.row hE1.block)
              have KD := Lib.hid (K7.out.kept hE1.block)
              have HE1 := Lib.hid hE1
              clear hE1
              go_wp2_with (go_at_call 140; refine (IN.out _).mono ?_; rintro e wy ⟨rfl, rfl⟩)
              go_region_law (refine step_append_ref1 (w0 := w2) (wE := wr) (by rfl) (.tmp 41) (.tmp 46) (by rfl) w2.heap.size (.slice va vn vc) (.slice ua x.length uc) us (selL T ys k) x HR.out (by rfl) HV.out HE1.out HB.out hsz wr.heap.size (by rfl) (by exact heap_alloc_new wr _) HLN.out ?_; intro v5 w5 hR5 hb5 _ h45; obtain ⟨sa, sn, sc, rfl⟩ := own_shape hR5.row; have K75 := KD.out.app RD.out h45 (by decide); have f75 := K75.free 0; have c75 := K75.c0)
              all_goals
                have HR6 := Lib.hid (hR5.setVar (j := 0) (u := .slice sa sn sc) K75 (by decide) (by decide))
                have K76 := Lib.hid (K75.set (.slice sa sn sc))
                have HB6 := Lib.hid (hb5.setCell (p := ⟨w2.heap.size, 0, none⟩) (Nat.le_refl _) (.slice sa sn sc))
                clear hR5 K75 f75 c75 hb5 q7 q7b q7c h45
                go_wp2_with fail
                go_roundw
                case rel => exact ⟨k + 1, _, _, by omega, by go_num, HBK1.out, K76.out, by rw [HS.out]; exact HR6.out, HB6.out⟩
                case measure => simp [intOf]; omega
        · obtain rfl : k = ys.length := by omega
          have hall : ys.all bit5 = true := List.all_eq_true.2 fun z hz => by
            obtain ⟨j, hj, rfl⟩ := List.getElem_of_mem hz
            have := HBT.out j hj
            rwa [show ys.getD j 0 = ys[j] by simp [hj]] at this
          have hmc : mc = 0 := by rw [HC.out, hall]; rfl
          have hml : ml = selL T ys ys.length := by rw [HM.out, hmc]; rfl
          subst hmc; subst hml
          have KX := Lib.hid (K42.out.kept hbl.block)
          have q5 := KX.out.c0; have f5 := KX.out.free 0
          have q7 := K7.out.c0
          clear hR hbl hall HC HM
          go_wp2_with fail
          have g0 := (KX.out.set (.slice va vn vc)).c0
          exact bodyPost_ret (v := .tuple #[.agg #[.slice va vn vc], .int .i64 0]) (by simp [results, Tryz.results55, go_sem, g0]) rfl
            ⟨_, rfl, HR.out.intsS.setVar KX.out (by decide) (by decide), (HB2.out.trans (HB.out.mono HB2.out.size)).setCell (by exact Nat.le_refl _) _⟩
    · rw [if_neg hl] at HC
      have u0 := (neB (show ((T.length : Nat) : Int) ≠ ys.length by omega)).2
      have hmc : mc = 2 := HC.out
      have hml : ml = [] := by rw [HM.out, hmc]; rfl
      subst hmc; subst hml
      clear HC HM hl
      have KX := Lib.hid (K42.out.kept BX3.out.block)
      have BX := Lib.hid (HB2.out.trans (BX3.out.mono HB2.out.size))
      go_wp2_with fail
      have g0 := (KX.out.set (.slice none 0 0)).c0
      exact bodyPost_ret (v := .tuple #[.agg #[.slice none 0 0], .int .i64 2]) (by simp [results, Tryz.results55, go_sem, g0]) rfl
        ⟨_, rfl, IntSS.nil _, BX.out.setCell (by exact Nat.le_refl _) _⟩
  · have hmc : mocC n ys = 2 := if_neg h
    have hml : mocL n ys = [] := by unfold mocL; rw [hmc]; rfl
    rw [hmc, hml]
    rw [deg_out h] at D
    clear h hmc hml
    go_enter Tryz.func55, Tryz.ntmps55
    go_wp2_with fail
    rw [← HW1.out]
    refine (D.out _).mono ?_
    rintro e wx ⟨rfl, rfl⟩
    have q4 := K4.out.c0; have f4 := K4.out.free 0
    clear HW1
    go_wp2_with fail
    have g0 := (K4.out.set (.slice none 0 0)).c0
    exact bodyPost_ret (v := .tuple #[.agg #[.slice none 0 0], .int .i64 2]) (by simp [results, Tryz.results55, go_sem, g0]) rfl
      ⟨_, rfl, IntSS.nil _, HB1.out.setCell (by exact Nat.le_refl _) _⟩
end
section
open Go.RowKit Go.Sort

def CooD (w w' : World) (r : Value) : Prop := (∃ ys, IntS w'.heap r ys) ∧ Below w.heap.size w w'
set_option maxRecDepth 100000 in
set_option maxHeartbeats 1000000 in
theorem drawMilnorOfCoordinates_c (v : Value) (m : Nat) (w : World) (h : ByteS w v m) (hm : m ≤ 4096) :
    Calls Tryz.prog 53 #[v] w fun e w' => ∃ n r, e = .returned (.tuple #[.int .i64 n, r]) ∧ CooD w w' r := by
  have FR := Lib.hid (l01From_c v m w h hm)
  obtain ⟨ao, c, rfl, -⟩ := h.len
  clear h
  go_enter Tryz.func53, Tryz.ntmps53
  go_wp2_with fail
  refine FR.out.mono ?_
  rintro e w2 ⟨g, rfl, hs2⟩
  have HS2 := Lib.hid hs2
  clear hs2
  go_wp2_with fail
  refine (l01Next_pos g 16 w _ HS2.out (by omega) (by omega)).mono ?_
  rintro e w3 ⟨r3, rfl, ⟨h30, h31⟩, hs3, hg3⟩
  have HS3 := Lib.hid hs3
  clear hs3 hg3
  go_wp2_with fail
  refine (l01Near_c g 40 w _ HS3.out (by omega) (by omega)).mono ?_
  rintro e w4 ⟨r4, rfl, -, hs4, hg4⟩
  have HS4 := Lib.hid hs4
  clear hs4 hg4
  go_wp2_with fail
  refine (pick_lit g w w4 [r3, r4] HS4.out (by simp) (by simp)).mono ?_
  rintro e w5 ⟨n, rfl, -, hs5, -⟩
  have hb6 : Below w5.heap.size w5 (w5.alloc (.cells #[] 2)) := (Below.refl _ _).alloc (Nat.le_refl _) _
  have HS := Lib.hid (hs5.step hb6)
  have HO := Lib.hid (ownI_empty (w := w5) (Nat.le_refl w5.heap.size))
  have HGB := Lib.hid hs5.lt
  have HWB := Lib.hid hs5.below.size
  have HZ := Lib.hid hb6.size
  have HLN : Hid (([] : List Int).length ≤ 4398046511104) := by show _ ≤ _; simp
  have IN := Lib.hid (l01In_c n 0 40)
  clear hs5 hb6 h30 h31 FR
  obtain ⟨w6, hw6⟩ : ∃ w6, w6 = w5.alloc (.cells #[] 2) := ⟨_, rfl⟩
  rw [← hw6] at HS HO HZ
  have HW6 := Lib.hid hw6
  clear hw6
  by_cases hn : 0 ≤ n ∧ n ≤ 40
  · obtain ⟨d, rfl⟩ : ∃ d : Nat, n = d := ⟨n.toNat, by omega⟩
    have hd : d ≤ 40 := by omega
    rw [deg_in hd] at IN
    have P := Lib.hid (fun W => l04Basis_c d W hd)
    have hL := partL_len hd
    clear hn
    generalize partL d = T at *
    go_wp2_with fail
    rw [← HW6.out]
    refine (IN.out _).mono ?_
    rintro e wx ⟨rfl, rfl⟩
    go_wp2_with fail
    refine (P.out _).mono ?_
    rintro e w7 ⟨r7, us7, rfl, hU7, hb7⟩
    obtain ⟨pa, pn, pc, rfl⟩ := own_shape hU7.row
    obtain rfl : pn = T.length := by
      obtain ⟨_, _, hv, _⟩ := hU7.ints.len
      simp only [Value.slice.injEq] at hv
      exact hv.2.1
    have HS7 := Lib.hid (HS.out.step hb7)
    have HO7 := Lib.hid (OwnI.same HO.out hb7.block)
    have HZ7 := Lib.hid (Nat.le_trans HZ.out hb7.size)
    clear hU7 hb7 IN P HW6 HO HS HZ HLN
    go_wp2_with fail
    go_loopw [6, 7] (fun o i wr => ∃ (k : Nat) (xs : List Int), i = .int .i64 k ∧ xs.length + k ≤ 504 ∧ OwnI wr w5.heap.size o xs ∧ Src w wr g ∧ w5.heap.size ≤ wr.heap.size) (fun _ i _ => (intOf i).toNat)
    case atStart => exact ⟨T.length, [], rfl, by simpa using hL, HO7.out, HS7.out, HZ7.out⟩
    case round =>
      obtain ⟨k, xs, rfl, hk, hO, hS, hz⟩ := hrel
      obtain ⟨va, vn, vc, rfl⟩ := own_shape hO
      have HO := Lib.hid hO; have HS := Lib.hid hS; have HZ := Lib.hid hz
      have HLN : Hid (xs.length ≤ 4398046511104) := by show _ ≤ _; omega
      clear hO hS hz
      by_cases hk0 : 0 < k
      · go_wp2_with fail
        refine (l01Next_pos g 2 w _ HS.out (by omega) (by omega)).mono ?_
        rintro e w8 ⟨r8, rfl, -, hs8, hg8⟩
        have HO8 := Lib.hid (HO.out.past hg8 HGB.out)
        have hz8 := Nat.le_trans HZ.out hg8.size
        have HS8 := Lib.hid hs8
        clear hs8 hg8
        go_wp2_with (at_builtin; refine append_int rfl _ _ rfl w5.heap.size _ xs _ HO8.out rfl (Below.refl _ _) hz8 _ rfl rfl HLN.out ?_; intro v9 w9 hO9 hb9 hz9 _; obtain ⟨qa, qn, qc, rfl⟩ := own_shape hO9)
        go_roundw
        case rel => exact ⟨k - 1, _, by go_num, by simp; omega, hO9, HS8.out.step2 hb9 HGB.out HWB.out, Nat.le_trans hz8 hz9⟩
        case measure => simp [intOf]; omega
      · obtain rfl : k = 0 := by omega
        clear hk0 hk
        go_wp2_with fail
        refine (l01Next_pos g 16 w _ HS.out (by omega) (by omega)).mono ?_
        rintro e w8 ⟨r8, rfl, ⟨h80, h81⟩, hs8, hg8⟩
        have HO8 := Lib.hid (HO.out.past hg8 HGB.out)
        have hz8 := Nat.le_trans HZ.out hg8.size
        have HS8 := Lib.hid hs8
        clear hs8 hg8
        by_cases e0 : r8 = 0
        · subst e0
          go_wp2_with (at_builtin; refine append_int rfl _ _ rfl w5.heap.size _ _ _ HO8.out rfl (Below.refl _ _) hz8 _ rfl rfl HLN.out ?_; intro v9 w9 hO9 hb9 _ _; obtain ⟨pa, pn, pc, rfl⟩ := own_shape hO9)
          go_ret2
          exact ⟨_, _, rfl, ⟨_, hO9.ints⟩, HS8.out.below.trans (hb9.mono HWB.out)⟩
        by_cases e1 : r8 = 1
        · subst e1
          go_wp2_with fail
          refine (pick_lit g w w8 [2, -1] HS8.out (by simp) (by simp)).mono ?_
          rintro e w9 ⟨r9, rfl, -, hs9, hg9⟩
          have HO9 := Lib.hid (HO8.out.past hg9 HGB.out)
          have hz9 := Nat.le_trans hz8 hg9.size
          have HS9 := Lib.hid hs9
          clear hs9 hg9
          go_wp2_with (at_builtin; refine append_int rfl _ _ rfl w5.heap.size _ _ _ HO9.out rfl (Below.refl _ _) hz9 _ rfl rfl HLN.out ?_; intro v10 w10 hO10 hb10 _ _; obtain ⟨pa, pn, pc, rfl⟩ := own_shape hO10)
          go_ret2
          exact ⟨_, _, rfl, ⟨_, hO10.ints⟩, HS9.out.below.trans (hb10.mono HWB.out)⟩
        · have u0 := (neB e0).1; have u1 := (neB e1).1
          go_wp2_with fail
          go_ret2
          exact ⟨_, _, rfl, ⟨_, HO8.out.ints⟩, HS8.out.below⟩
  · rw [deg_out hn] at IN
    clear hn
    go_wp2_with fail
    rw [← HW6.out]
    refine (IN.out _).mono ?_
    rintro e wx ⟨rfl, rfl⟩
    clear HW6 IN
    go_wp2_with fail
    refine (l01Next_pos g 16 w _ HS.out (by omega) (by omega)).mono ?_
    rintro e w8 ⟨r8, rfl, ⟨h80, h81⟩, hs8, hg8⟩
    have HO8 := Lib.hid (HO.out.past hg8 HGB.out)
    have hz8 := Nat.le_trans HZ.out hg8.size
    have HS8 := Lib.hid hs8
    clear hs8 hg8
    by_cases e0 : r8 = 0
    · subst e0
      go_wp2_with (at_builtin; refine append_int rfl _ _ rfl w5.heap.size _ _ _ HO8.out rfl (Below.refl _ _) hz8 _ rfl rfl HLN.out ?_; intro v9 w9 hO9 hb9 _ _; obtain ⟨pa, pn, pc, rfl⟩ := own_shape hO9)
      go_ret2
      exact ⟨_, _, rfl, ⟨_, hO9.ints⟩, HS8.out.below.trans (hb9.mono HWB.out)⟩
    by_cases e1 : r8 = 1
    · subst e1
      go_wp2_with fail
      refine (pick_lit g w w8 [2, -1] HS8.out (by simp) (by simp)).mono ?_
      rintro e w9 ⟨r9, rfl, -, hs9, hg9⟩
      have HO9 := Lib.hid (HO8.out.past hg9 HGB.out)
      have hz9 := Nat.le_trans hz8 hg9.size
      have HS9 := Lib.hid hs9
      clear hs9 hg9
      go_wp2_with (at_builtin; refine append_int rfl _ _ rfl w5.heap.size _ _ _ HO9.out rfl (Below.refl _ _) hz9 _ rfl rfl HLN.out ?_; intro v10 w10 hO10 hb10 _ _; obtain ⟨pa, pn, pc, rfl⟩ := own_shape hO10)
      go_ret2
      exact ⟨_, _, rfl, ⟨_, hO10.ints⟩, HS9.out.below.trans (hb10.mono HWB.out)⟩
    · have u0 := (neB e0).1; have u1 := (neB e1).1
      go_wp2_with fail
      go_ret2
      exact ⟨_, _, rfl, ⟨_, HO8.out.ints⟩, HS8.out.below⟩
end
section
open Go.RowKit Go.Sort

theorem count_put_flatMap (f : List Int → List (List Int)) (z x : List Int) : ∀ l : List (List Int), ((put x l).flatMap f).count z % 2 = ((l.flatMap f).count z + (f x).count z) % 2
  | [] => by simp [put]
  | y :: l => by
    have ih := count_put_flatMap f z x l
    rw [put]
    split
    · simp only [List.flatMap_cons, List.count_append]; omega
    · rename_i h1
      split
      · simp only [List.flatMap_cons, List.count_append]; omega
      · rename_i h2
        have e : x = y := ltL_total x y (by simpa using h1) (by simpa using h2)
        subst e
        simp only [List.flatMap_cons, List.count_append]; omega
theorem count_odd_flatMap (f : List Int → List (List Int)) (z : List Int) (L : List (List Int)) : ((oddL L).flatMap f).count z % 2 = (L.flatMap f).count z % 2 := by
  obtain ⟨n, hn⟩ : ∃ n, L.length = n := ⟨_, rfl⟩
  induction n generalizing L with
  | zero => rw [List.eq_nil_of_length_eq_zero hn]; rfl
  | succ n ih =>
    have hne : L ≠ [] := by intro e; rw [e] at hn; cases hn
    have hl := List.dropLast_concat_getLast hne
    obtain ⟨M, x, rfl⟩ : ∃ M x, L = M ++ [x] := ⟨_, _, hl.symm⟩
    have := ih M (by simp at hn; omega)
    rw [oddL_snoc, count_put_flatMap, List.flatMap_append, List.count_append]
    simp only [List.flatMap_cons, List.flatMap_nil, List.append_nil]
    omega
theorem oddL_flatMap (f : List Int → List (List Int)) (L : List (List Int)) : oddL ((oddL L).flatMap f) = oddL (L.flatMap f) := oddL_congr fun z => count_odd_flatMap f z L
theorem oddL_twice {a b : List (List Int)} (ha : Asc a) : oddL (oddL (a ++ b) ++ b) = a := by
  rw [← oddL_append]
  refine Eq.trans (oddL_congr fun z => ?_) ha.odd
  rw [List.count_append, List.count_append]; omega
theorem arT_exp {d : Int} {l : List (List Int)} (h : ExpD d l) (ha : Asc l) (h40 : d ≤ 40) : arT l = true := by
  have hl := expD_length ha h h40
  have hg : ∀ j, j < l.length → l.getD j [] ∈ l := fun j hj => by rw [show l.getD j [] = l[j] by simp [hj]]; exact List.getElem_mem hj
  refine arT_yes l (by omega) (ascB_true l fun i hi => ?_) (fun j hj => ?_)
  · have := List.pairwise_iff_getElem.1 ha i (i + 1) (by omega) hi (by omega)
    rwa [show l.getD i [] = l[i]'(by omega) by simp [show i < l.length by omega], show l.getD (i + 1) [] = l[i + 1] by simp [hi]]
  · have h1 := h _ (hg j hj)
    have h2 := h _ (hg 0 (by omega))
    refine ⟨?_, by rw [h1.2, h2.2]⟩
    unfold rowB
    rw [h1.1, h1.2, decide_eq_true h40]; rfl
theorem degT_exp {d : Int} {l : List (List Int)} (h : ExpD d l) (h0 : l.length ≠ 0) : degT l = d := by
  unfold degT
  rw [show l.getD 0 [] = l[0]'(by omega) by simp [show 0 < l.length by omega]]
  exact (h _ (List.getElem_mem _)).2
theorem ExpD.append {d : Int} {a b : List (List Int)} (ha : ExpD d a) (hb : ExpD d b) : ExpD d (a ++ b) := fun r hr => (List.mem_append.1 hr).elim (ha r) (hb r)
theorem add_parts {a b : List (List Int)} (h : addC a b = 0) : Asc a ∧ Asc b ∧ ∃ d, 0 ≤ d ∧ d ≤ 40 ∧ ExpD d a ∧ ExpD d b := by
  have hx : arT a = true ∧ arT b = true ∧ sameD a b = true := by
    unfold addC at h
    cases h1 : arT a && arT b
    · rw [h1] at h; simp at h
    · rw [h1] at h
      cases h2 : sameD a b
      · rw [h2] at h; simp at h
      · simp only [Bool.and_eq_true] at h1; exact ⟨h1.1, h1.2, rfl⟩
  obtain ⟨h1, h2, h3⟩ := hx
  refine ⟨arT_asc h1, arT_asc h2, ?_⟩
  have e1 := arT_expD h1; have e2 := arT_expD h2
  have d1 := degT_in h1; have d2 := degT_in h2
  unfold sameD at h3
  simp only [Bool.or_eq_true, decide_eq_true_eq, beq_iff_eq] at h3
  rcases h3 with (h3 | h3) | h3
  · rw [List.eq_nil_of_length_eq_zero h3]; exact ⟨_, d2.1, d2.2, fun r hr => by simp at hr, e2⟩
  · rw [List.eq_nil_of_length_eq_zero h3]; exact ⟨_, d1.1, d1.2, e1, fun r hr => by simp at hr⟩
  · exact ⟨degT a, d1.1, d1.2, e1, fun r hr => by have := e2 r hr; exact ⟨this.1, this.2.trans h3.symm⟩⟩
theorem add_ok {a b : List (List Int)} {d : Int} (ha : Asc a) (hb : Asc b) (h40 : d ≤ 40) (ea : ExpD d a) (eb : ExpD d b) : addC a b = 0 ∧ addL a b = oddL (a ++ b) := by
  have h1 := arT_exp ea ha h40; have h2 := arT_exp eb hb h40
  have h3 : sameD a b = true := by
    unfold sameD
    simp only [Bool.or_eq_true, decide_eq_true_eq, beq_iff_eq]
    by_cases l1 : a.length = 0
    · exact .inl (.inl l1)
    by_cases l2 : b.length = 0
    · exact .inl (.inr l2)
    · exact .inr ((degT_exp ea l1).trans (degT_exp eb l2).symm)
  exact ⟨by simp [addC, h1, h2, h3], by simp [addL, h1, h2, h3, mrg_odd ha hb]⟩
theorem add_turn {a b : List (List Int)} (h : addC a b = 0) : addC b a = 0 ∧ addL b a = addL a b := by
  obtain ⟨ha, hb, d, -, h40, ea, eb⟩ := add_parts h
  have h1 := add_ok ha hb h40 ea eb; have h2 := add_ok hb ha h40 eb ea
  exact ⟨h2.1, by rw [h1.2, h2.2]; exact oddL_perm List.perm_append_comm⟩
theorem add_back {a b : List (List Int)} (h : addC a b = 0) : addC (addL a b) b = 0 ∧ addL (addL a b) b = a := by
  obtain ⟨ha, hb, d, -, h40, ea, eb⟩ := add_parts h
  have h1 := add_ok ha hb h40 ea eb
  have h2 := add_ok (asc_oddL (a ++ b)) hb h40 (ea.append eb).odd eb
  rw [h1.2]
  exact ⟨h2.1, by rw [h2.2]; exact oddL_twice ha⟩
theorem one_exp : ExpD 1 [[1]] := fun r hr => by
  rw [List.mem_singleton] at hr; subst hr; decide
theorem one_asc : Asc [[1]] := Asc.nil.cons fun y hy => by simp at hy
theorem one_ar : arT [[1]] = true := arT_exp one_exp one_asc (by omega)
theorem mult_one {a : List (List Int)} {d : Int} (ha : Asc a) (h : d + 1 ≤ 40) (ea : ExpD d a) : multC a [[1]] = 0 ∧ mmL a [[1]] = oddL (prodsL a [[1]]) := by
  have h1 : multC a [[1]] = 0 := by
    unfold multC
    rw [arT_exp ea ha (by omega), one_ar]
    have : sumD a [[1]] = true := by
      unfold sumD
      simp only [Bool.or_eq_true, decide_eq_true_eq]
      by_cases l1 : a.length = 0
      · exact .inl (.inl l1)
      · right
        rw [degT_exp ea l1, degT_exp one_exp (by simp)]; exact h
    rw [this]; rfl
  exact ⟨h1, by unfold mmL; rw [if_pos h1]⟩
theorem mult_small {a : List (List Int)} {d : Int} (ea : ExpD d a) (h : multC a [[1]] = 0) (h0 : a.length ≠ 0) : d + 1 ≤ 40 := by
  obtain ⟨-, -, h3⟩ := multC_zero h
  unfold sumD at h3
  simp only [Bool.or_eq_true, decide_eq_true_eq] at h3
  rw [degT_exp ea h0, degT_exp one_exp (by simp)] at h3
  rcases h3 with (h3 | h3) | h3
  · exact absurd h3 h0
  · simp at h3
  · exact h3
theorem mult_sum {a b : List (List Int)} (h : addC a b = 0) (h1 : multC a [[1]] = 0) (h2 : multC b [[1]] = 0) :
    multC (addL a b) [[1]] = 0 ∧ addC (mmL a [[1]]) (mmL b [[1]]) = 0 ∧ addL (mmL a [[1]]) (mmL b [[1]]) = mmL (addL a b) [[1]] := by
  obtain ⟨ha, hb, d, h0, h40, ea, eb⟩ := add_parts h
  have hs := (add_ok ha hb h40 ea eb).2
  have key : ∀ d : Int, 0 ≤ d → d + 1 ≤ 40 → ExpD d a → ExpD d b → multC (addL a b) [[1]] = 0 ∧ addC (mmL a [[1]]) (mmL b [[1]]) = 0 ∧ addL (mmL a [[1]]) (mmL b [[1]]) = mmL (addL a b) [[1]] := by
    intro d h0 hd ea eb
    have m1 := mult_one ha hd ea; have m2 := mult_one hb hd eb
    have m3 := mult_one (asc_oddL (a ++ b)) hd (ea.append eb).odd
    have p1 := (prodsL_exp ea one_exp h0 (by omega) hd).odd
    have p2 := (prodsL_exp eb one_exp h0 (by omega) hd).odd
    have s := add_ok (asc_oddL _) (asc_oddL _) hd p1 p2
    rw [hs, m1.2, m2.2, m3.2]
    refine ⟨m3.1, s.1, ?_⟩
    rw [s.2, ← oddL_append', ← oddL_append]
    unfold prodsL
    rw [oddL_flatMap, List.flatMap_append]
  by_cases hd : d + 1 ≤ 40
  · exact key d h0 hd ea eb
  · have l1 : a.length = 0 := Classical.byContradiction fun l => hd (mult_small ea h1 l)
    have l2 : b.length = 0 := Classical.byContradiction fun l => hd (mult_small eb h2 l)
    obtain rfl := List.eq_nil_of_length_eq_zero l1
    obtain rfl := List.eq_nil_of_length_eq_zero l2
    exact key 0 (by omega) (by omega) (fun r hr => by simp at hr) (fun r hr => by simp at hr)
end
section
open Go.RowKit Go.Sort

/-- A table with its edges: rows and columns from 0 on. -/
structure TabOf (T : List (List Int)) (R S : List Int) (C : List (List Int)) : Prop where
  len : T.length = R.length + 1
  row : ∀ (i : Nat) (h : i < T.length), T[i].length = S.length + 1
  at' : ∀ (i j : Nat) (h : i < T.length), j ≤ S.length → T[i].getD j 0 = tabAt R S C i j
/-- The numbers of a diagonal in the first i rows of the table. -/
def sdiag (R S : List Int) (C : List (List Int)) (k i : Nat) : List Int := ((List.range i).filter fun p => decide (p ≤ k) && decide (k - p ≤ S.length)).map fun p => tabAt R S C p (k - p)
theorem sdiag_yes (R S : List Int) (C : List (List Int)) (k i : Nat) (h : i ≤ k) (h2 : k - i ≤ S.length) : sdiag R S C k (i + 1) = sdiag R S C k i ++ [tabAt R S C i (k - i)] := by
  unfold sdiag
  have hq : (decide (i ≤ k) && decide (k - i ≤ S.length)) = true := by simp only [Bool.and_eq_true, decide_eq_true_eq]; exact ⟨h, h2⟩
  rw [List.range_succ, List.filter_append, List.map_append, List.filter_cons, if_pos hq]; rfl
theorem sdiag_no (R S : List Int) (C : List (List Int)) (k i : Nat) (h : ¬ (i ≤ k ∧ k - i ≤ S.length)) : sdiag R S C k (i + 1) = sdiag R S C k i := by
  unfold sdiag
  rw [List.range_succ, List.filter_append, List.map_append]
  have hq : ¬ (decide (i ≤ k) && decide (k - i ≤ S.length)) = true := by simp only [Bool.and_eq_true, decide_eq_true_eq]; exact h
  rw [List.filter_cons, if_neg hq]; simp
theorem sdiag_length (R S : List Int) (C : List (List Int)) (k i : Nat) : (sdiag R S C k i).length ≤ i := by
  unfold sdiag
  rw [List.length_map]
  exact Nat.le_trans (List.length_filter_le _ _) (by simp)
theorem filter_range_min (g : Nat → Bool) (b : Nat) : ∀ a : Nat, (List.range a).filter (fun p => g p && decide (p < b)) = (List.range (min a b)).filter g
  | 0 => by simp
  | a + 1 => by
    rw [List.range_succ, List.filter_append, filter_range_min g b a]
    by_cases h : a < b
    · rw [show min (a + 1) b = min a b + 1 by omega, List.range_succ, List.filter_append]
      rw [show min a b = a by omega]
      congr 1
      simp only [List.filter_cons, List.filter_nil, decide_eq_true h, Bool.and_true]
    · rw [show min (a + 1) b = min a b by omega]
      simp only [List.filter_cons, List.filter_nil, decide_eq_false h, Bool.and_false]
      simp
theorem tabAt_out {R S : List Int} {C : List (List Int)} (hC : C.length = R.length) (hrow : ∀ x ∈ C, x.length = S.length) (i j : Nat) (h : R.length < i ∨ S.length < j) : tabAt R S C i j = 0 := by
  unfold tabAt
  by_cases h0 : i = 0
  · rw [if_pos h0]
    by_cases h1 : j = 0
    · rw [if_pos h1]
    · rw [if_neg h1]; simp [show S.length ≤ j - 1 by omega]
  · rw [if_neg h0]
    by_cases h1 : j = 0
    · rw [if_pos h1]; simp [show R.length ≤ i - 1 by omega]
    · rw [if_neg h1]
      by_cases h2 : i - 1 < C.length
      · rw [show C.getD (i - 1) [] = C[i - 1] by simp [h2]]
        have := hrow _ (List.getElem_mem h2)
        simp [show C[i - 1].length ≤ j - 1 by omega]
      · simp [show C.length ≤ i - 1 by omega]
theorem sdiag_filter {R S : List Int} {C : List (List Int)} (hC : C.length = R.length) (hrow : ∀ x ∈ C, x.length = S.length) (k : Nat) : (sdiag R S C k (R.length + 1)).filter (· != 0) = (diagL R S C k).filter (· != 0) := by
  unfold sdiag diagL
  rw [List.filter_map, List.filter_map, List.filter_filter]
  congr 1
  have e1 := filter_range_min (fun p => (tabAt R S C p (k - p) != 0) && decide (k - p ≤ S.length)) (k + 1) (R.length + 1)
  have e2 := filter_range_min (fun p => (tabAt R S C p (k - p) != 0) && decide (k - p ≤ S.length)) (R.length + 1) (k + 1)
  rw [show min (R.length + 1) (k + 1) = min (k + 1) (R.length + 1) by omega, ← e2] at e1
  refine Eq.trans (List.filter_congr fun p _ => ?_) (e1.trans (List.filter_congr fun p hp => ?_))
  · simp only [Function.comp]
    have : decide (p < k + 1) = decide (p ≤ k) := by simp; omega
    rw [this]
    cases tabAt R S C p (k - p) != 0 <;> cases decide (p ≤ k) <;> cases decide (k - p ≤ S.length) <;> rfl
  · simp only [Function.comp]
    by_cases h : p ≤ R.length ∧ k - p ≤ S.length
    · have h1 : decide (k - p ≤ S.length) = true := decide_eq_true h.2
      have h2 : decide (p < R.length + 1) = true := decide_eq_true (by omega)
      rw [h1, h2]; simp
    · rw [tabAt_out hC hrow p (k - p) (by omega)]; simp
theorem sdiag_apart {R S : List Int} {C : List (List Int)} (hC : C.length = R.length) (hrow : ∀ x ∈ C, x.length = S.length) (k : Nat) : apartL 0 (sdiag R S C k (R.length + 1)) = apartL 0 (diagL R S C k) := by
  rw [← apartL_filter, sdiag_filter hC hrow, apartL_filter]
theorem sdiag_sum {R S : List Int} {C : List (List Int)} (hC : C.length = R.length) (hrow : ∀ x ∈ C, x.length = S.length) (k : Nat) : (sdiag R S C k (R.length + 1)).sum = (diagL R S C k).sum := by
  rw [← sum_filter, sdiag_filter hC hrow, sum_filter]
theorem sdiag_sm {b : Int} {R S : List Int} {C : List (List Int)} (hb : 0 ≤ b) (sR : Sm b R) (sS : Sm b S) (sC : ∀ x ∈ C, Sm b x) (k i : Nat) : Sm b (sdiag R S C k i) := by
  intro x hx
  simp only [sdiag, List.mem_map] at hx
  obtain ⟨p, -, rfl⟩ := hx
  exact tabAt_sm hb sR sS sC _ _
theorem trim_step (l : List Int) (m : Nat) : trimN l (m + 1) = if l.getD m 0 = 0 then trimN l m else m + 1 := rfl
set_option maxRecDepth 100000 in
set_option maxHeartbeats 2000000 in
theorem l04Result_c (v : Value) (T : List (List Int)) (R S : List Int) (C : List (List Int)) (w : World) (h : IntSS w.heap v T) (hT : TabOf T R S C) (hC : C.length = R.length) (hrow : ∀ x ∈ C, x.length = S.length) (hm : R.length ≤ 300) (hn : S.length ≤ 300) (sR : Sm 1000000000000 R) (sS : Sm 1000000000000 S) (sC : ∀ x ∈ C, Sm 1000000000000 x) :
    Calls Tryz.prog 268 #[v] w fun e w' => (∃ r, e = .returned (.tuple #[r, .bool (finOk R.length S.length R S C)]) ∧ (finOk R.length S.length R S C = true → IntS w'.heap r (trim (finT R.length S.length R S C)))) ∧ Below w.heap.size w w' := by
  obtain ⟨ao, c, rfl, htl⟩ := h.len
  obtain ⟨b0, o0, c0', u0, hv0, hc0, hu0, -⟩ := h.at 0 (by rw [hT.len]; omega)
  simp only [Value.slice.injEq, true_and] at hv0
  obtain ⟨rfl, rfl⟩ := hv0
  obtain ⟨ua0, uc0, rfl, -⟩ := hu0.len
  rw [hT.row 0 (by rw [hT.len]; omega)] at hc0
  have H := Lib.hid h; have HT := Lib.hid hT
  have hTl := hT.len
  have hz0 : (0 : Int) < T.length := by omega
  rw [show o0 + 0 = o0 from rfl] at hc0
  have HSD := Lib.hid (fun k => sdiag_apart (R := R) (S := S) hC hrow k); have HSS := Lib.hid (fun k => sdiag_sum (R := R) (S := S) hC hrow k)
  have HSM := Lib.hid (fun k => sdiag_sm (by omega) sR sS sC k (R.length + 1))
  have HTL := Lib.hid hTl
  rw [hTl]
  have hz1 : (0 : Int) < (R.length : Int) + 1 := by omega
  clear h hT hC hrow sR sS sC hu0 hz0 htl hTl
  go_enter Tryz.func268, Tryz.ntmps268
  go_wp2_with fail
  go_loopw [5, 6] (fun o i wr => ∃ k : Nat, k ≤ R.length + S.length ∧ i = .int .i64 ((k : Int) + 1) ∧ OwnI wr w.heap.size o ((List.range k).map fun k => (diagL R S C (k + 1)).sum) ∧ Below w.heap.size w wr ∧ Hid (∀ j, j < k → apartL 0 (diagL R S C (j + 1)) = true)) (fun _ i _ => R.length + S.length + 1 - (intOf i).toNat)
  case atStart => exact ⟨0, by omega, rfl, ownI_empty (Nat.le_refl _), (Below.refl _ _).alloc (Nat.le_refl _) _, fun j hj => by omega⟩
  case round =>
    obtain ⟨k, hk, rfl, hown, hbl, hap⟩ := hrel
    rename World => WA
    obtain ⟨va, vn, vc, rfl⟩ := own_shape hown
    have HOW := Lib.hid hown; have HBL := Lib.hid hbl
    clear hown hbl
    by_cases hkm : k < R.length + S.length
    · have hki : decide ((k : Int) + 1 < (R.length : Int) + 1 + ((S.length : Int) + 1) - 1) = true := decide_eq_true (by omega)
      go_wp2_with fail
      go_loopw [7, 8] (fun o i wk => ∃ j : Nat, j ≤ R.length + 1 ∧ i = .int .i64 j ∧ OwnI wk WA.heap.size o (sdiag R S C (k + 1) j) ∧ Below WA.heap.size WA wk) (fun _ i _ => R.length + 1 - (intOf i).toNat)
      case atStart => exact ⟨0, by omega, rfl, ownI_empty (Nat.le_refl _), (Below.refl _ _).alloc (Nat.le_refl _) _⟩
      case round =>
        obtain ⟨j, hj, rfl, hown, hbl⟩ := hrel
        obtain ⟨ta, tn, tc, rfl⟩ := own_shape hown
        have HOD := Lib.hid hown; have HBD := Lib.hid hbl
        have HB1D := Lib.hid (HBL.out.trans (hbl.mono HBL.out.size))
        clear hown hbl
        by_cases hjl : j < R.length + 1
        · have hji : decide ((j : Int) < (R.length : Int) + 1) = true := decide_eq_true (by omega)
          have hji2 : (j : Int) < (R.length : Int) + 1 := by omega
          have HL : Hid ((sdiag R S C (k + 1) j).length ≤ 4398046511104) := by show _ ≤ _; have := sdiag_length R S C (k + 1) j; omega
          have hjT : j < T.length := by have := HTL.out; omega
          by_cases h1 : j ≤ k + 1
          · have hsub : IntKind.i64.wrap ((k : Int) + 1 - (j : Int)) = ((k + 1 - j : Nat) : Int) := by rw [IntWalk.i64_in _ (by omega)]; omega
            have hsub2 : ((k : Int) + 1 - (j : Int)) = ((k + 1 - j : Nat) : Int) := by omega
            have t1 : decide ((0 : Int) ≤ (k : Int) + 1 - (j : Int)) = true := decide_eq_true (by omega)
            obtain ⟨q, hq⟩ : ∃ q : Nat, k + 1 - j = q := ⟨_, rfl⟩
            rw [hq] at hsub hsub2
            have t1' : (0 : Int) ≤ (q : Int) := by omega
            obtain ⟨b1, o1, c1, u1, hv1, hc1, hu1, -⟩ := H.out.at j hjT
            simp only [Value.slice.injEq, Option.some.injEq, Addr.mk.injEq, true_and, and_true] at hv1
            obtain ⟨⟨rfl, rfl⟩, rfl⟩ := hv1
            have hcx := (HB1D.out.cell (World.block_lt_of_cell? _ _ hc1)).trans hc1
            obtain ⟨ua, uc, rfl, -⟩ := hu1.len
            have hrl := HT.out.row j hjT
            by_cases h2 : q ≤ S.length
            · obtain ⟨b2, o2, c2, hv2, hc2, -⟩ := hu1.at (w := w) q (by omega)
              simp only [Value.slice.injEq, true_and] at hv2
              obtain ⟨rfl, rfl⟩ := hv2
              have hcy := (HB1D.out.cell (World.block_lt_of_cell? _ _ hc2)).trans hc2
              rw [← getD_at', HT.out.at' j q hjT h2] at hcy
              have HS := Lib.hid (sdiag_yes R S C (k + 1) j h1 (by omega))
              rw [hq] at HS
              rw [hrl] at hcx
              have t2 : decide ((q : Int) < (S.length : Int) + 1) = true := decide_eq_true (by omega)
              have hq2 : (q : Int) < (S.length : Int) + 1 := by omega
              generalize tabAt R S C j q = x at *
              clear hc1 hc2 hu1 hrl hq
              go_wp2_with (at_builtin; refine append_int rfl _ _ rfl WA.heap.size _ _ x HOD.out rfl HBD.out HBD.out.size _ rfl (by simp) HL.out ?_; intro v' w' hown' hbl' _ _; obtain ⟨qa, qn, qc, rfl⟩ := own_shape hown')
              go_roundw
              case rel => exact ⟨j + 1, by omega, by go_num, by rw [HS.out]; exact hown', hbl'⟩
              case measure => simp [intOf]; omega
            · have HS := Lib.hid (sdiag_no R S C (k + 1) j (by omega))
              rw [hrl] at hcx
              have t2 : decide ((q : Int) < (S.length : Int) + 1) = false := decide_eq_false (by omega)
              clear hc1 hu1 hrl hq
              go_wp2_with fail
              go_roundw
              case rel => exact ⟨j + 1, by omega, by go_num, by rw [HS.out]; exact HOD.out, HBD.out⟩
              case measure => simp [intOf]; omega
          · have HS := Lib.hid (sdiag_no R S C (k + 1) j (by omega))
            have t1 : decide ((0 : Int) ≤ (k : Int) + 1 - (j : Int)) = false := decide_eq_false (by omega)
            go_wp2_with fail
            go_roundw
            case rel => exact ⟨j + 1, by omega, by go_num, by rw [HS.out]; exact HOD.out, HBD.out⟩
            case measure => simp [intOf]; omega
        · obtain rfl : j = R.length + 1 := by omega
          have htn : tn = (sdiag R S C (k + 1) (R.length + 1)).length := by
            obtain ⟨_, _, e, _⟩ := HOD.out.ints.len
            simp only [Value.slice.injEq] at e
            exact e.2.1
          subst htn
          have HLD := Lib.hid (sdiag_length R S C (k + 1) (R.length + 1))
          have AP := Lib.hid (l01Apart_c _ _ wr HOD.out.ints (fun x hx => by have := HSM.out (k + 1) x hx; omega))
          rw [HSD.out (k + 1)] at AP
          have hji : decide ((R.length : Int) + 1 < (R.length : Int) + 1) = false := by simp
          have HL : Hid (((List.range k).map fun k => (diagL R S C (k + 1)).sum).length ≤ 4398046511104) := by show _ ≤ _; simp; omega
          have HS := Lib.hid (range_map_succ (fun k => (diagL R S C (k + 1)).sum) k)
          have hsum := HSS.out (k + 1)
          cases hq : apartL 0 (diagL R S C (k + 1))
          · have HF : Hid (finOk R.length S.length R S C = false) := by
              show _ = _
              cases e : finOk R.length S.length R S C
              · rfl
              · unfold finOk at e
                rw [List.all_eq_true] at e
                rw [e k (List.mem_range.2 hkm)] at hq; cases hq
            rw [hq] at AP
            clear hq hsum
            generalize sdiag R S C (k + 1) (R.length + 1) = ds at *
            go_wp2_with (go_at_call 280; refine AP.out.mono ?_; rintro e w3 ⟨rfl, rfl⟩)
            go_ret2
            exact ⟨⟨_, by rw [HF.out]; rfl, fun h => by rw [HF.out] at h; cases h⟩, HB1D.out⟩
          · have HAP : Hid (∀ j, j < k + 1 → apartL 0 (diagL R S C (j + 1)) = true) := fun j hj => by
              by_cases e : j = k
              · rw [e]; exact hq
              · exact hap.out j (by omega)
            rw [hq] at AP
            have HSMD := Lib.hid (HSM.out (k + 1))
            have HSUM := Lib.hid hsum
            clear hq hsum
            generalize sdiag R S C (k + 1) (R.length + 1) = ds at *
            go_wp2_with (go_at_call 280; refine AP.out.mono ?_; rintro e w3 ⟨rfl, rfl⟩)
            go_loop [9, 10] (fun s i => ∃ t : Nat, t ≤ ds.length ∧ i = .int .i64 t ∧ s = .int .i64 (ds.take t).sum) (fun _ i => ds.length - (intOf i).toNat)
            case atStart => exact ⟨0, by omega, rfl, rfl⟩
            case round =>
              obtain ⟨t, ht, rfl, rfl⟩ := hrel
              by_cases htl : t < ds.length
              · obtain ⟨b2, o2, c2, hv2, hc2, -⟩ := HOD.out.ints.at (w := wr) t htl
                simp only [Value.slice.injEq, true_and] at hv2
                obtain ⟨rfl, rfl⟩ := hv2
                have HT2 : Hid ((ds.take (t + 1)).sum = (ds.take t).sum + ds[t]) := by
                  show _ = _
                  rw [List.take_succ_eq_append_getElem htl, List.sum_append]; simp
                have hs1 := Sm.sum (show Sm 1000000000000 (ds.take t) from fun x hx => HSMD.out x (List.mem_of_mem_take hx))
                have hs2 := HSMD.out _ (List.getElem_mem htl)
                have hs3 : ((ds.take t).length : Int) ≤ 400 := by rw [List.length_take]; have := HLD.out; omega
                have hs4 : (ds.take t).sum ≤ 400 * 1000000000000 := Int.le_trans hs1.2 (Int.mul_le_mul_of_nonneg_right hs3 (by omega))
                generalize (ds.take t).sum = z at *
                generalize ds[t] = x at *
                have hti : (t : Int) < ds.length := by omega
                have hld := HLD.out
                have hwz : IntKind.i64.wrap (z + x) = z + x := IntWalk.i64_in _ (by omega)
                clear hs1 hs3
                go_wp2_with fail
                go_round
                case rel => exact ⟨t + 1, by omega, by go_num, by rw [HT2.out]⟩
                case measure => simp [intOf]; omega
              · obtain rfl : t = ds.length := by omega
                rw [List.take_length, HSUM.out]
                generalize hz : (diagL R S C (k + 1)).sum = z at *
                go_wp2_with (at_builtin; refine append_int rfl _ _ rfl w.heap.size _ _ z (HOW.out.same HBD.out.block) rfl HB1D.out HB1D.out.size _ rfl (by simp) HL.out ?_; intro v' w' hown' hbl' _ _; obtain ⟨qa, qn, qc, rfl⟩ := own_shape hown')
                go_roundw
                case rel => exact ⟨k + 1, by omega, by go_num, by rw [HS.out]; exact hown', hbl', HAP⟩
                case measure => simp [intOf]; omega
    · obtain rfl : k = R.length + S.length := by omega
      have hki : decide ((R.length : Int) + S.length + 1 < (R.length : Int) + 1 + ((S.length : Int) + 1) - 1) = false := decide_eq_false (by omega)
      have HF : Hid (finOk R.length S.length R S C = true) := by
        show _ = _
        unfold finOk
        rw [List.all_eq_true]
        exact fun k hk => hap.out k (List.mem_range.1 hk)
      rw [show (List.range (R.length + S.length)).map (fun k => (diagL R S C (k + 1)).sum) = finT R.length S.length R S C from rfl] at HOW
      generalize hft : finT R.length S.length R S C = ft at *
      obtain ⟨ta, tc, htv, htl⟩ := HOW.out.ints.len
      simp only [Value.slice.injEq] at htv
      obtain ⟨rfl, rfl, rfl⟩ := htv
      have hcap : ft.length ≤ vc := by
        obtain ⟨a', c', hv', h1, _⟩ := SlAt.len HOW.out.ints
        simp only [Value.slice.injEq, List.length_map] at hv' h1
        omega
      clear hap
      go_wp2_with fail
      go_loop [5] (fun s => ∃ m : Nat, m ≤ ft.length ∧ s = .slice va m vc ∧ Hid (trimN ft ft.length = trimN ft m)) (fun s => match s with | .slice _ n _ => n | _ => 0)
      case atStart => exact ⟨ft.length, Nat.le_refl _, rfl, rfl⟩
      case round =>
        obtain ⟨q, hql, rfl, ht⟩ := hrel
        by_cases h0 : q = 0
        · subst h0
          go_wp2_with fail
          go_ret2
          exact ⟨⟨_, by rw [HF.out]; rfl, fun _ => by unfold trim; rw [ht.out]; exact HOW.out.ints.take 0 (by omega)⟩, HBL.out⟩
        · obtain ⟨p, rfl⟩ : ∃ p, q = p + 1 := ⟨q - 1, by omega⟩
          obtain ⟨b, off, cap, hv, hc, -⟩ := HOW.out.ints.at (w := WA) p (by omega)
          simp only [Value.slice.injEq, true_and] at hv
          obtain ⟨rfl, rfl⟩ := hv
          rw [← getD_at'] at hc
          by_cases hz : ft.getD p 0 = 0
          · have ht2 : Hid (trimN ft ft.length = trimN ft p) := by rw [ht.out, trimN, if_pos hz]; rfl
            rw [hz] at hc
            clear hz h0
            go_wp2_with fail
            go_round
            case rel => exact ⟨p, by omega, rfl, ht2⟩
            case measure => simp
          · have hb := (neB hz).1
            have ht2 : Hid (trimN ft ft.length = p + 1) := by rw [ht.out, trimN, if_neg hz]; rfl
            generalize ft.getD p 0 = x at *
            clear hz h0
            go_wp2_with fail
            go_ret2
            exact ⟨⟨_, by rw [HF.out]; rfl, fun _ => by unfold trim; rw [ht2.out]; exact HOW.out.ints.take (p + 1) (by omega)⟩, HBL.out⟩
end
section
open Go.RowKit Go.Sort

/-- A step of the reference: a number is taken off both edges and laid in its place. -/
theorem TabOf.step {T : List (List Int)} {R S : List Int} {C : List (List Int)} (h : TabOf T R S C) (hC : C.length = R.length) (I J : Nat) (hI : I < R.length) (hJ : J < S.length) (hrow : ∀ x ∈ C, x.length = S.length) (a b x : Int) :
    TabOf ((T.set 0 ((T.getD 0 []).set (J + 1) b)).set (I + 1) (((T.getD (I + 1) []).set 0 a).set (J + 1) x)) (R.set I a) (S.set J b) (setC C I J x) := by
  have hl := h.len
  refine ⟨by simp [hl], fun i hi => ?_, fun i j hi hj => ?_⟩
  · simp only [List.length_set] at hi ⊢
    rw [List.getElem_set]
    split
    · simp only [List.length_set]
      rw [show T.getD (I + 1) [] = T[I + 1] by simp [show I + 1 < T.length by omega]]; exact h.row _ _
    · rw [List.getElem_set]
      split
      · rw [List.length_set, show T.getD 0 [] = T[0] by simp [show 0 < T.length by omega]]; exact h.row _ _
      · exact h.row _ _
  · simp only [List.length_set] at hi hj
    rw [List.getElem_set]
    by_cases e1 : I + 1 = i
    · rw [if_pos e1]
      subst e1
      have hr : (T.getD (I + 1) []).length = S.length + 1 := by
        rw [show T.getD (I + 1) [] = T[I + 1] by simp [show I + 1 < T.length by omega]]; exact h.row _ _
      have hat : (T.getD (I + 1) []).getD j 0 = tabAt R S C (I + 1) j := by
        rw [show T.getD (I + 1) [] = T[I + 1] by simp [show I + 1 < T.length by omega]]; exact h.at' _ _ _ hj
      by_cases e2 : J + 1 = j
      · subst e2
        have hcl := hrow _ (List.getElem_mem (show I < C.length by omega))
        rw [getD_set_self _ _ _ (by rw [List.length_set, hr]; omega)]
        simp [tabAt, setC, hJ, show I < C.length by omega, hcl]
      · by_cases e3 : j = 0
        · subst e3
          rw [List.getD_eq_getElem?_getD, List.getElem?_set_ne e2, ← List.getD_eq_getElem?_getD, getD_set_self _ _ _ (by rw [hr]; omega)]
          simp [tabAt, hI]
        · obtain ⟨p, rfl⟩ : ∃ p, j = p + 1 := ⟨j - 1, by omega⟩
          rw [List.getD_eq_getElem?_getD, List.getElem?_set_ne e2, List.getElem?_set_ne (by omega), ← List.getD_eq_getElem?_getD, hat]
          have hpj : J ≠ p := by omega
          simp [tabAt, setC, show I < C.length by omega, List.getElem?_set_ne hpj]
    · rw [if_neg e1, List.getElem_set]
      by_cases e2 : i = 0
      · subst e2
        rw [if_pos rfl]
        have hr : (T.getD 0 []).length = S.length + 1 := by
          rw [show T.getD 0 [] = T[0] by simp [show 0 < T.length by omega]]; exact h.row _ _
        have hat : (T.getD 0 []).getD j 0 = tabAt R S C 0 j := by
          rw [show T.getD 0 [] = T[0] by simp [show 0 < T.length by omega]]; exact h.at' _ _ _ hj
        by_cases e3 : J + 1 = j
        · subst e3
          rw [getD_set_self _ _ _ (by rw [hr]; omega)]
          simp [tabAt, hJ]
        · rw [List.getD_eq_getElem?_getD, List.getElem?_set_ne e3, ← List.getD_eq_getElem?_getD, hat]
          by_cases e4 : j = 0
          · simp [tabAt, e4]
          · obtain ⟨p, rfl⟩ : ∃ p, j = p + 1 := ⟨j - 1, by omega⟩
            have hpj : J ≠ p := by omega
            simp [tabAt, List.getElem?_set_ne hpj]
      · rw [if_neg (by omega), h.at' _ _ _ hj]
        obtain ⟨q, rfl⟩ : ∃ q, i = q + 1 := ⟨i - 1, by omega⟩
        have hqi : I ≠ q := by omega
        by_cases e4 : j = 0
        · simp [tabAt, e4, List.getElem?_set_ne hqi]
        · obtain ⟨p, rfl⟩ : ∃ p, j = p + 1 := ⟨j - 1, by omega⟩
          simp [tabAt, setC, List.getElem?_set_ne hqi]
theorem oddL_put_fin (L : List (List Int)) (m n : Nat) (R S : List Int) (C : List (List Int)) : oddL (L ++ finL m n R S C) = if finOk m n R S C then put (trim (finT m n R S C)) (oddL L) else oddL L := by
  unfold finL
  split
  · exact oddL_snoc _ _
  · rw [List.append_nil]
theorem OwnU.putI {w : World} {B : Nat} {v : Value} {us : List Value} {xss : List (List Int)} (h : OwnU w B v us xss) (i : Nat) (hi : i < xss.length) (g cap l : Nat) (hu : us[i]? = some (.slice (some ⟨g, 0, none⟩) l cap)) (j : Nat) (hj : j < (xss.getD i []).length) :
    B ≤ g ∧ w.cell? ⟨g, j, none⟩ = some (.int .i64 ((xss.getD i []).getD j 0)) ∧ w.frozen? ⟨g, j, none⟩ = false ∧ ∀ x, OwnU (w.setCell ⟨g, j, none⟩ (.int .i64 x)) B v us (xss.set i ((xss.getD i []).set j x)) := by
  have ho := h.each i _ _ hu (show xss[i]? = some (xss.getD i []) by simp [hi])
  have hl : l = (xss.getD i []).length := by have := ho.ints.len; obtain ⟨_, _, e, _⟩ := this; simp only [Value.slice.injEq] at e; exact e.2.1
  rw [hl] at ho hu
  refine ⟨own_base_le ho, own_int_at ho j hj, World.ownsRow.frozenAt ho j, fun x => h.set hu (grownBy_setCell w ⟨g, j, none⟩ _) ?_⟩
  have := own_int_set ho j x
  unfold OwnI; rw [List.length_set]; exact this
theorem OwnU.rowAt {w : World} {B : Nat} {v : Value} {us : List Value} {xss : List (List Int)} (h : OwnU w B v us xss) (i : Nat) (hi : i < xss.length) (h0 : 0 < (xss.getD i []).length) : ∃ g cap, us[i]? = some (.slice (some ⟨g, 0, none⟩) (xss.getD i []).length cap) := by
  have hl := h.len
  have hu : us[i]? = some us[i] := List.getElem?_eq_getElem (by omega)
  have ho := h.each i _ _ hu (show xss[i]? = some (xss.getD i []) by simp [hi])
  obtain ⟨g, cap, e, -⟩ := OwnI.open ho h0
  exact ⟨g, cap, by rw [hu, e]⟩
theorem trimF_len (m n : Nat) (R S : List Int) (C : List (List Int)) : (trim (finT m n R S C)).length ≤ m + n := by
  rw [trim_length]
  have h1 := trimN_le (finT m n R S C) (finT m n R S C).length
  have e : (finT m n R S C).length = m + n := by simp [finT]
  omega
set_option maxRecDepth 100000 in
set_option maxHeartbeats 4000000 in
theorem l04Fill_c {m n : Nat} (hm : m ≤ 20) (hn : n ≤ 20) : ∀ (f k i j : Nat) (T : List (List Int)) (R S : List Int) (C L : List (List Int)) (t o : Value) (w : World), (m + 1 - i) * (n + 1) + (n + 1 - j) < f → IntSS w.heap t T → IntSS w.heap o (oddL L) → TabOf T R S C →
    R.length = m → S.length = n → C.length = m → (∀ x ∈ C, x.length = n) → Sm 1000000000000 R → Sm 1000000000000 S → (∀ x ∈ C, Sm 1000000000000 x) → 1 ≤ i → i ≤ m + 1 → 1 ≤ j → j ≤ n + 1 → k = m * n - ((i - 1) * n + (j - 1)) → L.length + (fillT m n k R S C).length < 4398046511104 →
    Calls Tryz.prog 245 #[t, .int .i64 i, .int .i64 j, o] w fun e w' => ∃ r, e = .returned r ∧ IntSS w'.heap r (oddL (L ++ fillT m n k R S C)) ∧ Below w.heap.size w w' := by
  intro f
  induction f with
  | zero => exact fun k i j T R S C L t o w hf => absurd hf (by omega)
  | succ f ih => 
    intro k i j T R S C L t o w hf h ho hT hR hS hC hrow sR sS sC hi1 hi hj1 hj hk hl
    by_cases him : i = m + 1
    · have hk0 : k = 0 := by rw [him] at hk; simp at hk; omega
      subst hk0
      have RES := Lib.hid (l04Result_c t T R S C w h hT (by omega) (fun x hx => by rw [hrow x hx, hS]) (by omega) (by omega) sR sS sC)
      rw [hR, hS] at RES
      have HFN := Lib.hid (oddL_put_fin L m n R S C)
      have hTl := hT.len
      obtain ⟨ta, tc, rfl, -⟩ := h.len
      have t1 := (eqB (show (i : Int) = (T.length : Int) by omega)).1
      obtain ⟨r0, c0, rfl, -⟩ := ho.len
      have HOO := Lib.hid ho
      have HPU := Lib.hid (fun (r : Value) (W : World) (h1 : IntSS W.heap (.slice r0 (oddL L).length c0) (oddL L)) (h2 : IntS W.heap r (trim (finT m n R S C))) => l01Put_c (.slice r0 (oddL L).length c0) r (oddL L) (trim (finT m n R S C)) W h1 h2 (by have := oddL_length L; omega) (by have := trimF_len m n R S C; omega))
      clear h ho hT hrow sR sS sC hf hk hl ih hTl
      cases hok : finOk m n R S C
      · rw [hok] at RES HFN
        clear hok
        go_enter Tryz.func245, Tryz.ntmps245
        go_wp2_with (go_at_call 268; refine RES.out.mono ?_; rintro e w2 ⟨⟨r, rfl, -⟩, hb2⟩)
        go_ret
        exact ⟨_, rfl, by rw [show fillT m n 0 R S C = finL m n R S C from rfl, HFN.out]; exact HOO.out.same hb2.block, hb2⟩
      · rw [hok] at RES HFN
        clear hok
        go_enter Tryz.func245, Tryz.ntmps245
        go_wp2_with (first | (go_at_call 268; refine RES.out.mono ?_; rintro e w2 ⟨⟨r, rfl, hr⟩, hb2⟩; have HRR := Lib.hid (hr rfl); obtain ⟨ra, rc, rfl, -⟩ := (hr rfl).len; clear hr) | (go_at_call 196; refine (HPU.out _ _ (HOO.out.same hb2.block) HRR.out).mono ?_; rintro e w3 ⟨r3, rfl, hr3, hb3⟩; obtain ⟨pa, pc, rfl, -⟩ := hr3.len))
        go_ret
        exact ⟨_, rfl, by rw [show fillT m n 0 R S C = finL m n R S C from rfl, HFN.out]; exact hr3, hb2.trans (hb3.mono hb2.size)⟩
    · have hTl := hT.len
      have hz0 : 0 < T.length := by omega
      obtain ⟨b0, o0, c0, u0, rfl, hc0, hu0, -⟩ := h.at (w := w) 0 hz0
      obtain ⟨ua0, uc0, rfl, -⟩ := hu0.len
      have hrl0 := hT.row 0 hz0
      rw [show o0 + 0 = o0 from rfl, hrl0, hS] at hc0
      have t1 := (neB (show (i : Int) ≠ (T.length : Int) by omega)).1
      have hz1 : (0 : Int) < (T.length : Int) := by omega
      obtain ⟨r0, q0, rfl, -⟩ := ho.len
      have H := Lib.hid h; have HO := Lib.hid ho; have HT := Lib.hid hT; have HROW := Lib.hid hrow; have HSR := Lib.hid sR; have HSS := Lib.hid sS; have HSC := Lib.hid sC; have HL := Lib.hid hl; have HK := Lib.hid hk; have HF := Lib.hid hf
      by_cases hjn : j = n + 1
      · have hms : (m + 1 - (i + 1)) * (n + 1) + (n + 1 - 1) < f := by
          obtain ⟨d, hd⟩ : ∃ d, m + 1 - i = d + 1 := ⟨m - i, by omega⟩
          rw [hd, Nat.add_mul] at hf
          rw [show m + 1 - (i + 1) = d by omega]; omega
        have hke : k = m * n - ((i + 1 - 1) * n + (1 - 1)) := by
          obtain ⟨d, rfl⟩ : ∃ d, i = d + 1 := ⟨i - 1, by omega⟩
          rw [hk, hjn]; simp only [Nat.add_sub_cancel, Nat.add_mul]; omega
        have IHX := Lib.hid (ih k (i + 1) 1 T R S C L _ _ w hms h ho hT hR hS hC hrow sR sS sC (by omega) (by omega) (by omega) (by omega) hke hl)
        have t2 := (eqB (show (j : Int) = (n : Int) + 1 by omega)).1
        have hwi : IntKind.i64.wrap ((i : Int) + 1) = i + 1 := IntWalk.i64_in _ (by omega)
        clear h ho hT hrow sR sS sC hf hk hl ih hTl hms hke hu0 hrl0
        go_enter Tryz.func245, Tryz.ntmps245
        go_wp2_with (go_at_call 245; refine IHX.out.mono ?_; rintro e w2 ⟨r, rfl, hr, hb2⟩; obtain ⟨ra, rc, rfl, -⟩ := hr.len)
        go_ret
        exact ⟨_, rfl, hr, hb2⟩
      · obtain ⟨I, rfl⟩ : ∃ I, i = I + 1 := ⟨i - 1, by omega⟩
        obtain ⟨J, rfl⟩ : ∃ J, j = J + 1 := ⟨j - 1, by omega⟩
        simp only [Nat.add_sub_cancel] at hk
        have hI : I < m := by omega
        have hJ : J < n := by omega
        have hPl := place_lt hI hJ
        obtain ⟨k, rfl⟩ : ∃ k', k = k' + 1 := ⟨k - 1, by omega⟩
        have hpl := place I n J hJ
        have hpk : m * n - (k + 1) = I * n + J := by omega
        have hke : k = m * n - ((I + 1 - 1) * n + (J + 2 - 1)) := by rw [Nat.add_sub_cancel, show J + 2 - 1 = J + 1 by omega]; omega
        have HKE := Lib.hid hke
        clear hke
        have HFI : Hid (fillT m n (k + 1) R S C = (List.range (minX R S I J + 1)).flatMap fun (x : Nat) => fillT m n k (R.set I (R.getD I 0 - 2 ^ (J + 1) * (x : Int))) (S.set J (S.getD J 0 - x)) (setC C I J x)) := by
          show _ = _
          rw [fillT, hpk, hpl.1, hpl.2]
        have t2 := (neB (show ((J + 1 : Nat) : Int) ≠ (n : Int) + 1 by omega)).1
        have IH := Lib.hid ih
        clear h ho hT hrow sR sS sC hf hk hl hpl ih hu0 hrl0
        obtain ⟨st, hst⟩ : ∃ st : Int, st = 2 ^ (J + 1) := ⟨_, rfl⟩
        have hst2 : 2 ≤ st ∧ st ≤ 2199023255552 := by rw [hst]; exact pow_in J (by omega)
        have HST := Lib.hid hst
        have hx0 := HSR.out.at (by omega) I
        have hy0 := HSS.out.at (by omega) J
        obtain ⟨mx, hmx⟩ : ∃ mx : Nat, minX R S I J = mx := ⟨_, rfl⟩
        have HMX := Lib.hid hmx
        unfold minX at hmx
        rw [← hst] at hmx
        obtain ⟨q, hq⟩ : ∃ q : Nat, R.getD I 0 / st = q := ⟨(R.getD I 0 / st).toNat, by have := Int.ediv_nonneg hx0.1 (show 0 ≤ st by omega); omega⟩
        have hqx : (q : Int) ≤ R.getD I 0 := by rw [← hq]; exact Int.ediv_le_self _ hx0.1
        have HQ := Lib.hid hq
        rw [hq] at hmx
        have HP : Hid (∀ X : Nat, ((X : Int) * st ≤ R.getD I 0 ↔ (X : Int) ≤ q)) := fun X => by
          rw [← HQ.out]; exact (Int.le_ediv_iff_mul_le (by omega)).symm
        generalize hxr : R.getD I 0 = xr at *
        generalize hys : S.getD J 0 = ys at *
        have HXR := Lib.hid hxr; have HYS := Lib.hid hys
        have hmy : (mx : Int) ≤ ys := by omega
        have hmq : (mx : Int) ≤ q := by omega
        have hmo : (mx : Int) = q ∨ (mx : Int) = ys := by omega
        obtain ⟨F, hF⟩ : ∃ F : Nat → List (List Int), F = fun (X : Nat) => fillT m n k (R.set I (xr - st * (X : Int))) (S.set J (ys - X)) (setC C I J X) := ⟨_, rfl⟩
        have HFF : Hid (fillT m n (k + 1) R S C = (List.range (mx + 1)).flatMap F) := by
          show _ = _
          rw [HFI.out, hF]
          simp only [HMX.out, ← HST.out]
        have HFX := Lib.hid (fun X : Nat => congrFun hF X)
        have hlt0 : 0 < T.length := by omega
        have hltI : I + 1 < T.length := by omega
        have hr0 := HT.out.row 0 hlt0
        have hrI := HT.out.row (I + 1) hltI
        obtain ⟨b1, o1, c1, u1, hv1, hc1, hu1, -⟩ := H.out.at (w := w) (I + 1) hltI
        simp only [Value.slice.injEq, Option.some.injEq, Addr.mk.injEq, true_and, and_true] at hv1
        obtain ⟨⟨rfl, rfl⟩, rfl⟩ := hv1
        obtain ⟨ua1, uc1, rfl, -⟩ := hu1.len
        obtain ⟨b2, o2, c2, u2, hv2, hc2, hu2, -⟩ := H.out.at (w := w) 0 hlt0
        simp only [Value.slice.injEq, Option.some.injEq, Addr.mk.injEq, true_and, and_true] at hv2
        obtain ⟨⟨rfl, rfl⟩, rfl⟩ := hv2
        rw [show o0 + 0 = o0 from rfl, hc0] at hc2
        simp only [Option.some.injEq] at hc2
        subst hc2
        obtain ⟨b3, o3, c3, hv3, hc3, -⟩ := hu2.at (w := w) (J + 1) (by omega)
        obtain ⟨b4, o4, c4, hv4, hc4, -⟩ := hu1.at (w := w) 0 (by omega)
        simp only [Value.slice.injEq] at hv3 hv4
        obtain ⟨rfl, -, rfl⟩ := hv3
        obtain ⟨rfl, -, rfl⟩ := hv4
        rw [← getD_at', HT.out.at' 0 (J + 1) hlt0 (by omega), show tabAt R S C 0 (J + 1) = ys by rw [← HYS.out]; simp [tabAt]] at hc3
        rw [← getD_at', HT.out.at' (I + 1) 0 hltI (by omega), show tabAt R S C (I + 1) 0 = xr by rw [← HXR.out]; simp [tabAt], Nat.add_zero] at hc4
        have t1b := (neB (show (I : Int) + 1 ≠ (m : Int) + 1 by omega)).1
        have t2b := (neB (show (J : Int) + 1 ≠ (n : Int) + 1 by omega)).1
        rw [hrI, hS] at hc1
        have HC0 := Lib.hid hc0; have HC1 := Lib.hid hc1; have HC3 := Lib.hid hc3; have HC4 := Lib.hid hc4
        have HSW := Lib.hid (sh2_wrap J (by omega)); have HSL := Lib.hid hS
        have hTm : T.length = m + 1 := by omega
        rw [show ((I + 1 : Nat) : Int) = (I : Int) + 1 by omega, show ((J + 1 : Nat) : Int) = (J : Int) + 1 by omega, hTm]
        clear hxr hys hmx hq hF hqx hu1 hu2 hc1 hc3 hc4 hr0 hrI hst HFI HMX HQ t1 t2
        go_enter Tryz.func245, Tryz.ntmps245
        go_wp2_with fail
        go_loopw [3, 11] (fun o x wr => ∃ (X : Nat), X ≤ mx + 1 ∧ x = .int .i64 X ∧ IntSS wr.heap o (oddL (L ++ (List.range X).flatMap F)) ∧ Below w.heap.size w wr) (fun _ x _ => mx + 1 - (intOf x).toNat)
        case atStart => exact ⟨0, by omega, rfl, by simpa using HO.out, Below.refl _ _⟩
        case round =>
          obtain ⟨X, hX, rfl, hO1, hB1⟩ := hrel
          rename World => w1
          obtain ⟨r1, q1, rfl, -⟩ := hO1.len
          have HO1 := Lib.hid hO1; have HB1 := Lib.hid hB1
          have d0 := (hB1.cell (World.block_lt_of_cell? _ _ HC0.out)).trans HC0.out
          have d1 := (hB1.cell (World.block_lt_of_cell? _ _ HC1.out)).trans HC1.out
          have d3 := (hB1.cell (World.block_lt_of_cell? _ _ HC3.out)).trans HC3.out
          have d4 := (hB1.cell (World.block_lt_of_cell? _ _ HC4.out)).trans HC4.out
          clear hO1 hB1
          have hIi : (I : Int) + 1 < (T.length : Int) := by omega
          have hJi : (J : Int) + 1 < (n : Int) + 1 := by omega
          have hpb : 0 ≤ (X : Int) * st ∧ (X : Int) * st ≤ 1000000000000 + st := by
            refine ⟨Int.mul_nonneg (by omega) (by omega), ?_⟩
            have h1 := (HP.out mx).2 hmq
            have h2 : (X : Int) * st ≤ ((mx : Int) + 1) * st := Int.mul_le_mul_of_nonneg_right (by omega) (by omega)
            rw [Int.add_mul] at h2; omega
          obtain ⟨p, hp⟩ : ∃ p, (X : Int) * st = p := ⟨_, rfl⟩
          have HPX := HP.out X
          rw [hp] at hpb HPX
          have hpw : wrap64 ((X : Int) * 2 ^ (J + 1)) = p := by
            rw [← HST.out, hp]; unfold wrap64; omega
          have HPW := Lib.hid hpw
          clear hpw
          by_cases hXm : X ≤ mx
          · have hle : decide ((X : Int) ≤ ys) = true := decide_eq_true (by omega)
            have hpx := HPX.2 (by omega)
            have dle : decide (wrap64 ((X : Int) * 2 ^ (J + 1)) ≤ xr) = true := by rw [HPW.out]; exact decide_eq_true hpx
            have DLE := Lib.hid dle
            have H2 : Hid (IntSS w.heap (.slice (some ⟨b0, o0, none⟩) (m + 1) c0) T) := by show IntSS _ _ _; rw [← hTm]; exact H.out
            have OWN := Lib.hid (l01Own2_c _ T w1 (H2.out.same HB1.out.block) (by omega) (fun x hx => by
              obtain ⟨z, hz, rfl⟩ := List.getElem_of_mem hx
              rw [HT.out.row z hz]; omega))
            go_upto_region 12 with (go_at_call 269; refine OWN.out.mono ?_; rintro e w2 ⟨rn, us, rfl, hU, hb2⟩; obtain ⟨na, nn, nc, rfl⟩ := own_shape hU.row)
            obtain ⟨gn, cn, en, hgn⟩ := own_open hU.row (by omega)
            simp only [Value.slice.injEq] at en
            obtain ⟨rfl, rfl, rfl⟩ := en
            obtain ⟨g0, cap0, hu0⟩ := hU.rowAt 0 hlt0 (by rw [show T.getD 0 [] = T[0] by simp [hlt0], HT.out.row 0 hlt0]; omega)
            obtain ⟨g1, cap1, hu1⟩ := hU.rowAt (I + 1) hltI (by rw [show T.getD (I + 1) [] = T[I + 1] by simp [hltI], HT.out.row (I + 1) hltI]; omega)
            rw [show T.getD 0 [] = T[0] by simp [hlt0], HT.out.row 0 hlt0, HSL.out] at hu0
            rw [show T.getD (I + 1) [] = T[I + 1] by simp [hltI], HT.out.row (I + 1) hltI, HSL.out] at hu1
            have hne0 : us.length = T.length := hU.len
            have e0 := (World.ownsRow.cellAt hU.row 0 (by omega)).trans hu0
            have e1 := (World.ownsRow.cellAt hU.row (I + 1) (by omega)).trans hu1
            have HU2 := Lib.hid hU
            have HB2 := Lib.hid hb2
            have HU0 := Lib.hid hu0; have HU1 := Lib.hid hu1
            clear hU hb2 hu0 hu1 hne0 d0 d1 d3 d4
            go_quiet (fail)
            have HU3 := Lib.hid (HU2.out.drewN nq)
            have HB3 := Lib.hid (below_drewN nq HB2.out)
            generalize w2.drewN nq = w3 at *
            clear HU2 HB2 e0 e1 OWN
            obtain ⟨hg0, hp1, hp2, hp3⟩ := HU3.out.putI 0 hlt0 g0 cap0 (n + 1) HU0.out (J + 1) (by rw [show T.getD 0 [] = T[0] by simp [hlt0], HT.out.row 0 hlt0]; omega)
            rw [show T.getD 0 [] = T[0] by simp [hlt0], HT.out.at' 0 (J + 1) hlt0 (by omega), show tabAt R S C 0 (J + 1) = ys by rw [← HYS.out]; simp [tabAt]] at hp1
            have e4 : IntKind.i64.wrap (ys - (X : Int)) = ys - X := IntWalk.i64_in _ (by omega)
            have HU4 := Lib.hid (hp3 (ys - (X : Int)))
            have HB4 := Lib.hid (HB3.out.setCell (p := ⟨g0, J + 1, none⟩) hg0 (.int .i64 (ys - (X : Int))))
            clear hp3
            go_upto_region 14 with fail
            generalize w3.setCell ⟨g0, J + 1, none⟩ (.int .i64 (ys - (X : Int))) = w4 at *
            clear hp1 hp2 HU3 HB3
            have hlt4 : I + 1 < (T.set 0 ((T.getD 0 []).set (J + 1) (ys - (X : Int)))).length := by rw [List.length_set]; exact hltI
            have hrow4 : (T.set 0 ((T.getD 0 []).set (J + 1) (ys - (X : Int)))).getD (I + 1) [] = T.getD (I + 1) [] := by rw [List.getD_eq_getElem?_getD, List.getElem?_set_ne (by omega), ← List.getD_eq_getElem?_getD]
            have hlI : (T.getD (I + 1) []).length = n + 1 := by rw [show T.getD (I + 1) [] = T[I + 1] by simp [hltI], HT.out.row (I + 1) hltI]; omega
            obtain ⟨hg1, hp1, hp2, hp3⟩ := HU4.out.putI (I + 1) hlt4 g1 cap1 (n + 1) HU1.out 0 (by rw [hrow4, hlI]; omega)
            rw [hrow4, show T.getD (I + 1) [] = T[I + 1] by simp [hltI], HT.out.at' (I + 1) 0 hltI (by omega), show tabAt R S C (I + 1) 0 = xr by rw [← HXR.out]; simp [tabAt]] at hp1
            have e5 : IntKind.i64.wrap (xr - p) = xr - p := IntWalk.i64_in _ (by omega)
            have HP3 := Lib.hid hp3
            clear hp3 e4 e5
            go_upto_region 15 with fail
            clear dle hp1 hp2
            rw [HPW.out, show wrap64 (xr - p) = xr - p by unfold wrap64; omega]
            have HU5 := Lib.hid (HP3.out (xr - p))
            have HB5 := Lib.hid (HB4.out.setCell (p := ⟨g1, 0, none⟩) hg1 (.int .i64 (xr - p)))
            rw [hrow4] at HU5
            generalize w4.setCell ⟨g1, 0, none⟩ (.int .i64 (xr - p)) = w5 at *
            clear HP3 HU4 HB4
            generalize hT1 : T.set 0 ((T.getD 0 []).set (J + 1) (ys - (X : Int))) = T1 at *
            have hlt5 : I + 1 < (T1.set (I + 1) ((T.getD (I + 1) []).set 0 (xr - p))).length := by rw [List.length_set]; exact hlt4
            have hrow5 : (T1.set (I + 1) ((T.getD (I + 1) []).set 0 (xr - p))).getD (I + 1) [] = (T.getD (I + 1) []).set 0 (xr - p) := by simp [hlt4]
            obtain ⟨-, hp1, hp2, hp3⟩ := HU5.out.putI (I + 1) hlt5 g1 cap1 (n + 1) HU1.out (J + 1) (by rw [hrow5, List.length_set, hlI]; omega)
            have HU6 := Lib.hid (hp3 (X : Int))
            have HB6 := Lib.hid (HB5.out.setCell (p := ⟨g1, J + 1, none⟩) hg1 (.int .i64 (X : Int)))
            rw [hrow5, List.set_set] at HU6
            clear hp3
            generalize (List.getD (T1.set (I + 1) ((T.getD (I + 1) []).set 0 (xr - p))) (I + 1) []).getD (J + 1) 0 = zz at *
            go_upto_region 16 with fail
            generalize w5.setCell ⟨g1, J + 1, none⟩ (.int .i64 (X : Int)) = w6 at *
            clear hp1 hp2 HU5 HB5 hlt5 hrow5 hrow4 hlI hlt4
            have HTS := Lib.hid (HT.out.step (by omega) I J (by omega) (by omega) (fun x hx => by rw [HROW.out x hx, hS]) (xr - p) (ys - (X : Int)) (X : Int))
            rw [hT1] at HTS
            clear hT1
            have HFX1 := Lib.hid (HFX.out X)
            rw [Int.mul_comm, hp] at HFX1
            have hwJ : IntKind.i64.wrap ((J : Int) + 1 + 1) = J + 1 + 1 := IntWalk.i64_in _ (by omega)
            have CC := Lib.hid (IH.out k (I + 1) (J + 2) _ (R.set I (xr - p)) (S.set J (ys - (X : Int))) (setC C I J X) (L ++ (List.range X).flatMap F) (.slice (some ⟨gn, 0, none⟩) T.length nc) _ w6 (by have := HF.out; omega) HU6.out.ints (HO1.out.same HB6.out.block) HTS.out (by rw [List.length_set]; exact hR) (by rw [List.length_set]; exact hS) (by rw [setC_length]; exact hC) (setC_rows HROW.out I J X)
              (HSR.out.setI I _ (by omega) (by omega)) (HSS.out.setI J _ (by omega) (by omega)) (setC_sm HSC.out I J X (by omega) (by omega)) (by omega) (by omega) (by omega) (by omega) HKE.out (by
                rw [← HFX1.out, List.length_append]
                have h1 := flat_prefix F (mx + 1) X (by omega)
                have h2 := HL.out
                rw [HFF.out] at h2
                omega))
            rw [← HFX1.out, List.append_assoc, ← flat_succ] at CC
            rw [show ((J + 2 : Nat) : Int) = (J : Int) + 1 + 1 by omega, show ((I + 1 : Nat) : Int) = (I : Int) + 1 by omega, hTm] at CC
            have hXB : X ≤ 1000000000000 := by omega
            clear HU6 HTS HFX1 hpb hp HPX hpx hmo hmq hmy hx0 hy0 hst2 HU0 HU1 hg0 hg1 hgn hPl hpk hIi hJi H2 hle hlt0 hltI hc0 hi1 hj1 him hjn hTl hz0 hz1 hX
            go_wp2_with (go_at_call 245; (with_reducible refine CC.out.mono ?_); rintro e w7 ⟨r7, rfl, hr7, hb7⟩; obtain ⟨r8, r9, rfl, -⟩ := hr7.len)
            go_roundw
            case rel => exact ⟨X + 1, by omega, by go_num, by rw [show L ++ ((List.range X).flatMap F ++ F X) = L ++ (List.range (X + 1)).flatMap F by simp [List.range_succ]]; exact hr7, HB1.out.trans ((HB6.out.trans (hb7.mono HB6.out.size)).mono HB1.out.size)⟩
            case measure => simp [intOf]; omega
          · have hle2 : decide ((X : Int) ≤ ys) = false ∨ decide (wrap64 ((X : Int) * 2 ^ (J + 1)) ≤ xr) = false := by
              rcases hmo with e | e
              · right; rw [HPW.out]; exact decide_eq_false (fun h => by have := HPX.1 h; omega)
              · left; exact decide_eq_false (by omega)
            have HEX : Hid (X = mx + 1) := by show _ = _; omega
            have HX2 := Lib.hid hle2
            clear hle2
            by_cases hy : (X : Int) ≤ ys
            · have dle : decide (wrap64 ((X : Int) * 2 ^ (J + 1)) ≤ xr) = false := by
                rcases HX2.out with e | e
                · rw [decide_eq_true hy] at e; cases e
                · exact e
              go_wp2_with fail
              go_ret
              exact ⟨_, rfl, by rw [HFF.out, ← HEX.out]; exact HO1.out, HB1.out⟩
            · have dle : decide ((X : Int) ≤ ys) = false := decide_eq_false hy
              go_wp2_with fail
              go_ret
              exact ⟨_, rfl, by rw [HFF.out, ← HEX.out]; exact HO1.out, HB1.out⟩
end
section
open Go.RowKit Go.Sort

theorem cell_var3 {w w' : World} {g t : Nat} {a b c d : Value} (h : w'.heap[g]? = w.heap[g]?) (k : w.heap[g]? = some (.cells #[a, b, c, d] t (0, 0))) : w'.cell? ⟨g, 2, none⟩ = some c := by
  have := h.trans k
  rw [World.cell?]; simp only [this]; rfl
theorem free_var3 {w w' : World} {g t : Nat} {a b c d : Value} (h : w'.heap[g]? = w.heap[g]?) (k : w.heap[g]? = some (.cells #[a, b, c, d] t (0, 0))) : w'.frozen? ⟨g, 2, none⟩ = false := by
  have := h.trans k
  rw [World.frozen?]; simp only [this]; simp
theorem replicate_snoc {α : Type} (x : α) (k : Nat) : List.replicate (k + 1) x = List.replicate k x ++ [x] := List.replicate_succ'
theorem zero_rep (m n : Nat) : ZeroFrom n (List.replicate m (List.replicate n 0)) 0 := by
  intro i j hj _
  by_cases hi : i < m
  · simp [hi, hj]
  · simp [hi]
theorem rep_sm {b : Int} (hb : 0 ≤ b) (m n : Nat) : ∀ x ∈ List.replicate m (List.replicate n (0 : Int)), Sm b x := by
  intro x hx
  rw [(List.mem_replicate.1 hx).2]
  intro y hy
  rw [(List.mem_replicate.1 hy).2]; omega
theorem rep_len (m n : Nat) : ∀ x ∈ List.replicate m (List.replicate n (0 : Int)), x.length = n := by
  intro x hx
  rw [(List.mem_replicate.1 hx).2]; simp
set_option maxRecDepth 100000 in
set_option maxHeartbeats 2000000 in
theorem basisProduct_c (v u : Value) (r s : List Int) (w : World) (h : IntS w.heap v r) (hu : IntS w.heap u s) (hm : r.length ≤ 20) (hn : s.length ≤ 20) (sr : Sm 1000000000000 r) (ss : Sm 1000000000000 s) (hl : (basL r s).length < 4398046511104) :
    Calls Tryz.prog 202 #[v, u] w fun e w' => ∃ x us, e = .returned x ∧ OwnU w' w.heap.size x us (basL r s) ∧ Below w.heap.size w w' := by
  have C1 := Lib.hid (copyOf_c v r w h (by omega))
  have C2 := Lib.hid (fun (W : World) (h : IntS W.heap u s) => copyOf_c u s W h (by omega))
  obtain ⟨ao, c, rfl, -⟩ := h.len
  obtain ⟨bo, d, rfl, -⟩ := hu.len
  have HU := Lib.hid hu; have HSR := Lib.hid sr; have HSS := Lib.hid ss; have HL := Lib.hid hl
  clear h hu sr ss hl
  have hmk := fun w => make_run (P := Tryz.prog) 56 2 _ 8 info_int64 Tryz.underlying56 rfl (by omega) s.length (by omega) .i64 .i64 (s.length : Int) (s.length : Int) rfl rfl w
  go_enter Tryz.func202, Tryz.ntmps202
  go_wp2_with (first | (go_at_call 147; first | ((with_reducible refine C1.out.mono ?_); rintro e w1 ⟨rv, rfl, hR, hb1⟩; obtain ⟨ra, rn, rc, rfl⟩ := own_shape hR) | ((with_reducible refine (C2.out _ (HU.out.same hb1.block)).mono ?_); rintro e w2 ⟨sv, rfl, hS, hb2⟩; obtain ⟨sa, sn, sc, rfl⟩ := own_shape hS)))
  obtain ⟨W3, hW3⟩ : ∃ W3, W3 = w2.alloc (.cells #[.slice ra rn rc, .slice sa sn sc, .slice none 0 0, .slice none 0 0] 168) := ⟨_, rfl⟩
  have V3 : Hid (W3.heap[w2.heap.size]? = some (.cells #[.slice ra rn rc, .slice sa sn sc, .slice none 0 0, .slice none 0 0] 168 (0, 0))) := by show _ = _; rw [hW3]; exact heap_alloc_new _ _
  have S3 : Hid (W3.heap.size = w2.heap.size + 1) := by show _ = _; rw [hW3]; simp
  have B23 : Hid (Below w2.heap.size w2 W3) := by show Below _ _ _; rw [hW3]; exact (Below.refl _ _).alloc (Nat.le_refl _) _
  rw [← hW3]
  have HR := Lib.hid hR; have HS := Lib.hid hS; have HB1 := Lib.hid hb1; have HB2 := Lib.hid hb2
  clear hW3 hR hS hb1 hb2 C1 C2
  go_loopw [14] (fun i wr => ∃ (k : Nat) (cv : Value) (cus : List Value), k ≤ r.length ∧ i = .int .i64 k ∧ wr.heap[w2.heap.size]? = some (.cells #[.slice ra rn rc, .slice sa sn sc, cv, .slice none 0 0] 168 (0, 0)) ∧ OwnU wr W3.heap.size cv cus (List.replicate k (List.replicate s.length 0)) ∧ Below w2.heap.size W3 wr) (fun i _ => r.length - (intOf i).toNat)
  case atStart => exact ⟨0, .slice none 0 0, [], by omega, rfl, V3.out, own_u_nil _ _, Below.refl _ _⟩
  case round =>
    obtain ⟨k, cv, cus, hk, rfl, hV, hU, hbl⟩ := hrel
    rename World => WR
    obtain ⟨ca, cn, cc, rfl⟩ := own_shape hU.row
    have hgs : w2.heap.size < WR.heap.size := (Array.getElem?_eq_some_iff.1 hV).1
    have c2 : WR.cell? ⟨w2.heap.size, 2, none⟩ = some (.slice ca cn cc) := by rw [World.cell?]; simp only [hV]; rfl
    have HV := Lib.hid hV; have HUU := Lib.hid hU; have HBL := Lib.hid hbl
    clear hV hU hbl
    by_cases hkr : k < r.length
    · have c2a : WR.drew.cell? ⟨w2.heap.size, 2, none⟩ = some (.slice ca cn cc) := c2
      have c2b : ∀ o, ((WR.alloc o).drew).cell? ⟨w2.heap.size, 2, none⟩ = some (.slice ca cn cc) := fun o => Go.Lib.cell?_alloc_some o c2
      have c2c : ∀ o o', (((WR.alloc o).alloc o').drew).cell? ⟨w2.heap.size, 2, none⟩ = some (.slice ca cn cc) := fun o o' => Go.Lib.cell?_alloc_some o' (Go.Lib.cell?_alloc_some o c2)
      have hsz : W3.heap.size ≤ WR.heap.size := HBL.out.size
      have HZ := Lib.hid (made_own WR WR.heap.size 2 s.length (.int .i64 0) (Nat.le_refl _) (by omega))
      go_wp2_with fail
      go_region_law (refine step_append_rowU (w0 := WR) (wE := WR) (by rfl) (.tmp 20) (.tmp 24) (by rfl) W3.heap.size (.slice ca cn cc) (.slice (some ⟨WR.heap.size, 0, none⟩) s.length s.length) cus (List.replicate k (List.replicate s.length 0)) (List.replicate s.length 0) HUU.out (by rfl) (by exact OwnI.same (by unfold OwnI; simpa using HZ.out) (alloc_old _ _)) (by exact below_drewN 1 (((Below.refl _ _).alloc (Nat.le_refl _) _).alloc (by simp) _)) (by exact Below.refl _ WR) (by exact hsz) (WR.heap.size + 1) (by rfl) (by have := heap_alloc_new (WR.alloc (.cells (madeCells #[.int .i64 0] s.length) 2)) (.cells #[.slice (some ⟨WR.heap.size, 0, none⟩) s.length s.length] 56); rw [size_alloc_w] at this; exact this) (by simp; omega) ?_; intro v3 w3 hU3 hb3 hs3 hk4; obtain ⟨sa', sn', sc', rfl⟩ := own_shape hU3.row; have c4 := cell_var3 (hb3.block _ (by have := S3.out; omega)) HV.out; have f4 := free_var3 (hb3.block _ (by have := S3.out; omega)) HV.out)
      all_goals
        have HU3 := Lib.hid hU3; have HB3 := Lib.hid hb3
        clear hU3 hb3 hs3 hk4 c4 f4 c2a c2b c2c c2
        go_wp2_with fail
        go_roundw
        case rel =>
          have hg3 := (HB3.out.block w2.heap.size (by have := S3.out; omega)).trans HV.out
          refine ⟨k + 1, .slice sa' sn' sc', cus ++ [.slice (some ⟨WR.heap.size, 0, none⟩) s.length s.length], by omega, by go_num, ?_, ?_, ((HBL.out.trans (HB3.out.mono (by have := S3.out; omega))).setCell (Nat.le_refl _) _)⟩
          · rw [heap_setCell_same w3 w2.heap.size 2 _ 168 (.slice sa' sn' sc') hg3]; rfl
          · rw [replicate_snoc]
            exact HU3.out.far fun b h1 _ => Below.heap_setCell _ _ _ _ (by show b ≠ w2.heap.size; have := S3.out; omega)
        case measure => simp [intOf]; omega
    · obtain rfl : k = r.length := by omega
      have hszw : W3.heap.size ≤ WR.heap.size := HBL.out.size
      have hs12 := HB2.out.size
      have hs01 := HB1.out.size
      have HRl : Hid (∀ b, (Value.slice ra rn rc).ownBlock = some b → w.heap.size ≤ b ∧ b < w1.heap.size) := fun b e => World.ownsRow.lt HR.out b e
      have HSl : Hid (∀ b, (Value.slice sa sn sc).ownBlock = some b → w1.heap.size ≤ b ∧ b < w2.heap.size) := fun b e => World.ownsRow.lt HS.out b e
      have HCl : Hid (∀ u ∈ cus, ∀ b, u.ownBlock = some b → W3.heap.size ≤ b ∧ b < WR.heap.size) := fun u hu b e => by
        obtain ⟨i, hi, rfl⟩ := List.getElem_of_mem hu
        have hl := HUU.out.len
        exact World.ownsRow.lt (HUU.out.each i _ _ (List.getElem?_eq_getElem hi) (List.getElem?_eq_getElem (by omega))) b e
      have k0 : ∀ b, b < w2.heap.size → WR.heap[b]? = w2.heap[b]? := fun b hb => (HBL.out.block b hb).trans (B23.out.block b hb)
      have T := Lib.hid (show TabV WR w.heap.size WR.heap.size w2.heap.size (.slice ra rn rc) (.slice sa sn sc) (.slice ca cn cc) (.slice none 0 0) cus [] r s (List.replicate r.length (List.replicate s.length 0)) [] from
        ⟨HV.out, by omega, hgs, own_kept HR.out fun b e => by have := HRl.out b e; rw [k0 b (by omega)]; exact HB2.out.block b (by omega),
          own_base (own_kept HS.out fun b e => k0 b (by have := HSl.out b e; omega)) (by omega), own_u_base HUU.out (by have := S3.out; omega), own_u_nil _ _,
          fun b e e2 => by have := HRl.out b e; have := HSl.out b e2; omega,
          fun u hu b e => ⟨fun e2 => by have := HCl.out u hu b e; have := HRl.out b e2; have := S3.out; omega, fun e2 => by have := HCl.out u hu b e; have := HSl.out b e2; have := S3.out; omega⟩,
          fun b e => by have := HRl.out b e; have := S3.out; omega, fun b e => by have := HSl.out b e; have := S3.out; omega, fun b e => (World.ownsRow.lt HUU.out.row b e).2, fun u hu b e => (HCl.out u hu b e).2, Nat.le_refl _⟩)
      have FC := Lib.hid (fill_c (m := r.length) (n := s.length) hm hn (r.length * s.length) 0 0 r s _ [] _ _ WR T.out rfl rfl (by simp) (rep_len _ _) (by have := zero_rep r.length s.length; simpa using this) HSR.out HSS.out (rep_sm (by omega) _ _) (by omega) (by omega) (by omega) (by omega) (by have h1 := HL.out; simp only [List.length_nil, Nat.zero_add]; exact h1))
      have HBW : Hid (Below w.heap.size w WR) := (HB1.out.trans ((HB2.out.mono hs01).trans ((B23.out.mono (by omega)).trans (HBL.out.mono (by omega)))))
      clear k0 c2 hmk
      go_wp2_with (go_at_call 238; refine FC.out.mono ?_; rintro e w5 ⟨rfl, ov5, ous5, hT5, hB5⟩; have c3 := hT5.c3; obtain ⟨oa, on', oc, rfl⟩ := own_shape hT5.o.row)
      go_ret
      exact ⟨_, ous5, rfl, own_u_base (by simpa [basL] using hT5.o) (by omega), HBW.out.trans hB5⟩
end
section
open Go.RowKit Go.Sort

theorem prods_prefix (a b : List (List Int)) (i y : Nat) (hi : i < a.length) (hy : y < b.length) : (prodsL (a.take i) b).length + ((b.take y).flatMap (basL a[i])).length + (basL a[i] b[y]).length ≤ (prodsL a b).length := by
  have e1 : prodsL a b = prodsL (a.take (i + 1)) b ++ prodsL (a.drop (i + 1)) b := by
    unfold prodsL; rw [← List.flatMap_append, List.take_append_drop]
  have e2 : b.flatMap (basL a[i]) = (b.take (y + 1)).flatMap (basL a[i]) ++ (b.drop (y + 1)).flatMap (basL a[i]) := by
    rw [← List.flatMap_append, List.take_append_drop]
  have e3 : (b.take (y + 1)).flatMap (basL a[i]) = (b.take y).flatMap (basL a[i]) ++ basL a[i] b[y] := by
    rw [List.take_succ_eq_append_getElem hy, List.flatMap_append]; simp
  rw [e1, prodsL_take a b i hi, e2, e3]
  simp only [List.length_append]
  omega
theorem RefR.keep {w w' : World} {B : Nat} {v : Value} {us : List Value} {xss : List (List Int)} (a : RefR w' B w.heap v us xss) (k : KeepI w w') : RefR w' B w'.heap v us xss := ⟨a.row, fun i u xs hu hx => (a.each i u xs hu hx).keep k⟩
set_option maxRecDepth 100000 in
set_option maxHeartbeats 1000000 in
theorem multiplied_of (SO : SortOk) (v u : Value) (a b : List (List Int)) (w : World) (h : IntSS w.heap v a) (hu : IntSS w.heap u b) (ha : SmS 1000000000000 20 a) (hb : SmS 1000000000000 20 b) (hl : (prodsL a b).length < 4398046511104) (hrl : ∀ x ∈ prodsL a b, x.length ≤ 4398046511104) :
    Calls Tryz.prog 128 #[v, u] w fun e w' => ∃ r us, e = .returned r ∧ OwnU w' w.heap.size r us (oddL (prodsL a b)) ∧ Below w.heap.size w w' := by
  have O := Lib.hid (fun (v : Value) (W : World) (h : IntSS W.heap v (prodsL a b)) => oddOnes_of SO v (prodsL a b) W h (by omega) hrl)
  obtain ⟨ao, c, rfl, hla⟩ := h.len
  obtain ⟨bo, d, rfl, hlb⟩ := hu.len
  have H := Lib.hid h; have HU := Lib.hid hu
  have HA := Lib.hid ha; have HB := Lib.hid hb; have HL := Lib.hid hl
  clear h hu ha hb hl SO
  go_enter Tryz.func128, Tryz.ntmps128
  go_wp2_with fail
  go_loopw [5, 13] (fun o i wr => ∃ (x : Nat) (us : List Value), x ≤ a.length ∧ i = .int .i64 x ∧ RefR wr w.heap.size wr.heap o us (prodsL (a.take x) b) ∧ Below w.heap.size w wr) (fun _ i _ => a.length - (intOf i).toNat)
  case atStart => exact ⟨0, [], Nat.zero_le _, rfl, ref_empty _ (Nat.le_refl _), (Below.refl _ _).alloc (Nat.le_refl _) _⟩
  case round =>
    obtain ⟨x, us, hx, rfl, hU, hbl⟩ := hrel
    obtain ⟨va, vn, vc, rfl⟩ := own_shape hU.row
    have HO := Lib.hid hU; have HBL := Lib.hid hbl
    clear hU hbl
    by_cases hxl : x < a.length
    · obtain ⟨b1, o1, c1, u1, hv1, hc1, hu1, -⟩ := H.out.at x hxl
      simp only [Value.slice.injEq, true_and] at hv1
      obtain ⟨rfl, rfl⟩ := hv1
      have hcx := (HBL.out.cell (World.block_lt_of_cell? _ _ hc1)).trans hc1
      have HU1 := Lib.hid hu1
      obtain ⟨ua, uc, rfl, -⟩ := hu1.len
      have HRX := Lib.hid (HA.out _ (List.getElem_mem hxl))
      have HSX := Lib.hid (prodsL_take a b x hxl)
      have HLX : Hid (∀ y (hy : y < b.length), (prodsL (a.take x) b).length + ((b.take y).flatMap (basL a[x])).length + (basL a[x] b[y]).length < 4398046511104) := fun y hy => by
        have := prods_prefix a b x y hxl hy; have := HL.out; omega
      clear hc1 hu1
      generalize a[x] = r at *
      go_wp2_with fail
      go_loopw [5, 19] (fun o j wk => ∃ (y : Nat) (us : List Value), y ≤ b.length ∧ j = .int .i64 y ∧ RefR wk w.heap.size wk.heap o us (prodsL (a.take x) b ++ (b.take y).flatMap (basL r)) ∧ Below w.heap.size w wk) (fun _ j _ => b.length - (intOf j).toNat)
      case atStart => exact ⟨0, us, Nat.zero_le _, rfl, by simpa using HO.out, HBL.out⟩
      case round =>
        obtain ⟨y, us2, hy, rfl, hU2, hbl2⟩ := hrel
        obtain ⟨ta, tn, tc, rfl⟩ := own_shape hU2.row
        have HO2 := Lib.hid hU2; have HBL2 := Lib.hid hbl2
        clear hU2 hbl2
        by_cases hyl : y < b.length
        · obtain ⟨b2, o2, c2, u2, hv2, hc2, hu2, -⟩ := HU.out.at y hyl
          simp only [Value.slice.injEq, true_and] at hv2
          obtain ⟨rfl, rfl⟩ := hv2
          have hcy := (HBL2.out.cell (World.block_lt_of_cell? _ _ hc2)).trans hc2
          have HU2 := Lib.hid hu2
          obtain ⟨ub, ud, rfl, -⟩ := hu2.len
          have HRY := Lib.hid (HB.out _ (List.getElem_mem hyl))
          have HLY := Lib.hid (HLX.out y hyl)
          have HS2 : Hid (prodsL (a.take x) b ++ (b.take (y + 1)).flatMap (basL r) = (prodsL (a.take x) b ++ (b.take y).flatMap (basL r)) ++ basL r b[y]) := by
            show _ = _
            rw [List.take_succ_eq_append_getElem hyl, List.flatMap_append, List.append_assoc]; simp
          clear hc2 hu2
          generalize b[y] = s at *
          go_wp2_with (first | (go_at_call 202; refine (basisProduct_c _ _ r s _ (HU1.out.same HBL2.out.block) (HU2.out.same HBL2.out.block) HRX.out.2 HRY.out.2 HRX.out.1 HRY.out.1 (by have := HLY.out; omega)).mono ?_; rintro e w2 ⟨rv, us3, rfl, hR2, hb2⟩; obtain ⟨ra, rn, rc, rfl⟩ := own_shape hR2.row; have HR4 := Lib.hid ((HO2.out.same hb2.block).grow hb2.block); have HX4 := Lib.hid (hR2.ints.at2 (fun _ _ => rfl)); have HB4 := Lib.hid (HBL2.out.trans (hb2.mono HBL2.out.size)); clear hR2 hb2) | (at_builtin; refine append_refs rfl _ _ rfl w.heap.size w2.heap _ _ us2 _ _ HR4.out rfl HX4.out rfl HB4.out HB4.out.size (by have := HLY.out; rw [List.length_append]; omega) ?_; intro v3 us4 w3 hU3 hb3 hs3 hk3; obtain ⟨sa, sn, sc, rfl⟩ := own_shape hU3.row; have HU3 := Lib.hid (hU3.keep (KeepI.grown HR4.out.row (by decide) hk3))))
          go_roundw
          case rel => exact ⟨y + 1, _, by omega, by go_num, by rw [HS2.out]; exact HU3.out, hb3⟩
          case measure => simp [intOf]; omega
        · obtain rfl : y = b.length := by omega
          rw [List.take_length, ← HSX.out] at HO2
          go_wp2_with fail
          go_roundw
          case rel => exact ⟨x + 1, us2, by omega, by go_num, HO2.out, HBL2.out⟩
          case measure => simp [intOf]; omega
    · obtain rfl : x = a.length := by omega
      rw [List.take_length] at HO
      go_wp2_with (go_at_call 107; refine (O.out _ _ (HO.out.ints (fun _ _ => rfl))).mono ?_; rintro e w2 ⟨r2, us2, rfl, hU2, hb2⟩; obtain ⟨sa, sn, sc, rfl⟩ := own_shape hU2.row)
      go_ret
      exact ⟨_, _, rfl, own_u_base hU2 HBL.out.size, HBL.out.trans (hb2.mono HBL.out.size)⟩
end
section
open Go.RowKit Go.Sort

theorem fillT_len {m n : Nat} : ∀ (k : Nat) (R S : List Int) (C : List (List Int)), ∀ z ∈ fillT m n k R S C, z.length ≤ m + n := by
  intro k
  induction k with
  | zero =>
    intro R S C z hz
    rw [fillT, finL] at hz
    split at hz
    · rw [List.mem_singleton] at hz
      subst hz; exact trimF_len m n R S C
    · cases hz
  | succ k ih =>
    intro R S C z hz
    rw [fillT] at hz
    simp only [List.mem_flatMap, List.mem_range] at hz
    obtain ⟨x, -, hz⟩ := hz
    exact ih _ _ _ z hz
theorem basL_len (r s : List Int) : ∀ z ∈ basL r s, z.length ≤ r.length + s.length := fun z hz => fillT_len _ _ _ _ z hz
theorem mrg_odds (a b : List (List Int)) : mrg (oddL a) (oddL b) = oddL (a ++ b) := by
  rw [mrg_odd (asc_oddL a) (asc_oddL b), ← oddL_append', ← oddL_append]
/-- The first k + 1 rows of a table at its start. -/
def tabR (r s : List Int) (k : Nat) : List (List Int) := (0 :: s) :: (r.take k).map fun x => x :: List.replicate s.length 0
theorem tabR_succ (r s : List Int) (k : Nat) (h : k < r.length) : tabR r s (k + 1) = tabR r s k ++ [r.getD k 0 :: List.replicate s.length 0] := by
  unfold tabR
  rw [List.take_succ_eq_append_getElem h, List.map_append, List.cons_append]; simp [h]
theorem tabR_length (r s : List Int) (k : Nat) (h : k ≤ r.length) : (tabR r s k).length = k + 1 := by simp [tabR, h]
theorem tab_start (r s : List Int) : TabOf (tabR r s r.length) r s (List.replicate r.length (List.replicate s.length 0)) := by
  have hl := tabR_length r s r.length (Nat.le_refl _)
  have e0 : ∀ h, (tabR r s r.length)[0]'h = 0 :: s := fun _ => rfl
  have e1 : ∀ i h (hi : i < r.length), (tabR r s r.length)[i + 1]'h = r[i] :: List.replicate s.length 0 := fun i h hi => by simp [tabR]
  refine ⟨hl, fun i hi => ?_, fun i j hi hj => ?_⟩
  · match i with
    | 0 => rw [e0]; simp
    | i + 1 => rw [e1 i hi (by omega)]; simp
  · match i with
    | 0 =>
      rw [e0]
      match j with
      | 0 => rfl
      | j + 1 => simp [tabAt]
    | i + 1 =>
      rw [e1 i hi (by omega)]
      match j with
      | 0 => simp [tabAt, show i < r.length by omega]
      | j + 1 => simp [tabAt, show i < r.length by omega, show j < s.length by omega]
theorem ownI_lit1 {w : World} {B : Nat} (hB : B ≤ w.heap.size) (x : Int) : OwnI (w.alloc (.cells #[.int .i64 x] 2)) B (.slice (some ⟨w.heap.size, 0, none⟩) 1 1) [x] :=
  World.ownsRow_lit (e := 2) (size := 1) w #[.int .i64 x] 1 hB (by unfold maxLen; omega) rfl
theorem own_lit1 {w : World} {B : Nat} {u : Value} {xs : List Int} (hu : OwnI w B u xs) (hB : B ≤ w.heap.size) : OwnU (w.alloc (.cells #[u] 56)) B (.slice (some ⟨w.heap.size, 0, none⟩) 1 1) [u] [xs] := by
  refine ⟨World.ownsRow_lit (e := 56) (size := 1) w #[u] 1 hB (by unfold maxLen; omega) rfl, fun i x ys hx hy => ?_, fun i j x x' hij hx hx' => ?_⟩
  · match i, hx, hy with
    | 0, hx, hy =>
      simp at hx hy
      subst hx; subst hy; exact hu.same (alloc_old w _)
  · match j, hx' with
    | 0, _ => omega
    | j + 1, hx' => simp at hx'
set_option maxRecDepth 100000 in
set_option maxHeartbeats 1000000 in
theorem l04Product_c (v u : Value) (r s : List Int) (w : World) (h : IntS w.heap v r) (hu : IntS w.heap u s) (hr : Sm 1000000000000 r) (hs : Sm 1000000000000 s) (hl : r.length ≤ 20) (hl2 : s.length ≤ 20) (hb : (basL r s).length < 4398046511104) :
    Calls Tryz.prog 216 #[v, u] w fun e w' => ∃ x, e = .returned x ∧ IntSS w'.heap x (oddL (basL r s)) ∧ Below w.heap.size w w' := by
  have F : Hid (∀ (W : World) (t o : Value), IntSS W.heap t (tabR r s r.length) → IntSS W.heap o [] → Calls Tryz.prog 245 #[t, .int .i64 1, .int .i64 1, o] W fun e w' => ∃ x, e = .returned x ∧ IntSS w'.heap x (oddL (basL r s)) ∧ Below W.heap.size W w') := fun W t o ht ho =>
    l04Fill_c hl hl2 ((r.length + 1 - 1) * (s.length + 1) + (s.length + 1 - 1) + 1) (r.length * s.length) 1 1 (tabR r s r.length) r s (List.replicate r.length (List.replicate s.length 0)) [] t o W (Nat.lt_succ_self _) ht ho (tab_start r s) rfl rfl (by simp) (by intro x hx; rw [List.mem_replicate] at hx; rw [hx.2]; simp) hr hs (by
      intro x hx y hy
      rw [List.mem_replicate] at hx
      rw [hx.2, List.mem_replicate] at hy
      omega) (by omega) (by omega) (by omega) (by omega) (by simp) (by show 0 + (basL r s).length < _; omega)
  obtain ⟨ao, c, rfl, -⟩ := h.len
  obtain ⟨bo, d, rfl, -⟩ := hu.len
  have H := Lib.hid h
  have HU1 := Lib.hid (hu.same (alloc_old w (.cells #[.int .i64 0] 2)))
  have hsz : w.heap.size ≤ (w.alloc (.cells #[.int .i64 0] 2)).heap.size := by simp
  clear h hu hr hs hb
  have hmk := fun w => make_run (P := Tryz.prog) 56 2 _ 8 info_int64 Tryz.underlying56 rfl (by omega) (s.length + 1) (by omega) .i64 .i64 ((s.length : Int) + 1) ((s.length : Int) + 1) (by omega) (by omega) w
  have hwl : IntKind.i64.wrap ((s.length : Int) + 1) = s.length + 1 := IntWalk.i64_in _ (by omega)
  go_enter Tryz.func216, Tryz.ntmps216
  go_wp2_with (at_builtin; refine append_ints rfl _ _ rfl w.heap.size _ _ [0] s (ownI_lit1 (Nat.le_refl _) 0) rfl HU1.out rfl ((Below.refl _ _).alloc (Nat.le_refl _) _) hsz (by simp; omega) ?_; intro v' w' hown' hbl' _ _; obtain ⟨va, vn, vc, rfl⟩ := own_shape hown'; have HOW := Lib.hid hown'; have HBW := Lib.hid hbl'; clear hown' hbl')
  go_loopw [5, 6] (fun t i wr => ∃ (k : Nat) (us : List Value), k ≤ r.length ∧ i = .int .i64 k ∧ OwnU wr w.heap.size t us (tabR r s k) ∧ Below w.heap.size w wr) (fun _ i _ => r.length - (intOf i).toNat)
  case atStart => exact ⟨0, _, by omega, rfl, own_lit1 HOW.out HBW.out.size, HBW.out.alloc HBW.out.size _⟩
  case round =>
    obtain ⟨k, us, hk, rfl, hU, hbl⟩ := hrel
    obtain ⟨ta, tn, tc, rfl⟩ := own_shape hU.row
    have HT := Lib.hid hU; have HBL := Lib.hid hbl
    by_cases hkl : k < r.length
    · obtain ⟨b1, o1, c1, hv1, hc1, -⟩ := H.out.at k hkl
      simp only [Value.slice.injEq, true_and] at hv1
      obtain ⟨rfl, rfl⟩ := hv1
      rw [← getD_at'] at hc1
      have hcx := (hbl.cell (World.block_lt_of_cell? _ _ hc1)).trans hc1
      have hki : (k : Int) < r.length := by omega
      have HS := Lib.hid (tabR_succ r s k hkl)
      have HL : Hid ((tabR r s k).length ≤ 4398046511104) := by show _ ≤ _; rw [tabR_length r s k hk]; omega
      clear hc1 hU hbl
      generalize r.getD k 0 = x at *
      go_upto_region 6 with fail
      have hmo := made_own wr wr.heap.size 2 (s.length + 1) (.int .i64 0) (Nat.le_refl _) (by omega)
      obtain ⟨W5, hW5⟩ : ∃ W5, W5 = wr.alloc (.cells (madeCells #[.int .i64 0] (s.length + 1)) 2) := ⟨_, rfl⟩
      have hb5 : Below wr.heap.size wr W5 := by rw [hW5]; exact (Below.refl _ _).alloc (Nat.le_refl _) _
      rw [← hW5] at hmo ⊢
      have hmo2 : W5.ownsRow wr.heap.size 2 1 (.slice (some ⟨wr.heap.size, 0, none⟩) (s.length + 1) (s.length + 1)) (s.length + 1) ((List.replicate (s.length + 1) (0 : Int)).map (Value.int .i64)) := by simpa using hmo
      have q0 := own_int_at hmo2 0 (by omega)
      rw [show (List.replicate (s.length + 1) (0 : Int)).getD 0 0 = 0 by simp] at q0
      have f0 := hmo2.frozenAt 0
      have hst := own_int_set hmo2 0 x
      rw [show (List.replicate (s.length + 1) (0 : Int)).set 0 x = x :: List.replicate s.length 0 by rw [List.replicate_succ]; rfl] at hst
      have hc5 := (hb5.cell (World.block_lt_of_cell? _ _ hcx)).trans hcx
      have hb6 := hb5.setCell (p := ⟨wr.heap.size, 0, none⟩) (Nat.le_refl _) (.int .i64 x)
      have HST : Hid (OwnI (W5.setCell ⟨wr.heap.size, 0, none⟩ (.int .i64 x)) wr.heap.size (.slice (some ⟨wr.heap.size, 0, none⟩) (s.length + 1) (s.length + 1)) (x :: List.replicate s.length 0)) := by
        show OwnI _ _ _ _
        unfold OwnI
        simpa using hst
      have HB6 := Lib.hid hb6
      have hwr := HBL.out.size
      clear hmo hmo2 hst hb5 hb6 hW5 hcx
      go_wp2_with (at_builtin; refine append_rowU rfl _ _ rfl w.heap.size _ _ us _ _ HT.out rfl HST.out HB6.out HBL.out hwr _ rfl (by simp [World.setCell]) HL.out ?_; intro v7 w7 hU7 hb7 _ _ _ _; obtain ⟨ua, un, uc, rfl⟩ := own_shape hU7.row)
      go_roundw
      case rel => exact ⟨k + 1, _, by omega, by go_num, by rw [HS.out]; exact hU7, hb7⟩
      case measure => simp [intOf]; omega
    · obtain rfl : k = r.length := by omega
      have hE := ((hbl.trans ((Below.refl wr.heap.size wr).mono hbl.size)).alloc hbl.size (.cells #[] 56))
      have HX := Lib.hid (HT.out.ints.same (alloc_old wr (.cells #[] 56)))
      have HE := Lib.hid (show IntSS (wr.alloc (.cells #[] 56)).heap (.slice (some ⟨wr.heap.size, 0, none⟩) 0 0) [] from (ownII_empty (w := wr) (B := wr.heap.size) (Nat.le_refl _)).ints)
      have HBE := Lib.hid hE
      clear hU hbl hE
      go_wp2_with (go_at_call 245; refine (F.out _ _ _ HX.out HE.out).mono ?_; rintro e w8 ⟨r8, rfl, hr8, hb8⟩; obtain ⟨ja, jc, rfl, -⟩ := hr8.len)
      go_ret
      exact ⟨_, rfl, hr8, HBE.out.trans (hb8.mono HBE.out.size)⟩
set_option maxRecDepth 100000 in
set_option maxHeartbeats 1000000 in
theorem l04Times_c (v u : Value) (a b : List (List Int)) (w : World) (h : IntSS w.heap v a) (hu : IntSS w.heap u b) (ha : SmS 1000000000000 20 a) (hb : SmS 1000000000000 20 b) (hl : (prodsL a b).length < 4398046511104) :
    Calls Tryz.prog 170 #[v, u] w fun e w' => ∃ r us, e = .returned r ∧ OwnU w' w.heap.size r us (oddL (prodsL a b)) ∧ Below w.heap.size w w' := by
  obtain ⟨ao, c, rfl, hla⟩ := h.len
  obtain ⟨bo, d, rfl, hlb⟩ := hu.len
  have H := Lib.hid h; have HU := Lib.hid hu
  have HA := Lib.hid ha; have HB := Lib.hid hb; have HL := Lib.hid hl
  clear h hu ha hb hl
  go_enter Tryz.func170, Tryz.ntmps170
  go_wp2_with fail
  go_loopw [5, 6] (fun o i wr => ∃ (x : Nat) (us : List Value), x ≤ a.length ∧ i = .int .i64 x ∧ OwnU wr w.heap.size o us (oddL (prodsL (a.take x) b)) ∧ Below w.heap.size w wr) (fun _ i _ => a.length - (intOf i).toNat)
  case atStart => exact ⟨0, [], Nat.zero_le _, rfl, ⟨World.ownsRow_made w #[] 0 (Nat.le_refl _) (Nat.zero_le _) rfl, fun i u xs hu => by simp at hu, fun i j u u' _ hu => by simp at hu⟩, (Below.refl _ _).alloc (Nat.le_refl _) _⟩
  case round =>
    obtain ⟨x, us, hx, rfl, hU, hbl⟩ := hrel
    obtain ⟨va, vn, vc, rfl⟩ := own_shape hU.row
    have HO := Lib.hid hU; have HBL := Lib.hid hbl
    clear hU hbl
    by_cases hxl : x < a.length
    · obtain ⟨b1, o1, c1, u1, hv1, hc1, hu1, -⟩ := H.out.at x hxl
      simp only [Value.slice.injEq, true_and] at hv1
      obtain ⟨rfl, rfl⟩ := hv1
      have HCX := Lib.hid hc1
      have HU1 := Lib.hid hu1
      obtain ⟨ua, uc, rfl, -⟩ := hu1.len
      have HRX := Lib.hid (HA.out _ (List.getElem_mem hxl))
      have HSX := Lib.hid (prodsL_take a b x hxl)
      have HLX : Hid (∀ y (hy : y < b.length), (prodsL (a.take x) b ++ (b.take y).flatMap (basL a[x])).length + (basL a[x] b[y]).length < 4398046511104) := fun y hy => by
        rw [List.length_append]
        have := prods_prefix a b x y hxl hy; have := HL.out; omega
      have HTX : Hid (∀ y, ∀ z ∈ prodsL (a.take x) b ++ (b.take y).flatMap (basL a[x]), z.length ≤ 40) := fun y z hz => by
        rw [List.mem_append] at hz
        rcases hz with hz | hz
        · simp only [prodsL, List.mem_flatMap] at hz
          obtain ⟨r, hr, s, hs, hz⟩ := hz
          have := basL_len r s z hz; have := (HA.out _ (List.mem_of_mem_take hr)).2; have := (HB.out _ hs).2; omega
        · simp only [List.mem_flatMap] at hz
          obtain ⟨s, hs, hz⟩ := hz
          have := basL_len _ s z hz; have := (HA.out _ (List.getElem_mem hxl)).2; have := (HB.out _ (List.mem_of_mem_take hs)).2; omega
      have hxi : (x : Int) < a.length := by omega
      clear hc1 hu1
      generalize a[x] = r at *
      go_wp2_with fail
      go_loopw [5, 7] (fun o j wk => ∃ (y : Nat) (us : List Value), y ≤ b.length ∧ j = .int .i64 y ∧ OwnU wk w.heap.size o us (oddL (prodsL (a.take x) b ++ (b.take y).flatMap (basL r))) ∧ Below w.heap.size w wk) (fun _ j _ => b.length - (intOf j).toNat)
      case atStart => exact ⟨0, us, Nat.zero_le _, rfl, by simpa using HO.out, HBL.out⟩
      case round =>
        obtain ⟨y, us2, hy, rfl, hU2, hbl2⟩ := hrel
        obtain ⟨ta, tn, tc, rfl⟩ := own_shape hU2.row
        have HO2 := Lib.hid hU2; have HBL2 := Lib.hid hbl2
        clear hU2 hbl2
        by_cases hyl : y < b.length
        · obtain ⟨b2, o2, c2, u2, hv2, hc2, hu2, -⟩ := HU.out.at y hyl
          simp only [Value.slice.injEq, true_and] at hv2
          obtain ⟨rfl, rfl⟩ := hv2
          have hcx := (HBL2.out.cell (World.block_lt_of_cell? _ _ HCX.out)).trans HCX.out
          have hcy := (HBL2.out.cell (World.block_lt_of_cell? _ _ hc2)).trans hc2
          have HU2 := Lib.hid hu2
          obtain ⟨ub, ud, rfl, -⟩ := hu2.len
          have HRY := Lib.hid (HB.out _ (List.getElem_mem hyl))
          have HLY := Lib.hid (HLX.out y hyl)
          have HTY := Lib.hid (HTX.out y)
          have HS2 : Hid (prodsL (a.take x) b ++ (b.take (y + 1)).flatMap (basL r) = (prodsL (a.take x) b ++ (b.take y).flatMap (basL r)) ++ basL r b[y]) := by
            show _ = _
            rw [List.take_succ_eq_append_getElem hyl, List.flatMap_append, List.append_assoc]; simp
          have hyi : (y : Int) < b.length := by omega
          clear hc2 hu2
          generalize b[y] = s at *
          generalize prodsL (a.take x) b ++ (b.take y).flatMap (basL r) = os at *
          generalize hps : basL r s = ps at *
          have HLZ : Hid ((oddL os).length + (oddL ps).length ≤ 4398046511104) := by show _ ≤ _; have := oddL_length os; have := oddL_length ps; have := HLY.out; omega
          have HTZ : Hid (∀ z ∈ oddL os, z.length ≤ 4398046511104) := fun z hz => by have := HTY.out z (mem_oddL_sub hz); omega
          have HJZ : Hid (∀ z ∈ oddL ps, z.length ≤ 4398046511104) := fun z hz => by rw [← hps] at hz; have := basL_len r s z (mem_oddL_sub hz); have := HRX.out.2; have := HRY.out.2; omega
          have HPS := Lib.hid hps
          clear hps
          go_wp2_with fail
          go_region_held3 (fun W => W.cell? ⟨b1, o1 + x, none⟩ = some (.slice ua r.length uc) ∧ W.cell? ⟨b2, o2 + y, none⟩ = some (.slice ub s.length ud) ∧ Below wr.heap.size wr W)
            (first | exact ⟨hcx, hcy, (Below.refl _ _).drew⟩ | exact heldC2 (by assumption) hx | exact heldC2A (by assumption) _)
            (first | (go_at_call 216; refine Calls.mono (l04Product_c _ _ r s _ (HU1.out.same (HBL2.out.trans ((heldC2X (by assumption)).mono HBL2.out.size)).block) (HU2.out.same (HBL2.out.trans ((heldC2X (by assumption)).mono HBL2.out.size)).block) HRX.out.1 HRY.out.1 HRX.out.2 HRY.out.2 (by rw [HPS.out]; have := HLY.out; omega)) ?_; rintro e W3 ⟨rv, rfl, hR2, hx⟩; rw [HPS.out] at hR2; obtain ⟨ra, rc, rfl, -⟩ := hR2.len) | (go_at_call 101; refine Calls.mono (l01Sum_c _ _ (oddL os) (oddL ps) _ (HO2.out.ints.same (heldC2X (by assumption)).block) hR2 HLZ.out HTZ.out HJZ.out) ?_; rintro e W4 ⟨rw3, rfl, ⟨us3, hU3⟩, hx⟩; obtain ⟨sa, sn, sc, rfl⟩ := own_shape hU3.row))
          all_goals
            rename_i hx3 hh
            rw [mrg_odds] at hU3
            have hz3 : wr.heap.size ≤ W3.heap.size := hx3.size
            have HB4 := Lib.hid (HBL2.out.trans (hh.2.2.mono HBL2.out.size))
            have HU4 := Lib.hid (own_u_base (B' := w.heap.size) hU3 (by have := HBL2.out.size; omega))
            clear hh hx hU3 hR2 hcx hcy hx3 hz3
            go_wp2_with fail
            go_roundw
            case rel => exact ⟨y + 1, us3, by omega, by go_num, by rw [HS2.out]; exact HU4.out, HB4.out⟩
            case measure => simp [intOf]; omega
        · obtain rfl : y = b.length := by omega
          rw [List.take_length, ← HSX.out] at HO2
          go_wp2_with fail
          go_roundw
          case rel => exact ⟨x + 1, us2, by omega, by go_num, HO2.out, HBL2.out⟩
          case measure => simp [intOf]; omega
    · obtain rfl : x = a.length := by omega
      rw [List.take_length] at HO
      go_wp2_with fail
      go_ret
      exact ⟨_, _, rfl, HO.out, HBL.out⟩
end
section
open Go.RowKit Go.Sort

set_option maxRecDepth 100000 in
set_option maxHeartbeats 1000000 in
theorem implMultiplyMilnor_of (SO : SortOk) (v u : Value) (xss yss : List (List Int)) (w : World) (h : IntSS w.heap v xss) (hu : IntSS w.heap u yss) :
    Calls Tryz.prog 35 #[.agg #[v], .agg #[u]] w fun e w' => ∃ r us, e = .returned (.tuple #[.agg #[r], .int .i64 (multC xss yss)]) ∧ OwnU w' w.heap.size r us (mmL xss yss) ∧ Below w.heap.size w w' := by
  have hb : Below w.heap.size w (((w.alloc (.cells #[v] 31)).alloc (.cells #[u] 31)).alloc (.cells #[.slice none 0 0] 31)) := (((Below.refl _ _).alloc (Nat.le_refl _) _).alloc (by simp) _).alloc (by simp; omega) _
  have k0 := (((Cell1.new w v 31).kept (alloc_old _ (.cells #[u] 31))).kept (alloc_old _ (.cells #[.slice none 0 0] 31)))
  have k1 := ((Cell1.new (w.alloc (.cells #[v] 31)) u 31).kept (alloc_old _ (.cells #[.slice none 0 0] 31)))
  have k2 := Cell1.new ((w.alloc (.cells #[v] 31)).alloc (.cells #[u] 31)) (.slice none 0 0) 31
  simp only [size_alloc_w] at k1 k2
  have hsz : (((w.alloc (.cells #[v] 31)).alloc (.cells #[u] 31)).alloc (.cells #[.slice none 0 0] 31)).heap.size = w.heap.size + 3 := by simp
  have C := Lib.hid (multiplicable_c v u xss yss _ (h.same hb.block) (hu.same hb.block))
  obtain ⟨ao, c, rfl, hm⟩ := h.len
  obtain ⟨bo, d, rfl, hn⟩ := hu.len
  have H := Lib.hid h; have HU := Lib.hid hu; clear h hu
  obtain ⟨w0, hw0⟩ : ∃ w0, w0 = ((w.alloc (.cells #[.slice ao xss.length c] 31)).alloc (.cells #[.slice bo yss.length d] 31)).alloc (.cells #[.slice none 0 0] 31) := ⟨_, rfl⟩
  have q0 := k0.c0; have q1 := k1.c0
  rw [← hw0] at k0 k1 k2 hb hsz C
  have HW := Lib.hid hw0; clear hw0
  have HB0 := Lib.hid hb; have K0 := Lib.hid k0; have K1 := Lib.hid k1; have K2 := Lib.hid k2; have HSZ := Lib.hid hsz
  clear hb k0 k1 k2 hsz
  by_cases hc : multC xss yss = 0
  rotate_left
  · have e1 : mmL xss yss = [] := by unfold mmL; rw [if_neg hc]
    rw [e1]
    have t1 := (neB hc).1; have t1' := (neB hc).2
    clear e1 hc SO
    generalize multC xss yss = pc at *
    go_enter Tryz.func35, Tryz.ntmps35
    go_wp2_with fail
    rw [← HW.out]
    refine C.out.mono ?_
    rintro e w1 ⟨rfl, hb1⟩
    have K21 := Lib.hid (K2.out.kept hb1.block)
    have q2 := K21.out.c0; have f2 := K21.out.free 0
    have HB1 := Lib.hid (HB0.out.trans (hb1.mono HB0.out.size))
    clear hb1 HW q0 q1
    go_wp2_with fail
    have g0 := (K21.out.set (.slice none 0 0)).c0
    exact bodyPost_ret (v := .tuple #[.agg #[.slice none 0 0], .int .i64 pc]) (by simp [results, Tryz.results35, go_sem, g0]) rfl
      ⟨_, [], rfl, own_u_nil _ _, HB1.out.setCell (by show w.heap.size ≤ w.heap.size + 1 + 1; omega) _⟩
  · have e1 : mmL xss yss = oddL (prodsL xss yss) := by unfold mmL; rw [if_pos hc]
    obtain ⟨m1, m2, m3, m4⟩ := mult_ok hc
    rw [e1, hc]
    rw [hc] at C
    have S := Lib.hid (fun (W : World) (h : IntSS W.heap (.slice ao xss.length c) xss) (hu : IntSS W.heap (.slice bo yss.length d) yss) => multiplied_of SO _ _ xss yss W h hu m1 m2 (by omega) (fun x hx => by have := m4 x hx; omega))
    clear m1 m2 m3 m4 e1 hc SO
    go_enter Tryz.func35, Tryz.ntmps35
    go_wp2_with fail
    rw [← HW.out]
    refine C.out.mono ?_
    rintro e w1 ⟨rfl, hb1⟩
    have q0' := (K0.out.kept hb1.block).c0; have q1' := (K1.out.kept hb1.block).c0
    have K21 := Lib.hid (K2.out.kept hb1.block)
    have HB1 := Lib.hid (HB0.out.trans (hb1.mono HB0.out.size))
    have HS1 := Lib.hid hb1.size
    clear hb1 HW q0 q1
    go_wp2_with fail
    refine (S.out _ (H.out.same HB1.out.block) (HU.out.same HB1.out.block)).mono ?_
    rintro e w2 ⟨r, us, rfl, hU, hb2⟩
    obtain ⟨ra, rn, rc, rfl⟩ := own_shape hU.row
    have K22 := Lib.hid (K21.out.kept hb2.block)
    have q2 := K22.out.c0; have f2 := K22.out.free 0
    have HU2 := Lib.hid hU
    have HB2 := Lib.hid (HB1.out.trans (hb2.mono HB1.out.size))
    clear hU hb2 q0' q1'
    go_wp2_with fail
    have g0 := (K22.out.set (.slice ra rn rc)).c0
    exact bodyPost_ret (v := .tuple #[.agg #[.slice ra rn rc], .int .i64 0]) (by simp [results, Tryz.results35, go_sem, g0]) rfl
      ⟨_, us, rfl, own_var1 HU2.out (by have := HS1.out; have := HSZ.out; omega) _ HB1.out.size K22.out, HB2.out.setCell (by show w.heap.size ≤ w.heap.size + 1 + 1; omega) _⟩
end
section
open Go.RowKit Go.Sort Go.Shelf

/-- A slice with what it reads as. -/
def SElt (h : Array Obj) : Type := {p : Value × List Int // IntS h p.1 p.2}
instance (h : Array Obj) : Inhabited (SElt h) := ⟨⟨(.slice none 0 0, []), IntS.nil h⟩⟩
def encE {h : Array Obj} (x : SElt h) : Value := x.1.1
def cfE {h : Array Obj} (x y : SElt h) : Int := cmpL x.1.2 y.1.2
theorem encE_one {h : Array Obj} (x : SElt h) : (encE x).oneCell' = true := by
  rcases x.2 with ⟨hv, _⟩ | ⟨b, off, cap, cur, hv, _⟩
  · unfold encE; rw [hv]; rfl
  · unfold encE; rw [hv]; rfl
theorem ltOf_cfE {h : Array Obj} (x y : SElt h) : ltOf cfE x y = ltL x.1.2 y.1.2 := cmpL_neg _ _
theorem swo_cfE (h : Array Obj) : SWO (ltOf (cfE (h := h))) where
  irrefl x := by rw [ltOf_cfE]; exact ltL_irrefl _
  trans x y z h1 h2 := by rw [ltOf_cfE] at *; exact ltL_trans _ _ _ h1 h2
  ntrans x y z h1 h2 := by rw [ltOf_cfE] at *; exact ltL_ntrans _ _ _ h1 h2
theorem heap_sorted {w : World} {g m : Nat} {α : Type} [Inhabited α] {enc : α → Value} {d : Array α} {os : Array Obj} {cur : Array Value} {T : Nat} (hg : w.heap[g]? = some (.cells cur T (0, 0))) :
    (sortWorld enc w g 0 m d os).heap[g]? = some (.cells (putCells enc 0 d cur) T (0, 0)) := by
  have hlt := (Array.getElem?_eq_some_iff.1 hg).1
  show ((w.heap.modify g (onCells (putCells enc 0 d))) ++ os)[g]? = _
  rw [Array.getElem?_append_left (by simpa using hlt), Array.getElem?_modify, if_pos rfl, hg]
  rfl
theorem heap_sorted_far {w : World} {g m k : Nat} {α : Type} [Inhabited α] {enc : α → Value} {d : Array α} {os : Array Obj} (hk : k < w.heap.size) (ne : k ≠ g) :
    (sortWorld enc w g 0 m d os).heap[k]? = w.heap[k]? := by
  show ((w.heap.modify g (onCells (putCells enc 0 d))) ++ os)[k]? = _
  rw [Array.getElem?_append_left (by simpa using hk), Array.getElem?_modify, if_neg (fun e => ne e.symm)]
theorem size_sorted {w : World} {g m : Nat} {α : Type} [Inhabited α] {enc : α → Value} {d : Array α} {os : Array Obj} : w.heap.size ≤ (sortWorld enc w g 0 m d os).heap.size := by
  show w.heap.size ≤ ((w.heap.modify g (onCells (putCells enc 0 d))) ++ os).size
  simp
theorem keep_sorted {w : World} {g m : Nat} {α : Type} [Inhabited α] {enc : α → Value} {d : Array α} {os : Array Obj} {cur : Array Value} {T : Nat} (hg : w.heap[g]? = some (.cells cur T (0, 0))) (ne : T ≠ 2) : KeepI w (sortWorld enc w g 0 m d os) := by
  intro b cs f hb
  by_cases e : b = g
  · subst e
    rw [hg] at hb
    simp only [Option.some.injEq, Obj.cells.injEq] at hb
    exact absurd hb.2.1 ne
  · rw [heap_sorted_far (Array.getElem?_eq_some_iff.1 hb).1 e]; exact hb
theorem putCells_take {α : Type} [Inhabited α] {enc : α → Value} {d : Array α} {cur : Array Value} (h : d.size ≤ cur.size) : (putCells enc 0 d cur).toList.take d.size = d.toList.map enc := by
  apply List.ext_getElem?
  intro i
  by_cases hi : i < d.size
  · rw [List.getElem?_take, if_pos hi, List.getElem?_map]
    simp only [putCells, Array.toList_mapIdx, List.getElem?_mapIdx, Array.getElem?_toList]
    rw [Array.getElem?_eq_getElem (by omega), Array.getElem?_eq_getElem hi]
    simp [hi]
  · rw [List.getElem?_eq_none (by simp; omega), List.getElem?_eq_none (by simp; omega)]
theorem sortSS_c (v : Value) (us : List Value) (xss : List (List Int)) (B : Nat) (w : World) (hR : RefR w B w.heap v us xss) (hB : B ≤ w.heap.size) (hlen : xss.length < 4611686018427387904) :
    Calls Tryz.prog 189 #[v, .func (.func 187) #[] #[]] w fun e w' => e = .returned (.tuple #[]) ∧ ∃ us' xss', RefR w' B w.heap v us' xss' ∧ xss'.Perm xss ∧ xss'.Pairwise (fun a b => ltL b a = false) ∧ Below B w w' ∧ KeepI w w' := by
  by_cases h0 : xss.length = 0
  · obtain rfl : xss = [] := List.eq_nil_of_length_eq_zero h0
    have hus : us = [] := List.eq_nil_of_length_eq_zero hR.len
    subst hus
    obtain ⟨ao, l, c, rfl⟩ := own_shape hR.row
    have hl : l = 0 := by
      obtain ⟨_, _, hv, _⟩ := SlAt.len (slAt_of_own hR.row)
      simp only [Value.slice.injEq] at hv
      exact hv.2.1
    subst hl
    have h := AnyF.slices_SortFunc_none { sortLay with } ao c (.func (.func 187) #[] #[]) w
    exact h.mono fun e w' ⟨he, hw⟩ => ⟨he, [], [], by rw [hw]; exact hR, List.Perm.refl _, List.Pairwise.nil, by rw [hw]; exact Below.refl _ _, by rw [hw]; exact KeepI.refl _⟩
  · have hrow := hR.row
    rcases hrow.2 with ⟨_, h1⟩ | ⟨g, cap, cur, rfl, hgB, hg, h2, h3, h4, h5⟩
    · exact absurd h1 (by simpa using h0)
    rw [Nat.mul_one] at h4 h5
    have hus := hR.len
    let d : Array (SElt w.heap) := Array.ofFn fun i : Fin xss.length => ⟨(us[i]'(by have := i.2; omega), xss[i]), hR.each i _ _ (List.getElem?_eq_getElem (by have := i.2; omega)) (List.getElem?_eq_getElem i.2)⟩
    have hds : d.size = xss.length := Array.size_ofFn
    have hdu : d.toList.map encE = us := by
      apply List.ext_getElem
      · simp [hds, hus]
      · intro i h1 h2
        have e : d[i]'(by simpa using h1) = _ := Array.getElem_ofFn _
        simp only [List.getElem_map, Array.getElem_toList]
        rw [e]; rfl
    have hdx : d.toList.map (fun x => x.1.2) = xss := by
      apply List.ext_getElem
      · simp [hds]
      · intro i h1 h2
        have e : d[i]'(by simpa using h1) = _ := Array.getElem_ofFn _
        simp only [List.getElem_map, Array.getElem_toList]
        rw [e]; rfl
    have hH : Holds encE w g 0 d := fun j hj => by
      rw [hds] at hj
      refine ⟨?_, by rw [Nat.zero_add]; exact hrow.frozenAt j⟩
      rw [Nat.zero_add, hrow.cellAt j (by omega), getElem!_pos d j (by omega)]
      have := congrArg (fun l : List Value => l[j]?) hdu
      simp only [List.getElem?_map, Array.getElem?_toList] at this
      rw [← this, Array.getElem?_eq_getElem (by omega)]
      rfl
    have hcmp : CmpLays1 Tryz.prog 187 #[] (encE (h := w.heap)) cfE g 0 d.size w := fun m os dk _ x y => by
      have hk : KeepI w (sortWorld encE w g 0 m dk os) := keep_sorted hg (by decide)
      refine (compare_c (encE x) (encE y) x.1.2 y.1.2 _ (IntS.keep x.2 hk) (IntS.keep y.2 hk)).mono fun e w' ⟨he, hw⟩ => ⟨he, 0, #[], ?_⟩
      rw [← hw, grow_empty]; rfl
    have hcon := Any.slices_SortFunc sortLay (encE (h := w.heap)) encE_one cfE (swo_cfE _) 187 #[] g 0 cap d w enters_compare hcmp hH (Array.getElem?_eq_some_iff.1 hg).1 (by omega)
    rw [hds] at hcon
    refine Calls.mono hcon fun e w' ⟨he, d', n, os, hp, hs, hw⟩ => ⟨he, d'.toList.map encE, d'.toList.map (fun x => x.1.2), ?_⟩
    obtain ⟨hp1, hp2, hp3⟩ := hp
    have hd's : d'.size = xss.length := by rw [hp1, hds]
    have hperm : d'.toList.Perm d.toList := by
      rw [show d'.extract 0 xss.length = d' by rw [← hd's]; simp, show d.extract 0 xss.length = d by rw [← hds]; simp] at hp3
      exact hp3
    refine ⟨⟨⟨by simp [hd's], .inr ⟨g, cap, putCells encE 0 d' cur, by simp [hd's], hgB, by rw [hw]; exact heap_sorted hg, by simpa [hd's] using h2, h3, by simpa [putCells] using h4, ?_⟩⟩, fun i u xs hu hx => ?_⟩, ?_, ?_, ?_, ?_⟩
    · rw [Nat.mul_one, List.length_map, Array.length_toList, hd's, ← hd's]
      exact putCells_take (by omega)
    · simp only [List.getElem?_map, Option.map_eq_some_iff] at hu hx
      obtain ⟨z, hz, rfl⟩ := hu
      obtain ⟨z', hz', rfl⟩ := hx
      rw [hz] at hz'
      obtain rfl := Option.some.inj hz'
      exact z.2
    · rw [← hdx]; exact hperm.map _
    · rw [List.pairwise_iff_getElem]
      intro i j hi hj hij
      simp only [List.length_map, Array.length_toList] at hi hj
      have := hs i j (Nat.zero_le _) hij (by omega)
      rw [ltOf_cfE, getElem!_pos d' j hj, getElem!_pos d' i hi] at this
      simpa using this
    · rw [hw]
      exact ⟨rfl, rfl, rfl, size_sorted, fun k hk => heap_sorted_far (by omega) (by omega)⟩
    · rw [hw]; exact keep_sorted hg (by decide)
theorem sortSS_c2 (v : Value) (us : List Value) (xss : List (List Int)) (B : Nat) (w : World) (hR : RefR w B w.heap v us xss) (hB : B ≤ w.heap.size) (hlen : xss.length < 4611686018427387904) :
    Calls Tryz.prog 189 #[v, .func (.func 187) #[] #[]] w fun e w' => e = .returned (.tuple #[]) ∧ ∃ us' xss', RefR w' B w.heap v us' xss' ∧ (us'.zip xss').Perm (us.zip xss) ∧ xss'.Pairwise (fun a b => ltL b a = false) ∧ Below B w w' ∧ (∀ b, b < w.heap.size → some b ≠ v.ownBlock → w'.heap[b]? = w.heap[b]?) := by
  by_cases h0 : xss.length = 0
  · obtain rfl : xss = [] := List.eq_nil_of_length_eq_zero h0
    have hus : us = [] := List.eq_nil_of_length_eq_zero hR.len
    subst hus
    obtain ⟨ao, l, c, rfl⟩ := own_shape hR.row
    have hl : l = 0 := by
      obtain ⟨_, _, hv, _⟩ := SlAt.len (slAt_of_own hR.row)
      simp only [Value.slice.injEq] at hv
      exact hv.2.1
    subst hl
    have h := AnyF.slices_SortFunc_none { sortLay with } ao c (.func (.func 187) #[] #[]) w
    exact h.mono fun e w' ⟨he, hw⟩ => ⟨he, [], [], by rw [hw]; exact hR, List.Perm.refl _, List.Pairwise.nil, by rw [hw]; exact Below.refl _ _, fun b _ _ => by rw [hw]⟩
  · have hrow := hR.row
    rcases hrow.2 with ⟨_, h1⟩ | ⟨g, cap, cur, rfl, hgB, hg, h2, h3, h4, h5⟩
    · exact absurd h1 (by simpa using h0)
    rw [Nat.mul_one] at h4 h5
    have hus := hR.len
    let d : Array (SElt w.heap) := Array.ofFn fun i : Fin xss.length => ⟨(us[i]'(by have := i.2; omega), xss[i]), hR.each i _ _ (List.getElem?_eq_getElem (by have := i.2; omega)) (List.getElem?_eq_getElem i.2)⟩
    have hds : d.size = xss.length := Array.size_ofFn
    have hdu : d.toList.map encE = us := by
      apply List.ext_getElem
      · simp [hds, hus]
      · intro i h1 h2
        have e : d[i]'(by simpa using h1) = _ := Array.getElem_ofFn _
        simp only [List.getElem_map, Array.getElem_toList]
        rw [e]; rfl
    have hdx : d.toList.map (fun x => x.1.2) = xss := by
      apply List.ext_getElem
      · simp [hds]
      · intro i h1 h2
        have e : d[i]'(by simpa using h1) = _ := Array.getElem_ofFn _
        simp only [List.getElem_map, Array.getElem_toList]
        rw [e]; rfl
    have hH : Holds encE w g 0 d := fun j hj => by
      rw [hds] at hj
      refine ⟨?_, by rw [Nat.zero_add]; exact hrow.frozenAt j⟩
      rw [Nat.zero_add, hrow.cellAt j (by omega), getElem!_pos d j (by omega)]
      have := congrArg (fun l : List Value => l[j]?) hdu
      simp only [List.getElem?_map, Array.getElem?_toList] at this
      rw [← this, Array.getElem?_eq_getElem (by omega)]
      rfl
    have hcmp : CmpLays1 Tryz.prog 187 #[] (encE (h := w.heap)) cfE g 0 d.size w := fun m os dk _ x y => by
      have hk : KeepI w (sortWorld encE w g 0 m dk os) := keep_sorted hg (by decide)
      refine (compare_c (encE x) (encE y) x.1.2 y.1.2 _ (IntS.keep x.2 hk) (IntS.keep y.2 hk)).mono fun e w' ⟨he, hw⟩ => ⟨he, 0, #[], ?_⟩
      rw [← hw, grow_empty]; rfl
    have hcon := Any.slices_SortFunc sortLay (encE (h := w.heap)) encE_one cfE (swo_cfE _) 187 #[] g 0 cap d w enters_compare hcmp hH (Array.getElem?_eq_some_iff.1 hg).1 (by omega)
    rw [hds] at hcon
    refine Calls.mono hcon fun e w' ⟨he, d', n, os, hp, hs, hw⟩ => ⟨he, d'.toList.map encE, d'.toList.map (fun x => x.1.2), ?_⟩
    obtain ⟨hp1, hp2, hp3⟩ := hp
    have hd's : d'.size = xss.length := by rw [hp1, hds]
    have hperm : d'.toList.Perm d.toList := by
      rw [show d'.extract 0 xss.length = d' by rw [← hd's]; simp, show d.extract 0 xss.length = d by rw [← hds]; simp] at hp3
      exact hp3
    refine ⟨⟨⟨by simp [hd's], .inr ⟨g, cap, putCells encE 0 d' cur, by simp [hd's], hgB, by rw [hw]; exact heap_sorted hg, by simpa [hd's] using h2, h3, by simpa [putCells] using h4, ?_⟩⟩, fun i u xs hu hx => ?_⟩, ?_, ?_, ?_, ?_⟩
    · rw [Nat.mul_one, List.length_map, Array.length_toList, hd's, ← hd's]
      exact putCells_take (by omega)
    · simp only [List.getElem?_map, Option.map_eq_some_iff] at hu hx
      obtain ⟨z, hz, rfl⟩ := hu
      obtain ⟨z', hz', rfl⟩ := hx
      rw [hz] at hz'
      obtain rfl := Option.some.inj hz'
      exact z.2
    · have e : (us.zip xss) = d.toList.map fun x => (encE x, x.1.2) := by rw [← List.zip_map', hdu, hdx]
      rw [e, List.zip_map']; exact hperm.map _
    · rw [List.pairwise_iff_getElem]
      intro i j hi hj hij
      simp only [List.length_map, Array.length_toList] at hi hj
      have := hs i j (Nat.zero_le _) hij (by omega)
      rw [ltOf_cfE, getElem!_pos d' j hj, getElem!_pos d' i hi] at this
      simpa using this
    · rw [hw]
      exact ⟨rfl, rfl, rfl, size_sorted, fun k hk => heap_sorted_far (by omega) (by omega)⟩
    · intro b hb hne
      rw [hw]; exact heap_sorted_far hb (fun e => hne (by rw [e]; rfl))
end
section
open Go.RowKit Go.Sort

def AddOk (x y r : List (List Int)) (c : Int) : Prop := ∀ (v u : Value) (W : World), IntSS W.heap v x → IntSS W.heap u y →
  Calls Tryz.prog 44 #[.agg #[v], .agg #[u]] W fun e w' => ∃ q us, e = .returned (.tuple #[.agg #[q], .int .i64 c]) ∧ OwnU w' W.heap.size q us r ∧ Below W.heap.size W w'
def SAddOk (x y r : List (List Int)) (c : Int) : Prop := ∀ (v u : Value) (W : World), IntSS W.heap v x → IntSS W.heap u y →
  Calls Tryz.prog 45 #[.agg #[v], .agg #[u]] W fun e w' => ∃ q us, e = .returned (.tuple #[.agg #[q], .int .i64 c]) ∧ OwnU w' W.heap.size q us r ∧ Below W.heap.size W w'
def MulOk (x y r : List (List Int)) (c : Int) : Prop := ∀ (v u : Value) (W : World), IntSS W.heap v x → IntSS W.heap u y →
  Calls Tryz.prog 35 #[.agg #[v], .agg #[u]] W fun e w' => ∃ q us, e = .returned (.tuple #[.agg #[q], .int .i64 c]) ∧ OwnU w' W.heap.size q us r ∧ Below W.heap.size W w'
theorem addOk (x y : List (List Int)) : AddOk x y (addL x y) (addC x y) := fun v u W h hu => implAddMilnor_of sortSS_c v u x y W h hu
theorem saddOk (x y : List (List Int)) : SAddOk x y (addL x y) (addC x y) := fun v u W h hu => specAddMilnor_c v u x y W h hu
theorem mulOk (x y : List (List Int)) : MulOk x y (mmL x y) (multC x y) := fun v u W h hu => implMultiplyMilnor_of sortSS_c v u x y W h hu
theorem sums_pack (a b : List (List Int)) : ∃ s cc, AddOk a b s cc ∧ SAddOk a b s cc ∧ (cc = 0 → AddOk b a s 0 ∧ AddOk s b a 0 ∧ ∃ x y z p q t, MulOk a [[1]] x p ∧ MulOk b [[1]] y q ∧ MulOk s [[1]] z t ∧ (p = 0 → q = 0 → t = 0 ∧ AddOk x y z 0)) := by
  refine ⟨_, _, addOk a b, saddOk a b, fun h => ?_⟩
  have h1 := add_turn h; have h2 := add_back h
  refine ⟨?_, ?_, _, _, _, _, _, _, mulOk a [[1]], mulOk b [[1]], mulOk (addL a b) [[1]], fun hp hq => ?_⟩
  · have := addOk b a; rwa [h1.1, h1.2] at this
  · have := addOk (addL a b) b; rwa [h2.1, h2.2] at this
  · have h3 := mult_sum h hp hq
    have := addOk (mmL a [[1]]) (mmL b [[1]])
    rw [h3.2.1, h3.2.2] at this
    exact ⟨h3.1, this⟩
theorem basis_deg (n : Int) (i : Nat) (h : i < (mbL n).length) : domC (mbL n)[i] = 0 ∧ domD (mbL n)[i] = n := by
  by_cases hn : 0 ≤ n ∧ n ≤ 40
  · have e : mbL n = (partL n.toNat).map fun r => [r] := if_pos hn
    have hm : (mbL n)[i] ∈ mbL n := List.getElem_mem h
    generalize (mbL n)[i] = q at *
    rw [e] at hm
    obtain ⟨r, hr, hri⟩ := List.mem_map.1 hm
    rw [← hri]
    have h1 := mem_partL (show n.toNat ≤ 40 by omega) hr
    have hE : ExpD n [r] := fun x hx => by rw [List.mem_singleton] at hx; subst hx; exact ⟨h1.1, by rw [h1.2]; omega⟩
    have hA : Asc [r] := Asc.nil.cons fun y hy => by simp at hy
    have hT := arT_exp hE hA hn.2
    exact ⟨by simp [domC, hT], by simp [domD, hT, degT_exp hE]⟩
  · have e : mbL n = [] := if_neg hn
    rw [e] at h; simp at h
/-- Variables that hold elements. -/
structure St (w0 W : World) (vs : List (Nat × Value × List (List Int))) : Prop where
  below : Below w0.heap.size w0 W
  all : ∀ x ∈ vs, Cell1 W x.1 x.2.1 31 ∧ IntSS W.heap x.2.1 x.2.2
theorem St.step {w0 W W' : World} {vs : List (Nat × Value × List (List Int))} (h : St w0 W vs) (k : Below W.heap.size W W') : St w0 W' vs :=
  ⟨h.below.trans (k.mono h.below.size), fun x hx => ⟨(h.all x hx).1.kept k.block, (h.all x hx).2.same k.block⟩⟩
theorem St.add {w0 W : World} {vs : List (Nat × Value × List (List Int))} {v : Value} {xss : List (List Int)} (h : St w0 W vs) (hv : IntSS W.heap v xss) : St w0 (W.alloc (.cells #[v] 31)) ((W.heap.size, v, xss) :: vs) := by
  have hb : Below W.heap.size W (W.alloc (.cells #[v] 31)) := (Below.refl _ _).alloc (Nat.le_refl _) _
  have h' := h.step hb
  refine ⟨h'.below, fun x hx => ?_⟩
  rcases List.mem_cons.1 hx with rfl | hx
  · exact ⟨Cell1.new W v _, hv.same hb.block⟩
  · exact h'.all x hx
theorem St.n0 {w0 W : World} {vs : List (Nat × Value × List (List Int))} {c : Nat} {v : Value} {xss : List (List Int)} (h : St w0 W ((c, v, xss) :: vs)) : Cell1 W c v 31 ∧ IntSS W.heap v xss := h.all (c, v, xss) (by simp)
theorem St.tl {w0 W : World} {vs : List (Nat × Value × List (List Int))} {x : Nat × Value × List (List Int)} (h : St w0 W (x :: vs)) : St w0 W vs := ⟨h.below, fun y hy => h.all y (List.mem_cons_of_mem _ hy)⟩
theorem St.q {w0 W : World} {vs : List (Nat × Value × List (List Int))} {c : Nat} {v : Value} {xss : List (List Int)} (h : St w0 W ((c, v, xss) :: vs)) : W.cell? ⟨c, 0, none⟩ = some v := h.n0.1.c0
theorem St.r {w0 W : World} {vs : List (Nat × Value × List (List Int))} {c : Nat} {v : Value} {xss : List (List Int)} (h : St w0 W ((c, v, xss) :: vs)) : IntSS W.heap v xss := h.n0.2
theorem St.new {w0 W : World} (h : Below w0.heap.size w0 W) : St w0 W [] := ⟨h, fun x hx => by simp at hx⟩
end
section
open Go.RowKit Go.Sort

def OneM (w w' : World) (r : Value) : Prop := (∃ xss, IntSS w'.heap r xss) ∧ Below w.heap.size w w'
def TwoM (w w' : World) (r1 r2 : Value) : Prop := (∃ xss, IntSS w'.heap r1 xss) ∧ (∃ yss, IntSS w'.heap r2 yss) ∧ Below w.heap.size w w'
theorem DrewM.ints {m : Nat} {w0 w w' : World} {g : Nat} {r : Value} (h : DrewM m w0 w g w' r) : ∃ xss, IntSS w'.heap r xss := by
  obtain ⟨⟨us, xss, h1, _⟩, _⟩ := h
  exact ⟨xss, h1.intsS⟩
set_option maxRecDepth 100000 in
theorem drawDegreeOfMilnor_c (v : Value) (m : Nat) (w : World) (h : ByteS w v m) (hm : m ≤ 4096) :
    Calls Tryz.prog 51 #[v] w fun e w' => ∃ r, e = .returned (.agg #[r]) ∧ OneM w w' r := by
  have hb1 : Below w.heap.size w (w.alloc (.cells #[.slice none 0 0] 31)) := (Below.refl _ _).alloc (Nat.le_refl _) _
  have FR := Lib.hid (l01From_c v m _ (h.same hb1.block) hm)
  have K1 := Lib.hid (Cell1.new w (.slice none 0 0) 31)
  have HB1 := Lib.hid hb1
  obtain ⟨ao, c, rfl, -⟩ := h.len
  clear h hb1
  obtain ⟨w1, hw1⟩ : ∃ w1, w1 = w.alloc (.cells #[.slice none 0 0] 31) := ⟨_, rfl⟩
  rw [← hw1] at FR K1 HB1
  have HW1 := Lib.hid hw1
  clear hw1
  go_enter Tryz.func51, Tryz.ntmps51
  go_wp2_with fail
  rw [← HW1.out]
  clear HW1
  refine FR.out.mono ?_
  rintro e w2 ⟨g, rfl, hs2⟩
  have K2 := Lib.hid (K1.out.kept hs2.below.block)
  have HS2 := Lib.hid hs2
  clear hs2
  go_wp2_with fail
  refine (l04Spoil_c g w1 _ HS2.out).mono ?_
  rintro e w3 ⟨r3, rfl, hD⟩
  have K3 := Lib.hid (K2.out.past HS2.out (by decide) hD.grown)
  have HD := Lib.hid hD
  obtain ⟨ra, rn, rc, rfl⟩ := hD.shape
  have q3 := K3.out.c0; have f3 := K3.out.free 0
  clear hD
  go_wp2_with fail
  obtain ⟨xss, hx⟩ := HD.out.ints
  have g0 := (K3.out.set (.slice ra rn rc)).c0
  exact bodyPost_ret (v := .agg #[.slice ra rn rc]) (by simp [results, Tryz.results51, go_sem, g0]) rfl
    ⟨_, rfl, ⟨xss, hx.setVar K3.out (by decide) (by decide)⟩, (HB1.out.trans (HD.out.src.below.mono HB1.out.size)).setCell (by exact Nat.le_refl _) _⟩
set_option maxRecDepth 100000 in
set_option maxHeartbeats 1000000 in
theorem drawAddMilnor_c (v : Value) (m : Nat) (w : World) (h : ByteS w v m) (hm : m ≤ 4096) :
    Calls Tryz.prog 43 #[v] w fun e w' => ∃ r1 r2, e = .returned (.tuple #[.agg #[r1], .agg #[r2]]) ∧ TwoM w w' r1 r2 := by
  have hb1 : Below w.heap.size w ((w.alloc (.cells #[.slice none 0 0] 31)).alloc (.cells #[.slice none 0 0] 31)) := ((Below.refl _ _).alloc (Nat.le_refl _) _).alloc (by simp) _
  have FR := Lib.hid (l01From_c v m _ (h.same hb1.block) hm)
  have KA1 := Lib.hid ((Cell1.new w (.slice none 0 0) 31).kept (alloc_old _ (.cells #[.slice none 0 0] 31)))
  have kb := Cell1.new (w.alloc (.cells #[.slice none 0 0] 31)) (.slice none 0 0) 31
  simp only [size_alloc_w] at kb
  have HB1 := Lib.hid hb1
  obtain ⟨ao, c, rfl, -⟩ := h.len
  clear h hb1
  obtain ⟨w1, hw1⟩ : ∃ w1, w1 = (w.alloc (.cells #[.slice none 0 0] 31)).alloc (.cells #[.slice none 0 0] 31) := ⟨_, rfl⟩
  rw [← hw1] at FR KA1 HB1 kb
  have KB1 := Lib.hid kb
  have HW1 := Lib.hid hw1
  clear hw1 kb
  go_enter Tryz.func43, Tryz.ntmps43
  go_wp2_with fail
  rw [← HW1.out]
  clear HW1
  refine FR.out.mono ?_
  rintro e w2 ⟨g, rfl, hs2⟩
  have KA2 := Lib.hid (KA1.out.kept hs2.below.block)
  have KB2 := Lib.hid (KB1.out.kept hs2.below.block)
  have HS2 := Lib.hid hs2
  clear hs2
  go_wp2_with fail
  refine (l01Next_pos g 10 w1 _ HS2.out (by omega) (by omega)).mono ?_
  rintro e w3 ⟨r3, rfl, ⟨h30, h31⟩, hs3, hg3⟩
  have KA3 := Lib.hid (KA2.out.past HS2.out (by decide) hg3)
  have KB3 := Lib.hid (KB2.out.past HS2.out (by decide) hg3)
  have HS3 := Lib.hid hs3
  clear hs3 hg3
  by_cases e0 : r3 = 0
  · subst e0
    go_wp2_with fail
    refine (l04Spoil_c g w1 _ HS3.out).mono ?_
    rintro e w4 ⟨r4, rfl, hD⟩
    have KA4 := Lib.hid (KA3.out.past HS3.out (by decide) hD.grown)
    have KB4 := Lib.hid (KB3.out.past HS3.out (by decide) hD.grown)
    have HD4 := Lib.hid hD
    obtain ⟨ra, rn, rc, rfl⟩ := hD.shape
    clear hD
    go_wp2_with fail
    refine (l04Spoil_c g w1 _ HD4.out.src).mono ?_
    rintro e w5 ⟨r5, rfl, hD⟩
    have KA5 := Lib.hid (KA4.out.past HD4.out.src (by decide) hD.grown)
    have KB5 := Lib.hid (KB4.out.past HD4.out.src (by decide) hD.grown)
    have HD54 := Lib.hid (HD4.out.past hD.src hD.grown)
    have HD5 := Lib.hid hD
    obtain ⟨sa, sn, sc, rfl⟩ := hD.shape
    clear hD
    obtain ⟨xss, hx⟩ := HD54.out.ints
    obtain ⟨yss, hy⟩ := HD5.out.ints
    have HXX := Lib.hid (And.intro hx (And.intro hy (HB1.out.trans (HD5.out.src.below.mono HB1.out.size))))
    clear hx hy
    obtain ⟨xss, hx⟩ := HD54.out.ints
    obtain ⟨yss, hy⟩ := HD5.out.ints
    have hx2 := HXX.out
    have qA := KA5.out.c0; have fA := KA5.out.free 0
    have qB := KB5.out.c0; have fB := KB5.out.free 0
    clear hx hy
    go_wp2_with fail
    have kb := KB5.out.setFar ⟨w.heap.size, 0, none⟩ (by show w.heap.size + 1 ≠ w.heap.size; omega) (.slice ra rn rc)
    have ka := (KA5.out.set (.slice ra rn rc)).setFar ⟨w.heap.size + 1, 0, none⟩ (by show w.heap.size ≠ w.heap.size + 1; omega) (.slice sa sn sc)
    have g0 := ka.c0
    have g1 := (kb.set (.slice sa sn sc)).c0
    exact bodyPost_ret (v := .tuple #[.agg #[.slice ra rn rc], .agg #[.slice sa sn sc]]) (by simp [results, Tryz.results43, go_sem, g0, g1]) rfl
      ⟨_, _, rfl, ⟨_, (hx2.1.setVar KA5.out (by decide) (by decide)).setVar kb (by decide) (by decide)⟩, ⟨_, (hx2.2.1.setVar KA5.out (by decide) (by decide)).setVar kb (by decide) (by decide)⟩, (hx2.2.2.setCell (by exact Nat.le_refl _) _).setCell (by show w.heap.size ≤ w.heap.size + 1; omega) _⟩
  · have u0 := (neB e0).1
    go_wp2_with fail
    refine (l01Next_pos g 30 w1 _ HS3.out (by omega) (by omega)).mono ?_
    rintro e wd ⟨rd, rfl, ⟨hd0, hd1⟩, hs4, hg4⟩
    obtain ⟨d, rfl⟩ : ∃ d : Nat, rd = d := ⟨rd.toNat, by omega⟩
    have hd40 : d ≤ 40 := by omega
    have KAd := Lib.hid (KA3.out.past HS3.out (by decide) hg4)
    have KBd := Lib.hid (KB3.out.past HS3.out (by decide) hg4)
    have HSd := Lib.hid hs4
    clear hs4 hg4
    go_wp2_with fail
    refine (l04With_c g d w1 _ HSd.out hd40).mono ?_
    rintro e w4 ⟨r4, rfl, hD⟩
    have KA4 := Lib.hid (KAd.out.past HSd.out (by decide) hD.grown)
    have KB4 := Lib.hid (KBd.out.past HSd.out (by decide) hD.grown)
    have HD4 := Lib.hid hD
    obtain ⟨ra, rn, rc, rfl⟩ := hD.shape
    clear hD
    go_wp2_with fail
    refine (l04With_c g d w1 _ HD4.out.src hd40).mono ?_
    rintro e w5 ⟨r5, rfl, hD⟩
    have KA5 := Lib.hid (KA4.out.past HD4.out.src (by decide) hD.grown)
    have KB5 := Lib.hid (KB4.out.past HD4.out.src (by decide) hD.grown)
    have HD54 := Lib.hid (HD4.out.past hD.src hD.grown)
    have HD5 := Lib.hid hD
    obtain ⟨sa, sn, sc, rfl⟩ := hD.shape
    clear hD
    obtain ⟨xss, hx⟩ := HD54.out.ints
    obtain ⟨yss, hy⟩ := HD5.out.ints
    have HXX := Lib.hid (And.intro hx (And.intro hy (HB1.out.trans (HD5.out.src.below.mono HB1.out.size))))
    clear hx hy
    obtain ⟨xss, hx⟩ := HD54.out.ints
    obtain ⟨yss, hy⟩ := HD5.out.ints
    have hx2 := HXX.out
    have qA := KA5.out.c0; have fA := KA5.out.free 0
    have qB := KB5.out.c0; have fB := KB5.out.free 0
    clear hx hy
    go_wp2_with fail
    have kb := KB5.out.setFar ⟨w.heap.size, 0, none⟩ (by show w.heap.size + 1 ≠ w.heap.size; omega) (.slice ra rn rc)
    have ka := (KA5.out.set (.slice ra rn rc)).setFar ⟨w.heap.size + 1, 0, none⟩ (by show w.heap.size ≠ w.heap.size + 1; omega) (.slice sa sn sc)
    have g0 := ka.c0
    have g1 := (kb.set (.slice sa sn sc)).c0
    exact bodyPost_ret (v := .tuple #[.agg #[.slice ra rn rc], .agg #[.slice sa sn sc]]) (by simp [results, Tryz.results43, go_sem, g0, g1]) rfl
      ⟨_, _, rfl, ⟨_, (hx2.1.setVar KA5.out (by decide) (by decide)).setVar kb (by decide) (by decide)⟩, ⟨_, (hx2.2.1.setVar KA5.out (by decide) (by decide)).setVar kb (by decide) (by decide)⟩, (hx2.2.2.setCell (by exact Nat.le_refl _) _).setCell (by show w.heap.size ≤ w.heap.size + 1; omega) _⟩
theorem near_bnd {n r : Int} (hn : n ≤ 1000) (h : 0 ≤ r ∧ r ≤ n ∨ r = -1 ∨ r = n + 1 ∨ r = 1125899906842624 ∨ r = -4611686018427387904) (hn0 : 0 ≤ n) : -4611686018427387904 ≤ r ∧ r ≤ 1125899906842624 := by omega
set_option maxRecDepth 100000 in
theorem drawMilnorBasis_c (v : Value) (m : Nat) (w : World) (h : ByteS w v m) (hm : m ≤ 4096) :
    Calls Tryz.prog 47 #[v] w fun e w' => ∃ n : Int, e = .returned (.int .i64 n) ∧ (-4611686018427387904 ≤ n ∧ n ≤ 1125899906842624) ∧ Below w.heap.size w w' := by
  have FR := Lib.hid (l01From_c v m w h hm)
  obtain ⟨ao, c, rfl, -⟩ := h.len
  clear h
  go_enter Tryz.func47, Tryz.ntmps47
  go_wp2_with fail
  refine FR.out.mono ?_
  rintro e w2 ⟨g, rfl, hs2⟩
  have HS2 := Lib.hid hs2
  clear hs2
  go_wp2_with fail
  refine (l01Next_pos g 16 w _ HS2.out (by omega) (by omega)).mono ?_
  rintro e w3 ⟨r3, rfl, ⟨h30, h31⟩, hs3, hg3⟩
  have HS3 := Lib.hid hs3
  clear hs3 hg3
  go_wp2_with fail
  refine (l01Near_c g 40 w _ HS3.out (by omega) (by omega)).mono ?_
  rintro e w4 ⟨r4, rfl, hr4, hs4, hg4⟩
  have HS4 := Lib.hid hs4
  have HR4 := Lib.hid (near_bnd (by omega) hr4 (by omega))
  clear hs4 hg4 hr4
  go_wp2_with fail
  refine (pick_lit g w w4 [r3, r4] HS4.out (by simp) (by simp)).mono ?_
  rintro e w5 ⟨r5, rfl, hr5, hs5, -⟩
  have HR5 : Hid (-4611686018427387904 ≤ r5 ∧ r5 ≤ 1125899906842624) := by
    show _ ∧ _
    have := HR4.out
    simp at hr5
    omega
  clear hr5
  go_wp2_with fail
  go_ret
  exact ⟨_, rfl, HR5.out, hs5.below⟩
end
end Go.Proofs.YtmnkccjddahcjaaGreat

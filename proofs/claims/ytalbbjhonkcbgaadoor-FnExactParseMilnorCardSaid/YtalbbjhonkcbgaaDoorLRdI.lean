/- Reading texts: of the program: exponents, sums, ParseMilnor. -/
import Derived.Test.YtalbbjhonkcbgaaDoorLRdG
import Derived.Test.YtalbbjhonkcbgaaDoorLRdR
import Derived.Test.YtalbbjhonkcbgaaDoorLGen
namespace Go.Proofs.YtalbbjhonkcbgaaDoor
open Go.RowKit Go.Sort

theorem exp_par {x : List UInt8} (h : parB x = false) : expOk x = false := by simp [expOk, h]
theorem exp_two {x : List UInt8} (h : parB x = true) (h2 : x.length = 2) : x = [40, 41] := by
  match x, h, h2 with
  | [a, b], h, _ =>
    simp [parB] at h
    rw [h.1, h.2]
theorem inn_len (x : List UInt8) : (inn x).length ≤ x.length := by unfold inn; rw [List.length_take, List.length_drop]; omega
set_option maxRecDepth 100000 in
set_option maxHeartbeats 1000000 in
theorem readExponents_c (x : List UInt8) (hl : x.length ≤ 1048576) (w : World) (hG : Glob w) :
    Calls Tryd.prog 12 #[.string (bs x)] w fun e w' => ∃ v r, e = .returned (.tuple #[v, .bool (expOk x)]) ∧ (expOk x = true → r = expV x) ∧ OwnI w' w.heap.size v r ∧ Below w.heap.size w w' := by
  have hb0 : Below w.heap.size w (w.alloc (.cells #[] 2)) := (Below.refl _ _).alloc (Nat.le_refl _) _
  have ho0 := ownI_empty (w := w) (B := w.heap.size) (Nat.le_refl _)
  by_cases h0 : x = [40, 41]
  · have e1 : expOk x = true := by rw [h0]; decide
    have e2 : expV x = [] := by rw [h0]; rfl
    have te := eq_one x [40, 41] h0
    rw [e1, e2]
    clear e1 e2 h0 hG
    generalize bs x = s at *
    go_enter Tryd.func12, Tryd.ntmps12
    go_wp2_with fail
    go_ret2
    exact ⟨_, [], rfl, fun _ => rfl, ho0, hb0⟩
  have te := ne_one x [40, 41] h0
  have hz := bs_size x
  cases hpb : parB x
  · have hno := parB_no hpb
    rw [exp_par hpb]
    clear hpb h0 hG
    rcases hno with h2 | ⟨h2, h3⟩
    · have t1 : decide ((x.length : Int) < 2) = true := by simp; omega
      generalize bs x = s at *
      generalize x.length = n at *
      go_enter Tryd.func12, Tryd.ntmps12
      go_wp2_with fail
      go_ret2
      exact ⟨_, [], rfl, (fun h => by cases h), OwnI.nil _ _, hb0⟩
    · have t1 : decide ((x.length : Int) < 2) = false := by simp; omega
      have hx0 : ∀ W, (Instr.index 9 (.string (bs x)) (.int .i64 0)).run Tryd.prog W = .ok (.int .u8 (x[0].toNat : Int)) W := fun W => idx_bs (P := Tryd.prog) 9 Tryd.underlying9 x 0 (by omega) W
      rcases h3 with h3 | ⟨h3, h4⟩
      · obtain ⟨t3, t4⟩ := neB (show ((x[0].toNat : Nat) : Int) ≠ 40 by omega)
        generalize ((x[0].toNat : Nat) : Int) = y at *
        clear h3 h2
        generalize bs x = s at *
        generalize x.length = n at *
        go_enter Tryd.func12, Tryd.ntmps12
        go_wp2_with fail
        go_ret2
        exact ⟨_, [], rfl, (fun h => by cases h), OwnI.nil _ _, hb0⟩
      · obtain ⟨t3, t4⟩ := eqB (show ((x[0].toNat : Nat) : Int) = 40 by omega)
        obtain ⟨t5, t6⟩ := neB (show ((x[x.length - 1].toNat : Nat) : Int) ≠ 41 by omega)
        have s1 : IntKind.i64.wrap ((x.length : Int) - 1) = (x.length : Int) - 1 := IntWalk.i64_in _ (by omega)
        have hx1 : ∀ W, (Instr.index 9 (.string (bs x)) (.int .i64 ((x.length : Int) - 1))).run Tryd.prog W = .ok (.int .u8 (x[x.length - 1].toNat : Int)) W := fun W => by
          have := idx_bs (P := Tryd.prog) 9 Tryd.underlying9 x (x.length - 1) (by omega) W
          rwa [show (((x.length - 1 : Nat)) : Int) = (x.length : Int) - 1 by omega] at this
        generalize ((x[0].toNat : Nat) : Int) = y at *
        generalize ((x[x.length - 1].toNat : Nat) : Int) = z at *
        clear h3 h4 h2
        generalize bs x = s at *
        generalize x.length = n at *
        go_enter Tryd.func12, Tryd.ntmps12
        go_wp2_with fail
        go_ret2
        exact ⟨_, [], rfl, (fun h => by cases h), OwnI.nil _ _, hb0⟩
  · obtain ⟨h2, h3, h4⟩ := parB_yes hpb
    have hn2 : x.length ≠ 2 := fun e => h0 (exp_two hpb e)
    have e1 : expOk x = (spl 44 (inn x)).all readB := by simp [expOk, hpb, hn2]
    have e2 : expV x = (spl 44 (inn x)).map fun w => (valN w : Int) := if_neg hn2
    rw [e1, e2]
    have t1 : decide ((x.length : Int) < 2) = false := by simp; omega
    have hx0 : ∀ W, (Instr.index 9 (.string (bs x)) (.int .i64 0)).run Tryd.prog W = .ok (.int .u8 (x[0].toNat : Int)) W := fun W => idx_bs (P := Tryd.prog) 9 Tryd.underlying9 x 0 (by omega) W
    obtain ⟨t3, t4⟩ := eqB (show ((x[0].toNat : Nat) : Int) = 40 by omega)
    obtain ⟨t5, t6⟩ := eqB (show ((x[x.length - 1].toNat : Nat) : Int) = 41 by omega)
    have s1 : IntKind.i64.wrap ((x.length : Int) - 1) = (x.length : Int) - 1 := IntWalk.i64_in _ (by omega)
    have hx1 : ∀ W, (Instr.index 9 (.string (bs x)) (.int .i64 ((x.length : Int) - 1))).run Tryd.prog W = .ok (.int .u8 (x[x.length - 1].toNat : Int)) W := fun W => by
      have := idx_bs (P := Tryd.prog) 9 Tryd.underlying9 x (x.length - 1) (by omega) W
      rwa [show (((x.length - 1 : Nat)) : Int) = (x.length : Int) - 1 by omega] at this
    have hsb : ∀ W, (Instr.slice 9 (.string (bs x)) (some (.int .i64 1)) (some (.int .i64 ((x.length : Int) - 1))) none).run Tryd.prog W = .ok (.string (bs (inn x))) W := fun W => by
      have := sub_bs (P := Tryd.prog) 9 Tryd.underlying9 x 1 (x.length - 1) (by omega) (by omega) W
      rwa [show (((x.length - 1 : Nat)) : Int) = (x.length : Int) - 1 by omega, show x.length - 1 - 1 = x.length - 2 by omega] at this
    have hil := inn_len x
    have HC := Lib.hid (fun W (hW : Glob W) => split_c 44 (inn x) (by omega) W hW)
    have HWL := Lib.hid (spl_part 44 (inn x))
    have hle := spl_le 44 (inn x)
    have HG := Lib.hid hG; have HB0 := Lib.hid hb0; have HO0 := Lib.hid ho0
    generalize ((x[0].toNat : Nat) : Int) = y at *
    generalize ((x[x.length - 1].toNat : Nat) : Int) = z at *
    clear e1 e2 h0 hn2 h3 h4 hpb hG hb0 ho0 h2
    generalize spl 44 (inn x) = ws at *
    generalize inn x = ix at *
    obtain ⟨OK, hOK⟩ : ∃ b, b = ws.all readB := ⟨_, rfl⟩
    have HOK := Lib.hid hOK
    rw [← hOK]
    clear hOK
    generalize bs x = s at *
    generalize x.length = n at *
    go_enter Tryd.func12, Tryd.ntmps12
    go_wp2_with (go_at_call 22; refine (HC.out _ (HG.out.below HB0.out)).mono ?_; rintro e w1 ⟨g, rfl, hgB, hWS, hb1⟩; have HB1 := Lib.hid hb1; have HO1 := Lib.hid (HO0.out.same hb1.block); have HW1 := Lib.hid hWS; have HBB := Lib.hid (HB0.out.trans (hb1.mono HB0.out.size)); clear hb1 hWS)
    go_loopw [4, 36] (fun o i wr => ∃ k : Nat, k ≤ ws.length ∧ i = .int .i64 k ∧ (∀ j (hj : j < ws.length), j < k → readB ws[j] = true) ∧ OwnI wr w.heap.size o ((ws.take k).map fun w => (valN w : Int)) ∧ WordsAt wr g ws ∧ Below w.heap.size w wr) (fun _ i _ => ws.length - (intOf i).toNat)
    case atStart => exact ⟨0, Nat.zero_le _, rfl, (fun _ _ h => by omega), HO1.out, HW1.out, HBB.out⟩
    case round =>
      obtain ⟨k, hk, rfl, hpre, ho, hW, hb⟩ := hrel
      have hsz := hb.size
      obtain ⟨ya, yn, yc, rfl⟩ := own_shape ho
      have HO := Lib.hid ho; have HB := Lib.hid hb; have HPRE := Lib.hid hpre; have HW := Lib.hid hW
      by_cases hkl : k < ws.length
      · have hc := hW.cell k hkl
        have hki : (k : Int) < (ws.length : Int) := by omega
        have hwl := (HWL.out _ (List.getElem_mem hkl)).1
        have RD := Lib.hid (readDecimal_c ws[k] (by omega) wr (HG.out.same hb.block))
        cases hrb : readB ws[k]
        · have E := Lib.hid (HOK.out.trans (all_no readB ws k hkl hrb))
          rw [hrb] at RD
          clear hrb ho hb hpre hW hwl
          generalize bs ws[k] = q at *
          go_wp2_with (go_at_call 23; refine RD.out.mono ?_; rintro e w2 ⟨m, rfl, -, hb2⟩)
          go_ret2
          exact ⟨_, [], by rw [E.out]; rfl, (fun h => by rw [E.out] at h; cases h), OwnI.nil _ _, HB.out.trans (hb2.mono hsz)⟩
        · rw [hrb] at RD
          have HRB := Lib.hid hrb
          have HS := Lib.hid (map_take_one (fun w => (valN w : Int)) ws k hkl)
          have HP2 : Hid (∀ j (hj : j < ws.length), j < k + 1 → readB ws[j] = true) := fun j hj hjk => by
            by_cases e : j = k
            · subst e; exact HRB.out
            · exact HPRE.out j hj (by omega)
          have HN : Hid (((ws.take k).map fun w => (valN w : Int)).length ≤ 4398046511104) := by show _ ≤ _; rw [List.length_map, List.length_take]; omega
          clear hrb ho hb hpre hW hwl
          generalize bs ws[k] = q at *
          generalize (valN ws[k] : Int) = u at *
          go_wp2_with (first | (go_at_call 23; refine RD.out.mono ?_; rintro e w2 ⟨m, rfl, hm, hb2⟩; obtain rfl : m = u := hm rfl; have HB2 := Lib.hid (HB.out.trans (hb2.mono hsz)); have HO2 := Lib.hid (HO.out.same hb2.block); have HW2 := Lib.hid (HW.out.same hb2.block); clear hb2 hm) | (at_builtin; refine append_int (w := w2) rfl _ _ rfl _ _ _ _ HO2.out rfl HB2.out HB2.out.size _ rfl (by simp) HN.out ?_; intro v' w' hown' hbl' _ hk4; obtain ⟨pv, nv, cv, rfl⟩ := own_shape hown'))
          go_roundw
          case rel => exact ⟨k + 1, by omega, by go_num, HP2.out, by rw [HS.out]; exact hown', HW2.out.app HO2.out hk4 (by decide), hbl'⟩
          case measure => simp [intOf]; omega
      · obtain rfl : k = ws.length := by omega
        have E : Hid (OK = true) := HOK.out.trans (all_take readB ws fun j hj => HPRE.out j hj hj)
        clear ho hb hpre hW
        go_wp2_with fail
        go_ret2
        refine ⟨_, (ws.take ws.length).map fun w => (valN w : Int), by rw [E.out]; rfl, fun _ => by rw [List.take_length], HO.out, HB.out⟩
theorem enters_readExponents : Enters Tryd.prog 12 := fun args w => by kernel_rfl
theorem ownU_empty (w : World) : OwnU (w.alloc (.cells #[] 39)) w.heap.size (.slice (some ⟨w.heap.size, 0, none⟩) 0 0) [] [] :=
  ⟨World.ownsRow_made w #[] 0 (Nat.le_refl _) (Nat.zero_le _) rfl, fun i u xs hu => by simp at hu, fun i j u u' _ hu => by simp at hu⟩
theorem ownU_nil0 (w : World) (B : Nat) : OwnU w B (.slice none 0 0) [] [] := ⟨⟨rfl, .inl ⟨rfl, rfl⟩⟩, fun i u xs hu => by simp at hu, fun i j u u' _ hu => by simp at hu⟩
theorem ownU_base0 {w : World} {B B' : Nat} {v : Value} {us : List Value} {xss : List (List Int)} (h : OwnU w B v us xss) (k : B' ≤ B) : OwnU w B' v us xss := ⟨own_base h.row k, fun i u xs hu hx => own_base (h.each i u xs hu hx) k, h.apart⟩
theorem ownU_var1 {w1 w2 : World} {B g : Nat} {v : Value} {us : List Value} {xss : List (List Int)} (hU : OwnU w2 w1.heap.size v us xss) (hg : g < w1.heap.size) (u : Value) (hB : B ≤ w1.heap.size) : OwnU (w2.setCell ⟨g, 0, none⟩ u) B v us xss :=
  ownU_base0 (hU.far fun b h1 _ => Below.heap_setCell _ _ _ _ (by show b ≠ g; omega)) hB
def rsOk (ok : List UInt8 → Bool) (t : List UInt8) : Bool := (t == [48]) || (decide ((spl 43 t).length ≤ 2000) && (spl 43 t).all ok)
def rsV (vl : List UInt8 → List Int) (t : List UInt8) : List (List Int) := if t = [48] then [] else (spl 43 t).map vl
set_option maxRecDepth 100000 in
set_option maxHeartbeats 1000000 in
theorem readSum_c (t : List UInt8) (ht : t.length ≤ 1048576) (K : Nat) (ok : List UInt8 → Bool) (vl : List UInt8 → List Int) (w : World) (hG : Glob w) (hcf : Enters Tryd.prog K)
    (hf : ∀ (W : World) (x : List UInt8), x ∈ spl 43 t → Glob W → Calls Tryd.prog K #[.string (bs x)] W fun e w' => ∃ v r, e = .returned (.tuple #[v, .bool (ok x)]) ∧ (ok x = true → r = vl x) ∧ OwnI w' W.heap.size v r ∧ Below W.heap.size W w') :
    Calls Tryd.prog 11 #[.string (bs t), .func (.func K) #[] #[]] w fun e w' => ∃ v us xs, e = .returned (.tuple #[v, .bool (rsOk ok t)]) ∧ (rsOk ok t = true → xs = rsV vl t) ∧ OwnU w' w.heap.size v us xs ∧ Below w.heap.size w w' := by
  unfold Enters at hcf
  have hb0 : Below w.heap.size w (w.alloc (.cells #[] 39)) := (Below.refl _ _).alloc (Nat.le_refl _) _
  by_cases h0 : t = [48]
  · have e1 : rsOk ok t = true := by simp [rsOk, h0]
    have e2 : rsV vl t = [] := if_pos h0
    have te := eq_one t [48] h0
    rw [e1, e2]
    clear e1 e2 h0 hG hf
    generalize bs t = s at *
    go_enter Tryd.func11, Tryd.ntmps11
    go_wp2_with fail
    go_ret2
    exact ⟨_, [], [], rfl, fun _ => rfl, ownU_empty w, hb0⟩
  · have te := ne_one t [48] h0
    have e1 : rsOk ok t = (decide ((spl 43 t).length ≤ 2000) && (spl 43 t).all ok) := by
      have : (t == [48]) = false := by simpa using h0
      simp [rsOk, this]
    have e2 : rsV vl t = (spl 43 t).map vl := if_neg h0
    rw [e1, e2]
    have HC := Lib.hid (fun W (hW : Glob W) => split_c 43 t (by omega) W hW)
    have HG := Lib.hid hG; have HB0 := Lib.hid hb0; have HO0 := Lib.hid (ownU_empty w)
    have HF := Lib.hid hf
    have hle := spl_le 43 t
    clear e1 e2 h0 hG hb0 hf
    generalize spl 43 t = ws at *
    obtain ⟨OK, hOK⟩ : ∃ b, b = (decide (ws.length ≤ 2000) && ws.all ok) := ⟨_, rfl⟩
    have HOK := Lib.hid hOK
    rw [← hOK]
    clear hOK
    generalize bs t = s at *
    go_enter Tryd.func11, Tryd.ntmps11
    go_wp2_with (go_at_call 22; refine (HC.out _ (HG.out.below HB0.out)).mono ?_; rintro e w1 ⟨g, rfl, hgB, hWS, hb1⟩; have HB1 := Lib.hid hb1; have HO1 := Lib.hid (HO0.out.same hb1.block); have HW1 := Lib.hid hWS; have HBB := Lib.hid (HB0.out.trans (hb1.mono HB0.out.size)); clear hb1 hWS)
    go_loopw [6, 18] (fun o i wr => ∃ (k : Nat) (us : List Value), k ≤ ws.length ∧ k ≤ 2000 ∧ i = .int .i64 k ∧ (∀ j (hj : j < ws.length), j < k → ok ws[j] = true) ∧ OwnU wr w.heap.size o us ((ws.take k).map vl) ∧ WordsAt wr g ws ∧ Below w.heap.size w wr) (fun _ i _ => ws.length - (intOf i).toNat)
    case atStart => exact ⟨0, [], Nat.zero_le _, Nat.zero_le _, rfl, (fun _ _ h => by omega), HO1.out, HW1.out, HBB.out⟩
    case round =>
      obtain ⟨k, us, hk, hk2, rfl, hpre, hU, hW, hb⟩ := hrel
      have hsz := hb.size
      obtain ⟨ya, yc, hv, -⟩ := hU.ints.len
      rw [show ((ws.take k).map vl).length = k by rw [List.length_map, List.length_take]; omega] at hv
      subst hv
      have HU := Lib.hid hU; have HB := Lib.hid hb; have HPRE := Lib.hid hpre; have HW := Lib.hid hW
      by_cases hkl : k < ws.length
      · have hc := hW.cell k hkl
        have hki : (k : Int) < (ws.length : Int) := by omega
        have C := Lib.hid (HF.out wr ws[k] (List.getElem_mem hkl) (HG.out.same hb.block))
        cases hrb : ok ws[k]
        · have E : Hid (OK = false) := by
            show _ = _
            rw [HOK.out, all_no ok ws k hkl hrb, Bool.and_false]
          rw [hrb] at C
          clear hrb hU hb hpre hW
          generalize bs ws[k] = q at *
          generalize vl ws[k] = r0 at *
          go_wp2_with fail
          refine C.out.mono ?_
          rintro e w2 ⟨v2, r2, rfl, -, hr2, hb2⟩
          obtain ⟨pa, pn, pc, rfl⟩ := own_shape hr2
          go_wp2_with fail
          go_ret2
          exact ⟨_, [], [], by rw [E.out]; rfl, (fun h => by rw [E.out] at h; cases h), ownU_nil0 _ _, HB.out.trans (hb2.mono hsz)⟩
        · rw [hrb] at C
          have HRB := Lib.hid hrb
          by_cases hk3 : k = 2000
          · have E : Hid (OK = false) := by
              show _ = _
              rw [HOK.out, decide_eq_false (by omega)]; rfl
            have t1 := (eqB (show (k : Int) = 2000 by omega)).1
            clear hrb hU hb hpre hW hk3
            generalize bs ws[k] = q at *
            generalize vl ws[k] = r0 at *
            go_wp2_with fail
            refine C.out.mono ?_
            rintro e w2 ⟨v2, r2, rfl, -, hr2, hb2⟩
            obtain ⟨pa, pn, pc, rfl⟩ := own_shape hr2
            go_wp2_with fail
            go_ret2
            exact ⟨_, [], [], by rw [E.out]; rfl, (fun h => by rw [E.out] at h; cases h), ownU_nil0 _ _, HB.out.trans (hb2.mono hsz)⟩
          · have t1 := (neB (show (k : Int) ≠ 2000 by omega)).1
            have HS := Lib.hid (map_take_one vl ws k hkl)
            have HP2 : Hid (∀ j (hj : j < ws.length), j < k + 1 → ok ws[j] = true) := fun j hj hjk => by
              by_cases e : j = k
              · subst e; exact HRB.out
              · exact HPRE.out j hj (by omega)
            have HN : Hid (((ws.take k).map vl).length ≤ 4398046511104) := by show _ ≤ _; rw [List.length_map, List.length_take]; omega
            have hk4 : k + 1 ≤ 2000 := by omega
            clear hrb hU hb hpre hW hk3
            generalize bs ws[k] = q at *
            generalize vl ws[k] = r0 at *
            go_wp2_with fail
            refine C.out.mono ?_
            rintro e w2 ⟨v2, r2, rfl, hr, hr2, hb2⟩
            obtain rfl : r2 = r0 := by simpa using hr
            obtain ⟨pa, pn, pc, rfl⟩ := own_shape hr2
            have HW2 := Lib.hid (HW.out.same hb2.block); have HU2 := Lib.hid (HU.out.same hb2.block)
            clear hr
            go_wp2_with (at_builtin; refine append_rowU (wE := wr) rfl _ _ rfl w.heap.size _ _ us _ _ HU.out rfl hr2 hb2 HB.out hsz _ rfl rfl HN.out ?_; intro v3 w3 hU3 hb3 _ _ hk5 _; obtain ⟨sa, sn, sc, rfl⟩ := own_shape hU3.row)
            go_roundw
            case rel => exact ⟨k + 1, _, by omega, hk4, by go_num, HP2.out, by rw [HS.out]; exact hU3, HW2.out.app HU2.out.row hk5 (by decide), hb3⟩
            case measure => simp [intOf]; omega
      · obtain rfl : k = ws.length := by omega
        have E : Hid (OK = true) := by
          show _ = _
          rw [HOK.out, decide_eq_true hk2, all_take ok ws fun j hj => HPRE.out j hj hj]; rfl
        clear hU hb hpre hW
        go_wp2_with fail
        go_ret2
        refine ⟨_, us, (ws.take ws.length).map vl, by rw [E.out]; rfl, fun _ => by rw [List.take_length], HU.out, HB.out⟩
set_option maxRecDepth 100000 in
set_option maxHeartbeats 1000000 in
theorem implParseMilnor_c (t : List UInt8) (hl : t.length ≤ 1048576) (w : World) (hG : Glob w) :
    Calls Tryd.prog 5 #[.string (bs t)] w fun e w' => ∃ r us, e = .returned (.tuple #[.agg #[r], .int .i64 (pmC t)]) ∧ OwnU w' w.heap.size r us (pmL t) ∧ Below w.heap.size w w' := by
  have hb0 : Below w.heap.size w (w.alloc (.cells #[.slice none 0 0] 24)) := (Below.refl _ _).alloc (Nat.le_refl _) _
  have k0 := Cell1.new w (.slice none 0 0) 24
  have C := Lib.hid (fun W (hW : Glob W) => readSum_c t hl 12 expOk expV W hW enters_readExponents (fun W2 x hx hW2 => readExponents_c x (by have := (spl_part 43 t x hx).1; omega) W2 hW2))
  have L := Lib.hid (fun v xs W (h : IntSS W.heap v xs) => isMilnor_c v xs W h)
  have hsm := pm_same t
  have HC : Hid (pmC t = if (rsOk expOk t && arT (rsV expV t)) = true then 0 else 6) := by
    show _ = _
    unfold pmC pmB; rw [← hsm.1]; rfl
  have HL : Hid (pmL t = if (rsOk expOk t && arT (rsV expV t)) = true then rsV expV t else []) := by
    show _ = _
    unfold pmL pmB
    cases h : (rfOk t && arT (rfV t))
    · rw [if_neg (by simp), if_neg (by have := hsm.1; rw [h] at this; exact fun e => by rw [show (rsOk expOk t && arT (rsV expV t)) = false from this] at e; cases e)]
    · rw [if_pos rfl, if_pos (by have := hsm.1; rw [h] at this; exact this)]
      exact (hsm.2 h).symm
  have HG := Lib.hid (hG.below hb0)
  clear hsm hG
  generalize pmC t = pc at *
  generalize pmL t = pl at *
  generalize rsV expV t = rv at *
  generalize bs t = s at *
  have HB0 := Lib.hid hb0; have K0 := Lib.hid k0
  clear hb0 k0
  have HSZ : Hid (w.heap.size + 1 = (w.alloc (.cells #[.slice none 0 0] 24)).heap.size) := by show _ = _; simp
  cases hO : rsOk expOk t
  · rw [hO] at C HC HL
    obtain rfl : pc = 6 := HC.out
    obtain rfl : pl = [] := HL.out
    clear HC HL hO
    go_enter Tryd.func5, Tryd.ntmps5
    go_wp2_with fail
    refine (C.out _ HG.out).mono ?_
    rintro e w1 ⟨v, us, xs, rfl, -, hI, hb1⟩
    obtain ⟨va, vc, rfl, -⟩ := hI.ints.len
    have K1 := Lib.hid (K0.out.kept hb1.block)
    have HB1 := Lib.hid (HB0.out.trans (hb1.mono HB0.out.size))
    have K2 := Lib.hid (K1.out.kept (alloc_old w1 (.cells #[.slice va xs.length vc] 24)))
    have HB2 := Lib.hid (HB1.out.alloc HB1.out.size (.cells #[.slice va xs.length vc] 24))
    have q1 := K2.out.c0; have f1 := K2.out.free 0
    clear hI hb1 L
    go_wp2_with fail
    have g0 := (K2.out.set (.slice none 0 0)).c0
    exact bodyPost_ret (v := .tuple #[.agg #[.slice none 0 0], .int .i64 6]) (by simp [results, Tryd.results5, go_sem, g0]) rfl
      ⟨_, [], rfl, ownU_nil0 _ _, HB2.out.setCell (Nat.le_refl _) _⟩
  · rw [hO] at C HC HL
    clear hO
    go_enter Tryd.func5, Tryd.ntmps5
    go_wp2_with fail
    refine (C.out _ HG.out).mono ?_
    rintro e w1 ⟨v, us, xs, rfl, hx, hI, hb1⟩
    obtain rfl : xs = rv := by simpa using hx
    clear hx
    obtain ⟨va, vc, rfl, -⟩ := hI.ints.len
    have HB1 := Lib.hid (HB0.out.trans (hb1.mono HB0.out.size))
    have K1 := Lib.hid (K0.out.kept hb1.block)
    have K2 := Lib.hid (K1.out.kept (alloc_old w1 (.cells #[.slice va xs.length vc] 24)))
    have N2 := Lib.hid (Cell1.new w1 (.slice va xs.length vc) 24)
    have HB2 := Lib.hid (HB1.out.alloc HB1.out.size (.cells #[.slice va xs.length vc] 24))
    have HI2 := Lib.hid (hI.same (alloc_old w1 (.cells #[.slice va xs.length vc] 24)))
    have q1 := K2.out.c0; have f1 := K2.out.free 0; have q2 := N2.out.c0
    have LL := Lib.hid (L.out _ _ _ HI2.out.ints)
    clear hI hb1 L
    cases hA : arT xs
    · rw [hA] at LL HC HL
      obtain rfl : pc = 6 := HC.out
      obtain rfl : pl = [] := HL.out
      clear HC HL hA
      go_wp2_with fail
      refine LL.out.mono ?_
      rintro e w3 ⟨rfl, hb3⟩
      have K3 := Lib.hid (K2.out.kept hb3.block)
      have HB3 := Lib.hid (HB2.out.trans (hb3.mono HB2.out.size))
      have q1 := K3.out.c0; have f1 := K3.out.free 0
      clear hb3
      go_wp2_with fail
      have g0 := (K3.out.set (.slice none 0 0)).c0
      exact bodyPost_ret (v := .tuple #[.agg #[.slice none 0 0], .int .i64 6]) (by simp [results, Tryd.results5, go_sem, g0]) rfl
        ⟨_, [], rfl, ownU_nil0 _ _, HB3.out.setCell (Nat.le_refl _) _⟩
    · rw [hA] at LL HC HL
      obtain rfl : pc = 0 := HC.out
      obtain rfl : pl = xs := HL.out
      clear HC HL hA
      go_wp2_with fail
      refine LL.out.mono ?_
      rintro e w3 ⟨rfl, hb3⟩
      have K3 := Lib.hid (K2.out.kept hb3.block)
      have N3 := Lib.hid (N2.out.kept hb3.block)
      have HB3 := Lib.hid (HB2.out.trans (hb3.mono HB2.out.size))
      have HI3 := Lib.hid (HI2.out.same hb3.block)
      have q1 := K3.out.c0; have f1 := K3.out.free 0; have q2 := N3.out.c0
      clear hb3
      go_wp2_with fail
      have g0 := (K3.out.set (.slice va pl.length vc)).c0
      exact bodyPost_ret (v := .tuple #[.agg #[.slice va pl.length vc], .int .i64 0]) (by simp [results, Tryd.results5, go_sem, g0]) rfl
        ⟨_, us, rfl, ownU_var1 HI3.out (by have := HSZ.out; omega) _ (by have := HSZ.out; omega), HB3.out.setCell (Nat.le_refl _) _⟩
end Go.Proofs.YtalbbjhonkcbgaaDoor

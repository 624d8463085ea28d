/- Reading texts: of the program: exponents, sums, ParseMilnor. -/
import Derived.Test.YtalbbjhonkcbgaaGreatDoorLRdG
import Derived.Test.YtalbbjhonkcbgaaGreatDoorLRdR
import Derived.Test.YtalbbjhonkcbgaaGreatDoorLGen
namespace Go.Proofs.YtalbbjhonkcbgaaGreatDoor
open Go.RowKit Go.Sort

theorem exp_par {x : List UInt8} (h : parB x = false) : expOk x = false := by simp [expOk, h]
theorem exp_two {x : List UInt8} (h : parB x = true) (h2 : x.length = 2) : x = [40, 41] := by
  match x, h, h2 with
  | [a, b], h, _ =>
    simp [parB] at h
    rw [h.1, h.2]
theorem inn_len (x : List UInt8) : (inn x).length ≤ x.length := by unfold inn; rw [List.length_take, List.length_drop]; omega
theorem ownU_empty (w : World) : OwnU (w.alloc (.cells #[] 30)) w.heap.size (.slice (some ⟨w.heap.size, 0, none⟩) 0 0) [] [] :=
  ⟨World.ownsRow_made w #[] 0 (Nat.le_refl _) (Nat.zero_le _) rfl, fun i u xs hu => by simp at hu, fun i j u u' _ hu => by simp at hu⟩
theorem ownU_nil0 (w : World) (B : Nat) : OwnU w B (.slice none 0 0) [] [] := ⟨⟨rfl, .inl ⟨rfl, rfl⟩⟩, fun i u xs hu => by simp at hu, fun i j u u' _ hu => by simp at hu⟩
theorem ownU_base0 {w : World} {B B' : Nat} {v : Value} {us : List Value} {xss : List (List Int)} (h : OwnU w B v us xss) (k : B' ≤ B) : OwnU w B' v us xss := ⟨own_base h.row k, fun i u xs hu hx => own_base (h.each i u xs hu hx) k, h.apart⟩
theorem ownU_var1 {w1 w2 : World} {B g : Nat} {v : Value} {us : List Value} {xss : List (List Int)} (hU : OwnU w2 w1.heap.size v us xss) (hg : g < w1.heap.size) (u : Value) (hB : B ≤ w1.heap.size) : OwnU (w2.setCell ⟨g, 0, none⟩ u) B v us xss :=
  ownU_base0 (hU.far fun b h1 _ => Below.heap_setCell _ _ _ _ (by show b ≠ g; omega)) hB
def rsOk (ok : List UInt8 → Bool) (t : List UInt8) : Bool := (t == [48]) || (decide ((spl 43 t).length ≤ 2000) && (spl 43 t).all ok)
def rsV (vl : List UInt8 → List Int) (t : List UInt8) : List (List Int) := if t = [48] then [] else (spl 43 t).map vl
set_option maxRecDepth 100000 in
set_option maxHeartbeats 1000000 in
theorem readSum_c (t : List UInt8) (ht : t.length ≤ 1048576) (K : Nat) (ok : List UInt8 → Bool) (vl : List UInt8 → List Int) (w : World) (hG : Glob w) (hcf : Enters Tryz.prog K)
    (hf : ∀ (W : World) (x : List UInt8), x ∈ spl 43 t → Glob W → Calls Tryz.prog K #[.string (bs x)] W fun e w' => ∃ v r, e = .returned (.tuple #[v, .bool (ok x)]) ∧ (ok x = true → r = vl x) ∧ OwnI w' W.heap.size v r ∧ Below W.heap.size W w') :
    Calls Tryz.prog 19 #[.string (bs t), .func (.func K) #[] #[]] w fun e w' => ∃ v us xs, e = .returned (.tuple #[v, .bool (rsOk ok t)]) ∧ (rsOk ok t = true → xs = rsV vl t) ∧ OwnU w' w.heap.size v us xs ∧ Below w.heap.size w w' := by
  unfold Enters at hcf
  have hb0 : Below w.heap.size w (w.alloc (.cells #[] 30)) := (Below.refl _ _).alloc (Nat.le_refl _) _
  by_cases h0 : t = [48]
  · have e1 : rsOk ok t = true := by simp [rsOk, h0]
    have e2 : rsV vl t = [] := if_pos h0
    have te := eq_one t [48] h0
    rw [e1, e2]
    clear e1 e2 h0 hG hf
    generalize bs t = s at *
    go_enter Tryz.func19, Tryz.ntmps19
    go_wp2_with fail
    go_ret2
    exact ⟨_, [], [], rfl, fun _ => rfl, ownU_empty w, hb0⟩
  · have te := ne_one t [48] h0
    have e1 : rsOk ok t = (decide ((spl 43 t).length ≤ 2000) && (spl 43 t).all ok) := by
      have : (t == [48]) = false := by simpa using h0
      simp [rsOk, this]
    have e2 : rsV vl t = (spl 43 t).map vl := if_neg h0
    rw [e1, e2]
    have HC := Lib.hid (fun W (hW : Glob W) => split_c 43 t (by omega) W hW)
    have HG := Lib.hid hG; have HB0 := Lib.hid hb0; have HO0 := Lib.hid (ownU_empty w)
    have HF := Lib.hid hf
    have hle := spl_le 43 t
    clear e1 e2 h0 hG hb0 hf
    generalize spl 43 t = ws at *
    obtain ⟨OK, hOK⟩ : ∃ b, b = (decide (ws.length ≤ 2000) && ws.all ok) := ⟨_, rfl⟩
    have HOK := Lib.hid hOK
    rw [← hOK]
    clear hOK
    generalize bs t = s at *
    go_enter Tryz.func19, Tryz.ntmps19
    go_wp2_with (go_at_call 29; refine (HC.out _ (HG.out.below HB0.out)).mono ?_; rintro e w1 ⟨g, rfl, hgB, hWS, hb1⟩; have HB1 := Lib.hid hb1; have HO1 := Lib.hid (HO0.out.same hb1.block); have HW1 := Lib.hid hWS; have HBB := Lib.hid (HB0.out.trans (hb1.mono HB0.out.size)); clear hb1 hWS)
    go_loopw [6, 18] (fun o i wr => ∃ (k : Nat) (us : List Value), k ≤ ws.length ∧ k ≤ 2000 ∧ i = .int .i64 k ∧ (∀ j (hj : j < ws.length), j < k → ok ws[j] = true) ∧ OwnU wr w.heap.size o us ((ws.take k).map vl) ∧ WordsAt wr g ws ∧ Below w.heap.size w wr) (fun _ i _ => ws.length - (intOf i).toNat)
    case atStart => exact ⟨0, [], Nat.zero_le _, Nat.zero_le _, rfl, (fun _ _ h => by omega), HO1.out, HW1.out, HBB.out⟩
    case round =>
      obtain ⟨k, us, hk, hk2, rfl, hpre, hU, hW, hb⟩ := hrel
      have hsz := hb.size
      obtain ⟨ya, yc, hv, -⟩ := hU.ints.len
      rw [show ((ws.take k).map vl).length = k by rw [List.length_map, List.length_take]; omega] at hv
      subst hv
      have HU := Lib.hid hU; have HB := Lib.hid hb; have HPRE := Lib.hid hpre; have HW := Lib.hid hW
      by_cases hkl : k < ws.length
      · have hc := hW.cell k hkl
        have hki : (k : Int) < (ws.length : Int) := by omega
        have C := Lib.hid (HF.out wr ws[k] (List.getElem_mem hkl) (HG.out.same hb.block))
        cases hrb : ok ws[k]
        · have E : Hid (OK = false) := by
            show _ = _
            rw [HOK.out, all_no ok ws k hkl hrb, Bool.and_false]
          rw [hrb] at C
          clear hrb hU hb hpre hW
          generalize bs ws[k] = q at *
          generalize vl ws[k] = r0 at *
          go_wp2_with fail
          refine C.out.mono ?_
          rintro e w2 ⟨v2, r2, rfl, -, hr2, hb2⟩
          obtain ⟨pa, pn, pc, rfl⟩ := own_shape hr2
          go_wp2_with fail
          go_ret2
          exact ⟨_, [], [], by rw [E.out]; rfl, (fun h => by rw [E.out] at h; cases h), ownU_nil0 _ _, HB.out.trans (hb2.mono hsz)⟩
        · rw [hrb] at C
          have HRB := Lib.hid hrb
          by_cases hk3 : k = 2000
          · have E : Hid (OK = false) := by
              show _ = _
              rw [HOK.out, decide_eq_false (by omega)]; rfl
            have t1 := (eqB (show (k : Int) = 2000 by omega)).1
            clear hrb hU hb hpre hW hk3
            generalize bs ws[k] = q at *
            generalize vl ws[k] = r0 at *
            go_wp2_with fail
            refine C.out.mono ?_
            rintro e w2 ⟨v2, r2, rfl, -, hr2, hb2⟩
            obtain ⟨pa, pn, pc, rfl⟩ := own_shape hr2
            go_wp2_with fail
            go_ret2
            exact ⟨_, [], [], by rw [E.out]; rfl, (fun h => by rw [E.out] at h; cases h), ownU_nil0 _ _, HB.out.trans (hb2.mono hsz)⟩
          · have t1 := (neB (show (k : Int) ≠ 2000 by omega)).1
            have HS := Lib.hid (map_take_one vl ws k hkl)
            have HP2 : Hid (∀ j (hj : j < ws.length), j < k + 1 → ok ws[j] = true) := fun j hj hjk => by
              by_cases e : j = k
              · subst e; exact HRB.out
              · exact HPRE.out j hj (by omega)
            have HN : Hid (((ws.take k).map vl).length ≤ 4398046511104) := by show _ ≤ _; rw [List.length_map, List.length_take]; omega
            have hk4 : k + 1 ≤ 2000 := by omega
            clear hrb hU hb hpre hW hk3
            generalize bs ws[k] = q at *
            generalize vl ws[k] = r0 at *
            go_wp2_with fail
            refine C.out.mono ?_
            rintro e w2 ⟨v2, r2, rfl, hr, hr2, hb2⟩
            obtain rfl : r2 = r0 := by simpa using hr
            obtain ⟨pa, pn, pc, rfl⟩ := own_shape hr2
            have HW2 := Lib.hid (HW.out.same hb2.block); have HU2 := Lib.hid (HU.out.same hb2.block)
            clear hr
            go_wp2_with (at_builtin; refine append_rowU (wE := wr) rfl _ _ rfl w.heap.size _ _ us _ _ HU.out rfl hr2 hb2 HB.out hsz _ rfl rfl HN.out ?_; intro v3 w3 hU3 hb3 _ _ hk5 _; obtain ⟨sa, sn, sc, rfl⟩ := own_shape hU3.row)
            go_roundw
            case rel => exact ⟨k + 1, _, by omega, hk4, by go_num, HP2.out, by rw [HS.out]; exact hU3, HW2.out.app HU2.out.row hk5 (by decide), hb3⟩
            case measure => simp [intOf]; omega
      · obtain rfl : k = ws.length := by omega
        have E : Hid (OK = true) := by
          show _ = _
          rw [HOK.out, decide_eq_true hk2, all_take ok ws fun j hj => HPRE.out j hj hj]; rfl
        clear hU hb hpre hW
        go_wp2_with fail
        go_ret2
        refine ⟨_, us, (ws.take ws.length).map vl, by rw [E.out]; rfl, fun _ => by rw [List.take_length], HU.out, HB.out⟩
end Go.Proofs.YtalbbjhonkcbgaaGreatDoor

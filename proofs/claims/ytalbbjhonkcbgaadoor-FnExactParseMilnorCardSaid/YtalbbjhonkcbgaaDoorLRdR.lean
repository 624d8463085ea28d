/- Reading texts: of the reference: ParseMilnor. -/
import Derived.Test.YtalbbjhonkcbgaaDoorLRdM
import Derived.Test.YtalbbjhonkcbgaaDoorLRdS
import Derived.Test.YtalbbjhonkcbgaaDoorLApF
import Derived.Test.YtalbbjhonkcbgaaDoorLMilArg
namespace Go.Proofs.YtalbbjhonkcbgaaDoor
open Go.RowKit Go.Sort

theorem eq_one (t r : List UInt8) (h : t = r) : ((bs t).toList == r) = true := by
  rw [Go.Lib.toList_data, bs_data, h]; simp
theorem ne_one (t r : List UInt8) (h : t ≠ r) : ((bs t).toList == r) = false := by
  rw [Go.Lib.toList_data, bs_data]; simpa using h
theorem parB_no {x : List UInt8} (h : parB x = false) : x.length < 2 ∨ ∃ h2 : 2 ≤ x.length, x[0].toNat ≠ 40 ∨ (x[0].toNat = 40 ∧ x[x.length - 1].toNat ≠ 41) := by
  by_cases h2 : 2 ≤ x.length
  · right
    refine ⟨h2, ?_⟩
    by_cases h3 : x[0].toNat = 40
    · right
      refine ⟨h3, fun h4 => ?_⟩
      have e0 : x.getD 0 0 = 40 := by rw [show x.getD 0 0 = x[0] by simp [show 0 < x.length by omega]]; exact UInt8.toNat_inj.1 h3
      have e1 : x.getD (x.length - 1) 0 = 41 := by rw [show x.getD (x.length - 1) 0 = x[x.length - 1] by simp [show x.length - 1 < x.length by omega]]; exact UInt8.toNat_inj.1 h4
      have : parB x = true := by unfold parB; rw [e0, e1]; simp [h2]
      rw [this] at h; cases h
    · left; exact h3
  · left; omega
theorem parB_yes {x : List UInt8} (h : parB x = true) : ∃ h2 : 2 ≤ x.length, x[0].toNat = 40 ∧ x[x.length - 1].toNat = 41 := by
  have h2 := parB_len h
  simp only [parB, Bool.and_eq_true, decide_eq_true_eq, beq_iff_eq] at h
  refine ⟨h2, ?_, ?_⟩
  · rw [← show x.getD 0 0 = x[0] by simp [show 0 < x.length by omega], h.1.2]; rfl
  · rw [← show x.getD (x.length - 1) 0 = x[x.length - 1] by simp [show x.length - 1 < x.length by omega], h.2]; rfl
theorem all_no {α : Type} (p : α → Bool) (l : List α) (k : Nat) (hk : k < l.length) (h : p l[k] = false) : l.all p = false := by
  cases e : l.all p
  · rfl
  · rw [List.all_eq_true.1 e _ (List.getElem_mem hk)] at h; cases h
theorem all_take {α : Type} (p : α → Bool) (l : List α) (h : ∀ j (hj : j < l.length), p l[j] = true) : l.all p = true := by
  rw [List.all_eq_true]
  intro x hx
  obtain ⟨j, hj, rfl⟩ := List.getElem_of_mem hx
  exact h j hj
set_option maxRecDepth 100000 in
set_option maxHeartbeats 1000000 in
theorem l04Read_c (t : List UInt8) (hl : t.length ≤ 1048576) (w : World) :
    Calls Tryd.prog 9 #[.string (bs t)] w fun e w' => ∃ v xs, e = .returned (.tuple #[v, .bool (rfOk t)]) ∧ (rfOk t = true → xs = rfV t) ∧ IntSS w'.heap v xs ∧ Below w.heap.size w w' := by
  by_cases h0 : t = [48]
  · have e1 : rfOk t = true := by simp [rfOk, h0]
    have e2 : rfV t = [] := by simp [rfV, h0]
    have te := eq_one t [48] h0
    rw [e1, e2]
    clear e1 e2 h0
    generalize bs t = s at *
    go_enter Tryd.func9, Tryd.ntmps9
    go_wp2_with fail
    go_ret2
    exact ⟨_, [], rfl, fun _ => rfl, IntSS.nil _, Below.refl _ _⟩
  · have te := ne_one t [48] h0
    have e1 : rfOk t = (spl 43 t).all parB := by
      have : (t == [48]) = false := by simpa using h0
      simp [rfOk, this]
    have e2 : rfV t = (spl 43 t).map refV := if_neg h0
    have C := Lib.hid (l01Split_c 43 t (by omega) w)
    have hp := spl_pos 43 t
    have hle := spl_le 43 t
    have HWL := Lib.hid (spl_part 43 t)
    rw [e1, e2]
    clear e1 e2 h0
    generalize spl 43 t = ws at *
    generalize bs t = s at *
    obtain ⟨OK, hOK⟩ : ∃ b, b = ws.all parB := ⟨_, rfl⟩
    have HOK := Lib.hid hOK
    rw [← hOK]
    clear hOK
    go_enter Tryd.func9, Tryd.ntmps9
    go_wp2_with (go_at_call 17; refine C.out.mono ?_; rintro e w1 ⟨v1, rfl, hv1, hb1⟩; obtain ⟨g, cap, rfl, hgB, hgs, hcs⟩ := hv1.at hp; have HCS := Lib.hid hcs; have HB1 := Lib.hid hb1; have HZ1 := Lib.hid hb1.size; clear hv1 hcs hb1)
    go_loopw [5, 6] (fun o i wr => ∃ (k : Nat) (us : List Value), k ≤ ws.length ∧ i = .int .i64 k ∧ (∀ j (hj : j < ws.length), j < k → parB ws[j] = true) ∧ RefR wr w1.heap.size wr.heap o us ((ws.take k).map refV) ∧ Below w1.heap.size w1 wr) (fun _ i _ => ws.length - (intOf i).toNat)
    case atStart => exact ⟨0, [], Nat.zero_le _, rfl, fun _ _ h => by omega, ref_empty (B := w1.heap.size) _ (Nat.le_refl _), (Below.refl _ _).alloc (Nat.le_refl _) _⟩
    case round =>
      obtain ⟨k, us, hk, rfl, hpre, hR, hb⟩ := hrel
      have hsz := hb.size
      obtain ⟨ya, yn, yc, rfl⟩ := own_shape hR.row
      have HR := Lib.hid hR; have HB := Lib.hid hb; have HPRE := Lib.hid hpre
      by_cases hkl : k < ws.length
      · have hc := (hb.cell (p := ⟨g, k, none⟩) hgs).trans (HCS.out k hkl)
        have hki : (k : Int) < (ws.length : Int) := by omega
        have hwl := (HWL.out _ (List.getElem_mem hkl)).1
        cases hpb : parB ws[k]
        · have E := Lib.hid (HOK.out.trans (all_no parB ws k hkl hpb))
          have hno := parB_no hpb
          have hz := bs_size ws[k]
          clear hpb hR hb hpre
          rcases hno with h2 | ⟨h2, h3⟩
          · have t1 : decide ((ws[k].length : Int) < 2) = true := by simp; omega
            generalize ws[k].length = n at *
            generalize bs ws[k] = x at *
            go_wp2_with fail
            go_ret2
            exact ⟨_, [], by rw [E.out]; rfl, (fun h => by rw [E.out] at h; cases h), IntSS.nil _, HB1.out.trans (HB.out.mono HZ1.out)⟩
          · have t1 : decide ((ws[k].length : Int) < 2) = false := by simp; omega
            have hx0 : ∀ W, (Instr.index 9 (.string (bs ws[k])) (.int .i64 0)).run Tryd.prog W = .ok (.int .u8 (ws[k][0].toNat : Int)) W := fun W => idx_bs (P := Tryd.prog) 9 Tryd.underlying9 ws[k] 0 (by omega) W
            rcases h3 with h3 | ⟨h3, h4⟩
            · have t2 := neB (show ((ws[k][0].toNat : Nat) : Int) ≠ 40 by omega)
              obtain ⟨t3, t4⟩ := t2
              generalize ((ws[k][0].toNat : Nat) : Int) = y at *
              clear h3 h2
              generalize bs ws[k] = x at *
              generalize ws[k].length = n at *
              go_wp2_with fail
              go_ret2
              exact ⟨_, [], by rw [E.out]; rfl, (fun h => by rw [E.out] at h; cases h), IntSS.nil _, HB1.out.trans (HB.out.mono HZ1.out)⟩
            · obtain ⟨t3, t4⟩ := eqB (show ((ws[k][0].toNat : Nat) : Int) = 40 by omega)
              obtain ⟨t5, t6⟩ := neB (show ((ws[k][ws[k].length - 1].toNat : Nat) : Int) ≠ 41 by omega)
              have s1 : IntKind.i64.wrap ((ws[k].length : Int) - 1) = (ws[k].length : Int) - 1 := IntWalk.i64_in _ (by omega)
              have hx1 : ∀ W, (Instr.index 9 (.string (bs ws[k])) (.int .i64 ((ws[k].length : Int) - 1))).run Tryd.prog W = .ok (.int .u8 (ws[k][ws[k].length - 1].toNat : Int)) W := fun W => by
                have := idx_bs (P := Tryd.prog) 9 Tryd.underlying9 ws[k] (ws[k].length - 1) (by omega) W
                rwa [show (((ws[k].length - 1 : Nat)) : Int) = (ws[k].length : Int) - 1 by omega] at this
              generalize ((ws[k][0].toNat : Nat) : Int) = y at *
              generalize ((ws[k][ws[k].length - 1].toNat : Nat) : Int) = z at *
              clear h3 h4 h2
              generalize bs ws[k] = x at *
              generalize ws[k].length = n at *
              go_wp2_with fail
              go_ret2
              exact ⟨_, [], by rw [E.out]; rfl, (fun h => by rw [E.out] at h; cases h), IntSS.nil _, HB1.out.trans (HB.out.mono HZ1.out)⟩
        · obtain ⟨h2, h3, h4⟩ := parB_yes hpb
          have HPB := Lib.hid hpb
          have t1 : decide ((ws[k].length : Int) < 2) = false := by simp; omega
          have hx0 : ∀ W, (Instr.index 9 (.string (bs ws[k])) (.int .i64 0)).run Tryd.prog W = .ok (.int .u8 (ws[k][0].toNat : Int)) W := fun W => idx_bs (P := Tryd.prog) 9 Tryd.underlying9 ws[k] 0 (by omega) W
          obtain ⟨t3, t4⟩ := eqB (show ((ws[k][0].toNat : Nat) : Int) = 40 by omega)
          obtain ⟨t5, t6⟩ := eqB (show ((ws[k][ws[k].length - 1].toNat : Nat) : Int) = 41 by omega)
          have s1 : IntKind.i64.wrap ((ws[k].length : Int) - 1) = (ws[k].length : Int) - 1 := IntWalk.i64_in _ (by omega)
          have hx1 : ∀ W, (Instr.index 9 (.string (bs ws[k])) (.int .i64 ((ws[k].length : Int) - 1))).run Tryd.prog W = .ok (.int .u8 (ws[k][ws[k].length - 1].toNat : Int)) W := fun W => by
            have := idx_bs (P := Tryd.prog) 9 Tryd.underlying9 ws[k] (ws[k].length - 1) (by omega) W
            rwa [show (((ws[k].length - 1 : Nat)) : Int) = (ws[k].length : Int) - 1 by omega] at this
          have hsb : ∀ W, (Instr.slice 9 (.string (bs ws[k])) (some (.int .i64 1)) (some (.int .i64 ((ws[k].length : Int) - 1))) none).run Tryd.prog W = .ok (.string (bs (inn ws[k]))) W := fun W => by
            have := sub_bs (P := Tryd.prog) 9 Tryd.underlying9 ws[k] 1 (ws[k].length - 1) (by omega) (by omega) W
            rwa [show (((ws[k].length - 1 : Nat)) : Int) = (ws[k].length : Int) - 1 by omega, show ws[k].length - 1 - 1 = ws[k].length - 2 by omega] at this
          have HS := Lib.hid (map_take_one refV ws k hkl)
          have HP2 : Hid (∀ j (hj : j < ws.length), j < k + 1 → parB ws[j] = true) := fun j hj hjk => by
            by_cases e : j = k
            · subst e; exact HPB.out
            · exact HPRE.out j hj (by omega)
          have HN : Hid (((ws.take k).map refV).length < 4398046511104) := by show _ < _; rw [List.length_map, List.length_take]; omega
          have hc2 := Go.Lib.cell?_alloc_some (.cells #[] 2) hc
          have HBA := Lib.hid (HB.out.alloc hsz (.cells #[] 2))
          have HR0 := Lib.hid (HR.out.grownG (alloc_old wr (.cells #[] 2)))
          have hszA := HBA.out.size
          clear hpb hR hb hpre
          by_cases h5 : 2 < ws[k].length
          · have t7 : decide ((2 : Int) < (ws[k].length : Int)) = true := by simp; omega
            have e : refV ws[k] = (spl 44 (inn ws[k])).map valW := if_pos h5
            have RD := Lib.hid (fun W => l01Read_c 44 (inn ws[k]) (by unfold inn; rw [List.length_take, List.length_drop]; omega) W)
            rw [e] at HS
            clear e h5
            generalize ((ws[k][0].toNat : Nat) : Int) = y at *
            generalize ((ws[k][ws[k].length - 1].toNat : Nat) : Int) = z at *
            clear h3 h4 h2 hwl
            have hz := bs_size ws[k]
            generalize bs ws[k] = x at *
            generalize ws[k].length = n at *
            generalize (spl 44 (inn ws[k])).map valW = q at *
            go_wp2_with (first | (go_at_call 18; refine (RD.out _).mono ?_; rintro e w3 ⟨v3, rfl, hv3, hb3⟩; obtain ⟨pa, pn, pc, rfl⟩ := own_shape hv3; have hs3 := hb3.size; have HV3 := Lib.hid (hv3.ints.same (alloc_old w3 (.cells #[.slice pa pn pc] 39))); have HB3 := Lib.hid (HBA.out.trans (hb3.mono hszA)); have HRA := Lib.hid ((HR0.out.grownG hb3.block).grownG (alloc_old w3 (.cells #[.slice pa pn pc] 39))); clear hv3 hb3) | (at_builtin; refine append_refG (w0 := w1) rfl _ _ rfl w1.heap.size (.slice ya yn yc) (.slice pa pn pc) us _ _ HRA.out rfl HV3.out (HB3.out.alloc HB3.out.size _) (by have := HB3.out.size; simp; omega) w3.heap.size rfl (heap_alloc_new _ _) HN.out ?_; intro v4 us4 w4 hR4 hb4 hs4 hf4; obtain ⟨qa, qn, qc, rfl⟩ := own_shape hR4.row))
            go_roundw
            case rel => exact ⟨k + 1, us4, by omega, by go_num, HP2.out, by rw [HS.out]; exact hR4, hb4⟩
            case measure => simp [intOf]; omega
          · have t7 : decide ((2 : Int) < (ws[k].length : Int)) = false := by simp; omega
            have e : refV ws[k] = [] := if_neg h5
            rw [e] at HS
            clear e h5
            have HE : Hid (IntS ((wr.alloc (.cells #[] 2)).alloc (.cells #[.slice (some ⟨wr.heap.size, 0, none⟩) 0 0] 39)).heap (.slice (some ⟨wr.heap.size, 0, none⟩) 0 0) []) := (ownI_empty (B := wr.heap.size) (Nat.le_refl _)).ints.same (alloc_old _ _)
            have HRA := Lib.hid (HR0.out.grownG (alloc_old (wr.alloc (.cells #[] 2)) (.cells #[.slice (some ⟨wr.heap.size, 0, none⟩) 0 0] 39)))
            have HBB := Lib.hid (HBA.out.alloc hszA (.cells #[.slice (some ⟨wr.heap.size, 0, none⟩) 0 0] 39))
            generalize ((ws[k][0].toNat : Nat) : Int) = y at *
            generalize ((ws[k][ws[k].length - 1].toNat : Nat) : Int) = z at *
            clear h3 h4 h2 hwl
            have hz := bs_size ws[k]
            generalize bs ws[k] = x at *
            generalize ws[k].length = n at *
            go_wp2_with (at_builtin; refine append_refG (w0 := w1) rfl _ _ rfl w1.heap.size (.slice ya yn yc) (.slice (some ⟨wr.heap.size, 0, none⟩) 0 0) us _ [] HRA.out rfl HE.out HBB.out HBB.out.size (wr.heap.size + 1) rfl (by have := heap_alloc_new (wr.alloc (.cells #[] 2)) (.cells #[.slice (some ⟨wr.heap.size, 0, none⟩) 0 0] 39); rwa [size_alloc_w] at this) HN.out ?_; intro v4 us4 w4 hR4 hb4 hs4 hf4; obtain ⟨qa, qn, qc, rfl⟩ := own_shape hR4.row)
            go_roundw
            case rel => exact ⟨k + 1, us4, by omega, by go_num, HP2.out, by rw [HS.out]; exact hR4, hb4⟩
            case measure => simp [intOf]; omega
      · obtain rfl : k = ws.length := by omega
        have E : Hid (OK = true) := HOK.out.trans (all_take parB ws fun j hj => HPRE.out j hj hj)
        clear hR hb hpre
        go_wp2_with fail
        go_ret2
        refine ⟨_, (ws.take ws.length).map refV, by rw [E.out]; rfl, fun _ => by rw [List.take_length], HR.out.ints fun _ _ => rfl, HB1.out.trans (HB.out.mono HZ1.out)⟩
def pmB (t : List UInt8) : Bool := rfOk t && arT (rfV t)
def pmL (t : List UInt8) : List (List Int) := if pmB t then rfV t else []
def pmC (t : List UInt8) : Int := if pmB t then 0 else 6
set_option maxRecDepth 100000 in
set_option maxHeartbeats 1000000 in
theorem specParseMilnor_c (t : List UInt8) (hl : t.length ≤ 1048576) (w : World) :
    Calls Tryd.prog 4 #[.string (bs t)] w fun e w' => ∃ r, e = .returned (.tuple #[.agg #[r], .int .i64 (pmC t)]) ∧ IntSS w'.heap r (pmL t) ∧ Below w.heap.size w w' := by
  have hb0 : Below w.heap.size w (w.alloc (.cells #[.slice none 0 0] 24)) := (Below.refl _ _).alloc (Nat.le_refl _) _
  have k0 := Cell1.new w (.slice none 0 0) 24
  have C := Lib.hid (fun W => l04Read_c t hl W)
  have L := Lib.hid (fun v xs W (h : IntSS W.heap v xs) => l04Is_c v xs W h)
  have HC : Hid (pmC t = if (rfOk t && arT (rfV t)) = true then 0 else 6) := rfl
  have HL : Hid (pmL t = if (rfOk t && arT (rfV t)) = true then rfV t else []) := rfl
  generalize pmC t = pc at *
  generalize pmL t = pl at *
  generalize rfV t = rv at *
  generalize bs t = s at *
  have HB0 := Lib.hid hb0; have K0 := Lib.hid k0
  clear hb0 k0
  cases hO : rfOk t
  · rw [hO] at C HC HL
    obtain rfl : pc = 6 := HC.out
    obtain rfl : pl = [] := HL.out
    clear HC HL hO
    go_enter Tryd.func4, Tryd.ntmps4
    go_wp2_with fail
    refine (C.out _).mono ?_
    rintro e w1 ⟨v, xs, rfl, -, hI, hb1⟩
    obtain ⟨va, vc, rfl, -⟩ := hI.len
    have K1 := Lib.hid (K0.out.kept hb1.block)
    have HB1 := Lib.hid (HB0.out.trans (hb1.mono HB0.out.size))
    have K2 := Lib.hid (K1.out.kept (alloc_old w1 (.cells #[.slice va xs.length vc] 24)))
    have HB2 := Lib.hid (HB1.out.alloc HB1.out.size (.cells #[.slice va xs.length vc] 24))
    have q1 := K2.out.c0; have f1 := K2.out.free 0
    clear hI hb1 L
    go_wp2_with fail
    have g0 := (K2.out.set (.slice none 0 0)).c0
    exact bodyPost_ret (v := .tuple #[.agg #[.slice none 0 0], .int .i64 6]) (by simp [results, Tryd.results4, go_sem, g0]) rfl
      ⟨_, rfl, IntSS.nil _, HB2.out.setCell (Nat.le_refl _) _⟩
  · rw [hO] at C HC HL
    clear hO
    go_enter Tryd.func4, Tryd.ntmps4
    go_wp2_with fail
    refine (C.out _).mono ?_
    rintro e w1 ⟨v, xs, rfl, hx, hI, hb1⟩
    obtain rfl : xs = rv := by simpa using hx
    clear hx
    obtain ⟨va, vc, rfl, -⟩ := hI.len
    have HB1 := Lib.hid (HB0.out.trans (hb1.mono HB0.out.size))
    have K1 := Lib.hid (K0.out.kept hb1.block)
    have K2 := Lib.hid (K1.out.kept (alloc_old w1 (.cells #[.slice va xs.length vc] 24)))
    have N2 := Lib.hid (Cell1.new w1 (.slice va xs.length vc) 24)
    have HB2 := Lib.hid (HB1.out.alloc HB1.out.size (.cells #[.slice va xs.length vc] 24))
    have HI2 := Lib.hid (hI.same (alloc_old w1 (.cells #[.slice va xs.length vc] 24)))
    have q1 := K2.out.c0; have f1 := K2.out.free 0; have q2 := N2.out.c0
    have LL := Lib.hid (L.out _ _ _ HI2.out)
    clear hI hb1 L
    cases hA : arT xs
    · rw [hA] at LL HC HL
      obtain rfl : pc = 6 := HC.out
      obtain rfl : pl = [] := HL.out
      clear HC HL hA
      go_wp2_with fail
      refine LL.out.mono ?_
      rintro e w3 ⟨rfl, hb3⟩
      have K3 := Lib.hid (K2.out.kept hb3.block)
      have HB3 := Lib.hid (HB2.out.trans (hb3.mono HB2.out.size))
      have q1 := K3.out.c0; have f1 := K3.out.free 0
      clear hb3
      go_wp2_with fail
      have g0 := (K3.out.set (.slice none 0 0)).c0
      exact bodyPost_ret (v := .tuple #[.agg #[.slice none 0 0], .int .i64 6]) (by simp [results, Tryd.results4, go_sem, g0]) rfl
        ⟨_, rfl, IntSS.nil _, HB3.out.setCell (Nat.le_refl _) _⟩
    · rw [hA] at LL HC HL
      obtain rfl : pc = 0 := HC.out
      obtain rfl : pl = xs := HL.out
      clear HC HL hA
      go_wp2_with fail
      refine LL.out.mono ?_
      rintro e w3 ⟨rfl, hb3⟩
      have K3 := Lib.hid (K2.out.kept hb3.block)
      have N3 := Lib.hid (N2.out.kept hb3.block)
      have HB3 := Lib.hid (HB2.out.trans (hb3.mono HB2.out.size))
      have HI3 := Lib.hid (HI2.out.same hb3.block)
      have q1 := K3.out.c0; have f1 := K3.out.free 0; have q2 := N3.out.c0
      clear hb3
      go_wp2_with fail
      have g0 := (K3.out.set (.slice va pl.length vc)).c0
      exact bodyPost_ret (v := .tuple #[.agg #[.slice va pl.length vc], .int .i64 0]) (by simp [results, Tryd.results4, go_sem, g0]) rfl
        ⟨_, rfl, HI3.out.other K3.out (by decide) (by decide) _, HB3.out.setCell (Nat.le_refl _) _⟩
end Go.Proofs.YtalbbjhonkcbgaaDoor

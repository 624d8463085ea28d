/- Reading texts: of the reference: ParseDual, joined. -/
import Derived.Test.YtalbbjhonkcbgaaGreatDoorLRdX
import Derived.Test.YtalbbjhonkcbgaaGreatDoorLHeld2
import Derived.Test.YtalbbjhonkcbgaaGreatDoorLTxE
import Derived.Lib.SliceRun
import Derived.Deep.DeepCutAuto
import Derived.Deep.RegionLaw
namespace Go.Proofs.YtalbbjhonkcbgaaGreatDoor
open Go.RowKit Go.Sort Go.Deep

section
variable {ops : Array Oper} {o : Oper} {a : Act} {Q : Exit → Act → World → Prop} {K : Act → World → Prop} {E : Prop}
/-- 'append(out, row)' at a step of a region that draws. -/
theorem step_append_rowX {w w0 wE : World} (hg : o.guard = none) (s x : Operand)
    (ho : o.op = .call { callee := .builtin .append, args := #[s, x], argTypes := #[22, 22] })
    (B : Nat) (v u : Value) (us : List Value) (xss : List (List Int)) (xs : List Int) (hU : OwnU wE B v us xss) (hs : a.eval s = v) (hu : OwnI w wE.heap.size u xs) (hE : Below wE.heap.size wE w) (hbl : Below B w0 wE) (hB : B ≤ wE.heap.size)
    (b : Nat) (hx : a.eval x = .slice (some ⟨b, 0, none⟩) 1 1) (hb : w.heap[b]? = some (.cells #[u] 30 (0, 0))) (hn : xss.length < 4398046511104)
    (hK : ∀ v' w', OwnU w' B v' (us ++ [u]) (xss ++ [xs]) → Below B w0 w' → w.heap.size ≤ w'.heap.size → (∀ b, b < w.heap.size → some b ≠ v.ownBlock → w'.heap[b]? = w.heap[b]?) → K (a.put o.dst v') w') :
    if Region.wanted o (yielded ops a.tmps) = true then Oper.wp Tryz.prog o a w K Q else E := by
  obtain ⟨i0, hi, hz0, hz1, hz2⟩ := info_parts info_slI
  refine step_append_all hg s x _ ho B _ i0 _ 24 Tryz.underlying22 hi hz0 hz1 hz2 rfl (by omega) v _ _ _ [u] (own_same hU.row hE.block) hs (slAt_one hb) hx (hbl.trans (hE.mono hB)) (Nat.le_trans hB hE.size) (fun z hz => ?_) (by simp; omega) ?_
  · rw [List.mem_singleton] at hz; rw [hz]; exact own_oneCell hu
  · intro v' w' h1 h2 h3 h4
    exact hK v' w' (OwnU.append hU hE hB hu (by simpa using h1) h4) h2 h3 h4
end
section
variable {P : Program} {ops : Array Oper} {o : Oper} {a : Act} {Q : Exit → Act → World → Prop} {K : Act → World → Prop} {E : Prop}
/-- A call of a Go function of one argument that makes memory, at a step of a region that draws. -/
theorem step_callX {w : World} (hg : o.guard = none) (f : FuncId) (s : Operand) (t : TypeId)
    (ho : o.op = .call { callee := .value (.func f), args := #[s], argTypes := #[t] }) (R : Value → World → Prop)
    (hE : Enters P f) (v1 : Value) (h1 : a.eval s = v1) (hC : Calls P f #[v1] w fun e w' => ∃ v, e = .returned v ∧ R v w') (hK : ∀ v w', R v w' → K (a.put o.dst v) w') :
    if Region.wanted o (yielded ops a.tmps) = true then Oper.wp P o a w K Q else E := by
  subst h1
  have hw : Region.wanted o (yielded ops a.tmps) = true := by simp [Region.wanted, hg]
  rw [if_pos hw]
  unfold Oper.wp
  have hE' : ∀ args, Sem.run P (callFunc f args) w = .ok (.enter f args) w := fun args => hE args w
  have hf : a.eval (.func f) = .func (.func f) #[] #[] := rfl
  simp [execOp, ho, resolve, invoke, hf, Deferred.ofValue, hE']
  exact Calls.mono hC fun e w' ⟨v, he, hw⟩ => by subst he; exact hK v w' hw
end
theorem own_pastX {w w' : World} {B B' e e' n n' : Nat} {v v' : Value} {us us' : List Value} (h : w.ownsRow B e 1 v n us) (hr : w.ownsRow B' e' 1 v' n' us') (ne : e ≠ e') (k : ∀ b, b < w.heap.size → some b ≠ v'.ownBlock → w'.heap[b]? = w.heap[b]?) : w'.ownsRow B e 1 v n us := by
  refine own_kept h fun b hb => k b (World.ownsRow.lt h b hb).2 ?_
  rcases own_ne_types h hr ne with e | e
  · rw [e] at hb; cases hb
  · rw [← hb]; exact e
theorem own_ne_cellX {w : World} {B e g t n : Nat} {v x : Value} {us : List Value} (h : w.ownsRow B e 1 v n us) (k : Cell1 w g x t) (ne : e ≠ t) : v.ownBlock ≠ some g := by
  intro hb
  rcases h.2 with ⟨rfl, _⟩ | ⟨g', cap, cur, rfl, _, hg, _⟩
  · cases hb
  · simp only [Value.ownBlock, Option.some.injEq] at hb
    subst hb
    rw [show w.heap[g']? = _ from k] at hg
    simp only [Option.some.injEq, Obj.cells.injEq] at hg
    exact ne hg.2.1.symm
theorem own_setX {w : World} {B e n G j t : Nat} {v x : Value} {us : List Value} (h : w.ownsRow B e 1 v n us) (k : Cell1 w G x t) (ne : e ≠ t) (u : Value) : (w.setCell ⟨G, j, none⟩ u).ownsRow B e 1 v n us :=
  own_kept h fun b hb => Below.heap_setCell _ _ _ _ (by show b ≠ G; intro e2; exact own_ne_cellX h k ne (by rw [hb, e2]))
theorem OwnU.setX {w : World} {B g t : Nat} {v x : Value} {us : List Value} {xss : List (List Int)} (h : OwnU w B v us xss) (k : Cell1 w g x t) (n1 : 30 ≠ t) (n2 : 2 ≠ t) (u : Value) : OwnU (w.setCell ⟨g, 0, none⟩ u) B v us xss :=
  ⟨own_setX h.row k n1 u, fun i y xs hy hx => own_setX (h.each i y xs hy hx) k n2 u, h.apart⟩
theorem enters_l06Read : Enters Tryz.prog 16 := fun args w => by kernel_rfl
theorem rfT_zero {t : List UInt8} (h : t = [48]) : rfT t = [] := if_pos h
theorem rfT_ne {t : List UInt8} (h : t ≠ [48]) : rfT t = ((spl 43 t).take 2001).map lrd := if_neg h
set_option maxRecDepth 100000 in
set_option maxHeartbeats 4000000 in
theorem specParseDual_c (t : List UInt8) (hl : t.length ≤ 1048576) (w : World) :
    Calls Tryz.prog 5 #[.string (bs t)] w fun e w' => ∃ r, e = .returned (.tuple #[.agg #[r], .int .i64 (pduC t)]) ∧ IntSS w'.heap r (pduL t) ∧ Below w.heap.size w w' := by
  obtain ⟨W0, hW0⟩ : ∃ W0, W0 = w.alloc (.cells #[.slice none 0 0] 24) := ⟨_, rfl⟩
  obtain ⟨W1, hW1⟩ : ∃ W1, W1 = W0.alloc (.cells #[.slice none 0 0] 24) := ⟨_, rfl⟩
  obtain ⟨G, hG⟩ : ∃ G, G = W0.heap.size := ⟨_, rfl⟩
  have hb0 : Below w.heap.size w W0 := by rw [hW0]; exact (Below.refl _ _).alloc (Nat.le_refl _) _
  have HR0 : Hid (Cell1 W0 w.heap.size (.slice none 0 0) 24) := by show Cell1 _ _ _ _; rw [hW0]; exact Cell1.new _ _ _
  have HX1 : Hid (Below W0.heap.size W0 W1) := by show Below _ _ _; rw [hW1]; exact (Below.refl _ _).alloc (Nat.le_refl _) _
  have HV1 : Hid (Cell1 W1 G (.slice none 0 0) 24) := by show Cell1 _ _ _ _; rw [hW1, hG]; exact Cell1.new _ _ _
  have KR : Hid (∀ W, Below W0.heap.size W0 W → Cell1 W w.heap.size (.slice none 0 0) 24) := fun W h => HR0.out.behind h
  have KB : Hid (∀ W, Below W0.heap.size W0 W → Below w.heap.size w W) := fun W h => hb0.trans (h.mono hb0.size)
  have hGe : W0.heap.size ≤ G := by omega
  have HGE := Lib.hid hGe
  have HW1 := Lib.hid hW1; have HW0 := Lib.hid hW0
  have HG : Hid (w.heap.size + 1 = G) := by show _ = _; rw [hG, hW0]; simp
  have HE : Hid (pduB t = (arT (rfT t) && (sumW mtW (rfT t) == t))) := rfl
  have HC : Hid (pduC t = if pduB t = true then 0 else 6) := rfl
  have HL : Hid (pduL t = if pduB t = true then rfT t else []) := rfl
  have HEQ : Hid (∀ r : List UInt8, (r == t) = ((bs r).toList == (bs t).toList)) := fun r => by rw [Go.Lib.toList_data, Go.Lib.toList_data, bs_data, bs_data]
  clear hb0 hW0 hW1 hG hGe
  generalize pduC t = pc at *
  generalize pduL t = pl at *
  generalize pduB t = pb at *
  have RL := Lib.hid (fun x hx W => l06Read_c x hx W)
  go_enter Tryz.func5, Tryz.ntmps5
  go_upto_if 9 with fail
  rw [← HW0.out, ← HW1.out, HG.out]
  clear HW0 HW1 HG HR0
  go_cut [4] (fun p wx => ∃ (W : World) (v : Value) (us : List Value), W = wx ∧ p = .pointer (some ⟨G, 0, none⟩) ∧ OwnU wx W0.heap.size v us (rfT t) ∧ Cell1 wx G v 24 ∧ Below W0.heap.size W0 wx)
  case first =>
    by_cases h0 : t = [48]
    · have e0 : (!((bs t).toList == [48])) = false := by rw [eq_one t [48] h0]; rfl
      rw [e0]
      have E3 := Lib.hid (rfT_zero h0)
      clear h0 e0 RL HEQ HE HC HL KR KB hl
      generalize rfT t = rf at *
      generalize bs t = s at *
      go_wp2_with fail
      go_meet
      exact ⟨_, .slice none 0 0, [], rfl, rfl, by rw [E3.out]; exact ownU_nil0 _ _, HV1.out, HX1.out⟩
    · have e0 : (!((bs t).toList == [48])) = true := by rw [ne_one t [48] h0]; rfl
      rw [e0]
      have E3 := Lib.hid (rfT_ne h0)
      have SP := Lib.hid (l01Split_c 43 t (by omega) W1)
      have hp := spl_pos 43 t
      have hle := spl_le 43 t
      have HWL : Hid (∀ x ∈ spl 43 t, x.length ≤ 1048576) := fun x hx => by have := (spl_part 43 t x hx).1; omega
      clear h0 e0 HEQ HE HC HL KR KB hl
      generalize rfT t = rf at *
      generalize spl 43 t = ws at *
      generalize bs t = s at *
      go_wp2_with (go_at_call 15; refine SP.out.mono ?_; rintro e w3 ⟨v3, rfl, hv3, hb3⟩; obtain ⟨q, cap3, rfl, hqB, hqs, hcq⟩ := hv3.at hp; have HQ := Lib.hid hv3; have HV3 := Lib.hid (HV1.out.kept hb3.block); have HX3 := Lib.hid (HX1.out.trans (hb3.mono HX1.out.size)); have hG3 := HV3.out.lt; clear hv3 hcq hb3)
      go_loopw [6] (fun i wr => ∃ (k : Nat) (v : Value) (us : List Value), k ≤ ws.length ∧ k ≤ 2001 ∧ i = .int .i64 k ∧ OwnU wr W0.heap.size v us ((ws.take k).map lrd) ∧ Cell1 wr G v 24 ∧ OwnW wr W1.heap.size (.slice (some ⟨q, 0, none⟩) ws.length cap3) ws ∧ Below W0.heap.size W0 wr ∧ w3.heap.size ≤ wr.heap.size) (fun i _ => ws.length - (intOf i).toNat)
      case atStart => exact ⟨0, .slice none 0 0, [], Nat.zero_le _, Nat.zero_le _, rfl, ownU_nil0 _ _, HV3.out, HQ.out, HX3.out, Nat.le_refl _⟩
      case round =>
        clear HV3 HX3 HQ HV1 HX1
        obtain ⟨k, v, us, hk, hk2, rfl, hU, hV, hQ, hx, hsw⟩ := hrel
        have hsz := hx.size
        obtain ⟨ya, yn, yc, rfl⟩ := own_shape hU.row
        have HU := Lib.hid hU; have HV := Lib.hid hV; have HX := Lib.hid hx; have HQ := Lib.hid hQ
        by_cases hkl : k < ws.length
        · by_cases hk3 : k ≤ 2000
          · have hc : wr.cell? ⟨q, k, none⟩ = some (.string (bs ws[k])) := by
              obtain ⟨g', cap', hv, -, -, hcell⟩ := hQ.at hp
              simp only [Value.slice.injEq, Option.some.injEq, Addr.mk.injEq, and_true, true_and] at hv
              obtain ⟨rfl, rfl⟩ := hv
              exact hcell k hkl
            have hki : (k : Int) < (ws.length : Int) := by omega
            have hki2 : (k : Int) ≤ 2000 := by omega
            have RD := Lib.hid (RL.out ws[k] (HWL.out _ (List.getElem_mem hkl)) wr.drew)
            have HS := Lib.hid (map_take_one lrd ws k hkl)
            have HN : Hid (((ws.take k).map lrd).length < 4398046511104) := by show _ < _; rw [List.length_map, List.length_take]; omega
            have d1 := hV.c0
            clear hU hV hx hQ
            generalize bs ws[k] = s1 at *
            generalize lrd ws[k] = r1 at *
            have HNA := Lib.hid (own_ne_cellX HU.out.row HV.out (by decide))
            have HGL := Lib.hid (HV.out.lt)
            go_wp2_with fail
            go_region_law (first | (refine step_callX (by rfl) 16 (.tmp 27) 9 (by rfl) (fun v w' => OwnI w' wr.heap.size v r1 ∧ Below wr.heap.size wr.drew w') enters_l06Read (.string s1) (by rfl) (by exact RD.out) ?_; rintro v4 w4 ⟨hv4, hb4⟩; obtain ⟨pa4, pn4, pc4, rfl⟩ := own_shape hv4; have hb4' : Below wr.heap.size wr w4 := ((Below.refl _ _).drew).trans hb4; have V4 := HV.out.kept hb4'.block; have d4 := V4.c0; have f4 := V4.free 0; have d4a : ∀ o, (w4.alloc o).cell? ⟨G, 0, none⟩ = some (.slice ya yn yc) := fun o => Go.Lib.cell?_alloc_some o d4) | (refine step_append_rowX (w0 := W0) (wE := wr) (by rfl) (.tmp 23) (.tmp 29) (by rfl) W0.heap.size (.slice ya yn yc) (.slice pa4 pn4 pc4) us _ r1 HU.out (by rfl) (by exact OwnI.same hv4 (alloc_old _ _)) (by exact hb4'.alloc hb4'.size _) HX.out hsz w4.heap.size (by rfl) (by exact heap_alloc_new w4 _) HN.out ?_; intro v5 w5 hU5 hb5 hs5 h45; obtain ⟨sa5, sn5, sc5, rfl⟩ := own_shape hU5.row; have hb4a := hb4'.alloc hb4'.size (.cells #[.slice pa4 pn4 pc4] 30); have V5 := (HV.out.kept hb4a.block).same (h45 G (by have := HGL.out; have := hb4a.size; omega) (fun e => HNA.out e.symm)); have d5 := V5.c0; have f5 := V5.free 0))
            all_goals
              have AR := Lib.hid (own_same HU.out.row hb4a.block)
              have QW := Lib.hid (own_pastX (own_same HQ.out hb4a.block) AR.out (by decide) h45)
              have HV5 := Lib.hid V5; have HU5 := Lib.hid hU5; have HB5 := Lib.hid hb5; have HZ5 := Lib.hid (show wr.heap.size ≤ w5.heap.size by have := hb4a.size; omega)
              clear V5 hU5 hb5 h45 hb4a hb4 hb4' V4 d4a hv4
              go_wp2_with fail
              go_roundw
              case rel => exact ⟨k + 1, .slice sa5 sn5 sc5, us ++ [.slice pa4 pn4 pc4], by omega, by omega, by go_num, by rw [HS.out]; exact OwnU.setX HU5.out HV5.out (by decide) (by decide) _, HV5.out.set _, own_setX QW.out HV5.out (by decide) _, HB5.out.setCell HGE.out _, by have := HZ5.out; simp; omega⟩
              case measure => simp [intOf]; omega
          · obtain rfl : k = 2001 := by omega
            have hki : ((2001 : Nat) : Int) < (ws.length : Int) := by omega
            have HR : Hid (rf = (ws.take 2001).map lrd) := E3.out
            clear hU hV hx hQ E3
            rw [← HR.out] at HU
            go_wp2_with fail
            go_meet
            exact ⟨_, _, us, rfl, rfl, HU.out, HV.out, HX.out⟩
        · obtain rfl : k = ws.length := by omega
          have HR : Hid (rf = (ws.take ws.length).map lrd) := by show _ = _; rw [E3.out, List.take_of_length_le hk2, List.take_length]
          clear hU hV hx hQ E3
          rw [← HR.out] at HU
          go_wp2_with fail
          go_meet
          exact ⟨_, _, us, rfl, rfl, HU.out, HV.out, HX.out⟩
  case rest =>
    obtain ⟨W6, v, us, hWe, rfl, hU, hV, hx⟩ := hcut
    subst hWe
    obtain ⟨ya, yn, yc, rfl⟩ := own_shape hU.row
    have HU := Lib.hid hU; have HV := Lib.hid hV; have HR := Lib.hid (KR.out _ hx); have HB := Lib.hid (KB.out _ hx)
    have q0 := HR.out.c0; have f0 := HR.out.free 0; have p0 := hV.c0
    have IM := Lib.hid (l06Is_c (.slice ya yn yc) (rfT t) W6 hU.ints)
    clear hU hV hx HX1 HV1 RL hl KR KB
    cases hA : arT (rfT t)
    · rw [hA] at IM HE
      obtain rfl : pb = false := HE.out
      obtain rfl : pc = 6 := HC.out
      obtain rfl : pl = [] := HL.out
      clear HC HL HE HEQ hA
      generalize rfT t = rf at *
      generalize bs t = s at *
      go_wp2_with fail
      refine IM.out.mono ?_
      rintro e w7 ⟨rfl, hb7⟩
      have HR7 := Lib.hid (HR.out.kept hb7.block); have HB7 := Lib.hid (HB.out.trans (hb7.mono HB.out.size)); have HV7 := Lib.hid (HV.out.kept hb7.block)
      have q0 := HR7.out.c0; have f0 := HR7.out.free 0; have p0 := HV7.out.c0
      clear hb7
      go_wp2_with fail
      have g0 := (HR7.out.set (.slice none 0 0)).c0
      exact bodyPost_ret (v := .tuple #[.agg #[.slice none 0 0], .int .i64 6]) (by simp [results, Tryz.results5, go_sem, g0]) rfl
        ⟨_, rfl, IntSS.nil _, HB7.out.setCell (Nat.le_refl _) _⟩
    · rw [hA] at IM HE
      have TX := Lib.hid (fun v W (h : IntSS W.heap v (rfT t)) => l06Text_c v (rfT t) W h hA)
      have HE2 : Hid (pb = ((bs (sumW mtW (rfT t))).toList == (bs t).toList)) := by show _ = _; rw [HE.out, Bool.true_and]; exact HEQ.out _
      clear HE HEQ hA
      generalize bs (sumW mtW (rfT t)) = sx at *
      generalize rfT t = rf at *
      generalize bs t = s at *
      go_wp2_with fail
      refine IM.out.mono ?_
      rintro e w7 ⟨rfl, hb7⟩
      have HR7 := Lib.hid (HR.out.kept hb7.block); have HB7 := Lib.hid (HB.out.trans (hb7.mono HB.out.size)); have HV7 := Lib.hid (HV.out.kept hb7.block); have HU7 := Lib.hid (HU.out.same hb7.block)
      clear q0 f0 p0
      have p0 := HV7.out.c0
      clear hb7 HU HV HR HB
      cases hE : (sx.toList == s.toList)
      · rw [hE] at HE2
        obtain rfl : pb = false := HE2.out
        obtain rfl : pc = 6 := HC.out
        obtain rfl : pl = [] := HL.out
        have hE3 : (sx.toList != s.toList) = true := by rw [bne, hE]; rfl
        go_wp2_with (go_at_call 18; refine (TX.out _ _ HU7.out.ints).mono ?_; rintro e w8 ⟨rfl, hb8⟩; have HR8 := Lib.hid (HR7.out.kept hb8.block); have HB8 := Lib.hid (HB7.out.trans (hb8.mono HB7.out.size)); have q0 := HR8.out.c0; have f0 := HR8.out.free 0; clear hb8)
        have g0 := (HR8.out.set (.slice none 0 0)).c0
        exact bodyPost_ret (v := .tuple #[.agg #[.slice none 0 0], .int .i64 6]) (by simp [results, Tryz.results5, go_sem, g0]) rfl
          ⟨_, rfl, IntSS.nil _, HB8.out.setCell (Nat.le_refl _) _⟩
      · rw [hE] at HE2
        obtain rfl : pb = true := HE2.out
        obtain rfl : pc = 0 := HC.out
        obtain rfl : pl = rf := HL.out
        have hE3 : (sx.toList != s.toList) = false := by rw [bne, hE]; rfl
        go_wp2_with (go_at_call 18; refine (TX.out _ _ HU7.out.ints).mono ?_; rintro e w8 ⟨rfl, hb8⟩; have HR8 := Lib.hid (HR7.out.kept hb8.block); have HB8 := Lib.hid (HB7.out.trans (hb8.mono HB7.out.size)); have HV8 := Lib.hid (HV7.out.kept hb8.block); have HU8 := Lib.hid (HU7.out.same hb8.block); have q0 := HR8.out.c0; have f0 := HR8.out.free 0; have p1 := HV8.out.c0; clear hb8)
        have g0 := (HR8.out.set (.slice ya yn yc)).c0
        exact bodyPost_ret (v := .tuple #[.agg #[.slice ya yn yc], .int .i64 0]) (by simp [results, Tryz.results5, go_sem, g0]) rfl
          ⟨_, rfl, (HU8.out.setX HR8.out (by decide) (by decide) _).ints, HB8.out.setCell (Nat.le_refl _) _⟩
end Go.Proofs.YtalbbjhonkcbgaaGreatDoor

/- The sum of two modules: of the reference. -/
import Derived.Test.YtljfpkhgijangaaLSumP
import Derived.Test.YtljfpkhgijangaaLSrt
import Derived.Test.YtljfpkhgijangaaLSus
import Derived.Test.YtljfpkhgijangaaLCopy
import Derived.Test.YtljfpkhgijangaaLHeld
import Derived.Test.YtljfpkhgijangaaLStep2
import Derived.Test.YtljfpkhgijangaaLModArg
import Derived.Test.YtljfpkhgijangaaLGen
namespace Go.Proofs.Ytljfpkhgijangaa
open Go.RowKit Go.Sort

section
variable {ops : Array Oper} {o : Oper} {a : Act} {Q : Exit → Act → World → Prop} {K : Act → World → Prop} {E : Prop}
/-- 'append(out, list...)', slices of int64. -/
theorem step_append_ints {w w0 : World} (hg : o.guard = none) (s x : Operand)
    (ho : o.op = .call { callee := .builtin .append, args := #[s, x], argTypes := #[27, 27] })
    (B : Nat) (v vx : Value) (xs ys : List Int) (hown : OwnI w B v xs) (hs : a.eval s = v) (hR : IntS w.heap vx ys) (hx : a.eval x = vx) (hbl : Below B w0 w) (hB : B ≤ w.heap.size)
    (hn : xs.length + ys.length ≤ 4398046511104)
    (hK : ∀ v' w', OwnI w' B v' (xs ++ ys) → Below B w0 w' → w.heap.size ≤ w'.heap.size → (∀ b, b < w.heap.size → some b ≠ v.ownBlock → w'.heap[b]? = w.heap[b]?) → K (a.put o.dst v') w') :
    if Region.wanted o (yielded ops a.tmps) = true then Oper.wp Try.prog o a w K Q else E := by
  obtain ⟨i0, hi, hz0, hz1, hz2⟩ := info_parts info_int64
  refine step_append_all hg s x _ ho B _ i0 _ 8 Try.underlying27 hi hz0 hz1 hz2 rfl (by omega) v vx _ _ _ hown hs hR hx hbl hB (ints_oneCell _ _) (by simpa using hn) ?_
  intro v' w' h1 h2 h3 h4
  exact hK v' w' (by unfold OwnI; simpa using h1) h2 h3 h4
end
theorem heldFar2 {x1 x2 : Value} {g1 g2 : Addr} {W : World} {g : Nat} (h : W.cell? g1 = some x1 ∧ W.cell? g2 = some x2) (n1 : g1.block ≠ g) (n2 : g2.block ≠ g) (i j : Nat) (u v : Value) :
    ((W.setCell ⟨g, i, none⟩ u).setCell ⟨g, j, none⟩ v).cell? g1 = some x1 ∧ ((W.setCell ⟨g, i, none⟩ u).setCell ⟨g, j, none⟩ v).cell? g2 = some x2 :=
  ⟨(cell_far _ n1).trans ((cell_far _ n1).trans h.1), (cell_far _ n2).trans ((cell_far _ n2).trans h.2)⟩
def sumE (d1 : List Int) (a1 : List (List Int)) (d2 : List Int) (a2 : List (List Int)) : Int := if sumOk d1 a1 d2 a2 then 0 else 1
set_option maxRecDepth 100000 in
theorem l11Code_c (d a d' a' : Value) (d1 : List Int) (a1 : List (List Int)) (d2 : List Int) (a2 : List (List Int)) (w : World) (h : ModS w.heap d a d1 a1) (h' : ModS w.heap d' a' d2 a2) :
    Calls Try.prog 121 #[.agg #[d, a], .agg #[d', a']] w fun e w' => e = .returned (.int .i64 (sumE d1 a1 d2 a2)) ∧ Below w.heap.size w w' := by
  obtain ⟨w0, hw0⟩ : ∃ w0, w0 = (w.alloc (.cells #[d, a] 60)).alloc (.cells #[d', a'] 60) := ⟨_, rfl⟩
  have hb : Below w.heap.size w w0 := by rw [hw0]; exact ((Below.refl _ _).alloc (Nat.le_refl _) _).alloc (by simp) _
  have V2 : Var2 w0 (w.heap.size + 1) d' a' 60 := by
    rw [hw0]
    have := Var2.new (w.alloc (.cells #[d, a] 60)) d' a' 60
    rwa [size_alloc_w] at this
  have I1 := Lib.hid (l11Is_c d a d1 a1 w0 (h.same hb.block))
  have I2 := Lib.hid (fun (W : World) (h : ModS W.heap d' a' d2 a2) => l11Is_c d' a' d2 a2 W h)
  obtain ⟨ao, ac, hdv, -⟩ := h.1.len
  obtain ⟨bo, bc, hav, -⟩ := h.2.len
  obtain ⟨ao', ac', hdv', -⟩ := h'.1.len
  obtain ⟨bo', bc', hav', -⟩ := h'.2.len
  subst hdv; subst hav; subst hdv'; subst hav'
  have H2 := Lib.hid h'; have HB0 := Lib.hid hb; have HV2 := Lib.hid V2; have HW := Lib.hid hw0
  clear h h' hb V2 hw0
  have k3 := HV2.out.c0; have k4 := HV2.out.c1
  cases hM1 : isMod d1 a1
  · have e : sumE d1 a1 d2 a2 = 1 := by simp [sumE, sumOk, hM1]
    rw [hM1] at I1
    rw [e]
    clear hM1 e I2
    go_enter Try.func121, Try.ntmps121
    go_wp2_with fail
    rw [← HW.out]
    refine I1.out.mono ?_
    rintro e w1 ⟨rfl, hb1⟩
    go_wp2_with fail
    go_ret
    exact ⟨rfl, HB0.out.trans (hb1.mono HB0.out.size)⟩
  · rw [hM1] at I1
    have HE : Hid (sumE d1 a1 d2 a2 = if isMod d2 a2 then 0 else 1) := by show _ = _; simp [sumE, sumOk, hM1]
    rw [HE.out]
    clear hM1 HE
    cases hM2 : isMod d2 a2
    · rw [hM2] at I2
      clear hM2
      go_enter Try.func121, Try.ntmps121
      go_wp2_with fail
      rw [← HW.out]
      refine I1.out.mono ?_
      rintro e w1 ⟨rfl, hb1⟩
      have HB1 := Lib.hid (HB0.out.trans (hb1.mono HB0.out.size))
      have V2 := HV2.out.kept hb1.block
      have c3 := V2.c0; have c4 := V2.c1
      clear hb1 HW V2 k3 k4
      go_wp2_with fail
      refine (I2.out _ (H2.out.same HB1.out.block)).mono ?_
      rintro e w2 ⟨rfl, hb2⟩
      go_wp2_with fail
      go_ret
      exact ⟨rfl, HB1.out.trans (hb2.mono HB1.out.size)⟩
    · rw [hM2] at I2
      clear hM2
      go_enter Try.func121, Try.ntmps121
      go_wp2_with fail
      rw [← HW.out]
      refine I1.out.mono ?_
      rintro e w1 ⟨rfl, hb1⟩
      have HB1 := Lib.hid (HB0.out.trans (hb1.mono HB0.out.size))
      have V2 := HV2.out.kept hb1.block
      have c3 := V2.c0; have c4 := V2.c1
      clear hb1 HW V2 k3 k4
      go_wp2_with fail
      refine (I2.out _ (H2.out.same HB1.out.block)).mono ?_
      rintro e w2 ⟨rfl, hb2⟩
      go_wp2_with fail
      go_ret
      exact ⟨rfl, HB1.out.trans (hb2.mono HB1.out.size)⟩
theorem shf_take (L : Nat) (a2 : List (List Int)) (k : Nat) (hk : k < a2.length) (p q s : Int) (he : a2[k] = [p, q, s]) : (a2.take (k + 1)).map (shfR L) = (a2.take k).map (shfR L) ++ [[p, q + L, s + L]] := by
  rw [List.take_succ_eq_append_getElem hk, List.map_append, he]; rfl
theorem row_trip {ds : List Int} {act : List (List Int)} (h : modT ds act = true) (x : List Int) (hx : x ∈ act) : ∃ n b c : Nat, b < ds.length ∧ c < ds.length ∧ x = [(n : Int), (b : Int), (c : Int)] := by
  obtain ⟨n, b, c, -, -, h1, h2, h3⟩ := modT_trp h x hx
  exact ⟨n, b, c, h1, h2, h3⟩
set_option maxRecDepth 100000 in
set_option maxHeartbeats 4000000 in
theorem specSumOfModules_c (d a d' a' : Value) (d1 : List Int) (a1 : List (List Int)) (d2 : List Int) (a2 : List (List Int)) (w : World) (h : ModS w.heap d a d1 a1) (h' : ModS w.heap d' a' d2 a2) :
    Calls Try.prog 51 #[.agg #[d, a], .agg #[d', a']] w fun e w' => ∃ r s, e = .returned (.tuple #[.agg #[r, s], .int .i64 (sumC d1 a1 d2 a2)]) ∧ ModS w'.heap r s (sumD d1 a1 d2 a2) (sumA d1 a1 d2 a2) ∧ Below w.heap.size w w' := by
  obtain ⟨w0, hw0⟩ : ∃ w0, w0 = ((w.alloc (.cells #[d, a] 60)).alloc (.cells #[d', a'] 60)).alloc (.cells #[.slice none 0 0, .slice none 0 0] 60) := ⟨_, rfl⟩
  have hb : Below w.heap.size w w0 := by rw [hw0]; exact (((Below.refl _ _).alloc (Nat.le_refl _) _).alloc (by simp) _).alloc (by simp; omega) _
  have hsz : w0.heap.size = w.heap.size + 3 := by rw [hw0]; simp
  have V1 : Var2 w0 w.heap.size d a 60 := by rw [hw0]; exact ((Var2.new w _ _ _).kept (alloc_old _ _)).kept (alloc_old _ _)
  have V2 : Var2 w0 (w.heap.size + 1) d' a' 60 := by
    rw [hw0]
    have := (Var2.new (w.alloc (.cells #[d, a] 60)) d' a' 60).kept (alloc_old _ (.cells #[.slice none 0 0, .slice none 0 0] 60))
    rwa [size_alloc_w] at this
  have V3 : Var2 w0 (w.heap.size + 1 + 1) (.slice none 0 0) (.slice none 0 0) 60 := by
    rw [hw0]
    have := Var2.new ((w.alloc (.cells #[d, a] 60)).alloc (.cells #[d', a'] 60)) (.slice none 0 0) (.slice none 0 0) 60
    rwa [size_alloc_w, size_alloc_w] at this
  have I := Lib.hid (l11Code_c d a d' a' d1 a1 d2 a2 w0 (h.same hb.block) (h'.same hb.block))
  obtain ⟨ao, ac, hdv, -⟩ := h.1.len
  obtain ⟨bo, bc, hav, -⟩ := h.2.len
  obtain ⟨ao', ac', hdv', -⟩ := h'.1.len
  obtain ⟨bo', bc', hav', -⟩ := h'.2.len
  subst hdv; subst hav; subst hdv'; subst hav'
  have H1 := Lib.hid h; have H2 := Lib.hid h'; have HB0 := Lib.hid hb; have HSZ := Lib.hid hsz; have HV1 := Lib.hid V1; have HV2 := Lib.hid V2; have HV3 := Lib.hid V3; have HW := Lib.hid hw0
  clear h h' hb hsz V1 V2 V3 hw0
  have k1 := HV1.out.c0; have k2 := HV1.out.c1; have k3 := HV2.out.c0; have k4 := HV2.out.c1
  cases hOK : sumOk d1 a1 d2 a2
  · have e1 : sumC d1 a1 d2 a2 = 1 := by simp [sumC, hOK]
    have e2 : sumD d1 a1 d2 a2 = [] := by simp [sumD, hOK]
    have e3 : sumA d1 a1 d2 a2 = [] := by simp [sumA, hOK]
    have e4 : sumE d1 a1 d2 a2 = 1 := by simp [sumE, hOK]
    rw [e4] at I
    rw [e1, e2, e3]
    clear hOK e1 e2 e3 e4
    go_enter Try.func51, Try.ntmps51
    go_wp2_with fail
    rw [← HW.out]
    refine I.out.mono ?_
    rintro e w1 ⟨rfl, hb1⟩
    have HR := Lib.hid (HV3.out.kept hb1.block)
    have e0 := HR.out.c0; have e1 := HR.out.c1; have f0 := HR.out.free 0; have f1 := HR.out.free 1
    have HB1 := Lib.hid (HB0.out.trans (hb1.mono HB0.out.size))
    clear hb1 HW
    go_wp2_with fail
    have g0 := (HR.out.set0 (.slice none 0 0)).c0
    have g1 := ((HR.out.set0 (.slice none 0 0)).set1 (.slice none 0 0)).c1
    exact bodyPost_ret (v := .tuple #[.agg #[.slice none 0 0, .slice none 0 0], .int .i64 1]) (by simp [results, Try.results51, go_sem, g0, g1]) rfl
      ⟨_, _, rfl, ⟨IntS.nil _, IntSS.nil _⟩, (HB1.out.setCell (by show w.heap.size ≤ w.heap.size + 1 + 1; omega) _).setCell (by show w.heap.size ≤ w.heap.size + 1 + 1; omega) _⟩
  · have hM := hOK
    simp only [sumOk, Bool.and_eq_true] at hM
    have HT1 := Lib.hid (isMod_T2 hM.1); have HT2 := Lib.hid (isMod_T2 hM.2)
    have HOK := Lib.hid hOK
    have e4 : sumE d1 a1 d2 a2 = 0 := by simp [sumE, hOK]
    rw [e4] at I
    clear hM e4 hOK
    have hl1 := modT_len HT1.out; have hl2 := modT_len HT2.out
    by_cases hl : (d1 ++ d2).length ≤ 16
    · have e1 : sumC d1 a1 d2 a2 = 0 := by unfold sumC; rw [HOK.out, if_pos rfl, if_pos hl]
      have e2 : sumD d1 a1 d2 a2 = srtD (d1 ++ d2) := by unfold sumD; rw [HOK.out, decide_eq_true hl]; rfl
      have e3 : sumA d1 a1 d2 a2 = oddL ((sumL d1 a1 a2).map (plcR (d1 ++ d2))) := by unfold sumA; rw [HOK.out, decide_eq_true hl, sum_mod HT1.out HT2.out hl]; rfl
      rw [e1, e2, e3]
      clear e1 e2 e3
      have HL := Lib.hid hl
      rw [List.length_append] at hl
      have tl : decide ((16 : Int) < (d1.length : Int) + (d2.length : Int)) = false := by simp; omega
      have hq1 := modT_actlen HT1.out; have hq2 := modT_actlen HT2.out
      have OW := Lib.hid (fun (v : Value) (W : World) (h : IntSS W.heap v a1) => l01Own2_c v a1 W h (by omega) (fun x hx => by have := (modT_cell HT1.out x hx).1; omega))
      have OC := Lib.hid (fun (v : Value) (W : World) (h : IntS W.heap v d1) => l01Own_c v d1 W h (by omega))
      have SC := Lib.hid (fun (v a : Value) (W : World) (h : IntS W.heap v (d1 ++ d2)) (ha : IntSS W.heap a (sumL d1 a1 a2)) => l11Sorted_c v a (d1 ++ d2) (sumL d1 a1 a2) W h ha (stems_append HT1.out HT2.out) HL.out (sum_rows HT1.out HT2.out) (by unfold sumL; rw [List.length_append, List.length_map]; omega))
      go_enter Try.func51, Try.ntmps51
      go_wp2_with fail
      rw [← HW.out]
      refine I.out.mono ?_
      rintro e w1 ⟨rfl, hb1⟩
      have HB1 := Lib.hid (HB0.out.trans (hb1.mono HB0.out.size))
      have HV1b := Lib.hid (HV1.out.kept hb1.block); have HV2b := Lib.hid (HV2.out.kept hb1.block); have HV3b := Lib.hid (HV3.out.kept hb1.block)
      have c1 := HV1b.out.c0; have c2 := HV1b.out.c1; have c3 := HV2b.out.c0; have c4 := HV2b.out.c1
      have hs1 := HB1.out.size
      have hs3 : w.heap.size + 3 ≤ w1.heap.size := by have := HSZ.out; have := hb1.size; omega
      clear hb1 HW k1 k2 k3 k4 I HV1 HV2 HV3
      go_wp2_with fail
      go_region_held3 (fun W => W.cell? ⟨w.heap.size, 0, none⟩ = some (.slice ao d1.length ac) ∧ W.cell? ⟨w.heap.size, 1, none⟩ = some (.slice bo a1.length bc) ∧ Below w1.heap.size w1 W)
        (first | assumption | exact ⟨c1, c2, (Below.refl _ _).drew⟩ | exact heldC2 (by assumption) hx3 | fail)
        (first | (go_at_call 93; refine (OW.out _ _ (H1.out.2.same (heldC2B HB1.out (by assumption) hs1).block)).mono ?_; rintro e w3 ⟨r, us, rfl, hU, hx3⟩; obtain ⟨ra, rn, rc, rfl⟩ := own_shape hU.row) | fail)
      rename_i hh
      have HB3 : Hid (Below w1.heap.size w1 w3) := hh.2.2
      have HU0 : Hid (OwnU w3 w1.heap.size (.slice ra rn rc) us a1) := hU
      clear hh hU hx3 OW c1 c2 c3 c4
      go_wp2_with fail
      go_loopw [8, 9] (fun v i wr => ∃ (k : Nat) (us : List Value), k ≤ a2.length ∧ i = .int .i64 k ∧ OwnU wr w1.heap.size v us (a1 ++ (a2.take k).map (shfR d1.length)) ∧ Below w1.heap.size w1 wr) (fun _ i _ => a2.length - (intOf i).toNat)
      case atStart => exact ⟨0, us, Nat.zero_le _, rfl, by simpa using HU0.out, HB3.out⟩
      case round =>
        clear HU0 HB3
        obtain ⟨k, us, hk, rfl, hU, hbl⟩ := hrel
        obtain ⟨ya, yn, yc, rfl⟩ := own_shape hU.row
        have HU := Lib.hid hU; have HBL := Lib.hid hbl
        have hsz := hbl.size
        have HV1c := Lib.hid (HV1b.out.kept hbl.block); have HV2c := Lib.hid (HV2b.out.kept hbl.block)
        have c1 := HV1c.out.c0; have c3 := HV2c.out.c0; have c4 := HV2c.out.c1
        have HBW := Lib.hid (HB1.out.trans (hbl.mono hs1))
        clear hU hbl
        by_cases hkl : k < a2.length
        · obtain ⟨b1, o1, q1, u1, hv1, hc1, hu1, -⟩ := H2.out.2.at k hkl
          simp only [Value.slice.injEq, true_and] at hv1
          obtain ⟨rfl, rfl⟩ := hv1
          have hc := (HBW.out.cell (World.block_lt_of_cell? _ _ hc1)).trans hc1
          obtain ⟨p, q, s, hq, hs, he⟩ := row_trip HT2.out _ (List.getElem_mem hkl)
          have HTK := Lib.hid (shf_take d1.length a2 k hkl _ _ _ he)
          have hu : IntS w.heap u1 [(p : Int), (q : Int), (s : Int)] := by rw [← he]; exact hu1
          obtain ⟨b3, o3, c3', hv3, hx0, -⟩ := hu.at 0 (by simp)
          obtain ⟨b4, o4, c4', hv4, hx1, -⟩ := hu.at 1 (by simp)
          obtain ⟨b5, o5, c5', hv5, hx2, -⟩ := hu.at 2 (by simp)
          subst hv3
          simp only [Value.slice.injEq, Option.some.injEq, Addr.mk.injEq, and_true, true_and] at hv4 hv5
          obtain ⟨⟨rfl, rfl⟩, -⟩ := hv4
          obtain ⟨⟨rfl, rfl⟩, -⟩ := hv5
          simp only [List.getElem_cons_zero, List.getElem_cons_succ, Nat.add_zero, List.length_cons, List.length_nil] at hx0 hx1 hx2 hc
          have hb3 := World.block_lt_of_cell? _ _ hx0; have hb4 := World.block_lt_of_cell? _ _ hx1; have hb5 := World.block_lt_of_cell? _ _ hx2
          have F := Lib.hid (fun (W : World) (hW : Below w1.heap.size w1 W) => (⟨(HB1.out.trans (hW.mono hs1)).cell hb3 |>.trans hx0, (HB1.out.trans (hW.mono hs1)).cell hb4 |>.trans hx1, (HB1.out.trans (hW.mono hs1)).cell hb5 |>.trans hx2⟩ : W.cell? ⟨b3, o3, none⟩ = some (.int .i64 (p : Int)) ∧ W.cell? ⟨b3, o3 + 1, none⟩ = some (.int .i64 (q : Int)) ∧ W.cell? ⟨b3, o3 + 2, none⟩ = some (.int .i64 (s : Int))))
          have HLN := Lib.hid (show (a1 ++ (a2.take k).map (shfR d1.length)).length < 4398046511104 by rw [List.length_append, List.length_map, List.length_take]; omega)
          have s1 : IntKind.i64.wrap ((q : Int) + (d1.length : Int)) = (q : Int) + d1.length := IntWalk.i64_in _ (by omega)
          have s2 : IntKind.i64.wrap ((s : Int) + (d1.length : Int)) = (s : Int) + d1.length := IntWalk.i64_in _ (by omega)
          clear hc1 hu1 hu he hx0 hx1 hx2 hb3 hb4 hb5
          have hf := F.out wr HBL.out
          have x0 := hf.1; have x1 := hf.2.1; have x2 := hf.2.2
          clear hf
          go_wp2_with fail
          have HRW := Lib.hid (ownI_lit3 (w := wr) (Nat.le_refl _) (p : Int) ((q : Int) + d1.length) ((s : Int) + d1.length))
          go_region_held3 (fun W => W.cell? ⟨b3, o3, none⟩ = some (.int .i64 (p : Int)) ∧ W.cell? ⟨b3, o3 + 1, none⟩ = some (.int .i64 (q : Int)) ∧ W.cell? ⟨b3, o3 + 2, none⟩ = some (.int .i64 (s : Int)))
            (first | assumption | exact F.out _ (below_drewN 1 HBL.out) | exact F.out _ (below_drewN 1 (HBL.out.alloc hsz _)) | exact F.out _ (below_drewN 1 ((HBL.out.alloc hsz _).alloc (by simp; omega) _)) | exact F.out _ hb' | fail)
            (first | (refine step_append_rowU (w0 := w1) (wE := wr) (by rfl) _ _ (by rfl) w1.heap.size _ (.slice (some ⟨wr.heap.size, 0, none⟩) 3 3) us (a1 ++ (a2.take k).map (shfR d1.length)) [(p : Int), (q : Int) + d1.length, (s : Int) + d1.length] HU.out (by rfl) (by exact OwnI.same HRW.out (alloc_old _ _)) (by exact below_drewN 1 (((Below.refl _ _).alloc (Nat.le_refl _) _).alloc (by simp) _)) (by exact HBL.out) (by exact hsz) (wr.heap.size + 1) (by rfl) (by have := heap_alloc_new (wr.alloc (.cells #[.int .i64 (p : Int), .int .i64 ((q : Int) + d1.length), .int .i64 ((s : Int) + d1.length)] 2)) (.cells #[.slice (some ⟨wr.heap.size, 0, none⟩) 3 3] 27); rw [size_alloc_w] at this; exact this) (by exact HLN.out) ?_; intro v' w' hU' hb' hs' hk'; obtain ⟨z1, z2, z3, rfl⟩ := own_shape hU'.row) | fail)
          rename_i hhS
          have HU3 := Lib.hid hU'; have HB3 := Lib.hid hb'
          clear hhS hU' hb' hs' hk' x0 x1 x2 hc F
          go_wp2_with fail
          go_roundw
          case rel => exact ⟨k + 1, _, by omega, by go_num, by rw [HTK.out, ← List.append_assoc]; exact HU3.out, HB3.out⟩
          case measure => simp [intOf]; omega
        · obtain rfl : k = a2.length := by omega
          rw [List.take_length] at HU
          have HU2 : Hid (OwnU wr w1.heap.size (.slice ya yn yc) us (sumL d1 a1 a2)) := HU.out
          have HVR := Lib.hid (HV3b.out.kept HBL.out.block)
          have F2 := Lib.hid (fun (W : World) (hW : Below wr.heap.size wr W) => (⟨(hW.cell (World.block_lt_of_cell? _ _ c1)).trans c1, (hW.cell (World.block_lt_of_cell? _ _ c3)).trans c3⟩ : W.cell? ⟨w.heap.size, 0, none⟩ = some (.slice ao d1.length ac) ∧ W.cell? ⟨w.heap.size + 1, 0, none⟩ = some (.slice ao' d2.length ac')))
          clear HU
          have hwr := HBW.out.size
          go_wp2_with fail
          go_region_held3 (fun W => W.cell? ⟨w.heap.size, 0, none⟩ = some (.slice ao d1.length ac) ∧ W.cell? ⟨w.heap.size + 1, 0, none⟩ = some (.slice ao' d2.length ac'))
            (first | assumption | exact F2.out _ (below_drewN 1 (Below.refl _ _)) | exact F2.out _ hx5 | exact F2.out _ hb6 | exact F2.out _ hx7 | exact heldFar2 (by assumption) (by show w.heap.size ≠ w.heap.size + 1 + 1; omega) (by show w.heap.size + 1 ≠ w.heap.size + 1 + 1; omega) _ _ _ _ | fail)
            (first | (go_at_call 123; refine (OC.out _ _ (H1.out.1.same (HBW.out.trans ((below_drewN 1 (Below.refl wr.heap.size wr)).mono hwr)).block)).mono ?_; rintro e w5 ⟨r5, rfl, hr5, hz5⟩; obtain ⟨pa, pn, pc, rfl⟩ := own_shape hr5; have hx5 : Below wr.heap.size wr w5 := (below_drewN 1 (Below.refl _ _)).trans hz5) | (refine step_append_ints (w0 := wr) (by rfl) _ _ (by rfl) wr.heap.size _ (.slice ao' d2.length ac') d1 d2 (by exact hr5) (by rfl) (by exact H2.out.1.same (HBW.out.trans (hx5.mono hwr)).block) (by rfl) hx5 hx5.size (by omega) ?_; intro v6 w6 h6 hb6 hs6 hk6; obtain ⟨ta, tn, tc, rfl⟩ := own_shape h6) | (go_at_call 122; refine (SC.out _ _ _ h6.ints (HU2.out.ints.same hb6.block)).mono ?_; rintro e w7 ⟨rd, rs, rfl, hM, hz7⟩; obtain ⟨da, dc, hd1, -⟩ := hM.1.len; obtain ⟨sa, sc, hs1', -⟩ := hM.2.len; obtain ⟨dn, hdn⟩ : ∃ n, n = (srtD (d1 ++ d2)).length := ⟨_, rfl⟩; obtain ⟨sn, hsn⟩ : ∃ n, n = (oddL ((sumL d1 a1 a2).map (plcR (d1 ++ d2)))).length := ⟨_, rfl⟩; rw [← hdn] at hd1; rw [← hsn] at hs1'; clear hdn hsn; subst hd1; subst hs1'; have hx7 : Below wr.heap.size wr w7 := hb6.trans (hz7.mono hb6.size); have V7 := HVR.out.kept hx7.block; have f0 := V7.free 0; have f1 := V7.free 1; have e0 := V7.c0; have e1 := V7.c1) | fail)
          rename_i hhS
          clear hhS c1 c3 c4
          have HM := Lib.hid hM; have HV7 := Lib.hid V7; have HX7 := Lib.hid (HBW.out.trans (hx7.mono hwr))
          clear hM V7 hx7
          go_wp2_with fail
          have W4 := HV7.out.set0 (.slice da dn dc)
          have g0 := (W4.set1 (.slice sa sn sc)).c0
          have g1 := (W4.set1 (.slice sa sn sc)).c1
          exact bodyPost_ret (v := .tuple #[.agg #[.slice da dn dc, .slice sa sn sc], .int .i64 0]) (by simp [results, Try.results51, go_sem, g0, g1]) rfl
            ⟨_, _, rfl, ⟨(HM.out.1.otherW HV7.out (by decide) _).otherW W4 (by decide) _, (HM.out.2.otherW HV7.out (by decide) (by decide) _).otherW W4 (by decide) (by decide) _⟩, (HX7.out.setCell (by show w.heap.size ≤ w.heap.size + 1 + 1; omega) _).setCell (by show w.heap.size ≤ w.heap.size + 1 + 1; omega) _⟩
    · have e1 : sumC d1 a1 d2 a2 = 3 := by unfold sumC; rw [HOK.out, if_pos rfl, if_neg hl]
      have e2 : sumD d1 a1 d2 a2 = [] := by unfold sumD; rw [HOK.out, decide_eq_false hl]; rfl
      have e3 : sumA d1 a1 d2 a2 = [] := by unfold sumA; rw [HOK.out, decide_eq_false hl]; rfl
      rw [e1, e2, e3]
      clear e1 e2 e3
      rw [List.length_append] at hl
      have tl : decide ((16 : Int) < (d1.length : Int) + (d2.length : Int)) = true := by simp; omega
      go_enter Try.func51, Try.ntmps51
      go_wp2_with fail
      rw [← HW.out]
      refine I.out.mono ?_
      rintro e w1 ⟨rfl, hb1⟩
      have HR := Lib.hid (HV3.out.kept hb1.block)
      have HV1b := Lib.hid (HV1.out.kept hb1.block); have HV2b := Lib.hid (HV2.out.kept hb1.block)
      have c1 := HV1b.out.c0; have c3 := HV2b.out.c0
      have e0 := HR.out.c0; have e1 := HR.out.c1; have f0 := HR.out.free 0; have f1 := HR.out.free 1
      have HB1 := Lib.hid (HB0.out.trans (hb1.mono HB0.out.size))
      clear hb1 HW k1 k2 k3 k4
      go_wp2_with fail
      have g0 := (HR.out.set0 (.slice none 0 0)).c0
      have g1 := ((HR.out.set0 (.slice none 0 0)).set1 (.slice none 0 0)).c1
      exact bodyPost_ret (v := .tuple #[.agg #[.slice none 0 0, .slice none 0 0], .int .i64 3]) (by simp [results, Try.results51, go_sem, g0, g1]) rfl
        ⟨_, _, rfl, ⟨IntS.nil _, IntSS.nil _⟩, (HB1.out.setCell (by show w.heap.size ≤ w.heap.size + 1 + 1; omega) _).setCell (by show w.heap.size ≤ w.heap.size + 1 + 1; omega) _⟩
end Go.Proofs.Ytljfpkhgijangaa

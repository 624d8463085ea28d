/- The tensor product of two modules: of the reference. -/
import Derived.Test.YtljfpkhgijangaaLTenP
import Derived.Test.YtljfpkhgijangaaLSrt
import Derived.Test.YtljfpkhgijangaaLHeld
import Derived.Test.YtljfpkhgijangaaLModArg
import Derived.Test.YtljfpkhgijangaaLGen
namespace Go.Proofs.Ytljfpkhgijangaa
open Go.RowKit Go.Sort

def sumE (d1 : List Int) (a1 : List (List Int)) (d2 : List Int) (a2 : List (List Int)) : Int := if sumOk d1 a1 d2 a2 then 0 else 1
set_option maxRecDepth 100000 in
theorem l11Code_c (d a d' a' : Value) (d1 : List Int) (a1 : List (List Int)) (d2 : List Int) (a2 : List (List Int)) (w : World) (h : ModS w.heap d a d1 a1) (h' : ModS w.heap d' a' d2 a2) :
    Calls Try.prog 121 #[.agg #[d, a], .agg #[d', a']] w fun e w' => e = .returned (.int .i64 (sumE d1 a1 d2 a2)) ∧ Below w.heap.size w w' := by
  obtain ⟨w0, hw0⟩ : ∃ w0, w0 = (w.alloc (.cells #[d, a] 60)).alloc (.cells #[d', a'] 60) := ⟨_, rfl⟩
  have hb : Below w.heap.size w w0 := by rw [hw0]; exact ((Below.refl _ _).alloc (Nat.le_refl _) _).alloc (by simp) _
  have V2 : Var2 w0 (w.heap.size + 1) d' a' 60 := by
    rw [hw0]
    have := Var2.new (w.alloc (.cells #[d, a] 60)) d' a' 60
    rwa [size_alloc_w] at this
  have I1 := Lib.hid (l11Is_c d a d1 a1 w0 (h.same hb.block))
  have I2 := Lib.hid (fun (W : World) (h : ModS W.heap d' a' d2 a2) => l11Is_c d' a' d2 a2 W h)
  obtain ⟨ao, ac, hdv, -⟩ := h.1.len
  obtain ⟨bo, bc, hav, -⟩ := h.2.len
  obtain ⟨ao', ac', hdv', -⟩ := h'.1.len
  obtain ⟨bo', bc', hav', -⟩ := h'.2.len
  subst hdv; subst hav; subst hdv'; subst hav'
  have H2 := Lib.hid h'; have HB0 := Lib.hid hb; have HV2 := Lib.hid V2; have HW := Lib.hid hw0
  clear h h' hb V2 hw0
  have k3 := HV2.out.c0; have k4 := HV2.out.c1
  cases hM1 : isMod d1 a1
  · have e : sumE d1 a1 d2 a2 = 1 := by simp [sumE, sumOk, hM1]
    rw [hM1] at I1
    rw [e]
    clear hM1 e I2
    go_enter Try.func121, Try.ntmps121
    go_wp2_with fail
    rw [← HW.out]
    refine I1.out.mono ?_
    rintro e w1 ⟨rfl, hb1⟩
    go_wp2_with fail
    go_ret
    exact ⟨rfl, HB0.out.trans (hb1.mono HB0.out.size)⟩
  · rw [hM1] at I1
    have HE : Hid (sumE d1 a1 d2 a2 = if isMod d2 a2 then 0 else 1) := by show _ = _; simp [sumE, sumOk, hM1]
    rw [HE.out]
    clear hM1 HE
    cases hM2 : isMod d2 a2
    · rw [hM2] at I2
      clear hM2
      go_enter Try.func121, Try.ntmps121
      go_wp2_with fail
      rw [← HW.out]
      refine I1.out.mono ?_
      rintro e w1 ⟨rfl, hb1⟩
      have HB1 := Lib.hid (HB0.out.trans (hb1.mono HB0.out.size))
      have V2 := HV2.out.kept hb1.block
      have c3 := V2.c0; have c4 := V2.c1
      clear hb1 HW V2 k3 k4
      go_wp2_with fail
      refine (I2.out _ (H2.out.same HB1.out.block)).mono ?_
      rintro e w2 ⟨rfl, hb2⟩
      go_wp2_with fail
      go_ret
      exact ⟨rfl, HB1.out.trans (hb2.mono HB1.out.size)⟩
    · rw [hM2] at I2
      clear hM2
      go_enter Try.func121, Try.ntmps121
      go_wp2_with fail
      rw [← HW.out]
      refine I1.out.mono ?_
      rintro e w1 ⟨rfl, hb1⟩
      have HB1 := Lib.hid (HB0.out.trans (hb1.mono HB0.out.size))
      have V2 := HV2.out.kept hb1.block
      have c3 := V2.c0; have c4 := V2.c1
      clear hb1 HW V2 k3 k4
      go_wp2_with fail
      refine (I2.out _ (H2.out.same HB1.out.block)).mono ?_
      rintro e w2 ⟨rfl, hb2⟩
      go_wp2_with fail
      go_ret
      exact ⟨rfl, HB1.out.trans (hb2.mono HB1.out.size)⟩
theorem own_ne_cellS {w : World} {B e g t n : Nat} {v x : Value} {us : List Value} (h : w.ownsRow B e 1 v n us) (k : Cell1 w g x t) (ne : e ≠ t) : v.ownBlock ≠ some g := by
  rcases h.2 with ⟨rfl, _⟩ | ⟨b, cap, cur, rfl, _, hg, _⟩
  · simp [Value.ownBlock]
  · intro e1
    simp only [Value.ownBlock, Option.some.injEq] at e1
    subst e1
    rw [show w.heap[b]? = _ from k] at hg
    simp only [Option.some.injEq, Obj.cells.injEq] at hg
    exact ne hg.2.1.symm
theorem ownU_empty {w : World} {B : Nat} (hB : B ≤ w.heap.size) : OwnU (w.alloc (.cells #[] 27)) B (.slice (some ⟨w.heap.size, 0, none⟩) 0 0) [] [] :=
  ⟨World.ownsRow_made w #[] 0 hB (Nat.zero_le _) rfl, fun i u xs hu => by simp at hu, fun i j u u' _ hu => by simp at hu⟩
theorem ownU_nil_kept {w w' : World} {B : Nat} {v y : Value} {ys : List Int} (h : OwnU w B v [] []) (ho : OwnI w B y ys) (hk : ∀ b, b < w.heap.size → some b ≠ y.ownBlock → w'.heap[b]? = w.heap[b]?) : OwnU w' B v [] [] :=
  ⟨own_kept h.row fun b hb => hk b (World.ownsRow.lt h.row b hb).2 fun e => by
    rcases own_ne_types ho h.row (by decide) with e1 | e1
    · rw [e1] at e; cases e
    · exact e1 (by rw [hb, e]), fun i u xs hu => by simp at hu, fun i j u u' _ hu => by simp at hu⟩
theorem keep_app {wE w w' : World} {B B' : Nat} {v y : Value} {ys : List Int} {xss : List (List Int)} (ho : OwnI wE B y ys) (hE : Below wE.heap.size wE w) (hu : OwnII wE B' v xss) (hk : ∀ b, b < w.heap.size → some b ≠ v.ownBlock → w'.heap[b]? = w.heap[b]?) : OwnI w' B y ys := by
  obtain ⟨us, hU⟩ := hu
  refine own_kept (own_same ho hE.block) fun b hb => hk b ?_ fun e => ?_
  · have h1 := (World.ownsRow.lt ho b hb).2
    have h2 := hE.size
    omega
  · rcases own_ne_types ho hU.row (by decide) with e1 | e1
    · rw [e1] at hb; cases hb
    · exact e1 (by rw [hb, e])
set_option maxRecDepth 100000 in
set_option maxHeartbeats 4000000 in
theorem specTensorOfModules_c (d a d' a' : Value) (d1 : List Int) (a1 : List (List Int)) (d2 : List Int) (a2 : List (List Int)) (w : World) (h : ModS w.heap d a d1 a1) (h' : ModS w.heap d' a' d2 a2) :
    Calls Try.prog 53 #[.agg #[d, a], .agg #[d', a']] w fun e w' => ∃ r s, e = .returned (.tuple #[.agg #[r, s], .int .i64 (tenC d1 a1 d2 a2)]) ∧ ModS w'.heap r s (tenDD d1 a1 d2 a2) (tenA d1 a1 d2 a2) ∧ Below w.heap.size w w' := by
  obtain ⟨w0, hw0⟩ : ∃ w0, w0 = ((w.alloc (.cells #[d, a] 60)).alloc (.cells #[d', a'] 60)).alloc (.cells #[.slice none 0 0, .slice none 0 0] 60) := ⟨_, rfl⟩
  have hb : Below w.heap.size w w0 := by rw [hw0]; exact (((Below.refl _ _).alloc (Nat.le_refl _) _).alloc (by simp) _).alloc (by simp; omega) _
  have hsz : w0.heap.size = w.heap.size + 3 := by rw [hw0]; simp
  have V1 : Var2 w0 w.heap.size d a 60 := by rw [hw0]; exact ((Var2.new w _ _ _).kept (alloc_old _ _)).kept (alloc_old _ _)
  have V2 : Var2 w0 (w.heap.size + 1) d' a' 60 := by
    rw [hw0]
    have := (Var2.new (w.alloc (.cells #[d, a] 60)) d' a' 60).kept (alloc_old _ (.cells #[.slice none 0 0, .slice none 0 0] 60))
    rwa [size_alloc_w] at this
  have V3 : Var2 w0 (w.heap.size + 1 + 1) (.slice none 0 0) (.slice none 0 0) 60 := by
    rw [hw0]
    have := Var2.new ((w.alloc (.cells #[d, a] 60)).alloc (.cells #[d', a'] 60)) (.slice none 0 0) (.slice none 0 0) 60
    rwa [size_alloc_w, size_alloc_w] at this
  have I := Lib.hid (l11Code_c d a d' a' d1 a1 d2 a2 w0 (h.same hb.block) (h'.same hb.block))
  obtain ⟨ao, ac, hdv, -⟩ := h.1.len
  obtain ⟨bo, bc, hav, -⟩ := h.2.len
  obtain ⟨ao', ac', hdv', -⟩ := h'.1.len
  obtain ⟨bo', bc', hav', -⟩ := h'.2.len
  subst hdv; subst hav; subst hdv'; subst hav'
  have H1 := Lib.hid h; have H2 := Lib.hid h'; have HB0 := Lib.hid hb; have HSZ := Lib.hid hsz; have HV1 := Lib.hid V1; have HV2 := Lib.hid V2; have HV3 := Lib.hid V3; have HW := Lib.hid hw0
  clear h h' hb hsz V1 V2 V3 hw0
  have k1 := HV1.out.c0; have k2 := HV1.out.c1; have k3 := HV2.out.c0; have k4 := HV2.out.c1
  cases hOK : sumOk d1 a1 d2 a2
  · have e1 : tenC d1 a1 d2 a2 = 1 := by simp [tenC, hOK]
    have e2 : tenDD d1 a1 d2 a2 = [] := by simp [tenDD, hOK]
    have e3 : tenA d1 a1 d2 a2 = [] := by simp [tenA, hOK]
    have e4 : sumE d1 a1 d2 a2 = 1 := by simp [sumE, hOK]
    rw [e4] at I
    rw [e1, e2, e3]
    clear hOK e1 e2 e3 e4
    go_enter Try.func53, Try.ntmps53
    go_wp2_with fail
    rw [← HW.out]
    refine I.out.mono ?_
    rintro e w1 ⟨rfl, hb1⟩
    have HR := Lib.hid (HV3.out.kept hb1.block)
    have e0 := HR.out.c0; have e1 := HR.out.c1; have f0 := HR.out.free 0; have f1 := HR.out.free 1
    have HB1 := Lib.hid (HB0.out.trans (hb1.mono HB0.out.size))
    clear hb1 HW
    go_wp2_with fail
    have g0 := (HR.out.set0 (.slice none 0 0)).c0
    have g1 := ((HR.out.set0 (.slice none 0 0)).set1 (.slice none 0 0)).c1
    exact bodyPost_ret (v := .tuple #[.agg #[.slice none 0 0, .slice none 0 0], .int .i64 1]) (by simp [results, Try.results53, go_sem, g0, g1]) rfl
      ⟨_, _, rfl, ⟨IntS.nil _, IntSS.nil _⟩, (HB1.out.setCell (by show w.heap.size ≤ w.heap.size + 1 + 1; omega) _).setCell (by show w.heap.size ≤ w.heap.size + 1 + 1; omega) _⟩
  · have hM := hOK
    simp only [sumOk, Bool.and_eq_true] at hM
    have HT1 := Lib.hid (isMod_T2 hM.1); have HT2 := Lib.hid (isMod_T2 hM.2)
    have HOK := Lib.hid hOK
    have e4 : sumE d1 a1 d2 a2 = 0 := by simp [sumE, hOK]
    rw [e4] at I
    clear hM e4 hOK
    have hl1 := modT_len HT1.out; have hl2 := modT_len HT2.out
    have hmul : (0 : Int) ≤ (d1.length : Int) * (d2.length : Int) ∧ (d1.length : Int) * (d2.length : Int) ≤ 256 := by
      have := Nat.mul_le_mul hl1 hl2
      rw [← Int.natCast_mul]; omega
    have HMU : Hid (((d1.length * d2.length : Nat) : Int) = (d1.length : Int) * (d2.length : Int)) := by show _ = _; simp
    by_cases hl : d1.length * d2.length ≤ 16
    · obtain ⟨N, hN⟩ : ∃ N, N = d1.length * d2.length := ⟨_, rfl⟩
      have hNI : (d1.length : Int) * (d2.length : Int) = (N : Int) := by rw [← HMU.out, hN]
      rw [← hN] at hl
      have tl : decide ((16 : Int) < (N : Int)) = false := decide_eq_false (by omega)
      have HN := Lib.hid hN
      have HL := Lib.hid hl
      clear hmul HMU hN
      have E1 : Hid (tenC d1 a1 d2 a2 = if tenOk d1 d2 then 0 else 3) := by show _ = _; unfold tenC; rw [HOK.out]; rfl
      have E2 : Hid (tenDD d1 a1 d2 a2 = if tenOk d1 d2 then srtD (tenD d1 d2) else []) := by show _ = _; unfold tenDD; rw [HOK.out]; rfl
      have E3 : Hid (tenA d1 a1 d2 a2 = if tenOk d1 d2 then modN (oSq (tenD d1 d2) (tenQ d1 d2 a1 a2)) (tenD d1 d2).length 20 else []) := by show _ = _; unfold tenA; rw [HOK.out]; rfl
      go_enter Try.func53, Try.ntmps53
      go_wp2_with fail
      rw [← HW.out]
      refine I.out.mono ?_
      rintro e w1 ⟨rfl, hb1⟩
      have HB1 := Lib.hid (HB0.out.trans (hb1.mono HB0.out.size))
      have HV1b := Lib.hid (HV1.out.kept hb1.block); have HV2b := Lib.hid (HV2.out.kept hb1.block); have HV3b := Lib.hid (HV3.out.kept hb1.block)
      have c1 := HV1b.out.c0; have c2 := HV1b.out.c1; have c3 := HV2b.out.c0; have c4 := HV2b.out.c1
      have hs1 := HB1.out.size
      clear hb1 HW k1 k2 k3 k4 I HV1 HV2 HV3
      go_wp2_with fail
      go_quiet (fail)
      obtain ⟨w2, hw2⟩ : ∃ w2, w2 = ((w1.drewN nq).alloc (.cells #[] 2)).alloc (.cells #[] 27) := ⟨_, rfl⟩
      have hb2 : Below w1.heap.size w1 w2 := by rw [hw2]; exact ((below_drewN nq (Below.refl _ _)).alloc (by simp) _).alloc (by simp) _
      have HOD : Hid (OwnI w2 w1.heap.size (.slice (some ⟨w1.heap.size, 0, none⟩) 0 0) []) := by
        show OwnI _ _ _ _
        rw [hw2]; exact own_same (ownI_empty (w := w1.drewN nq) (Nat.le_refl _)) (alloc_old _ _)
      have HUA : Hid (OwnU w2 w1.heap.size (.slice (some ⟨w1.heap.size + 1, 0, none⟩) 0 0) [] []) := by
        show OwnU _ _ _ _ _
        have := ownU_empty (w := (w1.drewN nq).alloc (.cells #[] 2)) (B := w1.heap.size) (by simp)
        rw [size_alloc_w] at this
        rw [hw2]; exact this
      have HB2 := Lib.hid hb2; have HW2 := Lib.hid hw2
      clear hb2 hw2
      go_wp2_with fail
      rw [← HW2.out]
      clear HW2 c1 c2 c3 c4
      go_loopw [9, 11] (fun v i wr => ∃ (k : Nat), k ≤ d1.length ∧ i = .int .i64 k ∧ OwnI wr w1.heap.size v (tenD (d1.take k) d2) ∧ (∀ x ∈ tenD (d1.take k) d2, x ≤ 20) ∧ Below w1.heap.size w1 wr ∧ OwnU wr w1.heap.size (.slice (some ⟨w1.heap.size + 1, 0, none⟩) 0 0) [] []) (fun _ i _ => d1.length - (intOf i).toNat)
      case atStart => exact ⟨0, Nat.zero_le _, rfl, by simpa [tenD] using HOD.out, fun x hx => (by simp [tenD] at hx), HB2.out, HUA.out⟩
      case round =>
        rename World => WA
        obtain ⟨k, hk, rfl, hO, h20, hbl, hUA⟩ := hrel
        have HOA := Lib.hid hO; have HBA := Lib.hid hbl; have HUA2 := Lib.hid hUA; have H20 := Lib.hid h20
        clear hO hbl hUA h20 HOD HUA HB2
        by_cases hkl : k < d1.length
        · obtain ⟨b1, o1, q1, hv1, hc1, -⟩ := H1.out.1.at k hkl
          simp only [Value.slice.injEq, true_and] at hv1
          obtain ⟨rfl, rfl⟩ := hv1
          have hx1 : 0 ≤ d1[k] ∧ d1[k] ≤ 20 := by have := modT_stem HT1.out k; rwa [show d1.getD k 0 = d1[k] by simp [hkl]] at this
          have HTK := Lib.hid (tenD_snoc (d1.take k) d2 d1[k])
          rw [← List.take_succ_eq_append_getElem hkl] at HTK
          have HMX := Lib.hid (List.getElem_mem hkl)
          have HC1 := Lib.hid hc1
          clear hc1
          generalize d1[k] = x at *
          have hki : (k : Int) < (d1.length : Int) := by omega
          go_wp2_with fail
          go_loopw [9, 12] (fun v i wr => ∃ (j : Nat), j ≤ d2.length ∧ i = .int .i64 j ∧ OwnI wr w1.heap.size v (tenD (d1.take k) d2 ++ (d2.take j).map fun e => x + e) ∧ (∀ y ∈ (d2.take j).map (fun e => x + e), y ≤ 20) ∧ Below w1.heap.size w1 wr ∧ OwnU wr w1.heap.size (.slice (some ⟨w1.heap.size + 1, 0, none⟩) 0 0) [] []) (fun _ i _ => d2.length - (intOf i).toNat)
          case atStart => exact ⟨0, Nat.zero_le _, rfl, by simpa using HOA.out, fun y hy => (by simp at hy), HBA.out, HUA2.out⟩
          case round =>
            obtain ⟨j, hj, rfl, hO, h20, hbl, hUA⟩ := hrel
            have HOB := Lib.hid hO; have HBB := Lib.hid hbl; have HUB := Lib.hid hUA; have H20B := Lib.hid h20
            have hszB := hbl.size
            obtain ⟨ya, yn, yc, rfl⟩ := own_shape hO
            clear hO hbl hUA h20 HOA HBA HUA2
            by_cases hjl : j < d2.length
            · obtain ⟨b2, o2, q2, hv2, hc2, -⟩ := H2.out.1.at j hjl
              simp only [Value.slice.injEq, true_and] at hv2
              obtain ⟨rfl, rfl⟩ := hv2
              have BWB := HB1.out.trans (HBB.out.mono hs1)
              have hcB := (BWB.cell (World.block_lt_of_cell? _ _ hc2)).trans hc2
              have hcA := (BWB.cell (World.block_lt_of_cell? _ _ HC1.out)).trans HC1.out
              have hy1 : 0 ≤ d2[j] ∧ d2[j] ≤ 20 := by have := modT_stem HT2.out j; rwa [show d2.getD j 0 = d2[j] by simp [hjl]] at this
              have HTJ : Hid ((d2.take (j + 1)).map (fun e => x + e) = (d2.take j).map (fun e => x + e) ++ [x + d2[j]]) := by show _ = _; rw [List.take_succ_eq_append_getElem hjl, List.map_append]; rfl
              have HMY := Lib.hid (List.getElem_mem hjl)
              have V1B := HV1b.out.kept HBB.out.block; have V2B := HV2b.out.kept HBB.out.block
              have c1 := V1B.c0; have c3 := V2B.c0
              have HVRB := Lib.hid (HV3b.out.kept HBB.out.block)
              have HBWB := Lib.hid BWB
              clear hc2 BWB V1B V2B
              generalize d2[j] = y at *
              have hji : (j : Int) < (d2.length : Int) := by omega
              have HLN : Hid ((tenD (d1.take k) d2 ++ (d2.take j).map fun e => x + e).length ≤ 4398046511104) := by
                show _ ≤ _
                rw [List.length_append, tenD_len, List.length_map, List.length_take, List.length_take]
                have : min k d1.length * d2.length ≤ 16 * 16 := Nat.mul_le_mul (by omega) hl2
                omega
              by_cases h20 : x + y ≤ 20
              · have t20 : decide ((20 : Int) < x + y) = false := decide_eq_false (by omega)
                go_wp2_with fail
                go_quiet (fail)
                go_wp2_with (at_builtin; refine append_int (w := wr.drewN nq) rfl _ _ rfl _ _ _ (x + y) (HOB.out.same (fun _ _ => rfl)) rfl (below_drewN nq HBB.out) hszB _ rfl (by simp) HLN.out ?_; intro v' w' hown' hbl' hsz' hfar'; obtain ⟨pv, nv, cv, rfl⟩ := own_shape hown'; have HO' := Lib.hid hown'; have HB' := Lib.hid hbl'; have HU' := Lib.hid (ownU_nil_kept HUB.out HOB.out hfar'); clear hown' hbl' hfar')
                go_roundw
                case rel => exact ⟨j + 1, by omega, by go_num, by rw [HTJ.out, ← List.append_assoc]; exact HO'.out, fun z hz => (by rw [HTJ.out, List.mem_append, List.mem_singleton] at hz; rcases hz with hz | hz; exact H20B.out z hz; omega), HB'.out, HU'.out⟩
                case measure => simp [intOf]; omega
              · have t20 : decide ((20 : Int) < x + y) = true := decide_eq_true (by omega)
                have e0 := HVRB.out.c0; have e1 := HVRB.out.c1; have f0 := HVRB.out.free 0; have f1 := HVRB.out.free 1
                have hN : tenOk d1 d2 = false := by
                  unfold tenOk
                  rw [Bool.and_eq_false_iff]; right
                  rw [List.all_eq_false]
                  refine ⟨x + y, (tenD_mem _).2 ⟨x, HMX.out, y, HMY.out, rfl⟩, ?_⟩
                  simp only [stemB, Bool.and_eq_true, decide_eq_true_eq]; omega
                have HNO := Lib.hid hN
                clear hN
                go_wp2_with fail
                go_quiet (fail)
                go_wp2_with fail
                have HRD : Hid (Var2 (wr.drewN nq) (w.heap.size + 1 + 1) (.slice none 0 0) (.slice none 0 0) 60) := HVRB.out.kept fun _ _ => rfl
                have g0 := (HRD.out.set0 (.slice none 0 0)).c0
                have g1 := ((HRD.out.set0 (.slice none 0 0)).set1 (.slice none 0 0)).c1
                exact bodyPost_ret (v := .tuple #[.agg #[.slice none 0 0, .slice none 0 0], .int .i64 3]) (by simp [results, Try.results53, go_sem, g0, g1]) rfl
                  ⟨_, _, by rw [E1.out, HNO.out]; rfl, by rw [E2.out, E3.out, HNO.out]; exact ⟨IntS.nil _, IntSS.nil _⟩, ((below_drewN nq HBWB.out).setCell (by show w.heap.size ≤ w.heap.size + 1 + 1; omega) _).setCell (by show w.heap.size ≤ w.heap.size + 1 + 1; omega) _⟩
            · obtain rfl : j = d2.length := by omega
              go_wp2_with fail
              go_roundw
              case rel => exact ⟨k + 1, by omega, by go_num, by rw [HTK.out]; simpa using HOB.out, fun z hz => (by rw [HTK.out, List.mem_append] at hz; rcases hz with hz | hz; exact H20.out z hz; exact H20B.out z (by rw [List.take_length]; exact hz)), HBB.out, HUB.out⟩
              case measure => simp [intOf]; omega
        · obtain rfl : k = d1.length := by omega
          obtain ⟨pa, pn, pc, rfl⟩ := own_shape HOA.out
          have HO : Hid (OwnI WA w1.heap.size (.slice pa pn pc) (tenD d1 d2)) := by have := HOA.out; rwa [List.take_length] at this
          have hOK : tenOk d1 d2 = true := by
            unfold tenOk
            rw [← HN.out, decide_eq_true HL.out, Bool.true_and, List.all_eq_true]
            intro x hx
            have h1 := stems_degs HT1.out HT2.out x hx
            have h2 := H20.out x (by rw [List.take_length]; exact hx)
            simp only [stemB, Bool.and_eq_true, decide_eq_true_eq]; omega
          have HLD : Hid ((tenD d1 d2).length = N) := by show _ = _; rw [tenD_len, HN.out]
          have HST := Lib.hid (tenOk_both hOK)
          have E1' : Hid (tenC d1 a1 d2 a2 = 0) := by show _ = _; rw [E1.out, hOK]; rfl
          have E2' : Hid (tenDD d1 a1 d2 a2 = srtD (tenD d1 d2)) := by show _ = _; rw [E2.out, hOK]; rfl
          have E3' : Hid (tenA d1 a1 d2 a2 = oddL ((tAll (tenQ d1 d2 a1 a2) N N).map (plcR (tenD d1 d2)))) := by show _ = _; rw [E3.out, hOK, if_pos rfl, ← ten_mod a1 a2 HST.out.2 HST.out.1, HLD.out]
          have HII : Hid (OwnII WA w1.heap.size (.slice (some ⟨w1.heap.size + 1, 0, none⟩) 0 0) []) := ⟨_, HUA2.out⟩
          clear hOK HOA H20 E1 E2 E3 HUA2
          go_wp2_with fail
          go_loopw [10, 14] (fun u i wr => ∃ (k : Nat), k ≤ d1.length ∧ i = .int .i64 k ∧ OwnII wr w1.heap.size u (tAll (tenQ d1 d2 a1 a2) N (k * d2.length)) ∧ OwnI wr w1.heap.size (.slice pa pn pc) (tenD d1 d2) ∧ Below w1.heap.size w1 wr) (fun _ i _ => d1.length - (intOf i).toNat)
          case atStart => exact ⟨0, Nat.zero_le _, rfl, by rw [Nat.zero_mul]; exact HII.out, HO.out, HBA.out⟩
          case round =>
            rename World => WB
            obtain ⟨k, hk, rfl, hU, hO, hbl⟩ := hrel
            have HUB := Lib.hid hU; have HOB := Lib.hid hO; have HBB := Lib.hid hbl
            clear hU hO hbl HII HO HBA
            by_cases hkl : k < d1.length
            · have hki : (k : Int) < (d1.length : Int) := by omega
              go_wp2_with fail
              go_loopw [10, 15] (fun u i wr => ∃ (j : Nat), j ≤ d2.length ∧ i = .int .i64 j ∧ OwnII wr w1.heap.size u (tAll (tenQ d1 d2 a1 a2) N (k * d2.length + j)) ∧ OwnI wr w1.heap.size (.slice pa pn pc) (tenD d1 d2) ∧ Below w1.heap.size w1 wr) (fun _ i _ => d2.length - (intOf i).toNat)
              case atStart => exact ⟨0, Nat.zero_le _, rfl, by rw [Nat.add_zero]; exact HUB.out, HOB.out, HBB.out⟩
              case round =>
                rename World => WC
                obtain ⟨j, hj, rfl, hU, hO, hbl⟩ := hrel
                have HUC := Lib.hid hU; have HOC := Lib.hid hO; have HBC := Lib.hid hbl
                clear hU hO hbl HUB HOB HBB
                by_cases hjl : j < d2.length
                · have hji : (j : Int) < (d2.length : Int) := by omega
                  obtain ⟨b, hb⟩ : ∃ b, b = k * d2.length + j := ⟨_, rfl⟩
                  have HBE := Lib.hid hb
                  have hbN : b < N := by
                    rw [hb, HN.out]
                    have := Nat.mul_le_mul_right d2.length (show k + 1 ≤ d1.length by omega)
                    rw [Nat.add_mul] at this; omega
                  rw [← hb] at HUC
                  have hbd : b / d2.length = k ∧ b % d2.length = j := by
                    rw [hb]
                    constructor
                    · rw [Nat.mul_comm, Nat.mul_add_div (by omega), Nat.div_eq_of_lt hjl, Nat.add_zero]
                    · rw [Nat.mul_comm, Nat.mul_add_mod, Nat.mod_eq_of_lt hjl]
                  have HBD := Lib.hid hbd
                  clear hb hbd
                  go_wp2_with fail
                  go_loopw [10, 16] (fun u i wr => ∃ (n : Nat), 1 ≤ n ∧ n ≤ 21 ∧ i = .int .i64 n ∧ OwnII wr w1.heap.size u (tAll (tenQ d1 d2 a1 a2) N b ++ tCol (tenQ d1 d2 a1 a2) N b (n - 1)) ∧ OwnI wr w1.heap.size (.slice pa pn pc) (tenD d1 d2) ∧ Below w1.heap.size w1 wr) (fun _ i _ => 21 - (intOf i).toNat)
                  case atStart => exact ⟨1, by omega, by omega, rfl, by show OwnII _ _ _ (_ ++ []); rw [List.append_nil]; exact HUC.out, HOC.out, HBC.out⟩
                  case round =>
                    rename World => WD
                    obtain ⟨n, hn1, hn2, rfl, hU, hO, hbl⟩ := hrel
                    have HUD := Lib.hid hU; have HOD := Lib.hid hO; have HBD2 := Lib.hid hbl
                    clear hU hO hbl HUC HOC HBC
                    by_cases hn20 : n ≤ 20
                    · have t20 : (n : Int) ≤ 20 := by omega
                      obtain ⟨us0, hU0⟩ := HUD.out
                      obtain ⟨ua, un, uc, rfl⟩ := own_shape hU0.row
                      clear hU0 us0
                      have hmk := fun w => make_run (P := Try.prog) 27 2 _ 8 info_int64 Try.underlying27 rfl (by omega) N (by omega) .i64 .i64 (N : Int) (N : Int) rfl rfl w
                      have hszD := HBD2.out.size
                      obtain ⟨wm, hwm⟩ : ∃ wm, wm = WD.alloc (.cells (madeCells #[.int .i64 0] N) 2) := ⟨_, rfl⟩
                      have HT0 : Hid (OwnI wm WD.heap.size (.slice (some ⟨WD.heap.size, 0, none⟩) N N) (bitsL N 0)) := by
                        show OwnI _ _ _ _
                        have ho := made_own WD WD.heap.size 2 N (.int .i64 0) (Nat.le_refl _) (by omega)
                        unfold OwnI; rw [bitsL_length, bitsL_zero, hwm]; simpa using ho
                      have HBM : Hid (Below WD.heap.size WD wm) := by show Below _ _ _; rw [hwm]; exact (Below.refl _ _).alloc (Nat.le_refl _) _
                      have HWM := Lib.hid hwm
                      have HUN := Lib.hid (fun W => l11Unit_c d1.length k W hl1 hkl)
                      have HUN2 := Lib.hid (fun W => l11Unit_c d2.length j W hl2 hjl)
                      clear hwm
                      go_wp2_with fail
                      rw [← HWM.out]
                      clear HWM hmk
                      go_loopw [18] (fun i wr => ∃ (f : Nat), f ≤ n + 1 ∧ i = .int .i64 f ∧ OwnI wr WD.heap.size (.slice (some ⟨WD.heap.size, 0, none⟩) N N) (bitsL N (tenM a1 a2 d2.length n b N f)) ∧ Below WD.heap.size WD wr) (fun i _ => n + 1 - (intOf i).toNat)
                      case atStart => exact ⟨0, Nat.zero_le _, rfl, HT0.out, HBM.out⟩
                      case round =>
                        rename World => WE
                        obtain ⟨f, hf, rfl, hT, hbl⟩ := hrel
                        have HTE := Lib.hid hT; have HBE2 := Lib.hid (HBD2.out.trans (hbl.mono hszD)); have HBL := Lib.hid hbl
                        clear hT hbl HT0 HBM
                        by_cases hfn : f ≤ n
                        · have hfi : (f : Int) ≤ (n : Int) := by omega
                          have V1E := HV1b.out.kept HBE2.out.block; have V2E := HV2b.out.kept HBE2.out.block
                          have k1 := V1E.c0; have k2 := V1E.c1; have k3 := V2E.c0; have k4 := V2E.c1
                          have HBW := Lib.hid (HB1.out.trans (HBE2.out.mono hs1))
                          have hsW := HBW.out.size
                          obtain ⟨g, hg⟩ : ∃ g, g = n - f := ⟨_, rfl⟩
                          have s1 : IntKind.i64.wrap ((n : Int) - (f : Int)) = (g : Int) := by rw [IntWalk.i64_in _ (by omega)]; omega
                          have HGE := Lib.hid hg
                          have HA1 := Lib.hid (fun (v : Value) (W : World) (h : ModS W.heap (.slice ao d1.length ac) (.slice bo a1.length bc) d1 a1) (hv : IntS W.heap v (bitsL d1.length (2 ^ k))) => l11Act_c _ _ v d1 a1 (f : Int) (2 ^ k) W h HT1.out hv)
                          have HA2 := Lib.hid (fun (v : Value) (W : World) (h : ModS W.heap (.slice ao' d2.length ac') (.slice bo' a2.length bc') d2 a2) (hv : IntS W.heap v (bitsL d2.length (2 ^ j))) => l11Act_c _ _ v d2 a2 (g : Int) (2 ^ j) W h HT2.out hv)
                          have HF1 := Lib.hid (fun (W : World) (hW : W.cell? ⟨w.heap.size, 0, none⟩ = some (.slice ao d1.length ac) ∧ W.cell? ⟨w.heap.size, 1, none⟩ = some (.slice bo a1.length bc) ∧ W.cell? ⟨w.heap.size + 1, 0, none⟩ = some (.slice ao' d2.length ac') ∧ W.cell? ⟨w.heap.size + 1, 1, none⟩ = some (.slice bo' a2.length bc') ∧ Below WE.heap.size WE W) => And.intro (H1.out.same (heldC4B HBW.out hW hsW).block) (H2.out.same (heldC4B HBW.out hW hsW).block))
                          clear hg V1E V2E
                          go_wp2_with fail
                          go_region_held3 (fun W => W.cell? ⟨w.heap.size, 0, none⟩ = some (.slice ao d1.length ac) ∧ W.cell? ⟨w.heap.size, 1, none⟩ = some (.slice bo a1.length bc) ∧ W.cell? ⟨w.heap.size + 1, 0, none⟩ = some (.slice ao' d2.length ac') ∧ W.cell? ⟨w.heap.size + 1, 1, none⟩ = some (.slice bo' a2.length bc') ∧ Below WE.heap.size WE W)
                            (first | assumption | exact ⟨k1, k2, k3, k4, (Below.refl _ _).drew⟩ | exact heldC4 (by assumption) hx6 | exact heldC4 (by assumption) hx5 | exact heldC4 (by assumption) hx4 | exact heldC4 (by assumption) hx3 | fail)
                            (first | (go_at_call 128; (with_reducible show Calls _ _ #[_, Value.int IntKind.i64 (Nat.cast k)] _ _); refine (HUN.out _).mono ?_; rintro e w3 ⟨r3, rfl, hr3, hx3⟩; obtain ⟨p3, n3, c3', rfl⟩ := own_shape hr3) | (go_at_call 127; (with_reducible show Calls _ _ #[_, Value.int IntKind.i64 (Nat.cast f), _] _ _); refine (HA1.out _ _ (HF1.out _ (by assumption)).1 (by exact hr3.ints)).mono ?_; rintro e w4 ⟨r4, rfl, hr4, hx4⟩; obtain ⟨p4, n4, c4', rfl⟩ := own_shape hr4) | (go_at_call 128; (with_reducible show Calls _ _ #[_, Value.int IntKind.i64 (Nat.cast j)] _ _); refine (HUN2.out _).mono ?_; rintro e w5 ⟨r5, rfl, hr5, hx5⟩; obtain ⟨p5, n5, c5', rfl⟩ := own_shape hr5) | (go_at_call 127; (with_reducible show Calls _ _ #[_, Value.int IntKind.i64 (Nat.cast g), _] _ _); refine (HA2.out _ _ (HF1.out _ (by assumption)).2 (by exact hr5.ints)).mono ?_; rintro e w6 ⟨r6, rfl, hr6, hx6⟩; obtain ⟨p6, n6, c6', rfl⟩ := own_shape hr6) | fail)
                          rename_i hhS
                          have HBF := Lib.hid hhS.2.2.2.2
                          have HRA : Hid (OwnI w6 WE.heap.size (.slice p4 n4 c4') (bitsL d1.length (rowZ a1 f k))) := by
                            have := own_base ((hr4.same hx5.block).same hx6.block) hx3.size
                            rwa [actZ_unit HT1.out] at this
                          have HRB : Hid (OwnI w6 WE.heap.size (.slice p6 n6 c6') (bitsL d2.length (rowZ a2 g j))) := by
                            have := own_base hr6 (Nat.le_trans hx3.size (Nat.le_trans hx4.size hx5.size))
                            rwa [actZ_unit HT2.out] at this
                          clear hhS hr3 hr4 hr5 hr6 hx3 hx4 hx5 hx6 k1 k2 k3 k4
                          have hn4 : n4 = d1.length := by
                            obtain ⟨_, _, hv, _⟩ := HRA.out.ints.len
                            simp only [Value.slice.injEq, bitsL_length] at hv
                            exact hv.2.1
                          have hn6 : n6 = d2.length := by
                            obtain ⟨_, _, hv, _⟩ := HRB.out.ints.len
                            simp only [Value.slice.injEq, bitsL_length] at hv
                            exact hv.2.1
                          subst hn4 hn6
                          have HDE : Hid (WD.heap.size < WE.heap.size) := (World.ownsRow.lt HTE.out WD.heap.size rfl).2
                          have HVS : Hid (∀ c, tenM a1 a2 d2.length n b N f ^^^ tenW a1 a2 d2.length n b f (c + 1) = (tenM a1 a2 d2.length n b N f ^^^ tenW a1 a2 d2.length n b f c) ^^^ (if (rowZ a1 f k).testBit (c / d2.length) && (rowZ a2 g j).testBit (c % d2.length) then 2 ^ c else 0)) := fun c => by
                            rw [tenW, tenB, HBD.out.1, HBD.out.2, ← HGE.out, Nat.xor_assoc]
                          have HM1 : Hid (tenM a1 a2 d2.length n b N (f + 1) = tenM a1 a2 d2.length n b N f ^^^ tenW a1 a2 d2.length n b f N) := rfl
                          have HT6 : Hid (OwnI w6 WD.heap.size (.slice (some ⟨WD.heap.size, 0, none⟩) N N) (bitsL N (tenM a1 a2 d2.length n b N f ^^^ tenW a1 a2 d2.length n b f 0))) := by
                            have := HTE.out.same HBF.out.block
                            show OwnI _ _ _ _
                            rw [tenW, Nat.xor_zero]; exact this
                          have HB6 := Lib.hid (HBL.out.trans (HBF.out.mono (Nat.le_of_lt HDE.out)))
                          clear HTE HBF HBL HBE2 HBW HA1 HA2 HF1 hsW s1
                          generalize rowZ a1 f k = X at *
                          generalize rowZ a2 g j = Y at *
                          have ho0 : ¬ d2.length = 0 := by omega
                          have ho1 : ¬ (d2.length : Int) = 0 := by omega
                          go_wp2_with fail
                          go_loopw [21] (fun i wr => ∃ (c : Nat), c ≤ N ∧ i = .int .i64 c ∧ OwnI wr WD.heap.size (.slice (some ⟨WD.heap.size, 0, none⟩) N N) (bitsL N (tenM a1 a2 d2.length n b N f ^^^ tenW a1 a2 d2.length n b f c)) ∧ OwnI wr WE.heap.size (.slice p4 d1.length c4') (bitsL d1.length X) ∧ OwnI wr WE.heap.size (.slice p6 d2.length c6') (bitsL d2.length Y) ∧ Below WD.heap.size WD wr) (fun i _ => N - (intOf i).toNat)
                          case atStart => exact ⟨0, Nat.zero_le _, rfl, HT6.out, HRA.out, HRB.out, HB6.out⟩
                          case round =>
                            rename World => WF
                            obtain ⟨c, hc, rfl, hT, hA, hB, hbl⟩ := hrel
                            have HTF := Lib.hid hT; have HAF := Lib.hid hA; have HBF := Lib.hid hB; have HLF := Lib.hid hbl
                            clear hT hA hB hbl HT6 HRA HRB HB6
                            by_cases hcl : c < N
                            · have hci : (c : Int) < (N : Int) := by omega
                              have hcp : c / d2.length < d1.length := (Nat.div_lt_iff_lt_mul (by omega)).2 (by rw [← HN.out]; exact hcl)
                              have hcq : c % d2.length < d2.length := Nat.mod_lt _ (by omega)
                              have td2 : (c : Int).tdiv (d2.length : Int) = ((c / d2.length : Nat) : Int) := (Int.ofNat_tdiv c d2.length).symm
                              have tm2 : (c : Int).tmod (d2.length : Int) = ((c % d2.length : Nat) : Int) := (Int.ofNat_tmod c d2.length).symm
                              have HS := Lib.hid (HVS.out c)
                              obtain ⟨b5, o5, c5, hv5, hw5, -⟩ := HAF.out.ints.at (c / d2.length) (by rw [bitsL_length]; exact hcp)
                              obtain ⟨b6, o6, c6, hv6, hw6, -⟩ := HBF.out.ints.at (c % d2.length) (by rw [bitsL_length]; exact hcq)
                              rw [bitsL_length] at hv5 hv6
                              simp only [Value.slice.injEq, true_and] at hv5 hv6
                              obtain ⟨rfl, rfl⟩ := hv5
                              obtain ⟨rfl, rfl⟩ := hv6
                              rw [← getD_at', bitsL_at _ _ _ hcp] at hw5
                              rw [← getD_at', bitsL_at _ _ _ hcq] at hw6
                              have hrow : WF.ownsRow WD.heap.size 2 1 (.slice (some ⟨WD.heap.size, 0, none⟩) N N) N ((bitsL N (tenM a1 a2 d2.length n b N f ^^^ tenW a1 a2 d2.length n b f c)).map (Value.int .i64)) := by have := HTF.out; unfold OwnI at this; rwa [bitsL_length] at this
                              have hcc := own_int_at hrow c hcl
                              have hfz := hrow.frozenAt c
                              generalize c / d2.length = p at *
                              generalize c % d2.length = q at *
                              have hst := own_int_set hrow c (((bitsL N (tenM a1 a2 d2.length n b N f ^^^ tenW a1 a2 d2.length n b f c)).getD c 0 + if X.testBit p && Y.testBit q then 1 else 0) % 2)
                              rw [bitsL_add _ _ _ _ hcl, ← HS.out] at hst
                              have hy := bits01 N (tenM a1 a2 d2.length n b N f ^^^ tenW a1 a2 d2.length n b f c) ((bitsL N (tenM a1 a2 d2.length n b N f ^^^ tenW a1 a2 d2.length n b f c)).getD c 0) (by rw [getD_at' _ _ (by rw [bitsL_length]; exact hcl)]; exact List.getElem_mem _)
                              generalize (bitsL N (tenM a1 a2 d2.length n b N f ^^^ tenW a1 a2 d2.length n b f c)).getD c 0 = y at *
                              obtain ⟨xa, hxa⟩ : ∃ x : Int, x = if X.testBit p then 1 else 0 := ⟨_, rfl⟩
                              obtain ⟨xb, hxb⟩ : ∃ x : Int, x = if Y.testBit q then 1 else 0 := ⟨_, rfl⟩
                              obtain ⟨pp, hpp⟩ : ∃ x : Int, x = if X.testBit p && Y.testBit q then 1 else 0 := ⟨_, rfl⟩
                              have hmulp : xa * xb = pp := by rw [hxa, hxb, hpp]; cases X.testBit p <;> cases Y.testBit q <;> rfl
                              have hp01 : 0 ≤ pp ∧ pp ≤ 1 := by rw [hpp]; split <;> omega
                              rw [← hxa] at hw5
                              rw [← hxb] at hw6
                              rw [← hpp] at hst
                              have htm : (y + pp).tmod 2 = (y + pp) % 2 := Int.tmod_eq_emod_of_nonneg (by omega)
                              have hpi : (p : Int) < (d1.length : Int) := by omega
                              have hqi : (q : Int) < (d2.length : Int) := by omega
                              have hwp : IntKind.i64.wrap (p : Int) = p := IntWalk.i64_in _ (by omega)
                              have hA' := OwnI.setFar HAF.out ⟨WD.heap.size, c, none⟩ (fun e => by have h1 : WE.heap.size ≤ WD.heap.size := (World.ownsRow.lt HAF.out _ e).1; have := HDE.out; omega) (.int .i64 ((y + pp) % 2))
                              have hB' := OwnI.setFar HBF.out ⟨WD.heap.size, c, none⟩ (fun e => by have h1 : WE.heap.size ≤ WD.heap.size := (World.ownsRow.lt HBF.out _ e).1; have := HDE.out; omega) (.int .i64 ((y + pp) % 2))
                              have hL' := HLF.out.setCell (p := ⟨WD.heap.size, c, none⟩) (Nat.le_refl _) (.int .i64 ((y + pp) % 2))
                              have G := Lib.hid (And.intro hst (And.intro hA' (And.intro hB' hL')))
                              have sy : IntKind.i64.wrap (y + pp) = y + pp := IntWalk.i64_in _ (by omega)
                              have sp : IntKind.i64.wrap pp = pp := IntWalk.i64_in _ (by omega)
                              clear hst hA' hB' hL' hrow hxa hxb hpp HS HTF HAF HBF HLF HVS
                              go_wp2_with fail
                              go_region_law (fail)
                              all_goals
                                go_wp2_with fail
                                go_roundw
                                case rel => exact ⟨c + 1, by omega, by go_num, by unfold OwnI; rw [bitsL_length]; exact own_same G.out.1 (fun _ _ => rfl), G.out.2.1.same (fun _ _ => rfl), G.out.2.2.1.same (fun _ _ => rfl), below_drewN 1 G.out.2.2.2⟩
                                case measure => simp [intOf]; omega
                            · obtain rfl : c = N := by omega
                              go_wp2_with fail
                              go_roundw
                              case rel => exact ⟨f + 1, by omega, by go_num, by rw [HM1.out]; exact HTF.out, HLF.out⟩
                              case measure => simp [intOf]; omega
                        · obtain rfl : f = n + 1 := by omega
                          have hfi : ¬ ((n : Int) + 1) ≤ (n : Int) := by omega
                          have HTQ : Hid (OwnI WE WD.heap.size (.slice (some ⟨WD.heap.size, 0, none⟩) N N) (bitsL N (tenQ d1 d2 a1 a2 n b))) := by
                            have := HTE.out
                            show OwnI _ _ _ _
                            unfold tenQ; rw [← HN.out]; exact this
                          have HUE : Hid (OwnII WE w1.heap.size (.slice ua un uc) (tAll (tenQ d1 d2 a1 a2) N b ++ tCol (tenQ d1 d2 a1 a2) N b (n - 1) ++ tRow (tenQ d1 d2 a1 a2 n b) n b 0)) := by
                            obtain ⟨us, hU⟩ := HUD.out
                            show OwnII _ _ _ _
                            rw [tRow, List.append_nil]
                            exact ⟨us, hU.same HBL.out.block⟩
                          have HOE := Lib.hid (HOD.out.same HBL.out.block)
                          have HRS : Hid (∀ c, tRow (tenQ d1 d2 a1 a2 n b) n b (c + 1) = tRow (tenQ d1 d2 a1 a2 n b) n b c ++ (if (tenQ d1 d2 a1 a2 n b).testBit c then [[(n : Int), (b : Int), (c : Int)]] else [])) := fun c => rfl
                          have HCS : Hid (tCol (tenQ d1 d2 a1 a2) N b n = tCol (tenQ d1 d2 a1 a2) N b (n - 1) ++ tRow (tenQ d1 d2 a1 a2 n b) n b N) := by
                            obtain ⟨m, rfl⟩ : ∃ m, n = m + 1 := ⟨n - 1, by omega⟩
                            rfl
                          have HLE : Hid (∀ c, c ≤ N → (tAll (tenQ d1 d2 a1 a2) N b ++ tCol (tenQ d1 d2 a1 a2) N b (n - 1) ++ tRow (tenQ d1 d2 a1 a2 n b) n b c).length ≤ 4398046511104) := fun c hc => by
                            have h1 := tAll_len (tenQ d1 d2 a1 a2) N b
                            have h2 := tCol_len (tenQ d1 d2 a1 a2) N b (n - 1)
                            have h3 := tRow_len (tenQ d1 d2 a1 a2 n b) n b c
                            have h4 : b * (20 * N) ≤ 16 * (20 * 16) := Nat.mul_le_mul (by omega) (by omega)
                            have h5 : (n - 1) * N ≤ 20 * 16 := Nat.mul_le_mul (by omega) hl
                            rw [List.length_append, List.length_append]; omega
                          have hkj : (k : Int) * (d2.length : Int) + (j : Int) = (b : Int) := by
                            have := HBE.out
                            rw [this]; simp
                          have hko : (0 : Int) ≤ (k : Int) * (d2.length : Int) ∧ (k : Int) * (d2.length : Int) ≤ 256 := by
                            have h1 : k * d2.length ≤ 16 * 16 := Nat.mul_le_mul (by omega) hl2
                            rw [← Int.natCast_mul]; omega
                          clear HTE HBL HUD HOD HUN HUN2
                          generalize tenQ d1 d2 a1 a2 n b = R at *
                          go_wp2_with fail
                          go_loopw [10, 22] (fun u i wr => ∃ (c : Nat), c ≤ N ∧ i = .int .i64 c ∧ OwnII wr w1.heap.size u (tAll (tenQ d1 d2 a1 a2) N b ++ tCol (tenQ d1 d2 a1 a2) N b (n - 1) ++ tRow R n b c) ∧ OwnI wr WD.heap.size (.slice (some ⟨WD.heap.size, 0, none⟩) N N) (bitsL N R) ∧ OwnI wr w1.heap.size (.slice pa pn pc) (tenD d1 d2) ∧ Below w1.heap.size w1 wr) (fun _ i _ => N - (intOf i).toNat)
                          case atStart => exact ⟨0, Nat.zero_le _, rfl, HUE.out, HTQ.out, HOE.out, HBE2.out⟩
                          case round =>
                            rename World => WF
                            obtain ⟨c, hc, rfl, hU, hT, hO, hbl⟩ := hrel
                            obtain ⟨us0, hU0⟩ := hU
                            obtain ⟨va, vn, vc, rfl⟩ := own_shape hU0.row
                            have HUF : Hid (OwnII WF w1.heap.size (.slice va vn vc) (tAll (tenQ d1 d2 a1 a2) N b ++ tCol (tenQ d1 d2 a1 a2) N b (n - 1) ++ tRow R n b c)) := ⟨us0, hU0⟩
                            have HTF := Lib.hid hT; have HOF := Lib.hid hO; have HLF := Lib.hid hbl
                            have hszF := hbl.size
                            clear hT hO hbl hU0 us0 HUE HTQ HOE HBE2
                            by_cases hcl : c < N
                            · have hci : (c : Int) < (N : Int) := by omega
                              have hrow : WF.ownsRow WD.heap.size 2 1 (.slice (some ⟨WD.heap.size, 0, none⟩) N N) N ((bitsL N R).map (Value.int .i64)) := by have := HTF.out; unfold OwnI at this; rwa [bitsL_length] at this
                              have hcc := own_int_at hrow c hcl
                              rw [bitsL_at _ _ _ hcl] at hcc
                              have HS := Lib.hid (HRS.out c)
                              clear hrow
                              cases hbit : R.testBit c
                              · rw [hbit, if_neg (by simp)] at hcc
                                have HS2 : Hid (tRow R n b (c + 1) = tRow R n b c) := by show _ = _; rw [HS.out, hbit, if_neg (by simp), List.append_nil]
                                clear hbit HS
                                go_wp2_with fail
                                go_roundw
                                case rel => exact ⟨c + 1, by omega, by go_num, by rw [HS2.out]; exact HUF.out, HTF.out, HOF.out, HLF.out⟩
                                case measure => simp [intOf]; omega
                              · rw [hbit, if_pos rfl] at hcc
                                have HS2 : Hid (tRow R n b (c + 1) = tRow R n b c ++ [[(n : Int), (b : Int), (c : Int)]]) := by show _ = _; rw [HS.out, hbit, if_pos rfl]
                                have HLC := Lib.hid (HLE.out c hc)
                                clear hbit HS
                                go_wp2_with (at_builtin; refine append_row (w := WF.alloc _) (wE := WF) rfl _ _ rfl w1.heap.size _ _ _ [(n : Int), (b : Int), (c : Int)] HUF.out rfl (ownI_lit3 (Nat.le_refl _) _ _ _) ((Below.refl _ _).alloc (Nat.le_refl _) _) HLF.out hszF _ rfl (by simp) HLC.out ?_; intro v' w' hown' hbl' hs' hk'; have HT' := Lib.hid (keep_app HTF.out ((Below.refl WF.heap.size WF).alloc (Nat.le_refl _) _) HUF.out hk'); have HO' := Lib.hid (keep_app HOF.out ((Below.refl WF.heap.size WF).alloc (Nat.le_refl _) _) HUF.out hk'); have HU' := Lib.hid hown'; have HL' := Lib.hid hbl'; clear hown' hbl' hk')
                                go_roundw
                                case rel => exact ⟨c + 1, by omega, by go_num, by rw [HS2.out, ← List.append_assoc]; exact HU'.out, HT'.out, HO'.out, HL'.out⟩
                                case measure => simp [intOf]; omega
                            · obtain rfl : c = N := by omega
                              go_wp2_with fail
                              go_roundw
                              case rel => exact ⟨n + 1, by omega, by omega, by go_num, by rw [Nat.add_sub_cancel, HCS.out, ← List.append_assoc]; exact HUF.out, HOF.out, HLF.out⟩
                              case measure => simp [intOf]; omega
                    · obtain rfl : n = 21 := by omega
                      go_wp2_with fail
                      go_roundw
                      case rel => exact ⟨j + 1, by omega, by go_num, by rw [← Nat.add_assoc, ← HBE.out]; exact HUD.out, HOD.out, HBD2.out⟩
                      case measure => simp [intOf]; omega
                · obtain rfl : j = d2.length := by omega
                  go_wp2_with fail
                  go_roundw
                  case rel => exact ⟨k + 1, by omega, by go_num, by rw [Nat.add_mul, Nat.one_mul]; exact HUC.out, HOC.out, HBC.out⟩
                  case measure => simp [intOf]; omega
            · obtain rfl : k = d1.length := by omega
              obtain ⟨us0, hU0⟩ := HUB.out
              obtain ⟨ua, un, uc, rfl⟩ := own_shape hU0.row
              have HSO := Lib.hid (l11Sorted_c (.slice pa pn pc) (.slice ua un uc) (tenD d1 d2) (tAll (tenQ d1 d2 a1 a2) N N) WB HOB.out.ints (by have := hU0.ints; rwa [← HN.out] at this) HST.out.2 HST.out.1 (by rw [HLD.out]; exact tAll_rows _ _) (by have := tAll_len (tenQ d1 d2 a1 a2) N N; have : N * (20 * N) ≤ 16 * (20 * 16) := Nat.mul_le_mul hl (by omega); omega))
              have HVR := Lib.hid (HV3b.out.kept HBB.out.block)
              have HBW := Lib.hid (HB1.out.trans (HBB.out.mono hs1))
              have hwr := HBW.out.size
              clear hU0 us0
              go_wp2_with (go_at_call 122; refine HSO.out.mono ?_; rintro e w7 ⟨rd, rs, rfl, hM, hz7⟩; obtain ⟨da, dc, hd1, -⟩ := hM.1.len; obtain ⟨sa, sc, hs1', -⟩ := hM.2.len; obtain ⟨dn, hdn⟩ : ∃ n, n = (srtD (tenD d1 d2)).length := ⟨_, rfl⟩; obtain ⟨sn, hsn⟩ : ∃ n, n = (oddL ((tAll (tenQ d1 d2 a1 a2) N N).map (plcR (tenD d1 d2)))).length := ⟨_, rfl⟩; rw [← hdn] at hd1; rw [← hsn] at hs1'; clear hdn hsn; subst hd1; subst hs1'; have V7 := HVR.out.kept hz7.block; have f0 := V7.free 0; have f1 := V7.free 1; have e0 := V7.c0; have e1 := V7.c1; have HM := Lib.hid hM; have HV7 := Lib.hid V7; have HX7 := Lib.hid (HBW.out.trans (hz7.mono hwr)); clear hM V7 hz7)
              have W4 := HV7.out.set0 (.slice da dn dc)
              have g0 := (W4.set1 (.slice sa sn sc)).c0
              have g1 := (W4.set1 (.slice sa sn sc)).c1
              exact bodyPost_ret (v := .tuple #[.agg #[.slice da dn dc, .slice sa sn sc], .int .i64 0]) (by simp [results, Try.results53, go_sem, g0, g1]) rfl
                ⟨_, _, by rw [E1'.out], by rw [E2'.out, E3'.out]; exact ⟨(HM.out.1.otherW HV7.out (by decide) _).otherW W4 (by decide) _, (HM.out.2.otherW HV7.out (by decide) (by decide) _).otherW W4 (by decide) (by decide) _⟩, (HX7.out.setCell (by show w.heap.size ≤ w.heap.size + 1 + 1; omega) _).setCell (by show w.heap.size ≤ w.heap.size + 1 + 1; omega) _⟩
    · have tl : decide ((16 : Int) < (d1.length : Int) * (d2.length : Int)) = true := decide_eq_true (by rw [← HMU.out]; omega)
      have hN : tenOk d1 d2 = false := by unfold tenOk; rw [decide_eq_false hl]; rfl
      have e1 : tenC d1 a1 d2 a2 = 3 := by unfold tenC; rw [HOK.out, hN]; rfl
      have e2 : tenDD d1 a1 d2 a2 = [] := by unfold tenDD; rw [hN, Bool.and_false]; rfl
      have e3 : tenA d1 a1 d2 a2 = [] := by unfold tenA; rw [hN, Bool.and_false]; rfl
      rw [e1, e2, e3]
      clear e1 e2 e3 hN hl
      go_enter Try.func53, Try.ntmps53
      go_wp2_with fail
      rw [← HW.out]
      refine I.out.mono ?_
      rintro e w1 ⟨rfl, hb1⟩
      have HR := Lib.hid (HV3.out.kept hb1.block)
      have HV1b := Lib.hid (HV1.out.kept hb1.block); have HV2b := Lib.hid (HV2.out.kept hb1.block)
      have c1 := HV1b.out.c0; have c3 := HV2b.out.c0
      have HB1 := Lib.hid (HB0.out.trans (hb1.mono HB0.out.size))
      clear hb1 HW k1 k2 k3 k4
      have e0 := HR.out.c0; have e1 := HR.out.c1; have f0 := HR.out.free 0; have f1 := HR.out.free 1
      go_wp2_with fail
      go_quiet (fail)
      go_wp2_with fail
      have HRD : Hid (Var2 (w1.drewN nq) (w.heap.size + 1 + 1) (.slice none 0 0) (.slice none 0 0) 60) := HR.out.kept fun _ _ => rfl
      have g0 := (HRD.out.set0 (.slice none 0 0)).c0
      have g1 := ((HRD.out.set0 (.slice none 0 0)).set1 (.slice none 0 0)).c1
      exact bodyPost_ret (v := .tuple #[.agg #[.slice none 0 0, .slice none 0 0], .int .i64 3]) (by simp [results, Try.results53, go_sem, g0, g1]) rfl
        ⟨_, _, rfl, ⟨IntS.nil _, IntSS.nil _⟩, ((below_drewN nq HB1.out).setCell (by show w.heap.size ≤ w.heap.size + 1 + 1; omega) _).setCell (by show w.heap.size ≤ w.heap.size + 1 + 1; omega) _⟩
end Go.Proofs.Ytljfpkhgijangaa

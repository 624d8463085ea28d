/- The tensor product of two modules: of the program. -/
import Derived.Test.YtljfpkhgijangaaLTenC
namespace Go.Proofs.Ytljfpkhgijangaa
open Go.RowKit Go.Sort Go.Deep

def put4 (a0 : Act) (d1 d2 d3 d4 : Nat) (x1 x2 x3 x4 : Value) : Act := (((a0.put (some d1) x1).put (some d2) x2).put (some d3) x3).put (some d4) x4
section
variable {P : Program} {ops : Array Oper} {Q : Exit → Act → World → Prop} {md : Region.Mode} {S : World → Prop} {a0 : Act}
theorem wpAnyH_inv4 {listed : Array Bool} {w0 : World} (i1 i2 i3 i4 d1 d2 d3 d4 : Nat) (mk : Bool → Bool → Bool → Bool → Array Bool)
    (J : Bool → Bool → Bool → Bool → Value → Value → Value → Value → World → Prop) (k : Nat)
    (hl : mk false false false false = listed)
    (h0 : ∃ v1 v2 v3 v4, put4 a0 d1 d2 d3 d4 v1 v2 v3 v4 = a0)
    (hr : ∀ b1 b2 b3 b4 : Bool, ((b1 && b2 && b3 && b4) || (!(Region.ready md ops (mk b1 b2 b3 b4)).isEmpty && (Region.ready md ops (mk b1 b2 b3 b4)).all (fun i => (i == i1 && !b1) || (i == i2 && b1 && !b2) || (i == i3 && !b3) || (i == i4 && !b4)))) = true)
    (m1 : ∀ b2 b3 b4, (mk false b2 b3 b4).setIfInBounds i1 true = mk true b2 b3 b4)
    (m2 : ∀ b1 b3 b4, (mk b1 false b3 b4).setIfInBounds i2 true = mk b1 true b3 b4)
    (m3 : ∀ b1 b2 b4, (mk b1 b2 false b4).setIfInBounds i3 true = mk b1 b2 true b4)
    (m4 : ∀ b1 b2 b3, (mk b1 b2 b3 false).setIfInBounds i4 true = mk b1 b2 b3 true)
    (hS : S w0) (hJ : ∀ x1 x2 x3 x4, J false false false false x1 x2 x3 x4 w0)
    (s1 : ∀ b2 b3 b4 x1 x2 x3 x4 w, S w → J false b2 b3 b4 x1 x2 x3 x4 w → wpOp P ops Q i1 (fun a' w' => S w' ∧ ∃ x, a' = put4 a0 d1 d2 d3 d4 x x2 x3 x4 ∧ J true b2 b3 b4 x x2 x3 x4 w') (put4 a0 d1 d2 d3 d4 x1 x2 x3 x4) w)
    (s2 : ∀ b3 b4 x1 x2 x3 x4 w, S w → J true false b3 b4 x1 x2 x3 x4 w → wpOp P ops Q i2 (fun a' w' => S w' ∧ ∃ x, a' = put4 a0 d1 d2 d3 d4 x1 x x3 x4 ∧ J true true b3 b4 x1 x x3 x4 w') (put4 a0 d1 d2 d3 d4 x1 x2 x3 x4) w)
    (s3 : ∀ b1 b2 b4 x1 x2 x3 x4 w, S w → J b1 b2 false b4 x1 x2 x3 x4 w → wpOp P ops Q i3 (fun a' w' => S w' ∧ ∃ x, a' = put4 a0 d1 d2 d3 d4 x1 x2 x x4 ∧ J b1 b2 true b4 x1 x2 x x4 w') (put4 a0 d1 d2 d3 d4 x1 x2 x3 x4) w)
    (s4 : ∀ b1 b2 b3 x1 x2 x3 x4 w, S w → J b1 b2 b3 false x1 x2 x3 x4 w → wpOp P ops Q i4 (fun a' w' => S w' ∧ ∃ x, a' = put4 a0 d1 d2 d3 d4 x1 x2 x3 x ∧ J b1 b2 b3 true x1 x2 x3 x w') (put4 a0 d1 d2 d3 d4 x1 x2 x3 x4) w)
    (hend : ∀ x1 x2 x3 x4 w, S w → J true true true true x1 x2 x3 x4 w → wpAnyH P md ops Q S k (mk true true true true) (put4 a0 d1 d2 d3 d4 x1 x2 x3 x4) w) :
    wpAnyH P md ops Q S (4 + k) listed a0 w0 := by
  have key : ∀ (n : Nat) b1 b2 b3 b4 x1 x2 x3 x4 w, (!b1).toNat + (!b2).toNat + (!b3).toNat + (!b4).toNat = n → S w → J b1 b2 b3 b4 x1 x2 x3 x4 w → wpAnyH P md ops Q S (n + k) (mk b1 b2 b3 b4) (put4 a0 d1 d2 d3 d4 x1 x2 x3 x4) w := by
    intro n
    induction n with
    | zero =>
      intro b1 b2 b3 b4 x1 x2 x3 x4 w hn hS hJ
      rw [Nat.zero_add]
      cases b1 <;> cases b2 <;> cases b3 <;> cases b4 <;> simp at hn
      exact hend _ _ _ _ _ hS hJ
    | succ n ih =>
      intro b1 b2 b3 b4 x1 x2 x3 x4 w hn hS hJ
      rw [Nat.succ_add]
      have hq := hr b1 b2 b3 b4
      have hnt : (b1 && b2 && b3 && b4) = false := by
        cases b1 <;> cases b2 <;> cases b3 <;> cases b4 <;> simp at hn ⊢
      rw [hnt, Bool.false_or, Bool.and_eq_true] at hq
      refine ⟨fun h => ?_, fun i hi => ?_⟩
      · have := hq.1; rw [h] at this; simp at this
      · have h1 := List.all_eq_true.1 hq.2 i hi
        simp only [Bool.or_eq_true, Bool.and_eq_true, beq_iff_eq, Bool.not_eq_true'] at h1
        rcases h1 with ((⟨rfl, rfl⟩ | ⟨⟨rfl, rfl⟩, rfl⟩) | ⟨rfl, rfl⟩) | ⟨rfl, rfl⟩
        · rw [m1]
          refine wpOp_mono (fun a w h => ?_) (s1 _ _ _ _ _ _ _ _ hS hJ)
          obtain ⟨h1, x, rfl, h2⟩ := h
          exact ⟨h1, ih _ _ _ _ _ _ _ _ _ (by simp at hn ⊢; omega) h1 h2⟩
        · rw [m2]
          refine wpOp_mono (fun a w h => ?_) (s2 _ _ _ _ _ _ _ hS hJ)
          obtain ⟨h1, x, rfl, h2⟩ := h
          exact ⟨h1, ih _ _ _ _ _ _ _ _ _ (by simp at hn ⊢; omega) h1 h2⟩
        · rw [m3]
          refine wpOp_mono (fun a w h => ?_) (s3 _ _ _ _ _ _ _ _ hS hJ)
          obtain ⟨h1, x, rfl, h2⟩ := h
          exact ⟨h1, ih _ _ _ _ _ _ _ _ _ (by simp at hn ⊢; omega) h1 h2⟩
        · rw [m4]
          refine wpOp_mono (fun a w h => ?_) (s4 _ _ _ _ _ _ _ _ hS hJ)
          obtain ⟨h1, x, rfl, h2⟩ := h
          exact ⟨h1, ih _ _ _ _ _ _ _ _ _ (by simp at hn ⊢; omega) h1 h2⟩
  obtain ⟨v1, v2, v3, v4, h0⟩ := h0
  have := key 4 false false false false v1 v2 v3 v4 w0 rfl hS (hJ _ _ _ _)
  rw [h0, hl] at this
  exact this
end
section
variable {B : Nat} {d1 d2 : Value} {t1 t2 : List (List Int)} {x1 x2 x3 x4 x5 : Value} {W : World}
/-- What is behind the two stores. -/
theorem PrepJ.stop4 (h : PrepJ B d1 t1 d2 t2 true true true true false x1 x2 x3 x4 x5 W) : ∃ gs gt g1 g2 u1 u2, x3 = .pointer (some ⟨gs, 0, none⟩) ∧ x4 = .pointer (some ⟨gt, 0, none⟩) ∧ x1 = .pointer (some ⟨g1, 0, none⟩) ∧ x2 = .pointer (some ⟨g2, 0, none⟩) ∧ B ≤ gs ∧ B ≤ gt ∧
    Cell1 W gs (.pointer none) 117 ∧ Cell1 (W.setCell ⟨gs, 0, none⟩ x1) gt (.pointer none) 117 ∧
    Cell1 ((W.setCell ⟨gs, 0, none⟩ x1).setCell ⟨gt, 0, none⟩ x2) gs x1 117 ∧ Cell1 ((W.setCell ⟨gs, 0, none⟩ x1).setCell ⟨gt, 0, none⟩ x2) gt x2 117 ∧
    TabU ((W.setCell ⟨gs, 0, none⟩ x1).setCell ⟨gt, 0, none⟩ x2) B g1 d1 u1 t1 ∧ TabU ((W.setCell ⟨gs, 0, none⟩ x1).setCell ⟨gt, 0, none⟩ x2) B g2 d2 u2 t2 := by
  obtain ⟨g1, u1, rfl, h1⟩ := h.a1 rfl
  obtain ⟨g2, u2, rfl, h2⟩ := h.a2 rfl
  obtain ⟨gs, rfl, h3, l3⟩ := h.a3 rfl
  obtain ⟨gt, rfl, h4, l4⟩ := h.a4 rfl
  have n34 : gs ≠ gt := fun e => h.ne rfl rfl (by rw [e])
  have q4 := h4.setFar ⟨gs, 0, none⟩ n34.symm (.pointer (some ⟨g1, 0, none⟩))
  refine ⟨gs, gt, g1, g2, u1, u2, rfl, rfl, rfl, rfl, l3, l4, h3, q4, (h3.set _).setFar _ n34 _, q4.set _, ?_, ?_⟩
  · exact (h1.far h3 (by decide) (by decide) _).far q4 (by decide) (by decide) _
  · exact (h2.far h3 (by decide) (by decide) _).far q4 (by decide) (by decide) _
end
theorem own_ne_cell {w : World} {B e g t n : Nat} {v x : Value} {us : List Value} (h : w.ownsRow B e 1 v n us) (k : Cell1 w g x t) (ne : e ≠ t) : v.ownBlock ≠ some g := by
  rcases h.2 with ⟨rfl, _⟩ | ⟨b, cap, cur, rfl, _, hg, _⟩
  · simp [Value.ownBlock]
  · intro e1
    simp only [Value.ownBlock, Option.some.injEq] at e1
    subst e1
    rw [show w.heap[b]? = _ from k] at hg
    simp only [Option.some.injEq, Obj.cells.injEq] at hg
    exact ne hg.2.1.symm
set_option linter.unusedSimpArgs false in
set_option maxRecDepth 100000 in
set_option maxHeartbeats 4000000 in
theorem implTensorOfModules_c (d a d' a' : Value) (d1 : List Int) (a1 : List (List Int)) (d2 : List Int) (a2 : List (List Int)) (w : World) (h : ModS w.heap d a d1 a1) (h' : ModS w.heap d' a' d2 a2) :
    Calls Try.prog 54 #[.agg #[d, a], .agg #[d', a']] w fun e w' => ∃ r s us, e = .returned (.tuple #[.agg #[r, s], .int .i64 (tenC d1 a1 d2 a2)]) ∧ OwnM w' w.heap.size r s us (tenDD d1 a1 d2 a2) (tenA d1 a1 d2 a2) ∧ Below w.heap.size w w' := by
  obtain ⟨w0, hw0⟩ : ∃ w0, w0 = (((w.alloc (.cells #[d, a] 60)).alloc (.cells #[d', a'] 60)).alloc (.cells #[.slice none 0 0, .slice none 0 0] 60)).alloc (.cells #[.int .i64 d2.length] 3) := ⟨_, rfl⟩
  have hb : Below w.heap.size w w0 := by rw [hw0]; exact ((((Below.refl _ _).alloc (Nat.le_refl _) _).alloc (by simp) _).alloc (by simp; omega) _).alloc (by simp; omega) _
  have hsz : w0.heap.size = w.heap.size + 4 := by rw [hw0]; simp
  have V1 : Var2 w0 w.heap.size d a 60 := by rw [hw0]; exact (((Var2.new w _ _ _).kept (alloc_old _ _)).kept (alloc_old _ _)).kept (alloc_old _ _)
  have V2 : Var2 w0 (w.heap.size + 1) d' a' 60 := by
    rw [hw0]
    have := ((Var2.new (w.alloc (.cells #[d, a] 60)) d' a' 60).kept (alloc_old _ (.cells #[.slice none 0 0, .slice none 0 0] 60))).kept (alloc_old _ (.cells #[.int .i64 d2.length] 3))
    rwa [size_alloc_w] at this
  have V3 : Var2 w0 (w.heap.size + 1 + 1) (.slice none 0 0) (.slice none 0 0) 60 := by
    rw [hw0]
    have := (Var2.new ((w.alloc (.cells #[d, a] 60)).alloc (.cells #[d', a'] 60)) (.slice none 0 0) (.slice none 0 0) 60).kept (alloc_old _ (.cells #[.int .i64 d2.length] 3))
    rwa [size_alloc_w, size_alloc_w] at this
  have Z0 : Cell1 w0 (w.heap.size + 1 + 1 + 1) (.int .i64 d2.length) 3 := by
    rw [hw0]
    have := Cell1.new (((w.alloc (.cells #[d, a] 60)).alloc (.cells #[d', a'] 60)).alloc (.cells #[.slice none 0 0, .slice none 0 0] 60)) (.int .i64 d2.length) 3
    rwa [size_alloc_w, size_alloc_w, size_alloc_w] at this
  have I1 := Lib.hid (isModule_c d a d1 a1 w0 (h.same hb.block))
  have I2 := Lib.hid (fun (W : World) (h : ModS W.heap d' a' d2 a2) => isModule_c d' a' d2 a2 W h)
  have T1 := Lib.hid (fun (W : World) (h : ModS W.heap d a d1 a1) (hT : modT d1 a1 = true) => tableOf_c d a d1 a1 W h hT)
  have T2 := Lib.hid (fun (W : World) (h : ModS W.heap d' a' d2 a2) (hT : modT d2 a2 = true) => tableOf_c d' a' d2 a2 W h hT)
  obtain ⟨ao, ac, hdv, -⟩ := h.1.len
  obtain ⟨bo, bc, hav, -⟩ := h.2.len
  obtain ⟨ao', ac', hdv', -⟩ := h'.1.len
  obtain ⟨bo', bc', hav', -⟩ := h'.2.len
  subst hdv; subst hav; subst hdv'; subst hav'
  have H1 := Lib.hid h; have H2 := Lib.hid h'; have HB0 := Lib.hid hb; have HSZ := Lib.hid hsz; have HV1 := Lib.hid V1; have HV2 := Lib.hid V2; have HV3 := Lib.hid V3; have HZ0 := Lib.hid Z0; have HW := Lib.hid hw0
  clear h h' hb hsz V1 V2 V3 Z0 hw0
  have k1 := HV1.out.c0; have k2 := HV1.out.c1; have k3 := HV2.out.c0; have k4 := HV2.out.c1; have k5 := HZ0.out.c0
  cases hM1 : isMod d1 a1
  · have e1 : tenC d1 a1 d2 a2 = 1 := by simp [tenC, sumOk, hM1]
    have e2 : tenDD d1 a1 d2 a2 = [] := by simp [tenDD, sumOk, hM1]
    have e3 : tenA d1 a1 d2 a2 = [] := by simp [tenA, sumOk, hM1]
    rw [hM1] at I1
    rw [e1, e2, e3]
    clear hM1 e1 e2 e3 T1 T2 I2
    go_enter Try.func54, Try.ntmps54
    go_wp2_with fail
    rw [← HW.out]
    refine I1.out.mono ?_
    rintro e w1 ⟨rfl, hb1⟩
    have HR2 := Lib.hid (HV3.out.kept hb1.block)
    have e0 := HR2.out.c0; have e1 := HR2.out.c1; have f0 := HR2.out.free 0; have f1 := HR2.out.free 1
    have HB2 := Lib.hid (HB0.out.trans (hb1.mono HB0.out.size))
    clear hb1 HW
    go_wp2_with fail
    have g0 := (HR2.out.set0 (.slice none 0 0)).c0
    have g1 := ((HR2.out.set0 (.slice none 0 0)).set1 (.slice none 0 0)).c1
    exact bodyPost_ret (v := .tuple #[.agg #[.slice none 0 0, .slice none 0 0], .int .i64 1]) (by simp [results, Try.results54, go_sem, g0, g1]) rfl
      ⟨_, _, [], rfl, OwnM.nil _ _, (HB2.out.setCell (by show w.heap.size ≤ w.heap.size + 1 + 1; omega) _).setCell (by show w.heap.size ≤ w.heap.size + 1 + 1; omega) _⟩
  · have HT1 := Lib.hid (isMod_T2 hM1)
    rw [hM1] at I1
    cases hM2 : isMod d2 a2
    · have e1 : tenC d1 a1 d2 a2 = 1 := by simp [tenC, sumOk, hM2]
      have e2 : tenDD d1 a1 d2 a2 = [] := by simp [tenDD, sumOk, hM2]
      have e3 : tenA d1 a1 d2 a2 = [] := by simp [tenA, sumOk, hM2]
      rw [hM2] at I2
      rw [e1, e2, e3]
      clear hM1 hM2 e1 e2 e3 T1 T2
      go_enter Try.func54, Try.ntmps54
      go_wp2_with fail
      rw [← HW.out]
      refine I1.out.mono ?_
      rintro e w1 ⟨rfl, hb1⟩
      have HB1 := Lib.hid (HB0.out.trans (hb1.mono HB0.out.size))
      have V2 := HV2.out.kept hb1.block
      have c3 := V2.c0; have c4 := V2.c1
      have HR := Lib.hid (HV3.out.kept hb1.block)
      clear hb1 HW V2 k3 k4
      go_wp2_with fail
      refine (I2.out _ (H2.out.same HB1.out.block)).mono ?_
      rintro e w2 ⟨rfl, hb2⟩
      have HR2 := Lib.hid (HR.out.kept hb2.block)
      have e0 := HR2.out.c0; have e1 := HR2.out.c1; have f0 := HR2.out.free 0; have f1 := HR2.out.free 1
      have HB2 := Lib.hid (HB1.out.trans (hb2.mono HB1.out.size))
      clear hb2
      go_wp2_with fail
      have g0 := (HR2.out.set0 (.slice none 0 0)).c0
      have g1 := ((HR2.out.set0 (.slice none 0 0)).set1 (.slice none 0 0)).c1
      exact bodyPost_ret (v := .tuple #[.agg #[.slice none 0 0, .slice none 0 0], .int .i64 1]) (by simp [results, Try.results54, go_sem, g0, g1]) rfl
        ⟨_, _, [], rfl, OwnM.nil _ _, (HB2.out.setCell (by show w.heap.size ≤ w.heap.size + 1 + 1; omega) _).setCell (by show w.heap.size ≤ w.heap.size + 1 + 1; omega) _⟩
    · have HT2 := Lib.hid (isMod_T2 hM2)
      rw [hM2] at I2
      have hl1 := modT_len HT1.out; have hl2 := modT_len HT2.out
      have HOK : Hid (sumOk d1 a1 d2 a2 = true) := by show _ = _; simp [sumOk, hM1, hM2]
      clear hM1 hM2
      have hmul : (0 : Int) ≤ (d1.length : Int) * (d2.length : Int) ∧ (d1.length : Int) * (d2.length : Int) ≤ 256 := by
        have := Nat.mul_le_mul hl1 hl2
        rw [← Int.natCast_mul]; omega
      have HMU : Hid (((d1.length * d2.length : Nat) : Int) = (d1.length : Int) * (d2.length : Int)) := by show _ = _; simp
      by_cases hl : d1.length * d2.length ≤ 16
      · have tl : decide ((16 : Int) < (d1.length : Int) * (d2.length : Int)) = false := decide_eq_false (by rw [← HMU.out]; omega)
        go_enter Try.func54, Try.ntmps54
        go_wp2_with fail
        rw [← HW.out]
        refine I1.out.mono ?_
        rintro e w1 ⟨rfl, hb1⟩
        have HB1 := Lib.hid (HB0.out.trans (hb1.mono HB0.out.size))
        have HV1b := Lib.hid (HV1.out.kept hb1.block); have HV2b := Lib.hid (HV2.out.kept hb1.block); have HV3b := Lib.hid (HV3.out.kept hb1.block); have HZ1 := Lib.hid (HZ0.out.kept hb1.block)
        have c3 := HV2b.out.c0; have c4 := HV2b.out.c1
        clear hb1 HW k1 k2 k3 k4 k5
        go_wp2_with fail
        refine (I2.out _ (H2.out.same HB1.out.block)).mono ?_
        rintro e w2 ⟨rfl, hb2⟩
        have HB2 := Lib.hid (HB1.out.trans (hb2.mono HB1.out.size))
        have HV1c := Lib.hid (HV1b.out.kept hb2.block); have HV2c := Lib.hid (HV2b.out.kept hb2.block); have HV3c := Lib.hid (HV3b.out.kept hb2.block); have HZ2 := Lib.hid (HZ1.out.kept hb2.block)
        have k1 := HV1c.out.c0; have k3 := HV2c.out.c0; have k5 := HZ2.out.c0
        clear hb2 c3 c4
        have hs2 := HB2.out.size
        have HL := Lib.hid hl
        clear hl
        obtain ⟨w3, hw3⟩ : ∃ w3, w3 = (w2.alloc (.cells #[] 2)).alloc (.cells #[.slice (some ⟨w2.heap.size, 0, none⟩) 0 0] 27) := ⟨_, rfl⟩
        have hb3 : Below w2.heap.size w2 w3 := by rw [hw3]; exact ((Below.refl _ _).alloc (Nat.le_refl _) _).alloc (by simp) _
        have HG3 : Hid (Cell1 w3 (w2.heap.size + 1) (.slice (some ⟨w2.heap.size, 0, none⟩) 0 0) 27) := by
          show Cell1 _ _ _ _
          rw [hw3]
          have := Cell1.new (w2.alloc (.cells #[] 2)) (.slice (some ⟨w2.heap.size, 0, none⟩) 0 0) 27
          rwa [size_alloc_w] at this
        have HO3 : Hid (OwnI w3 w2.heap.size (.slice (some ⟨w2.heap.size, 0, none⟩) 0 0) []) := by
          show OwnI _ _ _ _
          rw [hw3]; exact own_same (ownI_empty (Nat.le_refl _)) (alloc_old _ _)
        have HB3 := Lib.hid hb3; have HW3 := Lib.hid hw3
        clear hb3 hw3
        go_upto_region 7 with fail
        rw [← HW3.out]
        clear HW3
        have HV1d := Lib.hid (HV1c.out.kept HB3.out.block); have HV2d := Lib.hid (HV2c.out.kept HB3.out.block)
        clear k1 k3 k5
        have k1 := HV1d.out.c0
        go_wp2_with fail
        go_loopw [39] (fun i wr => ∃ (k : Nat) (v : Value), k ≤ d1.length ∧ i = .int .i64 k ∧ Cell1 wr (w2.heap.size + 1) v 27 ∧ OwnI wr w2.heap.size v (tenD (d1.take k) d2) ∧ Below w2.heap.size w2 wr) (fun i _ => d1.length - (intOf i).toNat)
        case atStart => exact ⟨0, _, Nat.zero_le _, rfl, HG3.out, by simpa [tenD] using HO3.out, HB3.out⟩
        case round =>
          rename World => WA
          obtain ⟨k, v, hk, rfl, hG, hO, hbl⟩ := hrel
          have HGA := Lib.hid hG; have HOA := Lib.hid hO; have HBA := Lib.hid hbl
          clear hG hO hbl HG3 HO3 HB3 HV1d HV2d
          by_cases hkl : k < d1.length
          · obtain ⟨b1, o1, q1, hv1, hc1, -⟩ := H1.out.1.at k hkl
            simp only [Value.slice.injEq, true_and] at hv1
            obtain ⟨rfl, rfl⟩ := hv1
            have BWA := HB2.out.trans (HBA.out.mono hs2)
            have hcA := (BWA.cell (World.block_lt_of_cell? _ _ hc1)).trans hc1
            have hx1 : 0 ≤ d1[k] ∧ d1[k] ≤ 20 := by have := modT_stem HT1.out k; rwa [show d1.getD k 0 = d1[k] by simp [hkl]] at this
            have HTK := Lib.hid (tenD_snoc (d1.take k) d2 d1[k])
            rw [← List.take_succ_eq_append_getElem hkl] at HTK
            have HV2A := Lib.hid (HV2c.out.kept HBA.out.block)
            have k3 := HV2A.out.c0
            have HC1 := Lib.hid hc1
            clear hc1 BWA k1
            generalize d1[k] = x at *
            have hki : (k : Int) < (d1.length : Int) := by omega
            go_wp2_with fail
            go_loopw [46] (fun i wr => ∃ (j : Nat) (v : Value), j ≤ d2.length ∧ i = .int .i64 j ∧ Cell1 wr (w2.heap.size + 1) v 27 ∧ OwnI wr w2.heap.size v (tenD (d1.take k) d2 ++ (d2.take j).map fun e => x + e) ∧ Below w2.heap.size w2 wr) (fun i _ => d2.length - (intOf i).toNat)
            case atStart => exact ⟨0, _, Nat.zero_le _, rfl, HGA.out, by simpa using HOA.out, HBA.out⟩
            case round =>
              obtain ⟨j, v', hj, rfl, hG, hO, hbl⟩ := hrel
              have HGB := Lib.hid hG; have HOB := Lib.hid hO; have HBB := Lib.hid hbl
              have hszB := hbl.size
              obtain ⟨ya, yn, yc, rfl⟩ := own_shape hO
              clear hG hO hbl HGA HOA HBA HV2A
              by_cases hjl : j < d2.length
              · obtain ⟨b2, o2, q2, hv2, hc2, -⟩ := H2.out.1.at j hjl
                simp only [Value.slice.injEq, true_and] at hv2
                obtain ⟨rfl, rfl⟩ := hv2
                have BWB := HB2.out.trans (HBB.out.mono hs2)
                have hcB := (BWB.cell (World.block_lt_of_cell? _ _ hc2)).trans hc2
                have hy1 : 0 ≤ d2[j] ∧ d2[j] ≤ 20 := by have := modT_stem HT2.out j; rwa [show d2.getD j 0 = d2[j] by simp [hjl]] at this
                have HTJ : Hid ((d2.take (j + 1)).map (fun e => x + e) = (d2.take j).map (fun e => x + e) ++ [x + d2[j]]) := by show _ = _; rw [List.take_succ_eq_append_getElem hjl, List.map_append]; rfl
                clear hc2 BWB hcA k3
                generalize d2[j] = y at *
                have hji : (j : Int) < (d2.length : Int) := by omega
                have c0 := HGB.out.c0
                have HLN : Hid ((tenD (d1.take k) d2 ++ (d2.take j).map fun e => x + e).length ≤ 4398046511104) := by
                  show _ ≤ _
                  rw [List.length_append, tenD_len, List.length_map, List.length_take, List.length_take]
                  have : min k d1.length * d2.length ≤ 16 * 16 := Nat.mul_le_mul (by omega) hl2
                  omega
                go_wp2_with (at_builtin; refine append_int (w := wr) rfl _ _ rfl _ _ _ (x + y) HOB.out rfl HBB.out hszB _ rfl (by simp) HLN.out ?_; intro v' w' hown' hbl' hsz' hfar'; obtain ⟨pv, nv, cv, rfl⟩ := own_shape hown'; have HG' := Lib.hid (HGB.out.same (hfar' _ HGB.out.lt (fun e => own_ne_cell HOB.out HGB.out (by decide) e.symm))); have HO' := Lib.hid hown'; have HB' := Lib.hid hbl'; clear hown' hbl' hfar'; have f' := HG'.out.free 0; have c' := HG'.out.c0)
                go_roundw
                case rel => exact ⟨j + 1, _, by omega, by go_num, HG'.out.set _, by rw [HTJ.out, ← List.append_assoc]; exact OwnI.setFar HO'.out _ (own_ne_cell HO'.out HG'.out (by decide)) _, HB'.out.setCell (by show w2.heap.size ≤ w2.heap.size + 1; omega) _⟩
                case measure => simp [intOf]; omega
              · obtain rfl : j = d2.length := by omega
                go_wp2_with fail
                go_roundw
                case rel => exact ⟨k + 1, _, by omega, by go_num, HGB.out, by rw [HTK.out]; simpa using HOB.out, HBB.out⟩
                case measure => simp [intOf]; omega
          · obtain rfl : k = d1.length := by omega
            have HO : Hid (OwnI WA w2.heap.size v (tenD d1 d2)) := by have := HOA.out; rwa [List.take_length] at this
            obtain ⟨ya, yn, yc, rfl⟩ := own_shape HO.out
            have hyn : yn = d1.length * d2.length := by
              have := HO.out.ints.len
              obtain ⟨_, _, hv, _⟩ := this
              simp only [Value.slice.injEq, tenD_len] at hv
              exact hv.2.1
            subst hyn
            have c0 := HGA.out.c0
            have AL := Lib.hid (all_c (.slice ya (d1.length * d2.length) yc) (tenD d1 d2) 129 #[] stemB WA HO.out.ints enters_isStem (fun w1 _ x _ => (isStem_c x w1).mono fun _ _ ⟨he, hw⟩ => ⟨he, 0, hw.symm⟩))
            have HBB := Lib.hid (HB2.out.trans (HBA.out.mono hs2))
            have HV1A := Lib.hid (HV1c.out.kept HBA.out.block); have HV2A := Lib.hid (HV2c.out.kept HBA.out.block); have HV3A := Lib.hid (HV3c.out.kept HBA.out.block); have HZA := Lib.hid (HZ2.out.kept HBA.out.block)
            clear HOA k1
            cases hst : (tenD d1 d2).all stemB
            · have hN : tenOk d1 d2 = false := by unfold tenOk; rw [hst, Bool.and_false]
              have e1 : tenC d1 a1 d2 a2 = 3 := by unfold tenC; rw [HOK.out, hN]; rfl
              have e2 : tenDD d1 a1 d2 a2 = [] := by unfold tenDD; rw [hN, Bool.and_false]; rfl
              have e3 : tenA d1 a1 d2 a2 = [] := by unfold tenA; rw [hN, Bool.and_false]; rfl
              have E1 := Lib.hid e1; have E2 := Lib.hid e2; have E3 := Lib.hid e3
              rw [hst] at AL
              clear e1 e2 e3 T1 T2 hN hst HB2
              go_wp2_with (go_at_call 79; refine AL.out.mono ?_; rintro e W4 ⟨rfl, hb4⟩; have HR2 := Lib.hid (HV3A.out.kept hb4.block); have e0 := HR2.out.c0; have e1 := HR2.out.c1; have f0 := HR2.out.free 0; have f1 := HR2.out.free 1; have HB2 := Lib.hid (HBB.out.trans (hb4.mono HBB.out.size)); clear hb4)
              have g0 := (HR2.out.set0 (.slice none 0 0)).c0
              have g1 := ((HR2.out.set0 (.slice none 0 0)).set1 (.slice none 0 0)).c1
              exact bodyPost_ret (v := .tuple #[.agg #[.slice none 0 0, .slice none 0 0], .int .i64 3]) (by simp [results, Try.results54, go_sem, g0, g1]) rfl
                ⟨_, _, [], by rw [E1.out], by rw [E2.out, E3.out]; exact OwnM.nil _ _, (HB2.out.setCell (by show w.heap.size ≤ w.heap.size + 1 + 1; omega) _).setCell (by show w.heap.size ≤ w.heap.size + 1 + 1; omega) _⟩
            · have hN : tenOk d1 d2 = true := by unfold tenOk; rw [hst, decide_eq_true HL.out]; rfl
              have e1 : tenC d1 a1 d2 a2 = 0 := by unfold tenC; rw [HOK.out, hN]; rfl
              have e2 : tenDD d1 a1 d2 a2 = srtD (tenD d1 d2) := by unfold tenDD; rw [HOK.out, hN]; rfl
              have e3 : tenA d1 a1 d2 a2 = modN (oSq (tenD d1 d2) (tenQ d1 d2 a1 a2)) (tenD d1 d2).length 20 := by unfold tenA; rw [HOK.out, hN]; rfl
              have E1 := Lib.hid e1; have E2 := Lib.hid e2; have E3 := Lib.hid e3
              rw [hst] at AL
              have HST := Lib.hid (tenOk_both hN)
              clear e1 e2 e3 hN hst
              go_upto_region 18 with (go_at_call 79; refine AL.out.mono ?_; rintro e W4 ⟨rfl, hb4⟩; have HV1B := Lib.hid (HV1A.out.kept hb4.block); have HV2B := Lib.hid (HV2A.out.kept hb4.block); have HV3B := Lib.hid (HV3A.out.kept hb4.block); have HZB := Lib.hid (HZA.out.kept hb4.block); have HGB := Lib.hid (HGA.out.kept hb4.block); have HOB := Lib.hid (HO.out.same hb4.block); have HB4 := Lib.hid (HBB.out.trans (hb4.mono HBB.out.size)); clear hb4 AL HV1A HV2A HV3A HZA HGA HO HBA HBB)
              have k1 := HV1B.out.c0; have k2 := HV1B.out.c1; have k3 := HV2B.out.c0; have k4 := HV2B.out.c1
              have hs4 := HB4.out.size
              go_cut [12, 13] (fun p q wx => ∃ (W : World) (gs gt g1 g2 : Nat) (u1 u2 : List Value), W = wx ∧ p = .pointer (some ⟨gs, 0, none⟩) ∧ q = .pointer (some ⟨gt, 0, none⟩) ∧ wx.cell? ⟨gs, 0, none⟩ = some (.pointer (some ⟨g1, 0, none⟩)) ∧ wx.cell? ⟨gt, 0, none⟩ = some (.pointer (some ⟨g2, 0, none⟩)) ∧ TabU wx W4.heap.size g1 (.slice ao d1.length ac) u1 (tabL d1.length a1) ∧ TabU wx W4.heap.size g2 (.slice ao' d2.length ac') u2 (tabL d2.length a2) ∧ Below W4.heap.size W4 wx)
              case first =>
                have F1 := Lib.hid (fun (W : World) (hW : W.cell? ⟨w.heap.size, 0, none⟩ = some (.slice ao d1.length ac) ∧ W.cell? ⟨w.heap.size, 1, none⟩ = some (.slice bo a1.length bc) ∧ W.cell? ⟨w.heap.size + 1, 0, none⟩ = some (.slice ao' d2.length ac') ∧ W.cell? ⟨w.heap.size + 1, 1, none⟩ = some (.slice bo' a2.length bc') ∧ Below W4.heap.size W4 W) => (And.intro (H1.out.same (heldC4B HB4.out hW hs4).block) (H2.out.same (heldC4B HB4.out hW hs4).block)))
                have kk := And.intro k1 (And.intro k2 (And.intro k3 k4))
                refine wp_region_held_drew (S := fun W => W.cell? ⟨w.heap.size, 0, none⟩ = some (.slice ao d1.length ac) ∧ W.cell? ⟨w.heap.size, 1, none⟩ = some (.slice bo a1.length bc) ∧ W.cell? ⟨w.heap.size + 1, 0, none⟩ = some (.slice ao' d2.length ac') ∧ W.cell? ⟨w.heap.size + 1, 1, none⟩ = some (.slice bo' a2.length bc') ∧ Below W4.heap.size W4 W) (by kernel_rfl) ⟨k1, k2, k3, k4, (Below.refl _ _).drew⟩ (fun hHeld => ?_)
                refine wpAnyH_take (i := 0) (oi := ?_) (v := ?_) ?_ (by kernel_rfl) (by kernel_rfl) (by kernel_rfl) ?_ (Or.inl ⟨?_, ?_⟩) (by assumption) ?_
                case refine_3 => (simp only [List.getElem?_toArray, List.getElem?_cons_succ, List.getElem?_cons_zero]; rfl)
                case refine_4 => exact fun _ _ _ h => h
                case refine_5 => rfl
                case refine_6 => (intro w hSw; (try dsimp only at hSw); go_simp; try with_reducible rfl)
                simp only [Act.put, List.setIfInBounds_toArray, List.set_cons_zero, List.set_cons_succ]
                refine wpAnyH_take (i := 2) (oi := ?_) (v := ?_) ?_ (by kernel_rfl) (by kernel_rfl) (by kernel_rfl) ?_ (Or.inl ⟨?_, ?_⟩) (by assumption) ?_
                case refine_3 => (simp only [List.getElem?_toArray, List.getElem?_cons_succ, List.getElem?_cons_zero]; rfl)
                case refine_4 => exact fun _ _ _ h => h
                case refine_5 => rfl
                case refine_6 => (intro w hSw; (try dsimp only at hSw); go_simp; try with_reducible rfl)
                simp only [Act.put, List.setIfInBounds_toArray, List.set_cons_zero, List.set_cons_succ]
                have KK := Lib.hid kk
                clear k1 k2 k3 k4 kk
                refine wpAnyH_inv4 1 3 4 5 63 65 12 13 (fun b1 b2 b3 b4 => #[true, b1, true, b2, b3, b4, false, false]) (fun b1 b2 b3 b4 x1 x2 x3 x4 => PrepJ W4.heap.size (.slice ao d1.length ac) (tabL d1.length a1) (.slice ao' d2.length ac') (tabL d2.length a2) b1 b2 b3 b4 false x1 x2 x3 x4 undef) 2 ?_ ?_ (by intro b1 b2 b3 b4; cases b1 <;> cases b2 <;> cases b3 <;> cases b4 <;> kernel_rfl) (fun _ _ _ => rfl) (fun _ _ _ => rfl) (fun _ _ _ => rfl) (fun _ _ _ => rfl) hHeld (fun _ _ _ _ => PrepJ.start _) ?_ ?_ ?_ ?_ ?_
                case refine_1 => kernel_rfl
                case refine_2 =>
                  refine ⟨undef, undef, undef, undef, ?_⟩
                  simp only [put4, Act.put, List.setIfInBounds_toArray, List.set_cons_zero, List.set_cons_succ]
                all_goals clear hHeld
                case refine_3 =>
                  intro b2 b3 b4 x1 x2 x3 x4 W hS hJ
                  have HJ := Lib.hid hJ; clear hJ
                  refine wpOp_step rfl (fun K hK => ?_)
                  simp only [put4, Act.put, List.setIfInBounds_toArray, List.set_cons_zero, List.set_cons_succ]
                  have HK := Lib.hid hK
                  clear hK
                  go_simp
                  go_at_call 117
                  refine (T1.out _ (F1.out _ hS).1 HT1.out).mono ?_
                  rintro e W7 ⟨g1, u1, rfl, hT1, hx1⟩
                  go_wp2_with fail
                  exact HK.out _ _ ⟨heldC4 hS hx1, _, rfl, HJ.out.one hx1.block ⟨_, _, rfl, hT1.low hS.2.2.2.2.size⟩⟩
                case refine_4 =>
                  intro b3 b4 x1 x2 x3 x4 W hS hJ
                  have HJ := Lib.hid hJ; clear hJ
                  refine wpOp_step rfl (fun K hK => ?_)
                  simp only [put4, Act.put, List.setIfInBounds_toArray, List.set_cons_zero, List.set_cons_succ]
                  have HK := Lib.hid hK
                  clear hK
                  go_simp
                  go_at_call 117
                  refine (T2.out _ (F1.out _ hS).2 HT2.out).mono ?_
                  rintro e W7 ⟨g1, u1, rfl, hT1, hx1⟩
                  go_wp2_with fail
                  exact HK.out _ _ ⟨heldC4 hS hx1, _, rfl, HJ.out.two hx1.block ⟨_, _, rfl, hT1.low hS.2.2.2.2.size⟩⟩
                case refine_5 =>
                  intro b1 b2 b4 x1 x2 x3 x4 W hS hJ
                  have HJ := Lib.hid hJ; clear hJ
                  refine wpOp_step rfl (fun K hK => ?_)
                  simp only [put4, Act.put, List.setIfInBounds_toArray, List.set_cons_zero, List.set_cons_succ]
                  have HK := Lib.hid hK
                  clear hK
                  go_simp
                  exact HK.out _ _ ⟨heldC4A hS _, _, rfl, HJ.out.three hS.2.2.2.2.size⟩
                case refine_6 =>
                  intro b1 b2 b3 x1 x2 x3 x4 W hS hJ
                  have HJ := Lib.hid hJ; clear hJ
                  refine wpOp_step rfl (fun K hK => ?_)
                  simp only [put4, Act.put, List.setIfInBounds_toArray, List.set_cons_zero, List.set_cons_succ]
                  have HK := Lib.hid hK
                  clear hK
                  go_simp
                  exact HK.out _ _ ⟨heldC4A hS _, _, rfl, HJ.out.four hS.2.2.2.2.size⟩
                case refine_7 =>
                  intro x1 x2 x3 x4 W hHeld hJ
                  obtain ⟨gs, gt, g1, g2, u1, u2, rfl, rfl, rfl, rfl, l3, l4, q3, q4, c3, c4, T1', T2'⟩ := hJ.stop4
                  have z3 := q3.c0; have z4 := q4.c0
                  have y3 := q3.free 0; have y4 := q4.free 0
                  clear hJ
                  simp only [put4, Act.put, List.setIfInBounds_toArray, List.set_cons_zero, List.set_cons_succ]
                  refine wpAnyH_ready (rs := [6]) (by kernel_rfl) (by simp) ?_
                  refine AllReadyH.cons rfl (fun K hK => ?_) AllReadyH.nil
                  go_simp
                  refine hK.out _ _ (heldC4S KK.out hHeld _ l3 _) (fun hHeld => ?_)
                  clear hK K
                  try simp only [Act.put, List.setIfInBounds_toArray, List.set_cons_zero, List.set_cons_succ]
                  refine wpAnyH_ready (rs := [7]) (by kernel_rfl) (by simp) ?_
                  refine AllReadyH.cons rfl (fun K hK => ?_) AllReadyH.nil
                  go_simp
                  refine hK.out _ _ (heldC4S KK.out hHeld _ l4 _) (fun hHeld => ?_)
                  clear hK K
                  try simp only [Act.put, List.setIfInBounds_toArray, List.set_cons_zero, List.set_cons_succ]
                  refine wpAnyH_done (by kernel_rfl) ?_ _
                  have hbx := hHeld.2.2.2.2
                  clear hHeld z3 z4 y3 y4
                  go_wp2_with fail
                  go_meet
                  exact ⟨_, gs, gt, g1, g2, u1, u2, rfl, rfl, rfl, c3.c0, c4.c0, T1', T2', hbx⟩
              case rest =>
                obtain ⟨W, gs, gt, g1, g2, u1, u2, rfl, rfl, rfl, c3, c4, T1', T2', hbx⟩ := hcut
                have HVR := Lib.hid (HV3B.out.kept hbx.block); have HGC := Lib.hid (HGB.out.kept hbx.block); have HZC := Lib.hid (HZB.out.kept hbx.block)
                have HOC := Lib.hid (HOB.out.same hbx.block)
                have hd := HGC.out.c0; have hz := HZC.out.c0
                have HBX := Lib.hid hbx; have HLD := Lib.hid (tenD_len d2 d1)
                have HF := Lib.hid (fun (W4 : World) (h4 : Below W.heap.size W W4) (n b : Nat) (hn1 : 1 ≤ n) (hn2 : n ≤ 20) (hb : b < (tenD d1 d2).length) =>
                  ten1_c d1 d2 a1 a2 HT1.out HT2.out HL.out gs (w.heap.size + 1 + 1 + 1) gt (w2.heap.size + 1) g1 g2 _ _ n b _ _ _ _ _ _ W4 ((h4.cell (World.block_lt_of_cell? _ _ c3)).trans c3) ((h4.cell (World.block_lt_of_cell? _ _ hz)).trans hz) ((h4.cell (World.block_lt_of_cell? _ _ c4)).trans c4) ((h4.cell (World.block_lt_of_cell? _ _ hd)).trans hd) (T1'.same h4.block) (T2'.same h4.block) hn1 hn2 (by rw [← HLD.out]; exact hb))
                have MO := Lib.hid (ordered_c (.slice ya (d1.length * d2.length) yc) (tenD d1 d2) 130 #[.pointer (some ⟨gs, 0, none⟩), .pointer (some ⟨w.heap.size + 1 + 1 + 1, 0, none⟩), .pointer (some ⟨gt, 0, none⟩), .pointer (some ⟨w2.heap.size + 1, 0, none⟩)] (tenQ d1 d2 a1 a2) W HOC.out.ints HST.out.2 HST.out.1 enters_ten1 (fun n b _ _ _ => tenQ_lt d1 d2 a1 a2 HL.out n b) HF.out)
                have HB3 := Lib.hid (HB4.out.trans (HBX.out.mono HB4.out.size))
                clear hbx HF c3 c4 T1' T2' hz T1 T2 I1 I2 HGB HOB HZB HV1B HV2B HV3B
                go_wp2_with fail
                refine MO.out.mono ?_
                rintro e w5 ⟨rd, rs, us5, rfl, hM, hb5⟩
                obtain ⟨pd, nd, cd, rfl⟩ := own_shape hM.deg
                obtain ⟨pa, na, ca, rfl⟩ := own_shape hM.act.row
                have V5 := HVR.out.kept hb5.block
                have f0 := V5.free 0; have f1 := V5.free 1; have e0 := V5.c0; have e1 := V5.c1
                have HM := Lib.hid hM; have HV5 := Lib.hid V5; have HB5 := Lib.hid (HB3.out.trans (hb5.mono HB3.out.size))
                have HLT := Lib.hid HB3.out.size
                clear hM V5 hb5 MO
                go_wp2_with fail
                have W4 := HV5.out.set0 (.slice pd nd cd)
                have g0 := (W4.set1 (.slice pa na ca)).c0
                have g1 := (W4.set1 (.slice pa na ca)).c1
                exact bodyPost_ret (v := .tuple #[.agg #[.slice pd nd cd, .slice pa na ca], .int .i64 0]) (by simp [results, Try.results54, go_sem, g0, g1]) rfl
                  ⟨_, _, us5, by rw [E1.out], by rw [E2.out, E3.out]; exact ((HM.out.base HLT.out).setVar HV5.out (by decide) (by decide) _).setVar (HV5.out.set0 _) (by decide) (by decide) _, (HB5.out.setCell (by show w.heap.size ≤ w.heap.size + 1 + 1; omega) _).setCell (by show w.heap.size ≤ w.heap.size + 1 + 1; omega) _⟩
      · have tl : decide ((16 : Int) < (d1.length : Int) * (d2.length : Int)) = true := decide_eq_true (by rw [← HMU.out]; omega)
        have hN : tenOk d1 d2 = false := by unfold tenOk; rw [decide_eq_false hl]; rfl
        have e1 : tenC d1 a1 d2 a2 = 3 := by unfold tenC; rw [HOK.out, hN]; rfl
        have e2 : tenDD d1 a1 d2 a2 = [] := by unfold tenDD; rw [hN, Bool.and_false]; rfl
        have e3 : tenA d1 a1 d2 a2 = [] := by unfold tenA; rw [hN, Bool.and_false]; rfl
        rw [e1, e2, e3]
        clear e1 e2 e3 T1 T2 hN hl
        go_enter Try.func54, Try.ntmps54
        go_wp2_with fail
        rw [← HW.out]
        refine I1.out.mono ?_
        rintro e w1 ⟨rfl, hb1⟩
        have HB1 := Lib.hid (HB0.out.trans (hb1.mono HB0.out.size))
        have HV1b := Lib.hid (HV1.out.kept hb1.block); have HV2b := Lib.hid (HV2.out.kept hb1.block); have HV3b := Lib.hid (HV3.out.kept hb1.block); have HZ1 := Lib.hid (HZ0.out.kept hb1.block)
        have c3 := HV2b.out.c0; have c4 := HV2b.out.c1
        clear hb1 HW k1 k2 k3 k4 k5
        go_wp2_with fail
        refine (I2.out _ (H2.out.same HB1.out.block)).mono ?_
        rintro e w2 ⟨rfl, hb2⟩
        have HB2 := Lib.hid (HB1.out.trans (hb2.mono HB1.out.size))
        have HV1c := Lib.hid (HV1b.out.kept hb2.block); have HV2c := Lib.hid (HV2b.out.kept hb2.block); have HR2 := Lib.hid (HV3b.out.kept hb2.block); have HZ2 := Lib.hid (HZ1.out.kept hb2.block)
        have k1 := HV1c.out.c0; have k3 := HV2c.out.c0; have k5 := HZ2.out.c0
        have e0 := HR2.out.c0; have e1 := HR2.out.c1; have f0 := HR2.out.free 0; have f1 := HR2.out.free 1
        clear hb2 c3 c4
        go_wp2_with fail
        have g0 := (HR2.out.set0 (.slice none 0 0)).c0
        have g1 := ((HR2.out.set0 (.slice none 0 0)).set1 (.slice none 0 0)).c1
        exact bodyPost_ret (v := .tuple #[.agg #[.slice none 0 0, .slice none 0 0], .int .i64 3]) (by simp [results, Try.results54, go_sem, g0, g1]) rfl
          ⟨_, _, [], rfl, OwnM.nil _ _, (HB2.out.setCell (by show w.heap.size ≤ w.heap.size + 1 + 1; omega) _).setCell (by show w.heap.size ≤ w.heap.size + 1 + 1; omega) _⟩
end Go.Proofs.Ytljfpkhgijangaa

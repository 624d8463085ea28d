/- DualOfModule of the reference. -/
import Derived.Test.YtljfpkhgijangaaLDuS
namespace Go.Proofs.Ytljfpkhgijangaa
open Go.RowKit Go.Sort

set_option maxRecDepth 100000 in
set_option maxHeartbeats 1000000 in
theorem specDualOfModule_c (d a : Value) (ds : List Int) (act : List (List Int)) (w : World) (h : ModS w.heap d a ds act) :
    Calls Try.prog 45 #[.agg #[d, a]] w fun e w' => ∃ d a, e = .returned (.tuple #[.agg #[d, a], .int .i64 (if isMod ds act then 0 else 1)]) ∧ ModS w'.heap d a (dumD ds act) (dumA ds act) ∧ Below w.heap.size w w' := by
  have hb : Below w.heap.size w ((w.alloc (.cells #[d, a] 60)).alloc (.cells #[.slice none 0 0, .slice none 0 0] 60)) := ((Below.refl _ _).alloc (Nat.le_refl _) _).alloc (by simp) _
  have V := two_new w d a 60
  have k1 := Go.Lib.cell?_alloc_some (.cells #[.slice none 0 0, .slice none 0 0] 60) V.1
  have k2 := Go.Lib.cell?_alloc_some (.cells #[.slice none 0 0, .slice none 0 0] 60) V.2
  have V2 : Var2 ((w.alloc (.cells #[d, a] 60)).alloc (.cells #[.slice none 0 0, .slice none 0 0] 60)) (w.heap.size + 1) (.slice none 0 0) (.slice none 0 0) 60 := by
    have := Var2.new (w.alloc (.cells #[d, a] 60)) (.slice none 0 0) (.slice none 0 0) 60
    rwa [size_alloc_w] at this
  have I := Lib.hid (l11Is_c d a ds act _ (h.same hb.block))
  obtain ⟨ao, ac, hdv, hm⟩ := h.1.len
  obtain ⟨bo, bc, hav, hm2⟩ := h.2.len
  subst hdv; subst hav
  have H0 := Lib.hid h; have HB := Lib.hid hb; have HV2 := Lib.hid V2; clear h hb V V2
  cases hT : isMod ds act
  · have e1 : dumD ds act = [] := by simp [dumD, hT]
    have e2 : dumA ds act = [] := by simp [dumA, hT]
    rw [hT] at I
    rw [e1, e2]
    clear hT e1 e2
    go_enter Try.func45, Try.ntmps45
    go_wp2_with fail
    refine I.out.mono ?_
    rintro e w1 ⟨rfl, hb1⟩
    have V3 := Lib.hid (HV2.out.kept hb1.block)
    have e0 := V3.out.c0; have e1 := V3.out.c1; have f0 := V3.out.free 0; have f1 := V3.out.free 1
    have HB1 := Lib.hid (HB.out.trans (hb1.mono HB.out.size))
    clear hb1 HV2
    go_wp2_with fail
    have g0 := (V3.out.set0 (.slice none 0 0)).c0
    have g1 := ((V3.out.set0 (.slice none 0 0)).set1 (.slice none 0 0)).c1
    exact bodyPost_ret (v := .tuple #[.agg #[.slice none 0 0, .slice none 0 0], .int .i64 1]) (by simp [results, Try.results45, go_sem, g0, g1]) rfl
      ⟨_, _, rfl, ModS.nil _, (HB1.out.setCell (by show w.heap.size ≤ w.heap.size + 1; omega) _).setCell (by show w.heap.size ≤ w.heap.size + 1; omega) _⟩
  · have e1 : dumD ds act = duD ds := by simp [dumD, hT]
    have e2 : dumA ds act = duA ds act := by simp [dumA, hT]
    have D := Lib.hid (fun (W : World) (h : ModS W.heap (.slice ao ds.length ac) (.slice bo act.length bc) ds act) => l11Dual_c _ _ ds act W h (isMod_T hT))
    rw [hT] at I
    rw [e1, e2]
    clear hT e1 e2
    generalize duD ds = rd at *
    generalize duA ds act = ra at *
    go_enter Try.func45, Try.ntmps45
    go_wp2_with fail
    refine I.out.mono ?_
    rintro e w1 ⟨rfl, hb1⟩
    have HV3 := Lib.hid (HV2.out.kept hb1.block)
    have k4 := (hb1.cell (World.block_lt_of_cell? _ _ k1)).trans k1
    have k5 := (hb1.cell (World.block_lt_of_cell? _ _ k2)).trans k2
    have HB1 := Lib.hid (HB.out.trans (hb1.mono HB.out.size))
    clear hb1 HV2 k1 k2 I
    go_wp2_with fail
    refine (D.out _ (H0.out.same HB1.out.block)).mono ?_
    rintro e w2 ⟨d2, a2, rfl, hM, hb2⟩
    have V3 := Lib.hid (HV3.out.kept hb2.block)
    have HM := Lib.hid hM
    obtain ⟨pa, pc, rfl, -⟩ := hM.1.len
    obtain ⟨qa, qc, rfl, -⟩ := hM.2.len
    have e0 := V3.out.c0; have e1 := V3.out.c1; have f0 := V3.out.free 0; have f1 := V3.out.free 1
    have HB2 := Lib.hid (HB1.out.trans (hb2.mono HB1.out.size))
    clear hb2 HV3 hM D
    go_wp2_with fail
    have W5 := V3.out.set0 (.slice pa rd.length pc)
    have g0 := (W5.set1 (.slice qa ra.length qc)).c0
    have g1 := (W5.set1 (.slice qa ra.length qc)).c1
    exact bodyPost_ret (v := .tuple #[.agg #[.slice pa rd.length pc, .slice qa ra.length qc], .int .i64 0]) (by simp [results, Try.results45, go_sem, g0, g1]) rfl
      ⟨_, _, rfl, ⟨(HM.out.1.otherV V3.out (by decide) _).otherV W5 (by decide) _, (HM.out.2.otherV V3.out (by decide) (by decide) _).otherV W5 (by decide) (by decide) _⟩, (HB2.out.setCell (by show w.heap.size ≤ w.heap.size + 1; omega) _).setCell (by show w.heap.size ≤ w.heap.size + 1; omega) _⟩
end Go.Proofs.Ytljfpkhgijangaa

/- What is proved: for every input the law FnExactProfileOfElement returns true and its argument reads behind the call as before: the program's ProfileOfElement and the reference's agree. No condition. -/
import Derived.Test.YthclhbjbimncpaaRows
import Derived.Test.YthclhbjbimncpaaLProf2
import Derived.Test.YthclhbjbimncpaaLHeld
import Derived.OpenShut
import Derived.ShutString
import Derived.ChangeOld
namespace Go.Proofs.Ythclhbjbimncpaa
open Go.ChangeShapes Go.WideShapes Go.ChangeAt Go.RowKit
open Go.ChangeMaps (open_string shut_string)

set_option maxHeartbeats 1000000 in
theorem fnExactProfileOfElement_walk (w : World) (a1 : Option Addr) (l1 p1 : Nat) (xss : List (List Int)) (h1 : IsRows w a1 l1 xss) :
    Calls Try.prog 4 #[.agg #[.slice a1 l1 p1]] w fun e w' => e = .returned (.bool true) ∧ Below w.heap.size w w' := by
  have S : Hid (∀ (v : Value) (W : World), IntSS W.heap v xss → Calls Try.prog 33 #[.agg #[v]] W fun e w' => ∃ r, e = .returned (.tuple #[r, .int .i64 (pfC xss)]) ∧ IntS w'.heap r (pfOf xss) ∧ Below W.heap.size W w') := Lib.hid fun v W h => (specProfileOfElement_c v xss W h).mono fun _ _ ⟨r, he, hr, hb⟩ => ⟨r, he, hr.ints, hb⟩
  have I := Lib.hid (fun (v : Value) (W : World) (h : IntSS W.heap v xss) => implProfileOfElement_c v xss W h)
  have hxl := pfOf_length xss
  generalize pfOf xss = rs at *
  generalize pfC xss = pc at *
  have t2 := (eqB (show pc = pc from rfl)).2
  have hb0 : Below w.heap.size w (w.alloc (.cells #[.slice a1 l1 p1] 39)) := (Below.refl _ _).alloc (Nat.le_refl _) _
  have k1 := (Cell1.new w (.slice a1 l1 p1) 39).c0
  have H1 := Lib.hid (fun (W : World) (hb : Below w.heap.size w W) => h1.same hb.block hb.size)
  have HB0 := Lib.hid hb0; have K1 := Lib.hid k1
  clear hb0 k1 h1
  have SM := Lib.hid (fun (W : World) (hb : Below w.heap.size w W) => szMilnor_c a1 l1 p1 xss 1048576 W (H1.out W hb) (Nat.le_refl _))
  by_cases hz : xss.length + cnt xss ≤ 1048576
  · obtain ⟨left, hleft⟩ : ∃ left : Nat, szR xss 1048576 = left := ⟨1048576 - (xss.length + cnt xss), by unfold szR; rw [if_pos hz]; omega⟩
    rw [hleft] at SM
    clear hleft
    have TM := Lib.hid (fun (W : World) (hb : Below w.heap.size w W) => toMilnor_c a1 l1 p1 xss W (H1.out W hb) hz)
    go_enter Try.func4, Try.ntmps4
    go_wp2_with fail
    refine (SM.out _ HB0.out).mono ?_
    rintro e W1 ⟨rfl, hx⟩
    have k2 := (hx.cell (p := ⟨w.heap.size, 0, none⟩) (by simp)).trans K1.out
    have HB1 := Lib.hid (HB0.out.trans (hx.mono HB0.out.size))
    clear hx
    go_wp2_with fail
    refine (TM.out _ HB1.out).mono ?_
    rintro e W2 ⟨v1, rfl, hv1, hx⟩
    have k3 := (hx.cell (World.block_lt_of_cell? _ _ k2)).trans k2
    have HB2 := Lib.hid (HB1.out.trans (hx.mono HB1.out.size))
    clear hx k2
    go_wp2_with fail
    refine (S.out _ _ hv1.ints).mono ?_
    rintro e W3 ⟨r3, rfl, hr3, hx⟩
    have R3 := Lib.hid hr3; clear hr3
    have k4 := (hx.cell (World.block_lt_of_cell? _ _ k3)).trans k3
    have HB3 := Lib.hid (HB2.out.trans (hx.mono HB2.out.size))
    have K4 := Lib.hid k4
    clear hx hv1 k3
    go_wp2_with fail
    refine (TM.out _ HB3.out).mono ?_
    rintro e W4 ⟨v3, rfl, ⟨us3, hU3⟩, hx⟩
    obtain ⟨q1, q2, q3, rfl⟩ := own_shape hU3.row
    have hy4 : Below W3.heap.size W3 (W4.alloc (.cells #[.slice q1 q2 q3] 42)) := hx.alloc hx.size _
    have k5 := (hy4.cell (World.block_lt_of_cell? _ _ k4)).trans k4
    have U4 := Lib.hid (hU3.same (alloc_old W4 (.cells #[.slice q1 q2 q3] 42)))
    have N4 := Lib.hid (Cell1.new W4 (.slice q1 q2 q3) 42)
    have HB4 := Lib.hid (HB3.out.trans (hy4.mono HB3.out.size))
    have HY4 := Lib.hid hy4
    clear hx hU3 k4 hy4
    go_wp2_with fail
    refine (I.out _ _ U4.out.ints).mono ?_
    rintro e W5 ⟨g, rfl, hg, hx⟩
    have k6 := (hx.cell (World.block_lt_of_cell? _ _ k5)).trans k5
    have x6 := (hx.cell (World.block_lt_of_cell? _ _ N4.out.c0)).trans N4.out.c0
    have U5 := Lib.hid (U4.out.same hx.block)
    have R5 := Lib.hid ((R3.out.same HY4.out.block).same hx.block)
    have HB5 := Lib.hid (HB4.out.trans (hx.mono HB4.out.size))
    have HX5 := Lib.hid hx
    have G5 := Lib.hid hg
    clear hx hg k5
    go_wp2_with fail
    refine (eqInt64S_same _ _ rs _ G5.out.ints R5.out).mono ?_
    rintro e w5 ⟨rfl, n5, rfl⟩
    have k7 : (W5.drewN n5).cell? ⟨w.heap.size, 0, none⟩ = some (.slice a1 l1 p1) := k6
    have x7 : (W5.drewN n5).cell? ⟨W4.heap.size, 0, none⟩ = some (.slice q1 q2 q3) := x6
    obtain ⟨W6, hW6⟩ : ∃ W6, W6 = W5.drewN n5 := ⟨_, rfl⟩
    have U6 : Hid (OwnU W6 W3.heap.size (.slice q1 q2 q3) us3 xss) := Lib.hid (by rw [hW6]; exact U5.out.drewN n5)
    have R6 : Hid (IntS W6.heap r3 rs) := Lib.hid (by rw [hW6]; exact R5.out)
    have G6 : Hid (OwnI W6 (W4.alloc (.cells #[.slice q1 q2 q3] 42)).heap.size g rs) := Lib.hid (by rw [hW6]; exact G5.out)
    have HB6 : Hid (Below w.heap.size w W6) := Lib.hid (by rw [hW6]; exact below_drewN n5 HB5.out)
    have HX6 : Hid (Below (W4.alloc (.cells #[.slice q1 q2 q3] 42)).heap.size (W4.alloc (.cells #[.slice q1 q2 q3] 42)) W6) := Lib.hid (by rw [hW6]; exact below_drewN n5 HX5.out)
    rw [← hW6] at k7 x7 ⊢
    clear hW6 k6 x6 U5 R5 G5 HB5 HX5
    have Q6 := Lib.hid U6.out.ints
    go_wp2_with fail
    go_region_held3 (fun W => W.cell? ⟨W4.heap.size, 0, none⟩ = some (.slice q1 q2 q3) ∧ W.cell? ⟨w.heap.size, 0, none⟩ = some (.slice a1 l1 p1) ∧ Below W6.heap.size W6 W)
      (first | exact ⟨x7, k7, (Below.refl _ _).drew⟩ | exact heldC2 (by assumption) hx)
      (first | (go_at_call 34; refine (TM.out _ (heldC2B HB6.out (by assumption) HB6.out.size)).mono ?_; rintro e W8p ⟨v7, rfl, hv7, hx⟩) | (go_at_call 37; refine (eqMilnor_same _ _ xss _ (Q6.out.same (heldC2X (by assumption)).block) hv7.ints).mono ?_; rintro e W8 ⟨rfl, hx⟩))
    all_goals
      rename_i hh
      obtain ⟨x8, k8, hb8⟩ := hh
      have HB8 := Lib.hid (HB6.out.trans (hb8.mono HB6.out.size))
      have U8 := Lib.hid (U6.out.same hb8.block)
      have R8 := Lib.hid (R6.out.same hb8.block)
      have G8 := Lib.hid (G6.out.same hb8.block)
      have HX8 := Lib.hid (HX6.out.trans (hb8.mono HX6.out.size))
      have hs8 : W3.heap.size ≤ W8.heap.size := Nat.le_trans HY4.out.size HX8.out.size
      have HS8 := Lib.hid hs8
      clear hx hb8 hv7 k7 x7 hs8
      have hcx : (1 : Int) + cnt xss ≤ 4611686018427387904 := by omega
      have HLU : Hid (∀ u ∈ us3, ∀ b, u.ownBlock = some b → W3.heap.size ≤ b ∧ b < (W4.alloc (.cells #[.slice q1 q2 q3] 42)).heap.size) := fun u hu b hb => by
        obtain ⟨i, hi, rfl⟩ := List.getElem_of_mem hu
        have hl := U4.out.len
        exact World.ownsRow.lt (U4.out.each i _ _ (List.getElem?_eq_getElem hi) (List.getElem?_eq_getElem (show i < xss.length by omega))) b hb
      go_wp2_with fail
      refine (markMilnor_c _ us3 xss 1 W3.heap.size W8 U8.out HS8.out (by omega) hcx).mono ?_
      rintro e W9 ⟨rfl, hu9, hb9, hk9⟩
      have g9 : OwnI W9 (W4.alloc (.cells #[.slice q1 q2 q3] 42)).heap.size g rs := own_kept G8.out fun b hb => hk9 b (World.ownsRow.lt G8.out b hb).2 fun u hu e => by have h1 := (HLU.out u hu b e).2; have h2 := (World.ownsRow.lt G8.out b hb).1; omega
      have hb39 : Below W3.heap.size W3 W9 := (HY4.out.trans (HX8.out.mono HY4.out.size)).trans hb9
      have R9 := Lib.hid (R3.out.same hb39.block)
      have k9 := (hb39.cell (World.block_lt_of_cell? _ _ K4.out)).trans K4.out
      have B39 := Lib.hid hb39; have G9 := Lib.hid g9
      clear hu9 hb9 hk9 hb39 g9 x8 k8
      have t3 : decide ((1 : Int) + (cnt xss : Int) < 0) = false := by simp; omega
      go_wp2_with fail
      refine (eqInt64S_same _ _ rs _ G9.out.ints R9.out).mono ?_
      rintro e w9 ⟨rfl, n9, rfl⟩
      have K9 := Lib.hid k9; clear k9
      go_wp2_with fail
      refine (markInt64S_c g rs 1 (W4.alloc (.cells #[.slice q1 q2 q3] 42)).heap.size (W9.drewN n9) G9.out (by omega) (by omega)).mono ?_
      rintro e Wa ⟨rfl, ga, gga⟩
      have hba : Below W3.heap.size W9 Wa := (below_drewN n9 (Below.refl _ _)).trans (Below_of_grown (w := W9.drewN n9) gga B39.out.size (fun b hb => Nat.le_trans HY4.out.size (World.ownsRow.lt G9.out b hb).1))
      have B3a := Lib.hid (B39.out.trans hba)
      have Ra := Lib.hid (R3.out.same B3a.out.block)
      have ka := (B3a.out.cell (World.block_lt_of_cell? _ _ K4.out)).trans K4.out
      have HBa := Lib.hid (HB3.out.trans (B3a.out.mono HB3.out.size))
      have GA := Lib.hid ga
      clear hba gga ga
      go_wp2_with fail
      refine (heldInt64S_c g rs.length 1 Wa GA.out.ints (by omega) (by omega)).mono ?_
      rintro e w' ⟨rfl, rfl⟩
      go_wp2_with fail
      refine (TM.out _ HBa.out).mono ?_
      rintro e Wb ⟨vb, rfl, hvb, hxb⟩
      have HXB := Lib.hid hxb; clear hxb ka
      go_wp2_with fail
      refine (I.out _ _ hvb.ints).mono ?_
      rintro e Wc ⟨hr, rfl, hhr, hxc⟩
      have hac : Below Wa.heap.size Wa Wc := HXB.out.trans (hxc.mono HXB.out.size)
      have HAC := Lib.hid hac; have HHR := Lib.hid hhr
      clear hvb hxc hac hhr
      go_wp2_with fail
      refine (eqInt64S_same _ _ rs _ HHR.out.ints (Ra.out.same HAC.out.block)).mono ?_
      rintro e w' ⟨rfl, nd, rfl⟩
      go_wp2_with fail
      refine (heldInt64S_c g rs.length 1 (Wc.drewN nd) (GA.out.same HAC.out.block).ints (by omega) (by omega)).mono ?_
      rintro e w' ⟨rfl, rfl⟩
      go_wp2_with fail
      go_ret
      exact ⟨rfl, below_drewN _ (HBa.out.trans (HAC.out.mono HBa.out.size))⟩
  · have e : szR xss 1048576 = -1 := by unfold szR; rw [if_neg hz]
    rw [e] at SM
    clear e
    go_enter Try.func4, Try.ntmps4
    go_wp2_with fail
    refine (SM.out _ HB0.out).mono ?_
    rintro e W1 ⟨rfl, hx⟩
    have HB1 := Lib.hid (HB0.out.trans (hx.mono HB0.out.size))
    clear hx
    go_wp2_with fail
    go_ret
    exact ⟨rfl, HB1.out⟩

namespace fnExactProfileOfElement_row
theorem own : ownKnob Try.prog.godebug = none := by kernel_rfl
theorem laidOut : laidOutB Try.prog = true := by kernel_rfl
set_option linter.unusedVariables false in
set_option maxRecDepth 100000 in
theorem lifted (os : Os) (started : os.Started) (H : Type) (enc : TypeId × Value → H) :
    ReturnsInHanded {} Try.checked os 4 .any (Rows.fnExactProfileOfElementSpec.pre6 enc Try.prog Try.f4 Rows.fnExactProfileOfElementRow.domain false) (Rows.fnExactProfileOfElementSpec.post enc Try.prog Try.f4 false true false false) := by
  refine returnsInHanded_of_change (C := Try.checked) own started (by kernel_rfl) Try.func4
    (ChangeSpec.witness6 (enc := enc) (C := Try.checked) false ⟨#[], #[.agg #[.slice none 0 0]], []⟩ 8 (by kernel_rfl) (by kernel_rfl) (by kernel_rfl) (by kernel_rfl)) ?_
  intro W base args ds gs before hval0 hW hcnd _
  have hval : ∀ (j : Nat) t v, Try.f4.params[j]? = some t → args[j]? = some v → Value.okWide Try.prog W .any base t v := hval0
  have hW' := hW
  obtain ⟨p, q, hA0, hV, rfl, hfz, hnd⟩ := hW
  have hA : DataW.TrodAll enc Try.prog W 0 (fun _ => true) true Try.f4.params.toList args.toList ds p := hA0
  rw [Try.params4] at hA hval
  obtain ⟨v0, vs0, d0, ds0, p0, q0, hargs, rfl, rfl, h0, r0⟩ := trodAll_cons hA
  obtain ⟨rfl, rfl, rfl⟩ := trodAll_nil r0
  obtain rfl : args = #[v0] := by cases args; simp_all
  obtain ⟨rfl, rfl⟩ := trodVars_none hV
  have k0 := h0
  have lt0 : ∀ x ∈ p0, x.block < W.heap.size := by obtain ⟨m, hm⟩ := k0; exact DataW.trod_lt m _ _ _ hm
  obtain ⟨x0, y0, n0, rfl, f0⟩ := open_agg1 Try.underlying39 (by kernel_rfl) (by kernel_rfl) (hval 0 39 v0 rfl rfl) h0
  obtain ⟨a0, len0, cap0, z0, e0, w0⟩ := isRows_of Try.underlying37 Try.underlying25 Try.underlying2 (by kernel_rfl) (by kernel_rfl) f0
  obtain rfl : x0 = .slice a0 len0 cap0 := by simpa using e0
  clear hA0 hval0
  refine (fnExactProfileOfElement_walk W a0 len0 cap0 z0 w0).mono fun e W' ⟨he, bel⟩ => ?_
  subst he
  exact ⟨_, rfl, _, _, _, [], _, [], hW', trodAll_mk1 (shut_bool Try.underlying4 _), (trodAll_cons_mk (Below.trod laidOut (by kernel_rfl) (of_decide_eq_true (by kernel_rfl)) k0 bel lt0) trodAll_mk0), rfl, bel.frame _, fun h => by cases h⟩
theorem over : Rows.fnExactProfileOfElementRow.holds Try.pinned (OpenSpec.ofChange Rows.fnExactProfileOfElementSpec) :=
  OpenClaim.holds_of_wide 4 Try.f4 rfl rfl rfl rfl rfl rfl rfl ⟨rfl, rfl, rfl, rfl, rfl⟩ rfl rfl rfl rfl rfl (by kernel_rfl) Try.func4 (by kernel_rfl)
    (of_decide_eq_true (by kernel_rfl)) (by unfold Func.isWrapper; first | (rw [if_pos (by decide +kernel)]; kernel_rfl) | (rw [if_neg (by decide +kernel)]; exact ⟨rfl, rfl⟩))
    (fun os started H enc _ => lifted os started H enc)
end fnExactProfileOfElement_row
/-- The statement. -/
theorem fnExactProfileOfElement_proved : Rows.FnExactProfileOfElementSaid := fnExactProfileOfElement_row.over
#print axioms fnExactProfileOfElement_proved
end Go.Proofs.Ythclhbjbimncpaa

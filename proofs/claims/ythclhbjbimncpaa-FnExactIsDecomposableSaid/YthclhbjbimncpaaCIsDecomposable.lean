/- What is proved: for every input the law FnExactIsDecomposable returns true and its argument reads behind the call as before: the program's IsDecomposable and the reference's agree. No condition. -/
import Derived.Test.YthclhbjbimncpaaRows
import Derived.Test.YthclhbjbimncpaaLDec
import Derived.Test.YthclhbjbimncpaaLHeld
import Derived.OpenShut
import Derived.ShutString
import Derived.ChangeOld
namespace Go.Proofs.Ythclhbjbimncpaa
open Go.ChangeShapes Go.WideShapes Go.ChangeAt Go.RowKit
open Go.ChangeMaps (open_string shut_string)

set_option maxHeartbeats 1000000 in
theorem fnExactIsDecomposable_walk (w : World) (a1 : Option Addr) (l1 p1 : Nat) (xss : List (List Int)) (h1 : IsRows w a1 l1 xss) :
    Calls Try.prog 7 #[.agg #[.slice a1 l1 p1]] w fun e w' => e = .returned (.bool true) ∧ Below w.heap.size w w' := by
  have S := Lib.hid (fun (v : Value) (W : World) (h : IntSS W.heap v xss) => specIsDecomposable_c v xss W h)
  have I := Lib.hid (fun (v : Value) (W : World) (h : IntSS W.heap v xss) => implIsDecomposable_c v xss W h)
  generalize dcB xss = pv at *
  generalize dcC xss = pc at *
  have t1 : (pv != pv) = false := by cases pv <;> rfl
  have t2 := (eqB (show pc = pc from rfl)).2
  have hb0 : Below w.heap.size w (w.alloc (.cells #[.slice a1 l1 p1] 39)) := (Below.refl _ _).alloc (Nat.le_refl _) _
  have k1 := (Cell1.new w (.slice a1 l1 p1) 39).c0
  have H1 := Lib.hid (fun (W : World) (hb : Below w.heap.size w W) => h1.same hb.block hb.size)
  have HB0 := Lib.hid hb0; have K1 := Lib.hid k1
  clear hb0 k1 h1
  have SM := Lib.hid (fun (W : World) (hb : Below w.heap.size w W) => szMilnor_c a1 l1 p1 xss 1048576 W (H1.out W hb) (Nat.le_refl _))
  by_cases hz : xss.length + cnt xss ≤ 1048576
  · obtain ⟨left, hleft⟩ : ∃ left : Nat, szR xss 1048576 = left := ⟨1048576 - (xss.length + cnt xss), by unfold szR; rw [if_pos hz]; omega⟩
    rw [hleft] at SM
    clear hleft
    have TM := Lib.hid (fun (W : World) (hb : Below w.heap.size w W) => toMilnor_c a1 l1 p1 xss W (H1.out W hb) hz)
    go_enter Try.func7, Try.ntmps7
    go_wp2_with fail
    refine (SM.out _ HB0.out).mono ?_
    rintro e W1 ⟨rfl, hx⟩
    have k2 := (hx.cell (p := ⟨w.heap.size, 0, none⟩) (by simp)).trans K1.out
    have HB1 := Lib.hid (HB0.out.trans (hx.mono HB0.out.size))
    clear hx
    go_wp2_with fail
    refine (TM.out _ HB1.out).mono ?_
    rintro e W2 ⟨v1, rfl, hv1, hx⟩
    have k3 := (hx.cell (World.block_lt_of_cell? _ _ k2)).trans k2
    have HB2 := Lib.hid (HB1.out.trans (hx.mono HB1.out.size))
    clear hx k2
    go_wp2_with fail
    refine (S.out _ _ hv1.ints).mono ?_
    rintro e W3 ⟨rfl, hx⟩
    have k4 := (hx.cell (World.block_lt_of_cell? _ _ k3)).trans k3
    have HB3 := Lib.hid (HB2.out.trans (hx.mono HB2.out.size))
    clear hx hv1 k3
    go_wp2_with fail
    refine (TM.out _ HB3.out).mono ?_
    rintro e W4 ⟨v3, rfl, ⟨us3, hU3⟩, hx⟩
    obtain ⟨q1, q2, q3, rfl⟩ := own_shape hU3.row
    have hy4 : Below W3.heap.size W3 (W4.alloc (.cells #[.slice q1 q2 q3] 42)) := hx.alloc hx.size _
    have k5 := (hy4.cell (World.block_lt_of_cell? _ _ k4)).trans k4
    have U4 := Lib.hid (hU3.same (alloc_old W4 (.cells #[.slice q1 q2 q3] 42)))
    have N4 := Lib.hid (Cell1.new W4 (.slice q1 q2 q3) 42)
    have HB4 := Lib.hid (HB3.out.trans (hy4.mono HB3.out.size))
    have HY4 := Lib.hid hy4
    clear hx hU3 k4 hy4
    go_wp2_with fail
    refine (I.out _ _ U4.out.ints).mono ?_
    rintro e W6 ⟨rfl, hx⟩
    have k6 := (hx.cell (World.block_lt_of_cell? _ _ k5)).trans k5
    have x6 := (hx.cell (World.block_lt_of_cell? _ _ N4.out.c0)).trans N4.out.c0
    have R6 := Lib.hid (U4.out.ints.same hx.block)
    have HB6 := Lib.hid (HB4.out.trans (hx.mono HB4.out.size))
    clear hx k5
    go_wp2_with fail
    go_region_held3 (fun W => W.cell? ⟨W4.heap.size, 0, none⟩ = some (.slice q1 q2 q3) ∧ W.cell? ⟨w.heap.size, 0, none⟩ = some (.slice a1 l1 p1) ∧ Below W6.heap.size W6 W)
      (first | exact ⟨x6, k6, (Below.refl _ _).drew⟩ | exact heldC2 (by assumption) hx)
      (first | (go_at_call 34; refine (TM.out _ (heldC2B HB6.out (by assumption) HB6.out.size)).mono ?_; rintro e W8p ⟨v7, rfl, hv7, hx⟩) | (go_at_call 37; refine (eqMilnor_same _ _ xss _ (R6.out.same (heldC2X (by assumption)).block) hv7.ints).mono ?_; rintro e W8 ⟨rfl, hx⟩))
    all_goals
      rename_i hh
      obtain ⟨-, -, hb8⟩ := hh
      have HB8 := Lib.hid (HB6.out.trans (hb8.mono HB6.out.size))
      clear hx hb8 hv7 k6 x6
      go_wp2_with fail
      go_ret
      exact ⟨rfl, HB8.out⟩
  · have e : szR xss 1048576 = -1 := by unfold szR; rw [if_neg hz]
    rw [e] at SM
    clear e
    go_enter Try.func7, Try.ntmps7
    go_wp2_with fail
    refine (SM.out _ HB0.out).mono ?_
    rintro e W1 ⟨rfl, hx⟩
    have HB1 := Lib.hid (HB0.out.trans (hx.mono HB0.out.size))
    clear hx
    go_wp2_with fail
    go_ret
    exact ⟨rfl, HB1.out⟩

namespace fnExactIsDecomposable_row
theorem own : ownKnob Try.prog.godebug = none := by kernel_rfl
theorem laidOut : laidOutB Try.prog = true := by kernel_rfl
set_option linter.unusedVariables false in
set_option maxRecDepth 100000 in
theorem lifted (os : Os) (started : os.Started) (H : Type) (enc : TypeId × Value → H) :
    ReturnsInHanded {} Try.checked os 7 .any (Rows.fnExactIsDecomposableSpec.pre6 enc Try.prog Try.f7 Rows.fnExactIsDecomposableRow.domain false) (Rows.fnExactIsDecomposableSpec.post enc Try.prog Try.f7 false true false false) := by
  refine returnsInHanded_of_change (C := Try.checked) own started (by kernel_rfl) Try.func7
    (ChangeSpec.witness6 (enc := enc) (C := Try.checked) false ⟨#[], #[.agg #[.slice none 0 0]], []⟩ 8 (by kernel_rfl) (by kernel_rfl) (by kernel_rfl) (by kernel_rfl)) ?_
  intro W base args ds gs before hval0 hW hcnd _
  have hval : ∀ (j : Nat) t v, Try.f7.params[j]? = some t → args[j]? = some v → Value.okWide Try.prog W .any base t v := hval0
  have hW' := hW
  obtain ⟨p, q, hA0, hV, rfl, hfz, hnd⟩ := hW
  have hA : DataW.TrodAll enc Try.prog W 0 (fun _ => true) true Try.f7.params.toList args.toList ds p := hA0
  rw [Try.params7] at hA hval
  obtain ⟨v0, vs0, d0, ds0, p0, q0, hargs, rfl, rfl, h0, r0⟩ := trodAll_cons hA
  obtain ⟨rfl, rfl, rfl⟩ := trodAll_nil r0
  obtain rfl : args = #[v0] := by cases args; simp_all
  obtain ⟨rfl, rfl⟩ := trodVars_none hV
  have k0 := h0
  have lt0 : ∀ x ∈ p0, x.block < W.heap.size := by obtain ⟨m, hm⟩ := k0; exact DataW.trod_lt m _ _ _ hm
  obtain ⟨x0, y0, n0, rfl, f0⟩ := open_agg1 Try.underlying39 (by kernel_rfl) (by kernel_rfl) (hval 0 39 v0 rfl rfl) h0
  obtain ⟨a0, len0, cap0, z0, e0, w0⟩ := isRows_of Try.underlying37 Try.underlying25 Try.underlying2 (by kernel_rfl) (by kernel_rfl) f0
  obtain rfl : x0 = .slice a0 len0 cap0 := by simpa using e0
  clear hA0 hval0
  refine (fnExactIsDecomposable_walk W a0 len0 cap0 z0 w0).mono fun e W' ⟨he, bel⟩ => ?_
  subst he
  exact ⟨_, rfl, _, _, _, [], _, [], hW', trodAll_mk1 (shut_bool Try.underlying4 _), (trodAll_cons_mk (Below.trod laidOut (by kernel_rfl) (of_decide_eq_true (by kernel_rfl)) k0 bel lt0) trodAll_mk0), rfl, bel.frame _, fun h => by cases h⟩
theorem over : Rows.fnExactIsDecomposableRow.holds Try.pinned (OpenSpec.ofChange Rows.fnExactIsDecomposableSpec) :=
  OpenClaim.holds_of_wide 7 Try.f7 rfl rfl rfl rfl rfl rfl rfl ⟨rfl, rfl, rfl, rfl, rfl⟩ rfl rfl rfl rfl rfl (by kernel_rfl) Try.func7 (by kernel_rfl)
    (of_decide_eq_true (by kernel_rfl)) (by unfold Func.isWrapper; first | (rw [if_pos (by decide +kernel)]; kernel_rfl) | (rw [if_neg (by decide +kernel)]; exact ⟨rfl, rfl⟩))
    (fun os started H enc _ => lifted os started H enc)
end fnExactIsDecomposable_row
/-- The statement. -/
theorem fnExactIsDecomposable_proved : Rows.FnExactIsDecomposableSaid := fnExactIsDecomposable_row.over
#print axioms fnExactIsDecomposable_proved
end Go.Proofs.Ythclhbjbimncpaa

/- What is proved: for every input the law FnExactWuFormula returns true and its arguments read behind the call as before: the program's WuFormula and the reference's agree. No condition. -/
import Derived.Test.YtlakdlnfijkaeaaRows
import Derived.Test.YtlakdlnfijkaeaaLWf
import Derived.OpenShut
import Derived.ShutString
import Derived.ChangeOld
namespace Go.Proofs.Ytlakdlnfijkaeaa
open Go.ChangeShapes Go.WideShapes Go.ChangeAt Go.RowKit
open Go.ChangeMaps (open_string shut_string)

theorem fnExactWuFormula_walk (i : Int) (_ : (Lit.int .i64 i).wf = true) (j : Int) (_ : (Lit.int .i64 j).wf = true) (w : World) :
    Calls Try.prog 7 #[.int .i64 i, .int .i64 j] w fun e w' => e = .returned (.bool true) ∧ Below w.heap.size w w' := by
  have hxl := wfOf_bounds i j
  have S := Lib.hid (specWuFormula_c i j)
  have I := Lib.hid (implWuFormula_c i j)
  go_enter Try.func7, Try.ntmps7
  go_wp2_with fail
  refine (S.out _).mono ?_
  rintro e w1 ⟨v1, rfl, h1, b1⟩
  go_wp2_with fail
  refine (I.out _).mono ?_
  rintro e w2 ⟨v2, rfl, h2, b2⟩
  have h1' := h1.same b2.block
  go_wp2_with fail
  refine (eqInt64SS_same _ _ _ _ h2.ints h1').mono ?_
  rintro e w3 ⟨rfl, n3, rfl⟩
  obtain ⟨us, hU⟩ := h2
  have HU := Lib.hid hU
  go_wp2_with fail
  refine (markInt64SS_c v2 us _ 1 w1.heap.size (w2.drewN n3) (hU.drewN n3) b2.size (by omega) (by omega)).mono ?_
  rintro e w4 ⟨rfl, h4, z4, c4, k4⟩
  clear k4 hU
  go_wp2_with fail
  refine (heldInt64SS_c v2 _ 1 w4 h4.ints (by omega) (by omega)).mono ?_
  rintro e w5 ⟨rfl, rfl⟩
  have b4 : Below w1.heap.size w2 w4 := (below_drewN n3 (Below.refl _ _)).trans c4
  go_wp2_with fail
  refine (I.out _).mono ?_
  rintro e w6 ⟨v6, rfl, h6, b6⟩
  have h1'' := (h1.same (b2.trans b4).block).same b6.block
  go_wp2_with fail
  refine (eqInt64SS_same _ _ _ _ h6.ints h1'').mono ?_
  rintro e w7 ⟨rfl, n7, rfl⟩
  go_wp2_with fail
  refine (heldInt64SS_c v2 _ 1 (w6.drewN n7) (h4.same b6.block).ints (by omega) (by omega)).mono ?_
  rintro e w8 ⟨rfl, rfl⟩
  go_wp2_with fail
  go_ret
  exact ⟨rfl, below_drewN _ ((b1.trans ((b2.trans b4).mono b1.size)).trans (b6.mono (Nat.le_trans b1.size (b2.trans b4).size)))⟩

namespace fnExactWuFormula_row
theorem own : ownKnob Try.prog.godebug = none := by kernel_rfl
set_option linter.unusedVariables false in
set_option maxRecDepth 100000 in
theorem lifted (os : Os) (started : os.Started) (H : Type) (enc : TypeId × Value → H) :
    ReturnsInHanded {} Try.checked os 7 .any (Rows.fnExactWuFormulaSpec.pre6 enc Try.prog Try.f7 Rows.fnExactWuFormulaRow.domain false) (Rows.fnExactWuFormulaSpec.post enc Try.prog Try.f7 false true false false) := by
  refine returnsInHanded_of_change (C := Try.checked) own started (by kernel_rfl) Try.func7
    (ChangeSpec.witness6 (enc := enc) (C := Try.checked) false ⟨#[], #[.int .i64 0, .int .i64 0], []⟩ 8 (by kernel_rfl) (by kernel_rfl) (by kernel_rfl) (by kernel_rfl)) ?_
  intro W base args ds gs before hval0 hW hcnd _
  have hval : ∀ (j : Nat) t v, Try.f7.params[j]? = some t → args[j]? = some v → Value.okWide Try.prog W .any base t v := hval0
  have hW' := hW
  obtain ⟨p, q, hA0, hV, rfl, hfz, hnd⟩ := hW
  have hA : DataW.TrodAll enc Try.prog W 0 (fun _ => true) true Try.f7.params.toList args.toList ds p := hA0
  rw [Try.params7] at hA hval
  obtain ⟨v0, vs0, d0, ds0, p0, q0, hargs, rfl, rfl, h0, r0⟩ := trodAll_cons hA
  obtain ⟨v1, vs1, d1, ds1, p1, q1, rfl, rfl, rfl, h1, r1⟩ := trodAll_cons r0
  obtain ⟨rfl, rfl, rfl⟩ := trodAll_nil r1
  obtain rfl : args = #[v0, v1] := by cases args; simp_all
  obtain ⟨rfl, rfl⟩ := trodVars_none hV
  obtain ⟨a0, rfl, rfl, rfl, w0⟩ := open_int Try.underlying2 (hval 0 2 v0 rfl rfl) h0
  obtain ⟨a1, rfl, rfl, rfl, w1⟩ := open_int Try.underlying2 (hval 1 2 v1 rfl rfl) h1
  clear hA0 hval0
  refine (fnExactWuFormula_walk a0 w0 a1 w1 W).mono fun e W' ⟨he, bel⟩ => ?_
  subst he
  exact ⟨_, rfl, _, _, _, [], _, [], hW', trodAll_mk1 (shut_bool Try.underlying4 _), (trodAll_cons_mk (shut_int Try.underlying2 w0) (trodAll_cons_mk (shut_int Try.underlying2 w1) trodAll_mk0)), rfl, bel.frame _, fun h => by cases h⟩
theorem over : Rows.fnExactWuFormulaRow.holds Try.pinned (OpenSpec.ofChange Rows.fnExactWuFormulaSpec) :=
  OpenClaim.holds_of_wide 7 Try.f7 rfl rfl rfl rfl rfl rfl rfl ⟨rfl, rfl, rfl, rfl, rfl⟩ rfl rfl rfl rfl rfl (by kernel_rfl) Try.func7 (by kernel_rfl)
    (of_decide_eq_true (by kernel_rfl)) (by unfold Func.isWrapper; first | (rw [if_pos (by decide +kernel)]; kernel_rfl) | (rw [if_neg (by decide +kernel)]; exact ⟨rfl, rfl⟩))
    (fun os started H enc _ => lifted os started H enc)
end fnExactWuFormula_row
/-- The statement. -/
theorem fnExactWuFormula_proved : Rows.FnExactWuFormulaSaid := fnExactWuFormula_row.over
#print axioms fnExactWuFormula_proved
end Go.Proofs.Ytlakdlnfijkaeaa

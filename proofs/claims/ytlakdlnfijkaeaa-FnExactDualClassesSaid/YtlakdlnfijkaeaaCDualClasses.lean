/- What is proved: for every input the law FnExactDualClasses returns true and its argument reads behind the call as before: the program's DualClasses and the reference's agree. No condition. -/
import Derived.Test.YtlakdlnfijkaeaaRows
import Derived.Test.YtlakdlnfijkaeaaLDu
import Derived.OpenShut
import Derived.ShutString
import Derived.ChangeOld
namespace Go.Proofs.Ytlakdlnfijkaeaa
open Go.ChangeShapes Go.WideShapes Go.ChangeAt Go.RowKit
open Go.ChangeMaps (open_string shut_string)

theorem fnExactDualClasses_walk (n : Int) (_ : (Lit.int .i64 n).wf = true) (w : World) :
    Calls Try.prog 9 #[.int .i64 n] w fun e w' => e = .returned (.bool true) ∧ Below w.heap.size w w' := by
  have hxl := duOf_length n
  have S := Lib.hid (specDualClasses_c n)
  have I := Lib.hid (implDualClasses_c n)
  go_enter Try.func9, Try.ntmps9
  go_wp2_with fail
  refine (S.out _).mono ?_
  rintro e w1 ⟨v1, rfl, h1, b1⟩
  go_wp2_with fail
  refine (I.out _).mono ?_
  rintro e w2 ⟨v2, rfl, h2, b2⟩
  have h1' := h1.same b2.block
  go_wp2_with fail
  refine (eqInt64S_same _ _ _ _ h2.ints h1').mono ?_
  rintro e w3 ⟨rfl, n3, rfl⟩
  go_wp2_with fail
  refine (markInt64S_c v2 _ 1 w1.heap.size (w2.drewN n3) h2 (by omega) (by omega)).mono ?_
  rintro e w4 ⟨rfl, h4, g4⟩
  go_wp2_with fail
  refine (heldInt64S_c v2 _ 1 w4 h4.ints (by omega) (by omega)).mono ?_
  rintro e w5 ⟨rfl, rfl⟩
  have b4 : Below w1.heap.size w2 w4 := (below_drewN n3 (Below.refl _ _)).trans (Below_of_grown (w := w2.drewN n3) g4 b2.size (fun k hk => (World.ownsRow.lt h2 k hk).1))
  go_wp2_with fail
  refine (I.out _).mono ?_
  rintro e w6 ⟨v6, rfl, h6, b6⟩
  have h1'' := (h1.same (b2.trans b4).block).same b6.block
  go_wp2_with fail
  refine (eqInt64S_same _ _ _ _ h6.ints h1'').mono ?_
  rintro e w7 ⟨rfl, n7, rfl⟩
  go_wp2_with fail
  refine (heldInt64S_c v2 _ 1 (w6.drewN n7) (h4.same b6.block).ints (by omega) (by omega)).mono ?_
  rintro e w8 ⟨rfl, rfl⟩
  go_wp2_with fail
  go_ret
  exact ⟨rfl, below_drewN _ ((b1.trans ((b2.trans b4).mono b1.size)).trans (b6.mono (Nat.le_trans b1.size (b2.trans b4).size)))⟩

namespace fnExactDualClasses_row
theorem own : ownKnob Try.prog.godebug = none := by kernel_rfl
set_option linter.unusedVariables false in
set_option maxRecDepth 100000 in
theorem lifted (os : Os) (started : os.Started) (H : Type) (enc : TypeId × Value → H) :
    ReturnsInHanded {} Try.checked os 9 .any (Rows.fnExactDualClassesSpec.pre6 enc Try.prog Try.f9 Rows.fnExactDualClassesRow.domain false) (Rows.fnExactDualClassesSpec.post enc Try.prog Try.f9 false true false false) := by
  refine returnsInHanded_of_change (C := Try.checked) own started (by kernel_rfl) Try.func9
    (ChangeSpec.witness6 (enc := enc) (C := Try.checked) false ⟨#[], #[.int .i64 0], []⟩ 8 (by kernel_rfl) (by kernel_rfl) (by kernel_rfl) (by kernel_rfl)) ?_
  intro W base args ds gs before hval0 hW hcnd _
  have hval : ∀ (j : Nat) t v, Try.f9.params[j]? = some t → args[j]? = some v → Value.okWide Try.prog W .any base t v := hval0
  have hW' := hW
  obtain ⟨p, q, hA0, hV, rfl, hfz, hnd⟩ := hW
  have hA : DataW.TrodAll enc Try.prog W 0 (fun _ => true) true Try.f9.params.toList args.toList ds p := hA0
  rw [Try.params9] at hA hval
  obtain ⟨v0, vs0, d0, ds0, p0, q0, hargs, rfl, rfl, h0, r0⟩ := trodAll_cons hA
  obtain ⟨rfl, rfl, rfl⟩ := trodAll_nil r0
  obtain rfl : args = #[v0] := by cases args; simp_all
  obtain ⟨rfl, rfl⟩ := trodVars_none hV
  obtain ⟨a0, rfl, rfl, rfl, w0⟩ := open_int Try.underlying2 (hval 0 2 v0 rfl rfl) h0
  clear hA0 hval0
  refine (fnExactDualClasses_walk a0 w0 W).mono fun e W' ⟨he, bel⟩ => ?_
  subst he
  exact ⟨_, rfl, _, _, _, [], _, [], hW', trodAll_mk1 (shut_bool Try.underlying4 _), (trodAll_cons_mk (shut_int Try.underlying2 w0) trodAll_mk0), rfl, bel.frame _, fun h => by cases h⟩
theorem over : Rows.fnExactDualClassesRow.holds Try.pinned (OpenSpec.ofChange Rows.fnExactDualClassesSpec) :=
  OpenClaim.holds_of_wide 9 Try.f9 rfl rfl rfl rfl rfl rfl rfl ⟨rfl, rfl, rfl, rfl, rfl⟩ rfl rfl rfl rfl rfl (by kernel_rfl) Try.func9 (by kernel_rfl)
    (of_decide_eq_true (by kernel_rfl)) (by unfold Func.isWrapper; first | (rw [if_pos (by decide +kernel)]; kernel_rfl) | (rw [if_neg (by decide +kernel)]; exact ⟨rfl, rfl⟩))
    (fun os started H enc _ => lifted os started H enc)
end fnExactDualClasses_row
/-- The statement. -/
theorem fnExactDualClasses_proved : Rows.FnExactDualClassesSaid := fnExactDualClasses_row.over
#print axioms fnExactDualClasses_proved
end Go.Proofs.Ytlakdlnfijkaeaa

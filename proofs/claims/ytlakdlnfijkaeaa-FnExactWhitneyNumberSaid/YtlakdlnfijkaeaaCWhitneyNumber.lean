/- What is proved: for every input the law FnExactWhitneyNumber returns true and its arguments read behind the call as before: the program's WhitneyNumber and the reference's agree. No condition. -/
import Derived.Test.YtlakdlnfijkaeaaRows
import Derived.Test.YtlakdlnfijkaeaaLWn
import Derived.OpenShut
import Derived.ShutString
import Derived.ChangeOld
namespace Go.Proofs.Ytlakdlnfijkaeaa
open Go.ChangeShapes Go.WideShapes Go.ChangeAt Go.RowKit
open Go.ChangeMaps (open_string shut_string)

theorem fnExactWhitneyNumber_walk (w : World) (n : Int) (_ : (Lit.int .i64 n).wf = true) (a : Option Addr) (len cap : Nat) (zs : List Int) (h : IsRow .i64 w a len cap zs) :
    Calls Try.prog 8 #[.int .i64 n, .slice a len cap] w fun e w' => e = .returned (.bool true) ∧ Below w.heap.size w w' := by
  by_cases hl : len ≤ 1048576
  · have t1 : decide (1048576 < len) = false := by simp; omega
    have t1' : ¬ 1048576 < len := by omega
    have T := Lib.hid (fun w (h : IsRow .i64 w a len cap zs) => toInt64S_c a len cap zs w h hl)
    have H := Lib.hid h; clear h
    generalize hxs : zs.take len = xs at T
    clear hxs
    go_enter Try.func8, Try.ntmps8
    go_wp2_with fail
    refine (T.out _ H.out).mono ?_
    rintro e w1 ⟨v1, rfl, h1, b1⟩
    go_wp2_with fail
    refine (specWhitneyNumber_c _ _ xs _ h1.ints).mono ?_
    rintro e w2 ⟨rfl, rfl⟩
    go_wp2_with fail
    refine (T.out _ (H.out.same b1.block)).mono ?_
    rintro e w3 ⟨v3, rfl, h3, b3⟩
    go_wp2_with fail
    refine (implWhitneyNumber_c _ _ xs _ h3.ints).mono ?_
    rintro e w4 ⟨rfl, b4⟩
    generalize wnOf n xs = x at *
    generalize wnC n xs = y at *
    have e1 : (x != x) = false := by simp
    have e2 : (y != y) = false := by simp
    have k4 : Below w.heap.size w w4 := b1.trans ((b3.mono b1.size).trans (b4.mono (Nat.le_trans b1.size b3.size)))
    go_wp2_with fail
    refine (T.out _ (H.out.same k4.block)).mono ?_
    rintro e w5 ⟨v5, rfl, h5, b5⟩
    go_wp2_with fail
    refine (eqInt64S_same _ _ xs _ ((h3.same b4.block).same b5.block).ints h5.ints).mono ?_
    rintro e w6 ⟨rfl, n6, rfl⟩
    go_wp2_with fail
    go_ret
    exact ⟨rfl, below_drewN _ (k4.trans (b5.mono k4.size))⟩
  · have t1 : decide (1048576 < len) = true := by simp; omega
    have t1' : 1048576 < len := by omega
    clear hl h
    go_enter Try.func8, Try.ntmps8
    go_wp2_with fail
    go_ret
    exact ⟨rfl, Below.refl _ _⟩

namespace fnExactWhitneyNumber_row
theorem own : ownKnob Try.prog.godebug = none := by kernel_rfl
theorem laidOut : laidOutB Try.prog = true := by kernel_rfl
set_option linter.unusedVariables false in
set_option maxRecDepth 100000 in
theorem lifted (os : Os) (started : os.Started) (H : Type) (enc : TypeId × Value → H) :
    ReturnsInHanded {} Try.checked os 8 .any (Rows.fnExactWhitneyNumberSpec.pre6 enc Try.prog Try.f8 Rows.fnExactWhitneyNumberRow.domain false) (Rows.fnExactWhitneyNumberSpec.post enc Try.prog Try.f8 false true false false) := by
  refine returnsInHanded_of_change (C := Try.checked) own started (by kernel_rfl) Try.func8
    (ChangeSpec.witness6 (enc := enc) (C := Try.checked) false ⟨#[], #[.int .i64 0, .slice none 0 0], []⟩ 8 (by kernel_rfl) (by kernel_rfl) (by kernel_rfl) (by kernel_rfl)) ?_
  intro W base args ds gs before hval0 hW hcnd _
  have hval : ∀ (j : Nat) t v, Try.f8.params[j]? = some t → args[j]? = some v → Value.okWide Try.prog W .any base t v := hval0
  have hW' := hW
  obtain ⟨p, q, hA0, hV, rfl, hfz, hnd⟩ := hW
  have hA : DataW.TrodAll enc Try.prog W 0 (fun _ => true) true Try.f8.params.toList args.toList ds p := hA0
  rw [Try.params8] at hA hval
  obtain ⟨v0, vs0, d0, ds0, p0, q0, hargs, rfl, rfl, h0, r0⟩ := trodAll_cons hA
  obtain ⟨v1, vs1, d1, ds1, p1, q1, rfl, rfl, rfl, h1, r1⟩ := trodAll_cons r0
  obtain ⟨rfl, rfl, rfl⟩ := trodAll_nil r1
  obtain rfl : args = #[v0, v1] := by cases args; simp_all
  obtain ⟨rfl, rfl⟩ := trodVars_none hV
  obtain ⟨a0, rfl, rfl, rfl, w0⟩ := open_int Try.underlying2 (hval 0 2 v0 rfl rfl) h0
  obtain ⟨a1, len1, cap1, rfl⟩ := okWide_slice Try.underlying25 (hval 1 25 v1 rfl rfl)
  have k1 := h1
  have lt1 : ∀ x ∈ p1, x.block < W.heap.size := by obtain ⟨m, hm⟩ := k1; exact DataW.trod_lt m _ _ _ hm
  obtain ⟨z1, w1⟩ : ∃ zs, IsRow .i64 W a1 len1 cap1 zs := by
    obtain ⟨fuel, hf⟩ := h1
    rcases open_ints Try.underlying25 Try.underlying2 (by kernel_rfl) hf with ⟨hcs, _⟩ | ⟨x, l, c, zs, hcs, _, hl, hm, hz, _, hcell, hwz⟩
    · simp [Value.cells] at hcs
      obtain ⟨rfl, rfl, rfl⟩ := hcs
      exact ⟨[], .inl ⟨rfl, rfl, rfl, rfl⟩⟩
    · simp [Value.cells] at hcs
      obtain ⟨rfl, rfl, rfl⟩ := hcs
      exact ⟨zs, .inr ⟨_, rfl, hl, hm, by simpa using hz, hcell, hwz⟩⟩
  clear hA0 hval0
  refine (fnExactWhitneyNumber_walk W a0 w0 a1 len1 cap1 z1 w1).mono fun e W' ⟨he, bel⟩ => ?_
  subst he
  exact ⟨_, rfl, _, _, _, [], _, [], hW', trodAll_mk1 (shut_bool Try.underlying4 _), (trodAll_cons_mk (shut_int Try.underlying2 w0) (trodAll_cons_mk (Below.trod laidOut (by kernel_rfl) (of_decide_eq_true (by kernel_rfl)) k1 bel lt1) trodAll_mk0)), rfl, bel.frame _, fun h => by cases h⟩
theorem over : Rows.fnExactWhitneyNumberRow.holds Try.pinned (OpenSpec.ofChange Rows.fnExactWhitneyNumberSpec) :=
  OpenClaim.holds_of_wide 8 Try.f8 rfl rfl rfl rfl rfl rfl rfl ⟨rfl, rfl, rfl, rfl, rfl⟩ rfl rfl rfl rfl rfl (by kernel_rfl) Try.func8 (by kernel_rfl)
    (of_decide_eq_true (by kernel_rfl)) (by unfold Func.isWrapper; first | (rw [if_pos (by decide +kernel)]; kernel_rfl) | (rw [if_neg (by decide +kernel)]; exact ⟨rfl, rfl⟩))
    (fun os started H enc _ => lifted os started H enc)
end fnExactWhitneyNumber_row
/-- The statement. -/
theorem fnExactWhitneyNumber_proved : Rows.FnExactWhitneyNumberSaid := fnExactWhitneyNumber_row.over
#print axioms fnExactWhitneyNumber_proved
end Go.Proofs.Ytlakdlnfijkaeaa

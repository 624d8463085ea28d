/- What is proved: for every input the law FnExactProjectiveModule returns true and its argument reads behind the call as before: the program's ProjectiveModule and the reference's agree. No condition. -/
import Derived.Test.YtlakdlnfijkaeaaRows
import Derived.Test.YtlakdlnfijkaeaaLProj2
import Derived.OpenShut
import Derived.ShutString
import Derived.ChangeOld
namespace Go.Proofs.Ytlakdlnfijkaeaa
open Go.ChangeShapes Go.WideShapes Go.ChangeAt Go.RowKit
open Go.ChangeMaps (open_string shut_string)

set_option maxHeartbeats 400000 in
theorem fnExactProjectiveModule_walk (w : World) (m : Int) (_ : (Lit.int .i64 m).wf = true) (n : Int) (_ : (Lit.int .i64 n).wf = true) :
    Calls Try.prog 13 #[.int .i64 m, .int .i64 n] w fun e w' => e = .returned (.bool true) ∧ Below w.heap.size w w' := by
  have hxl := prj_bounds m n
  have S := Lib.hid (specProjectiveModule_c m n)
  have I := Lib.hid (implProjectiveModule_c m n)
  go_enter Try.func13, Try.ntmps13
  go_wp2_with fail
  refine (S.out _).mono ?_
  rintro e w1 ⟨d1, a1, rfl, h1, b1⟩
  have c1 := two_new w1 d1 a1 42
  obtain ⟨s11, s12⟩ := h1.stores
  have h1 := Lib.hid (h1.same (alloc_old w1 (.cells #[d1, a1] 42)))
  have b1 : Below w.heap.size w (w1.alloc (.cells #[d1, a1] 42)) := b1.alloc b1.size _
  have B1 := Lib.hid b1; clear b1
  have hs1 : w1.heap.size < (w1.alloc (.cells #[d1, a1] 42)).heap.size := by simp
  have HS1 := Lib.hid hs1; clear hs1
  go_wp2_with fail
  refine (I.out _).mono ?_
  rintro e w2 ⟨d2, a2, us, rfl, h2, b2⟩
  have c2 := two_new w2 d2 a2 42
  clear s11 s12
  obtain ⟨s21, s22⟩ := h2.ints.stores
  have b2' : Below (w1.alloc (.cells #[d1, a1] 42)).heap.size (w1.alloc (.cells #[d1, a1] 42)) (w2.alloc (.cells #[d2, a2] 42)) := b2.alloc b2.size _
  have HNE := Lib.hid h2.ne_new
  have h2 := h2.same (alloc_old w2 (.cells #[d2, a2] 42))
  have hh1 := h1.out.same b2'.block
  have k10 : (w2.alloc (.cells #[d2, a2] 42)).cell? ⟨w1.heap.size, 0, none⟩ = some d1 := (b2'.cell (p := ⟨w1.heap.size, 0, none⟩) HS1.out).trans c1.1
  have k11 : (w2.alloc (.cells #[d2, a2] 42)).cell? ⟨w1.heap.size, 1, none⟩ = some a1 := (b2'.cell (p := ⟨w1.heap.size, 1, none⟩) HS1.out).trans c1.2
  have hs2 : w2.heap.size < (w2.alloc (.cells #[d2, a2] 42)).heap.size := by simp
  have HS2 := Lib.hid hs2; clear hs2
  have HB2 := Lib.hid b2'; have HSZ := Lib.hid b2.size; clear b2' b2
  have hb2 : (w1.alloc (.cells #[d1, a1] 42)).heap.size ≤ (w2.alloc (.cells #[d2, a2] 42)).heap.size := HB2.out.size
  have HBS := Lib.hid hb2; clear hb2
  have HH2 := Lib.hid h2; clear h2
  go_wp2_with fail
  clear s21 s22
  refine (eqModule_same _ _ _ _ _ _ _ HH2.out.ints hh1).mono ?_
  rintro e w3 ⟨rfl, b3⟩
  have hh3 := HH2.out.same b3.block
  have k30 : w3.cell? ⟨w1.heap.size, 0, none⟩ = some d1 := (b3.cell (p := ⟨w1.heap.size, 0, none⟩) (Nat.lt_of_lt_of_le HS1.out HBS.out)).trans k10
  have k31 : w3.cell? ⟨w1.heap.size, 1, none⟩ = some a1 := (b3.cell (p := ⟨w1.heap.size, 1, none⟩) (Nat.lt_of_lt_of_le HS1.out HBS.out)).trans k11
  have k32 : w3.cell? ⟨w2.heap.size, 0, none⟩ = some d2 := (b3.cell (p := ⟨w2.heap.size, 0, none⟩) HS2.out).trans c2.1
  have k33 : w3.cell? ⟨w2.heap.size, 1, none⟩ = some a2 := (b3.cell (p := ⟨w2.heap.size, 1, none⟩) HS2.out).trans c2.2
  have B3 := Lib.hid b3; have H3 := Lib.hid hh3; have H1 := Lib.hid hh1; clear b3 hh3 hh1 k10 k11 c1 c2
  go_wp2_with fail
  refine (markModule_c d2 a2 us _ _ 1 (w1.alloc (.cells #[d1, a1] 42)).heap.size w3 H3.out (Nat.le_trans HBS.out B3.out.size) (by omega) (by omega)).mono ?_
  rintro e w4 ⟨rfl, h4, b4, k4⟩
  have k40 : w4.cell? ⟨w1.heap.size, 0, none⟩ = some d1 := (b4.cell (p := ⟨w1.heap.size, 0, none⟩) HS1.out).trans k30
  have k41 : w4.cell? ⟨w1.heap.size, 1, none⟩ = some a1 := (b4.cell (p := ⟨w1.heap.size, 1, none⟩) HS1.out).trans k31
  have k42 : w4.cell? ⟨w2.heap.size, 0, none⟩ = some d2 := (World.cell?_of_block (k4 _ (Nat.lt_of_lt_of_le HS2.out B3.out.size) HNE.out.1 HNE.out.2)).trans k32
  have k43 : w4.cell? ⟨w2.heap.size, 1, none⟩ = some a2 := (World.cell?_of_block (k4 _ (Nat.lt_of_lt_of_le HS2.out B3.out.size) HNE.out.1 HNE.out.2)).trans k33
  have hlt4 : w2.heap.size < w4.heap.size := World.block_lt_of_cell? w4 _ k42
  have B4 := Lib.hid b4; have H4 := Lib.hid h4; have L4 := Lib.hid hlt4; clear b4 h4 k4 k30 k31 k32 k33 hlt4
  have b04 : Below (w1.alloc (.cells #[d1, a1] 42)).heap.size (w1.alloc (.cells #[d1, a1] 42)) w4 := (HB2.out.trans (B3.out.mono HBS.out)).trans B4.out
  have B04 := Lib.hid b04; clear b04
  go_wp2_with fail
  refine (heldModule_c d2 a2 _ _ 1 w4 H4.out.ints (by omega) (by omega)).mono ?_
  rintro e w5 ⟨rfl, b5⟩
  have k50 : w5.cell? ⟨w1.heap.size, 0, none⟩ = some d1 := (b5.cell (p := ⟨w1.heap.size, 0, none⟩) (World.block_lt_of_cell? w4 _ k40)).trans k40
  have k51 : w5.cell? ⟨w1.heap.size, 1, none⟩ = some a1 := (b5.cell (p := ⟨w1.heap.size, 1, none⟩) (World.block_lt_of_cell? w4 _ k41)).trans k41
  have k52 : w5.cell? ⟨w2.heap.size, 0, none⟩ = some d2 := (b5.cell (p := ⟨w2.heap.size, 0, none⟩) L4.out).trans k42
  have k53 : w5.cell? ⟨w2.heap.size, 1, none⟩ = some a2 := (b5.cell (p := ⟨w2.heap.size, 1, none⟩) L4.out).trans k43
  have B5 := Lib.hid b5; clear b5 k40 k41 k42 k43
  go_wp2_with fail
  refine (I.out _).mono ?_
  rintro e w6 ⟨d6, a6, us6, rfl, h6, b6⟩
  have c6 := two_new w6 d6 a6 42
  obtain ⟨s61, s62⟩ := h6.ints.stores
  have b6' : Below w5.heap.size w5 (w6.alloc (.cells #[d6, a6] 42)) := b6.alloc b6.size _
  have k60 : (w6.alloc (.cells #[d6, a6] 42)).cell? ⟨w1.heap.size, 0, none⟩ = some d1 := (b6'.cell (p := ⟨w1.heap.size, 0, none⟩) (World.block_lt_of_cell? w5 _ k50)).trans k50
  have k61 : (w6.alloc (.cells #[d6, a6] 42)).cell? ⟨w1.heap.size, 1, none⟩ = some a1 := (b6'.cell (p := ⟨w1.heap.size, 1, none⟩) (World.block_lt_of_cell? w5 _ k51)).trans k51
  have k62 : (w6.alloc (.cells #[d6, a6] 42)).cell? ⟨w2.heap.size, 0, none⟩ = some d2 := (b6'.cell (p := ⟨w2.heap.size, 0, none⟩) (World.block_lt_of_cell? w5 _ k52)).trans k52
  have k63 : (w6.alloc (.cells #[d6, a6] 42)).cell? ⟨w2.heap.size, 1, none⟩ = some a2 := (b6'.cell (p := ⟨w2.heap.size, 1, none⟩) (World.block_lt_of_cell? w5 _ k53)).trans k53
  have hh6 := h6.same (alloc_old w6 (.cells #[d6, a6] 42))
  have hh4 := (H4.out.same B5.out.block).same b6'.block
  have hb06 : Below (w1.alloc (.cells #[d1, a1] 42)).heap.size (w1.alloc (.cells #[d1, a1] 42)) (w6.alloc (.cells #[d6, a6] 42)) := (B04.out.trans (B5.out.mono B04.out.size)).trans (b6'.mono (Nat.le_trans B04.out.size B5.out.size))
  have hh1 := h1.out.same hb06.block
  have B06 := Lib.hid hb06; have H4' := Lib.hid hh4; have B6 := Lib.hid b6; have H6 := Lib.hid hh6; clear hb06 hh4 b6' b6 h6 hh6 k50 k51 k52 k53
  go_wp2_with fail
  clear s61 s62
  refine (eqModule_same _ _ _ _ _ _ _ H6.out.ints hh1).mono ?_
  rintro e w7 ⟨rfl, b7⟩
  have k72 : w7.cell? ⟨w2.heap.size, 0, none⟩ = some d2 := (b7.cell (p := ⟨w2.heap.size, 0, none⟩) (World.block_lt_of_cell? _ _ k62)).trans k62
  have k73 : w7.cell? ⟨w2.heap.size, 1, none⟩ = some a2 := (b7.cell (p := ⟨w2.heap.size, 1, none⟩) (World.block_lt_of_cell? _ _ k63)).trans k63
  have hh7 := H4'.out.same b7.block
  have B7 := Lib.hid b7; have H7 := Lib.hid hh7; clear b7 hh7 k60 k61 k62 k63 c6
  go_wp2_with fail
  refine (heldModule_c d2 a2 _ _ 1 w7 H7.out.ints (by omega) (by omega)).mono ?_
  rintro e w8 ⟨rfl, b8⟩
  go_wp2_with fail
  go_ret
  exact ⟨rfl, (B1.out.trans (B06.out.mono B1.out.size)).trans ((B7.out.trans (b8.mono B7.out.size)).mono (Nat.le_trans B1.out.size B06.out.size))⟩

namespace fnExactProjectiveModule_row
theorem own : ownKnob Try.prog.godebug = none := by kernel_rfl
set_option linter.unusedVariables false in
set_option maxRecDepth 100000 in
theorem lifted (os : Os) (started : os.Started) (H : Type) (enc : TypeId × Value → H) :
    ReturnsInHanded {} Try.checked os 13 .any (Rows.fnExactProjectiveModuleSpec.pre6 enc Try.prog Try.f13 Rows.fnExactProjectiveModuleRow.domain false) (Rows.fnExactProjectiveModuleSpec.post enc Try.prog Try.f13 false true false false) := by
  refine returnsInHanded_of_change (C := Try.checked) own started (by kernel_rfl) Try.func13
    (ChangeSpec.witness6 (enc := enc) (C := Try.checked) false ⟨#[], #[.int .i64 0, .int .i64 0], []⟩ 8 (by kernel_rfl) (by kernel_rfl) (by kernel_rfl) (by kernel_rfl)) ?_
  intro W base args ds gs before hval0 hW hcnd _
  have hval : ∀ (j : Nat) t v, Try.f13.params[j]? = some t → args[j]? = some v → Value.okWide Try.prog W .any base t v := hval0
  have hW' := hW
  obtain ⟨p, q, hA0, hV, rfl, hfz, hnd⟩ := hW
  have hA : DataW.TrodAll enc Try.prog W 0 (fun _ => true) true Try.f13.params.toList args.toList ds p := hA0
  rw [Try.params13] at hA hval
  obtain ⟨v0, vs0, d0, ds0, p0, q0, hargs, rfl, rfl, h0, r0⟩ := trodAll_cons hA
  obtain ⟨v1, vs1, d1, ds1, p1, q1, rfl, rfl, rfl, h1, r1⟩ := trodAll_cons r0
  obtain ⟨rfl, rfl, rfl⟩ := trodAll_nil r1
  obtain rfl : args = #[v0, v1] := by cases args; simp_all
  obtain ⟨rfl, rfl⟩ := trodVars_none hV
  obtain ⟨a0, rfl, rfl, rfl, w0⟩ := open_int Try.underlying2 (hval 0 2 v0 rfl rfl) h0
  obtain ⟨a1, rfl, rfl, rfl, w1⟩ := open_int Try.underlying2 (hval 1 2 v1 rfl rfl) h1
  clear hA0 hval0
  refine (fnExactProjectiveModule_walk W a0 w0 a1 w1).mono fun e W' ⟨he, bel⟩ => ?_
  subst he
  exact ⟨_, rfl, _, _, _, [], _, [], hW', trodAll_mk1 (shut_bool Try.underlying4 _), (trodAll_cons_mk (shut_int Try.underlying2 w0) (trodAll_cons_mk (shut_int Try.underlying2 w1) trodAll_mk0)), rfl, bel.frame _, fun h => by cases h⟩
theorem over : Rows.fnExactProjectiveModuleRow.holds Try.pinned (OpenSpec.ofChange Rows.fnExactProjectiveModuleSpec) :=
  OpenClaim.holds_of_wide 13 Try.f13 rfl rfl rfl rfl rfl rfl rfl ⟨rfl, rfl, rfl, rfl, rfl⟩ rfl rfl rfl rfl rfl (by kernel_rfl) Try.func13 (by kernel_rfl)
    (of_decide_eq_true (by kernel_rfl)) (by unfold Func.isWrapper; first | (rw [if_pos (by decide +kernel)]; kernel_rfl) | (rw [if_neg (by decide +kernel)]; exact ⟨rfl, rfl⟩))
    (fun os started H enc _ => lifted os started H enc)
end fnExactProjectiveModule_row
/-- The statement. -/
theorem fnExactProjectiveModule_proved : Rows.FnExactProjectiveModuleSaid := fnExactProjectiveModule_row.over
#print axioms fnExactProjectiveModule_proved
end Go.Proofs.Ytlakdlnfijkaeaa

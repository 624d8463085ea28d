/- What is proved: for every input the law FnExactWeightsOf returns true and its argument reads behind the call as before: the program's WeightsOf and the reference's agree. No condition. -/
import Derived.Test.YtlakdlnfijkaeaaRows
import Derived.Test.YtlakdlnfijkaeaaLWt
import Derived.Test.YtlakdlnfijkaeaaLib2
import Derived.OpenShut
import Derived.ShutString
import Derived.ChangeOld
namespace Go.Proofs.Ytlakdlnfijkaeaa
open Go.ChangeShapes Go.WideShapes Go.ChangeAt Go.RowKit
open Go.ChangeMaps (open_string shut_string)

theorem fnExactWeightsOf_walk (w : World) (a : Option Addr) (len cap : Nat) (zs : List Int) (h : IsRow .i64 w a len cap zs) :
    Calls Try.prog 12 #[.slice a len cap] w fun e w' => e = .returned (.bool true) ∧ Below w.heap.size w w' := by
  by_cases hl : len ≤ 1048576
  · have t1' : ¬ 1048576 < len := by omega
    have T := Lib.hid (fun w (h : IsRow .i64 w a len cap zs) => toInt64S_c a len cap zs w h hl)
    have H := Lib.hid h; clear h
    have hxs : (zs.take len).length ≤ 1048576 := by simp; omega
    generalize zs.take len = xs at *
    have hxl := wtOf_length xs
    have S := Lib.hid (fun v w h => specWeightsOf_c v xs w h hxs)
    have I := Lib.hid (fun v w h => implWeightsOf_c v xs w h)
    go_enter Try.func12, Try.ntmps12
    go_wp2_with fail
    refine (T.out _ H.out).mono ?_
    rintro e w0 ⟨v0, rfl, h0, b0⟩
    go_wp2_with fail
    refine (S.out _ _ h0.ints).mono ?_
    rintro e w1 ⟨v1, rfl, h1, b1⟩
    have b01 : Below w.heap.size w w1 := b0.trans (b1.mono b0.size)
    go_wp2_with fail
    refine (T.out _ (H.out.same b01.block)).mono ?_
    rintro e wx ⟨vx, rfl, hx, bx⟩
    have bwx : Below w.heap.size w wx := b01.trans (bx.mono b01.size)
    go_wp2_with fail
    refine (I.out _ _ hx.ints).mono ?_
    rintro e w2 ⟨v2, rfl, h2, b2⟩
    have b12 : Below w1.heap.size w1 w2 := bx.trans (b2.mono bx.size)
    have hx2 := hx.same b2.block
    go_wp2_with fail
    refine (eqInt64S_same _ _ _ _ h2.ints (h1.same b12.block)).mono ?_
    rintro e w3 ⟨rfl, n3, rfl⟩
    have bw2 : Below w.heap.size w w2 := bwx.trans (b2.mono bwx.size)
    go_wp2_with fail
    refine (T.out (w2.drewN n3) (H.out.same bw2.block)).mono ?_
    rintro e w4 ⟨v4, rfl, h4, b4⟩
    have b4' : Below w2.heap.size w2 w4 := (below_drewN n3 (Below.refl _ _)).trans b4
    go_wp2_with fail
    refine (eqInt64S_same _ _ xs _ (hx2.same b4'.block).ints h4.ints).mono ?_
    rintro e w5 ⟨rfl, n5, rfl⟩
    have hx4 : OwnI w4 w1.heap.size vx xs := hx2.same b4'.block
    have h2' : OwnI w4 wx.heap.size v2 _ := h2.same b4'.block
    have b14 : Below w1.heap.size w1 w4 := b12.trans (b4'.mono b12.size)
    go_wp2_with fail
    refine (markInt64S_c vx xs 1 w1.heap.size (w4.drewN n5) hx4 (by omega) (by omega)).mono ?_
    rintro e w6 ⟨rfl, h6, g6⟩
    have hlx := World.ownsRow.lt hx
    have k6 : ∀ b, wx.heap.size ≤ b → b < w4.heap.size → w6.heap[b]? = w4.heap[b]? := fun b h0 hb => g6.block b hb (fun e => by have := (hlx b e.symm).2; omega)
    have hlv := World.ownsRow.lt h2'
    have h26 : OwnI w6 wx.heap.size v2 _ := own_kept h2' (fun b hb => k6 b (hlv b hb).1 (hlv b hb).2)
    have b46 : Below w1.heap.size w4 w6 := (below_drewN n5 (Below.refl _ _)).trans (Below_of_grown (w := w4.drewN n5) g6 b14.size (fun b hb => (hlx b hb).1))
    have b16 : Below w1.heap.size w1 w6 := b14.trans b46
    go_wp2_with fail
    refine (eqInt64S_same _ _ _ _ h26.ints (h1.same b16.block)).mono ?_
    rintro e w7 ⟨rfl, n7, rfl⟩
    go_wp2_with fail
    refine (markInt64S_c v2 _ 1 wx.heap.size (w6.drewN n7) h26 (by omega) (by omega)).mono ?_
    rintro e w8 ⟨rfl, h8, g8⟩
    have b68 : Below w1.heap.size w6 w8 := (below_drewN n7 (Below.refl _ _)).trans (Below_of_grown (w := w6.drewN n7) g8 b16.size (fun b hb => Nat.le_trans bx.size (hlv b hb).1))
    have b18 : Below w1.heap.size w1 w8 := b16.trans b68
    go_wp2_with fail
    refine (heldInt64S_c v2 _ 1 w8 h8.ints (by omega) (by omega)).mono ?_
    rintro e w9 ⟨rfl, rfl⟩
    have bw8 : Below w.heap.size w w8 := b01.trans (b18.mono b01.size)
    go_wp2_with fail
    refine (T.out _ (H.out.same bw8.block)).mono ?_
    rintro e wa ⟨va, rfl, ha, ba⟩
    go_wp2_with fail
    refine (I.out _ _ ha.ints).mono ?_
    rintro e wb ⟨vb, rfl, hb, bb⟩
    have b8b : Below w8.heap.size w8 wb := ba.trans (bb.mono ba.size)
    have b1b : Below w1.heap.size w1 wb := b18.trans (b8b.mono b18.size)
    go_wp2_with fail
    refine (eqInt64S_same _ _ _ _ hb.ints (h1.same b1b.block)).mono ?_
    rintro e wc ⟨rfl, nc, rfl⟩
    go_wp2_with fail
    refine (heldInt64S_c v2 _ 1 (wb.drewN nc) (h8.same b8b.block).ints (by omega) (by omega)).mono ?_
    rintro e wd ⟨rfl, rfl⟩
    go_wp2_with fail
    go_ret
    exact ⟨rfl, below_drewN _ (bw8.trans (b8b.mono bw8.size))⟩
  · have t1' : 1048576 < len := by omega
    clear hl h
    go_enter Try.func12, Try.ntmps12
    go_wp2_with fail
    go_ret
    exact ⟨rfl, Below.refl _ _⟩

namespace fnExactWeightsOf_row
theorem own : ownKnob Try.prog.godebug = none := by kernel_rfl
theorem laidOut : laidOutB Try.prog = true := by kernel_rfl
set_option linter.unusedVariables false in
set_option maxRecDepth 100000 in
theorem lifted (os : Os) (started : os.Started) (H : Type) (enc : TypeId × Value → H) :
    ReturnsInHanded {} Try.checked os 12 .any (Rows.fnExactWeightsOfSpec.pre6 enc Try.prog Try.f12 Rows.fnExactWeightsOfRow.domain false) (Rows.fnExactWeightsOfSpec.post enc Try.prog Try.f12 false true false false) := by
  refine returnsInHanded_of_change (C := Try.checked) own started (by kernel_rfl) Try.func12
    (ChangeSpec.witness6 (enc := enc) (C := Try.checked) false ⟨#[], #[.slice none 0 0], []⟩ 8 (by kernel_rfl) (by kernel_rfl) (by kernel_rfl) (by kernel_rfl)) ?_
  intro W base args ds gs before hval0 hW hcnd _
  have hval : ∀ (j : Nat) t v, Try.f12.params[j]? = some t → args[j]? = some v → Value.okWide Try.prog W .any base t v := hval0
  have hW' := hW
  obtain ⟨p, q, hA0, hV, rfl, hfz, hnd⟩ := hW
  have hA : DataW.TrodAll enc Try.prog W 0 (fun _ => true) true Try.f12.params.toList args.toList ds p := hA0
  rw [Try.params12] at hA hval
  obtain ⟨v0, vs0, d0, ds0, p0, q0, hargs, rfl, rfl, h0, r0⟩ := trodAll_cons hA
  obtain ⟨rfl, rfl, rfl⟩ := trodAll_nil r0
  obtain rfl : args = #[v0] := by cases args; simp_all
  obtain ⟨rfl, rfl⟩ := trodVars_none hV
  obtain ⟨a0, len0, cap0, rfl⟩ := okWide_slice Try.underlying25 (hval 0 25 v0 rfl rfl)
  have k0 := h0
  have lt0 : ∀ x ∈ p0, x.block < W.heap.size := by obtain ⟨m, hm⟩ := k0; exact DataW.trod_lt m _ _ _ hm
  obtain ⟨z0, w0⟩ : ∃ zs, IsRow .i64 W a0 len0 cap0 zs := by
    obtain ⟨fuel, hf⟩ := h0
    rcases open_ints Try.underlying25 Try.underlying2 (by kernel_rfl) hf with ⟨hcs, _⟩ | ⟨x, l, c, zs, hcs, _, hl, hm, hz, _, hcell, hwz⟩
    · simp [Value.cells] at hcs
      obtain ⟨rfl, rfl, rfl⟩ := hcs
      exact ⟨[], .inl ⟨rfl, rfl, rfl, rfl⟩⟩
    · simp [Value.cells] at hcs
      obtain ⟨rfl, rfl, rfl⟩ := hcs
      exact ⟨zs, .inr ⟨_, rfl, hl, hm, by simpa using hz, hcell, hwz⟩⟩
  clear hA0 hval0
  refine (fnExactWeightsOf_walk W a0 len0 cap0 z0 w0).mono fun e W' ⟨he, bel⟩ => ?_
  subst he
  exact ⟨_, rfl, _, _, _, [], _, [], hW', trodAll_mk1 (shut_bool Try.underlying4 _), (trodAll_cons_mk (Below.trod laidOut (by kernel_rfl) (of_decide_eq_true (by kernel_rfl)) k0 bel lt0) trodAll_mk0), rfl, bel.frame _, fun h => by cases h⟩
theorem over : Rows.fnExactWeightsOfRow.holds Try.pinned (OpenSpec.ofChange Rows.fnExactWeightsOfSpec) :=
  OpenClaim.holds_of_wide 12 Try.f12 rfl rfl rfl rfl rfl rfl rfl ⟨rfl, rfl, rfl, rfl, rfl⟩ rfl rfl rfl rfl rfl (by kernel_rfl) Try.func12 (by kernel_rfl)
    (of_decide_eq_true (by kernel_rfl)) (by unfold Func.isWrapper; first | (rw [if_pos (by decide +kernel)]; kernel_rfl) | (rw [if_neg (by decide +kernel)]; exact ⟨rfl, rfl⟩))
    (fun os started H enc _ => lifted os started H enc)
end fnExactWeightsOf_row
/-- The statement. -/
theorem fnExactWeightsOf_proved : Rows.FnExactWeightsOfSaid := fnExactWeightsOf_row.over
#print axioms fnExactWeightsOf_proved
end Go.Proofs.Ytlakdlnfijkaeaa

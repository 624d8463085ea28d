/- What is proved: for every input the law FnExactSpikeMonomials returns true and its arguments read behind the call as before: the program's SpikeMonomials and the reference's agree. No condition. -/
import Derived.Test.YtlakdlnfijkaeaaRows
import Derived.Test.YtlakdlnfijkaeaaLSpike4
import Derived.OpenShut
import Derived.ShutString
import Derived.ChangeOld
namespace Go.Proofs.Ytlakdlnfijkaeaa
open Go.ChangeShapes Go.WideShapes Go.ChangeAt Go.RowKit
open Go.ChangeMaps (open_string shut_string)

theorem implSpikeMonomials_c (k d : Int) (w : World) :
    Calls Try.prog 48 #[.int .i64 k, .int .i64 d] w fun e w' => ∃ v, e = .returned (.tuple #[v, .int .i64 (skC k d)]) ∧ OwnII w' w.heap.size v (skL k d) ∧ Below w.heap.size w w' := by
  by_cases hr : 1 ≤ k ∧ k ≤ 4 ∧ 0 ≤ d ∧ d ≤ 40
  · obtain ⟨h1, h2, h3, h4⟩ := hr
    have e1 : skC k d = if lenM (k - 1).toNat d.toNat ≤ 100 then 0 else 3 := by rw [skC, if_pos ⟨h1, h2, h3, h4⟩]
    have e2 : skL k d = if lenM (k - 1).toNat d.toNat ≤ 100 then (mons (k - 1).toNat d.toNat).filter (fun r => r.all spB) else [] := by
      rw [skL]
      by_cases h5 : lenM (k - 1).toNat d.toNat ≤ 100
      · rw [if_pos ⟨h1, h2, h3, h4, h5⟩, if_pos h5]
      · rw [if_neg (fun h => h5 h.2.2.2.2), if_neg h5]
    rw [e1, e2]; clear e1 e2
    obtain ⟨q, hq⟩ := Int.eq_ofNat_of_zero_le (show 0 ≤ k - 1 by omega)
    obtain ⟨e, he⟩ := Int.eq_ofNat_of_zero_le h3
    obtain rfl : k = (q : Int) + 1 := by omega
    subst he
    rw [show ((q : Int) + 1 - 1).toNat = q by omega, show ((e : Int)).toNat = e by omega]
    have HA := Lib.hid (monomials_c q (by omega) e (by omega) w)
    rw [← mons_lenM]
    have hlm : (mons q e).length ≤ 41 ^ q := mons_len q e (by omega)
    have hp : (41 : Nat) ^ q ≤ 41 ^ 3 := Nat.pow_le_pow_right (by omega) (by omega)
    have hlen : (mons q e).length ≤ 100000 := Nat.le_trans hlm (Nat.le_trans hp (by decide))
    have HB0 := Lib.hid (mons_bound q e)
    have HE := Lib.hid (show e ≤ 40 by omega)
    clear hlm hp hq
    have hk1 : 0 ≤ (q : Int) + 1 := by omega
    generalize mons q e = ms at *
    by_cases h5 : ms.length ≤ 100
    · have t1 : decide (100 < ms.length) = false := by simp; omega
      rw [if_pos h5, if_pos h5]
      go_enter Try.func48, Try.ntmps48
      go_wp2_with (first | (go_at_call 63; refine (isCount_c _ _).mono ?_; rintro e w' ⟨rfl, rfl⟩) | (go_at_call 72; refine (isDegree_c _ _).mono ?_; rintro e w' ⟨rfl, rfl⟩) | (go_at_call 73; refine HA.out.mono ?_; rintro e w1 ⟨lv, lus, rfl, hL, hb1⟩; obtain ⟨ao, lc, rfl, hmx⟩ := hL.ints.len; have HL := Lib.hid hL; have HB1 := Lib.hid hb1; clear hL hb1))
      have hff : ∀ w2 : World, w1.heap.size ≤ w2.heap.size → ∀ u xs, xs ∈ ms → IntS w2.heap u xs → Calls Try.prog 75 (#[u] ++ #[]) w2 fun e w' => e = .returned (.bool (!xs.all spB)) ∧ Below w2.heap.size w2 w' :=
        fun w2 _ u xs hx hu => spike1_c u xs w2 hu fun x hm => by have := HB0.out xs hx x hm; have := HE.out; omega
      refine (deleteFuncSS_c _ lus ms 75 #[] (fun r => !r.all spB) w.heap.size w1 HL.out HB1.out.size enters_spike1 hff).mono ?_
      rintro e w2 ⟨v2, us2, rfl, hU, hb2⟩
      have hU2 : OwnU w2 w.heap.size v2 us2 (ms.filter fun r => r.all spB) := hU.cast (by simp)
      have HU := Lib.hid hU2; have HB2 := Lib.hid hb2; clear hU hU2 hb2 hff
      obtain ⟨va, vn, vc, rfl⟩ := own_shape HU.out.row
      go_wp2_with fail
      go_ret2
      exact ⟨_, rfl, ⟨_, HU.out⟩, HB1.out.trans HB2.out⟩
    · have t1 : decide (100 < ms.length) = true := by simp; omega
      rw [if_neg h5, if_neg h5]
      go_enter Try.func48, Try.ntmps48
      go_wp2_with (first | (go_at_call 63; refine (isCount_c _ _).mono ?_; rintro e w' ⟨rfl, rfl⟩) | (go_at_call 72; refine (isDegree_c _ _).mono ?_; rintro e w' ⟨rfl, rfl⟩) | (go_at_call 73; refine HA.out.mono ?_; rintro e w1 ⟨lv, lus, rfl, hL, hb1⟩; obtain ⟨ao, lc, rfl, hmx⟩ := hL.ints.len; have HL := Lib.hid hL; have HB1 := Lib.hid hb1; clear hL hb1))
      go_ret2
      exact ⟨_, rfl, OwnII.nil _ _, HB1.out⟩
  · have e1 : skC k d = 2 := by rw [skC, if_neg hr]
    have e2 : skL k d = [] := by rw [skL, if_neg fun h => hr ⟨h.1, h.2.1, h.2.2.1, h.2.2.2.1⟩]
    rw [e1, e2]; clear e1 e2
    by_cases hk : 1 ≤ k ∧ k ≤ 4
    · have hd : ¬ (0 ≤ d ∧ d ≤ 40) := fun h => hr ⟨hk.1, hk.2, h.1, h.2⟩
      obtain ⟨h1, h2⟩ := hk
      have td : (decide (0 ≤ d) && decide (d ≤ 40)) = false := by simp; omega
      have D := Lib.hid (isDegree_c d)
      rw [td] at D
      clear hr hd td
      go_enter Try.func48, Try.ntmps48
      go_wp2_with (first | (go_at_call 63; refine (isCount_c _ _).mono ?_; rintro e w' ⟨rfl, rfl⟩) | (go_at_call 72; refine (D.out _).mono ?_; rintro e w' ⟨rfl, rfl⟩))
      go_ret2
      exact ⟨_, rfl, OwnII.nil _ _, Below.refl _ _⟩
    · have td : (decide (1 ≤ k) && decide (k ≤ 4)) = false := by simp; omega
      have D := Lib.hid (isCount_c k)
      rw [td] at D
      clear hr hk td
      go_enter Try.func48, Try.ntmps48
      go_wp2_with (first | (go_at_call 63; refine (D.out _).mono ?_; rintro e w' ⟨rfl, rfl⟩))
      go_ret2
      exact ⟨_, rfl, OwnII.nil _ _, Below.refl _ _⟩

theorem fnExactSpikeMonomials_walk (w : World) (k : Int) (_ : (Lit.int .i64 k).wf = true) (d : Int) (_ : (Lit.int .i64 d).wf = true) :
    Calls Try.prog 14 #[.int .i64 k, .int .i64 d] w fun e w' => e = .returned (.bool true) ∧ Below w.heap.size w w' := by
  have hxl := (skL_bounds k d).1
  have hx2 := (skL_bounds k d).2
  have S := Lib.hid (specSpikeMonomials_c k d)
  have I := Lib.hid (implSpikeMonomials_c k d)
  generalize skC k d = c at *
  generalize skL k d = xss at *
  go_enter Try.func14, Try.ntmps14
  go_wp2_with fail
  refine (S.out _).mono ?_
  rintro e w1 ⟨v1, rfl, h1, b1⟩
  go_wp2_with fail
  refine (I.out _).mono ?_
  rintro e w2 ⟨v2, rfl, h2, b2⟩
  have h1' := h1.same b2.block
  go_wp2_with fail
  refine (eqInt64SS_same _ _ _ _ h2.ints h1').mono ?_
  rintro e w3 ⟨rfl, n3, rfl⟩
  obtain ⟨us, hU⟩ := h2
  have HU := Lib.hid hU
  go_wp2_with fail
  refine (markInt64SS_c v2 us _ 1 w1.heap.size (w2.drewN n3) (hU.drewN n3) b2.size (by omega) (by omega)).mono ?_
  rintro e w4 ⟨rfl, h4, z4, c4, k4⟩
  clear k4 hU
  go_wp2_with fail
  refine (heldInt64SS_c v2 _ 1 w4 h4.ints (by omega) (by omega)).mono ?_
  rintro e w5 ⟨rfl, rfl⟩
  have b4 : Below w1.heap.size w2 w4 := (below_drewN n3 (Below.refl _ _)).trans c4
  go_wp2_with fail
  refine (I.out _).mono ?_
  rintro e w6 ⟨v6, rfl, h6, b6⟩
  have h1'' := (h1.same (b2.trans b4).block).same b6.block
  go_wp2_with fail
  refine (eqInt64SS_same _ _ _ _ h6.ints h1'').mono ?_
  rintro e w7 ⟨rfl, n7, rfl⟩
  go_wp2_with fail
  refine (heldInt64SS_c v2 _ 1 (w6.drewN n7) (h4.same b6.block).ints (by omega) (by omega)).mono ?_
  rintro e w8 ⟨rfl, rfl⟩
  go_wp2_with fail
  go_ret
  exact ⟨rfl, below_drewN _ ((b1.trans ((b2.trans b4).mono b1.size)).trans (b6.mono (Nat.le_trans b1.size (b2.trans b4).size)))⟩

namespace fnExactSpikeMonomials_row
theorem own : ownKnob Try.prog.godebug = none := by kernel_rfl
set_option linter.unusedVariables false in
set_option maxRecDepth 100000 in
theorem lifted (os : Os) (started : os.Started) (H : Type) (enc : TypeId × Value → H) :
    ReturnsInHanded {} Try.checked os 14 .any (Rows.fnExactSpikeMonomialsSpec.pre6 enc Try.prog Try.f14 Rows.fnExactSpikeMonomialsRow.domain false) (Rows.fnExactSpikeMonomialsSpec.post enc Try.prog Try.f14 false true false false) := by
  refine returnsInHanded_of_change (C := Try.checked) own started (by kernel_rfl) Try.func14
    (ChangeSpec.witness6 (enc := enc) (C := Try.checked) false ⟨#[], #[.int .i64 0, .int .i64 0], []⟩ 8 (by kernel_rfl) (by kernel_rfl) (by kernel_rfl) (by kernel_rfl)) ?_
  intro W base args ds gs before hval0 hW hcnd _
  have hval : ∀ (j : Nat) t v, Try.f14.params[j]? = some t → args[j]? = some v → Value.okWide Try.prog W .any base t v := hval0
  have hW' := hW
  obtain ⟨p, q, hA0, hV, rfl, hfz, hnd⟩ := hW
  have hA : DataW.TrodAll enc Try.prog W 0 (fun _ => true) true Try.f14.params.toList args.toList ds p := hA0
  rw [Try.params14] at hA hval
  obtain ⟨v0, vs0, d0, ds0, p0, q0, hargs, rfl, rfl, h0, r0⟩ := trodAll_cons hA
  obtain ⟨v1, vs1, d1, ds1, p1, q1, rfl, rfl, rfl, h1, r1⟩ := trodAll_cons r0
  obtain ⟨rfl, rfl, rfl⟩ := trodAll_nil r1
  obtain rfl : args = #[v0, v1] := by cases args; simp_all
  obtain ⟨rfl, rfl⟩ := trodVars_none hV
  obtain ⟨a0, rfl, rfl, rfl, w0⟩ := open_int Try.underlying2 (hval 0 2 v0 rfl rfl) h0
  obtain ⟨a1, rfl, rfl, rfl, w1⟩ := open_int Try.underlying2 (hval 1 2 v1 rfl rfl) h1
  clear hA0 hval0
  refine (fnExactSpikeMonomials_walk W a0 w0 a1 w1).mono fun e W' ⟨he, bel⟩ => ?_
  subst he
  exact ⟨_, rfl, _, _, _, [], _, [], hW', trodAll_mk1 (shut_bool Try.underlying4 _), (trodAll_cons_mk (shut_int Try.underlying2 w0) (trodAll_cons_mk (shut_int Try.underlying2 w1) trodAll_mk0)), rfl, bel.frame _, fun h => by cases h⟩
theorem over : Rows.fnExactSpikeMonomialsRow.holds Try.pinned (OpenSpec.ofChange Rows.fnExactSpikeMonomialsSpec) :=
  OpenClaim.holds_of_wide 14 Try.f14 rfl rfl rfl rfl rfl rfl rfl ⟨rfl, rfl, rfl, rfl, rfl⟩ rfl rfl rfl rfl rfl (by kernel_rfl) Try.func14 (by kernel_rfl)
    (of_decide_eq_true (by kernel_rfl)) (by unfold Func.isWrapper; first | (rw [if_pos (by decide +kernel)]; kernel_rfl) | (rw [if_neg (by decide +kernel)]; exact ⟨rfl, rfl⟩))
    (fun os started H enc _ => lifted os started H enc)
end fnExactSpikeMonomials_row
/-- The statement. -/
theorem fnExactSpikeMonomials_proved : Rows.FnExactSpikeMonomialsSaid := fnExactSpikeMonomials_row.over
#print axioms fnExactSpikeMonomials_proved
end Go.Proofs.Ytlakdlnfijkaeaa

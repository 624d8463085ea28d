/- What is proved: for every input the law FnExactCommutatorOf returns true and its arguments read behind the call as before: the program's CommutatorOf and the reference's agree, and the result is the call's own. No condition. -/
import Derived.Test.YtljpjoegeincoaaRows
import Derived.Test.YtljpjoegeincoaaLMulM
import Derived.Test.YtljpjoegeincoaaLCount
import Derived.Test.YtljpjoegeincoaaLSort
import Derived.Test.YtljpjoegeincoaaLGen
import Derived.Test.YtljpjoegeincoaaLHeld2
import Derived.Deep.DeepCutAuto
import Derived.Lib.SliceRun
import Derived.OpenShut
import Derived.ShutString
import Derived.ChangeOld
namespace Go.Proofs.Ytljpjoegeincoaa
section
open Go.RowKit Go.Sort

def cmL (xss yss : List (List Int)) : List (List Int) := if multC xss yss = 0 then oddL (prodsL xss yss ++ prodsL yss xss) else []
theorem multC_comm {xss yss : List (List Int)} (h : multC xss yss = 0) : multC yss xss = 0 := by
  unfold multC at *
  have e : sumD yss xss = sumD xss yss := by
    unfold sumD
    rw [Int.add_comm]
    cases decide (xss.length = 0) <;> cases decide (yss.length = 0) <;> rfl
  rw [e, Bool.and_comm]; exact h
theorem cmL_eq {xss yss : List (List Int)} : oddL (prodsL xss yss ++ prodsL yss xss) = mrg (oddL (prodsL xss yss)) (oddL (prodsL yss xss)) := by
  rw [mrg_odds]
theorem cnt_mrg' (a b : List (List Int)) : cnt (mrg a b) ≤ cnt a + cnt b := cnt_mrg a b
theorem cmL_cnt (xss yss : List (List Int)) : cnt (cmL xss yss) ≤ 26480000000 := by
  unfold cmL
  split
  · rename_i h
    have h1 := mmL_cnt xss yss; have h2 := mmL_cnt yss xss
    unfold mmL at h1 h2
    rw [if_pos h] at h1; rw [if_pos (multC_comm h)] at h2
    rw [cmL_eq]
    have := cnt_mrg (oddL (prodsL xss yss)) (oddL (prodsL yss xss))
    omega
  · simp [cnt]
theorem heldT {x1 x2 : Value} {g1 g2 : Addr} {w0 W W' : World} {B : Nat} (h : W.cell? g1 = some x1 ∧ W.cell? g2 = some x2 ∧ Below B w0 W) (hb : Below W.heap.size W W') (hB : B ≤ W.heap.size) : W'.cell? g1 = some x1 ∧ W'.cell? g2 = some x2 ∧ Below B w0 W' :=
  ⟨(hb.cell (World.block_lt_of_cell? _ _ h.1)).trans h.1, (hb.cell (World.block_lt_of_cell? _ _ h.2.1)).trans h.2.1, h.2.2.trans (hb.mono hB)⟩
theorem heldTS {x1 x2 : Value} {g1 g2 : Addr} {w0 W : World} {B g : Nat} (h : W.cell? g1 = some x1 ∧ W.cell? g2 = some x2 ∧ Below B w0 W) (hg : B ≤ g) (h1 : g ≠ g1.block) (h2 : g ≠ g2.block) (u : Value) : (W.setCell ⟨g, 0, none⟩ u).cell? g1 = some x1 ∧ (W.setCell ⟨g, 0, none⟩ u).cell? g2 = some x2 ∧ Below B w0 (W.setCell ⟨g, 0, none⟩ u) :=
  ⟨(World.cell?_setCell_far W ⟨g, 0, none⟩ g1 u h1).trans h.1, (World.cell?_setCell_far W ⟨g, 0, none⟩ g2 u h2).trans h.2.1, h.2.2.setCell hg u⟩
set_option maxRecDepth 100000 in
set_option maxHeartbeats 1000000 in
theorem implCommutatorOf_of (SO : SortOk) (v u : Value) (xss yss : List (List Int)) (w : World) (h : IntSS w.heap v xss) (hu : IntSS w.heap u yss) :
    Calls Try.prog 40 #[.agg #[v], .agg #[u]] w fun e w' => ∃ r us, e = .returned (.tuple #[.agg #[r], .int .i64 (multC xss yss)]) ∧ OwnU w' w.heap.size r us (cmL xss yss) ∧ Below w.heap.size w w' := by
  have hb : Below w.heap.size w (((w.alloc (.cells #[v] 26)).alloc (.cells #[u] 26)).alloc (.cells #[.slice none 0 0] 26)) := (((Below.refl _ _).alloc (Nat.le_refl _) _).alloc (by simp) _).alloc (by simp; omega) _
  have k0 := (((Cell1.new w v 26).kept (alloc_old _ (.cells #[u] 26))).kept (alloc_old _ (.cells #[.slice none 0 0] 26)))
  have k1 := ((Cell1.new (w.alloc (.cells #[v] 26)) u 26).kept (alloc_old _ (.cells #[.slice none 0 0] 26)))
  have k2 := Cell1.new ((w.alloc (.cells #[v] 26)).alloc (.cells #[u] 26)) (.slice none 0 0) 26
  simp only [size_alloc_w] at k1 k2
  have hsz : (((w.alloc (.cells #[v] 26)).alloc (.cells #[u] 26)).alloc (.cells #[.slice none 0 0] 26)).heap.size = w.heap.size + 3 := by simp
  have C := Lib.hid (multiplicable_c v u xss yss _ (h.same hb.block) (hu.same hb.block))
  obtain ⟨ao, c, rfl, hm⟩ := h.len
  obtain ⟨bo, d, rfl, hn⟩ := hu.len
  have H := Lib.hid h; have HU := Lib.hid hu; clear h hu
  obtain ⟨w0, hw0⟩ : ∃ w0, w0 = ((w.alloc (.cells #[.slice ao xss.length c] 26)).alloc (.cells #[.slice bo yss.length d] 26)).alloc (.cells #[.slice none 0 0] 26) := ⟨_, rfl⟩
  have q0 := k0.c0; have q1 := k1.c0
  rw [← hw0] at k0 k1 k2 hb hsz C
  have HW := Lib.hid hw0; clear hw0
  have HB0 := Lib.hid hb; have K0 := Lib.hid k0; have K1 := Lib.hid k1; have K2 := Lib.hid k2; have HSZ := Lib.hid hsz
  clear hb k0 k1 k2 hsz
  by_cases hc : multC xss yss = 0
  rotate_left
  · have e1 : cmL xss yss = [] := by unfold cmL; rw [if_neg hc]
    rw [e1]
    have t1 := (neB hc).1; have t1' := (neB hc).2
    clear e1 hc SO
    generalize multC xss yss = pc at *
    go_enter Try.func40, Try.ntmps40
    go_wp2_with fail
    rw [← HW.out]
    refine C.out.mono ?_
    rintro e w1 ⟨rfl, hb1⟩
    have K21 := Lib.hid (K2.out.kept hb1.block)
    have q2 := K21.out.c0; have f2 := K21.out.free 0
    have HB1 := Lib.hid (HB0.out.trans (hb1.mono HB0.out.size))
    clear hb1 HW q0 q1
    go_wp2_with fail
    have g0 := (K21.out.set (.slice none 0 0)).c0
    exact bodyPost_ret (v := .tuple #[.agg #[.slice none 0 0], .int .i64 pc]) (by simp [results, Try.results40, go_sem, g0]) rfl
      ⟨_, [], rfl, own_u_nil _ _, HB1.out.setCell (by show w.heap.size ≤ w.heap.size + 1 + 1; omega) _⟩
  · have e1 : cmL xss yss = oddL (prodsL xss yss ++ prodsL yss xss) := by unfold cmL; rw [if_pos hc]
    have hc2 := multC_comm hc
    rw [e1, hc]
    rw [hc] at C
    rw [cmL_eq]
    have SAB := Lib.hid (fun (W : World) (h : IntSS W.heap (.slice ao xss.length c) xss) (hu : IntSS W.heap (.slice bo yss.length d) yss) => multiplied_of SO _ _ xss yss W h hu (mult_ok hc).1 (mult_ok hc).2.1 (by have := (mult_ok hc).2.2.1; omega) (fun x hx => by have := (mult_ok hc).2.2.2 x hx; omega))
    have SBA := Lib.hid (fun (W : World) (h : IntSS W.heap (.slice bo yss.length d) yss) (hu : IntSS W.heap (.slice ao xss.length c) xss) => multiplied_of SO _ _ yss xss W h hu (mult_ok hc2).1 (mult_ok hc2).2.1 (by have := (mult_ok hc2).2.2.1; omega) (fun x hx => by have := (mult_ok hc2).2.2.2 x hx; omega))
    have SM := Lib.hid (fun (v u : Value) (W : World) (h : IntSS W.heap v (oddL (prodsL xss yss))) (hu : IntSS W.heap u (oddL (prodsL yss xss))) => sumOf_of SO _ _ (oddL (prodsL xss yss)) (oddL (prodsL yss xss)) W h hu (asc_oddL _) (asc_oddL _) (by have := oddL_length (prodsL xss yss); have := oddL_length (prodsL yss xss); have := (mult_ok hc).2.2.1; have := (mult_ok hc2).2.2.1; omega) (fun x hx => by have := (mult_ok hc).2.2.2 x (mem_oddL_sub hx); omega) (fun x hx => by have := (mult_ok hc2).2.2.2 x (mem_oddL_sub hx); omega))
    clear e1 hc hc2 SO
    generalize oddL (prodsL xss yss) = px at *
    generalize oddL (prodsL yss xss) = py at *
    go_enter Try.func40, Try.ntmps40
    go_wp2_with fail
    rw [← HW.out]
    refine C.out.mono ?_
    rintro e w1 ⟨rfl, hb1⟩
    have q0' := (K0.out.kept hb1.block).c0; have q1' := (K1.out.kept hb1.block).c0
    have K21 := Lib.hid (K2.out.kept hb1.block)
    have HB1 := Lib.hid (HB0.out.trans (hb1.mono HB0.out.size))
    have hsz1 : w.heap.size + 3 ≤ w1.heap.size := by have := HSZ.out; have := hb1.size; omega
    clear hb1 HW q0 q1
    have HA := Lib.hid (fun (W : World) (h : Below (w.heap.size + 2) w1 W) => H.out.same (HB1.out.trans (h.mono (by omega))).block)
    have HC := Lib.hid (fun (W : World) (h : Below (w.heap.size + 2) w1 W) => HU.out.same (HB1.out.trans (h.mono (by omega))).block)
    have HKX := Lib.hid (fun (W : World) (h : Below w1.heap.size w1 W) => K21.out.kept h.block)
    go_wp2_with fail
    go_region_held3 (fun W => W.cell? ⟨w.heap.size, 0, none⟩ = some (.slice ao xss.length c) ∧ W.cell? ⟨w.heap.size + 1, 0, none⟩ = some (.slice bo yss.length d) ∧ Below (w.heap.size + 2) w1 W)
      (first | exact ⟨q0', q1', (Below.refl _ _).drew⟩ | exact heldT (by assumption) hx5 (by have := hx3.size; have := hx4.size; simp at *; omega) | exact heldT (by assumption) hx3 (by first | (have := hx4.size; simp at *; omega) | (simp at *; omega)) | exact heldT (by assumption) hx4 (by first | (have := hx3.size; simp at *; omega) | (simp at *; omega)) | exact heldTS (by assumption) (by show w.heap.size + 2 ≤ w.heap.size + 1 + 1; omega) (by show w.heap.size + 1 + 1 ≠ w.heap.size; omega) (by show w.heap.size + 1 + 1 ≠ w.heap.size + 1; omega) _)
      (first | (go_at_call 80; first | ((with_reducible refine (SAB.out _ (HA.out _ ?_) (HC.out _ ?_)).mono ?_); (first | exact (by assumption : _ ∧ _ ∧ Below (w.heap.size + 2) w1 _).2.2); (first | exact (by assumption : _ ∧ _ ∧ Below (w.heap.size + 2) w1 _).2.2); rintro e W3 ⟨r3, us3, rfl, hU3, hx3⟩; obtain ⟨ua, un, uc, rfl⟩ := own_shape hU3.row; have k3 : Cell1 W3 (w.heap.size + 1 + 1) (.slice none 0 0) 26 := (by first | exact k4.kept hx3.block | exact Cell1.kept (w := w1.drew) K21.out hx3.block)) | ((with_reducible refine (SBA.out _ (HC.out _ ?_) (HA.out _ ?_)).mono ?_); (first | exact (by assumption : _ ∧ _ ∧ Below (w.heap.size + 2) w1 _).2.2); (first | exact (by assumption : _ ∧ _ ∧ Below (w.heap.size + 2) w1 _).2.2); rintro e W4 ⟨r4, us4, rfl, hU4, hx4⟩; obtain ⟨va, vn, vc, rfl⟩ := own_shape hU4.row; have k4 : Cell1 W4 (w.heap.size + 1 + 1) (.slice none 0 0) 26 := (by first | exact k3.kept hx4.block | exact Cell1.kept (w := w1.drew) K21.out hx4.block))) | (go_at_call 58; (first | refine (SM.out _ _ _ (hU3.ints.same hx4.block) hU4.ints).mono ?_ | refine (SM.out _ _ _ hU3.ints (hU4.ints.same hx3.block)).mono ?_); rintro e W5 ⟨r5, us5, rfl, hU5, hx5⟩; obtain ⟨sa, sn, sc, rfl⟩ := own_shape hU5.row; have k5 : Cell1 W5 (w.heap.size + 1 + 1) (.slice none 0 0) 26 := (by first | exact k4.kept hx5.block | exact k3.kept hx5.block); have c5 := k5.c0; have f5 := k5.free 0))
    all_goals
      rename_i hh
      have hsx := hx3.size; have hsy := hx4.size
      have hdr : w1.drew.heap.size = w1.heap.size := rfl
      go_wp2_with fail
      have g0 := (k5.set (.slice sa sn sc)).c0
      exact bodyPost_ret (v := .tuple #[.agg #[.slice sa sn sc], .int .i64 0]) (by simp [results, Try.results40, go_sem, g0]) rfl
        ⟨_, us5, rfl, own_var1 hU5 (by first | omega | exact Nat.lt_of_lt_of_le (by omega) (Nat.le_trans hsz1 hx3.size) | exact Nat.lt_of_lt_of_le (by omega) (Nat.le_trans hsz1 hx4.size)) _ (by omega) k5, HB1.out.trans (hh.2.2.mono (by omega))⟩
set_option maxRecDepth 100000 in
set_option maxHeartbeats 1000000 in
theorem specCommutatorOf_c (v u : Value) (xss yss : List (List Int)) (w : World) (h : IntSS w.heap v xss) (hu : IntSS w.heap u yss) :
    Calls Try.prog 39 #[.agg #[v], .agg #[u]] w fun e w' => ∃ r us, e = .returned (.tuple #[.agg #[r], .int .i64 (multC xss yss)]) ∧ OwnU w' w.heap.size r us (cmL xss yss) ∧ Below w.heap.size w w' := by
  have hb : Below w.heap.size w (((w.alloc (.cells #[v] 26)).alloc (.cells #[u] 26)).alloc (.cells #[.slice none 0 0] 26)) := (((Below.refl _ _).alloc (Nat.le_refl _) _).alloc (by simp) _).alloc (by simp; omega) _
  have k0 := (((Cell1.new w v 26).kept (alloc_old _ (.cells #[u] 26))).kept (alloc_old _ (.cells #[.slice none 0 0] 26)))
  have k1 := ((Cell1.new (w.alloc (.cells #[v] 26)) u 26).kept (alloc_old _ (.cells #[.slice none 0 0] 26)))
  have k2 := Cell1.new ((w.alloc (.cells #[v] 26)).alloc (.cells #[u] 26)) (.slice none 0 0) 26
  simp only [size_alloc_w] at k1 k2
  have hsz : (((w.alloc (.cells #[v] 26)).alloc (.cells #[u] 26)).alloc (.cells #[.slice none 0 0] 26)).heap.size = w.heap.size + 3 := by simp
  have C := Lib.hid (l04Code_c v u xss yss _ (h.same hb.block) (hu.same hb.block))
  obtain ⟨ao, c, rfl, hm⟩ := h.len
  obtain ⟨bo, d, rfl, hn⟩ := hu.len
  have H := Lib.hid h; have HU := Lib.hid hu; clear h hu
  obtain ⟨w0, hw0⟩ : ∃ w0, w0 = ((w.alloc (.cells #[.slice ao xss.length c] 26)).alloc (.cells #[.slice bo yss.length d] 26)).alloc (.cells #[.slice none 0 0] 26) := ⟨_, rfl⟩
  have q0 := k0.c0; have q1 := k1.c0
  rw [← hw0] at k0 k1 k2 hb hsz C
  have HW := Lib.hid hw0; clear hw0
  have HB0 := Lib.hid hb; have K0 := Lib.hid k0; have K1 := Lib.hid k1; have K2 := Lib.hid k2; have HSZ := Lib.hid hsz
  clear hb k0 k1 k2 hsz
  by_cases hc : multC xss yss = 0
  rotate_left
  · have e1 : cmL xss yss = [] := by unfold cmL; rw [if_neg hc]
    rw [e1]
    have t1 := (neB hc).1; have t1' := (neB hc).2
    clear e1 hc
    generalize multC xss yss = pc at *
    go_enter Try.func39, Try.ntmps39
    go_wp2_with fail
    rw [← HW.out]
    refine C.out.mono ?_
    rintro e w1 ⟨rfl, hb1⟩
    have K21 := Lib.hid (K2.out.kept hb1.block)
    have q2 := K21.out.c0; have f2 := K21.out.free 0
    have HB1 := Lib.hid (HB0.out.trans (hb1.mono HB0.out.size))
    clear hb1 HW q0 q1
    go_wp2_with fail
    have g0 := (K21.out.set (.slice none 0 0)).c0
    exact bodyPost_ret (v := .tuple #[.agg #[.slice none 0 0], .int .i64 pc]) (by simp [results, Try.results39, go_sem, g0]) rfl
      ⟨_, [], rfl, own_u_nil _ _, HB1.out.setCell (by show w.heap.size ≤ w.heap.size + 1 + 1; omega) _⟩
  · have e1 : cmL xss yss = oddL (prodsL xss yss ++ prodsL yss xss) := by unfold cmL; rw [if_pos hc]
    have hc2 := multC_comm hc
    rw [e1, hc]
    rw [hc] at C
    rw [cmL_eq]
    have SAB := Lib.hid (fun (W : World) (h : IntSS W.heap (.slice ao xss.length c) xss) (hu : IntSS W.heap (.slice bo yss.length d) yss) => l04Times_c _ _ xss yss W h hu (mult_ok hc).1 (mult_ok hc).2.1 (by have := (mult_ok hc).2.2.1; omega))
    have SBA := Lib.hid (fun (W : World) (h : IntSS W.heap (.slice bo yss.length d) yss) (hu : IntSS W.heap (.slice ao xss.length c) xss) => l04Times_c _ _ yss xss W h hu (mult_ok hc2).1 (mult_ok hc2).2.1 (by have := (mult_ok hc2).2.2.1; omega))
    have SM := Lib.hid (fun (v u : Value) (W : World) (h : IntSS W.heap v (oddL (prodsL xss yss))) (hu : IntSS W.heap u (oddL (prodsL yss xss))) => l01Sum_c _ _ (oddL (prodsL xss yss)) (oddL (prodsL yss xss)) W h hu (by have := oddL_length (prodsL xss yss); have := oddL_length (prodsL yss xss); have := (mult_ok hc).2.2.1; have := (mult_ok hc2).2.2.1; omega) (fun x hx => by have := (mult_ok hc).2.2.2 x (mem_oddL_sub hx); omega) (fun x hx => by have := (mult_ok hc2).2.2.2 x (mem_oddL_sub hx); omega))
    clear e1 hc hc2
    generalize oddL (prodsL xss yss) = px at *
    generalize oddL (prodsL yss xss) = py at *
    go_enter Try.func39, Try.ntmps39
    go_wp2_with fail
    rw [← HW.out]
    refine C.out.mono ?_
    rintro e w1 ⟨rfl, hb1⟩
    have q0' := (K0.out.kept hb1.block).c0; have q1' := (K1.out.kept hb1.block).c0
    have K21 := Lib.hid (K2.out.kept hb1.block)
    have HB1 := Lib.hid (HB0.out.trans (hb1.mono HB0.out.size))
    have hsz1 : w.heap.size + 3 ≤ w1.heap.size := by have := HSZ.out; have := hb1.size; omega
    clear hb1 HW q0 q1
    have HA := Lib.hid (fun (W : World) (h : Below (w.heap.size + 2) w1 W) => H.out.same (HB1.out.trans (h.mono (by omega))).block)
    have HC := Lib.hid (fun (W : World) (h : Below (w.heap.size + 2) w1 W) => HU.out.same (HB1.out.trans (h.mono (by omega))).block)
    have HKX := Lib.hid (fun (W : World) (h : Below w1.heap.size w1 W) => K21.out.kept h.block)
    go_wp2_with fail
    go_region_held3 (fun W => W.cell? ⟨w.heap.size, 0, none⟩ = some (.slice ao xss.length c) ∧ W.cell? ⟨w.heap.size + 1, 0, none⟩ = some (.slice bo yss.length d) ∧ Below (w.heap.size + 2) w1 W)
      (first | exact ⟨q0', q1', (Below.refl _ _).drew⟩ | exact heldT (by assumption) hx5 (by have := hx3.size; have := hx4.size; simp at *; omega) | exact heldT (by assumption) hx3 (by first | (have := hx4.size; simp at *; omega) | (simp at *; omega)) | exact heldT (by assumption) hx4 (by first | (have := hx3.size; simp at *; omega) | (simp at *; omega)) | exact heldTS (by assumption) (by show w.heap.size + 2 ≤ w.heap.size + 1 + 1; omega) (by show w.heap.size + 1 + 1 ≠ w.heap.size; omega) (by show w.heap.size + 1 + 1 ≠ w.heap.size + 1; omega) _)
      (first | (go_at_call 79; first | ((with_reducible refine (SAB.out _ (HA.out _ ?_) (HC.out _ ?_)).mono ?_); (first | exact (by assumption : _ ∧ _ ∧ Below (w.heap.size + 2) w1 _).2.2); (first | exact (by assumption : _ ∧ _ ∧ Below (w.heap.size + 2) w1 _).2.2); rintro e W3 ⟨r3, us3, rfl, hU3, hx3⟩; obtain ⟨ua, un, uc, rfl⟩ := own_shape hU3.row; have k3 : Cell1 W3 (w.heap.size + 1 + 1) (.slice none 0 0) 26 := (by first | exact k4.kept hx3.block | exact Cell1.kept (w := w1.drew) K21.out hx3.block)) | ((with_reducible refine (SBA.out _ (HC.out _ ?_) (HA.out _ ?_)).mono ?_); (first | exact (by assumption : _ ∧ _ ∧ Below (w.heap.size + 2) w1 _).2.2); (first | exact (by assumption : _ ∧ _ ∧ Below (w.heap.size + 2) w1 _).2.2); rintro e W4 ⟨r4, us4, rfl, hU4, hx4⟩; obtain ⟨va, vn, vc, rfl⟩ := own_shape hU4.row; have k4 : Cell1 W4 (w.heap.size + 1 + 1) (.slice none 0 0) 26 := (by first | exact k3.kept hx4.block | exact Cell1.kept (w := w1.drew) K21.out hx4.block))) | (go_at_call 65; (first | refine (SM.out _ _ _ (hU3.ints.same hx4.block) hU4.ints).mono ?_ | refine (SM.out _ _ _ hU3.ints (hU4.ints.same hx3.block)).mono ?_); rintro e W5 ⟨r5, rfl, ⟨us5, hU5⟩, hx5⟩; obtain ⟨sa, sn, sc, rfl⟩ := own_shape hU5.row; have k5 : Cell1 W5 (w.heap.size + 1 + 1) (.slice none 0 0) 26 := (by first | exact k4.kept hx5.block | exact k3.kept hx5.block); have c5 := k5.c0; have f5 := k5.free 0))
    all_goals
      rename_i hh
      have hsx := hx3.size; have hsy := hx4.size
      have hdr : w1.drew.heap.size = w1.heap.size := rfl
      go_wp2_with fail
      have g0 := (k5.set (.slice sa sn sc)).c0
      exact bodyPost_ret (v := .tuple #[.agg #[.slice sa sn sc], .int .i64 0]) (by simp [results, Try.results39, go_sem, g0]) rfl
        ⟨_, us5, rfl, own_var1 hU5 (by first | omega | exact Nat.lt_of_lt_of_le (by omega) (Nat.le_trans hsz1 hx3.size) | exact Nat.lt_of_lt_of_le (by omega) (Nat.le_trans hsz1 hx4.size)) _ (by omega) k5, HB1.out.trans (hh.2.2.mono (by omega))⟩
end
open Go.ChangeShapes Go.WideShapes Go.ChangeAt Go.RowKit
open Go.ChangeMaps (open_string shut_string)

theorem sortOk : SortOk := sortSS_c
set_option maxRecDepth 100000 in
set_option maxHeartbeats 4000000 in
theorem fnExactCommutatorOf_walk (w : World) (a1 : Option Addr) (l1 p1 : Nat) (t1 : List (List Int)) (h1 : IsRows w a1 l1 t1) (a2 : Option Addr) (l2 p2 : Nat) (t2 : List (List Int)) (h2 : IsRows w a2 l2 t2) :
    Calls Try.prog 9 #[.agg #[.slice a1 l1 p1], .agg #[.slice a2 l2 p2]] w fun e w' => e = .returned (.bool true) ∧ Below w.heap.size w w' := by
  have S := Lib.hid (fun (v u : Value) (W : World) (h : IntSS W.heap v t1) (hu : IntSS W.heap u t2) => readO (specCommutatorOf_c v u t1 t2 W h hu))
  have I := Lib.hid (fun (v u : Value) (W : World) (h : IntSS W.heap v t1) (hu : IntSS W.heap u t2) => implCommutatorOf_of sortOk v u t1 t2 W h hu)
  have HXL := Lib.hid (cmL_cnt t1 t2)
  generalize cmL t1 t2 = rx at *
  generalize multC t1 t2 = pc at *
  have u1 : (pc != pc) = false := by simp
  obtain ⟨W0, hW0⟩ : ∃ W, W = ((w.alloc (.cells #[.slice a1 l1 p1] 24)).alloc (.cells #[.slice a2 l2 p2] 24)) := ⟨_, rfl⟩
  have hx : Below w.heap.size w W0 := by rw [hW0]; exact (((Below.refl _ _).alloc (by exact Nat.le_refl _) _).alloc (by simp) _)
  have hsz : w.heap.size + 2 ≤ W0.heap.size := by rw [hW0]; simp
  have k1 := Go.Lib.cell?_alloc_some (.cells #[.slice a2 l2 p2] 24) ((Cell1.new w (.slice a1 l1 p1) 24).c0)
  rw [← hW0] at k1
  have k2 := (Cell1.new (w.alloc (.cells #[.slice a1 l1 p1] 24)) (.slice a2 l2 p2) 24).c0
  simp only [size_alloc_w] at k2
  rw [← hW0] at k2
  have BW0 := Lib.hid hx
  have Z3 := Lib.hid (hsz)
  have HW0 := Lib.hid hW0
  clear hW0 hx hsz
  have SM1 := Lib.hid (fun (left : Nat) (hl : left ≤ 1048576) (W : World) (hb : Below w.heap.size w W) => szMilnor_c a1 l1 p1 t1 left W (h1.same hb.block hb.size) hl)
  have TM10 := fun (W : World) (hb : Below w.heap.size w W) => toMilnor_c a1 l1 p1 t1 W (h1.same hb.block hb.size)
  have SM2 := Lib.hid (fun (left : Nat) (hl : left ≤ 1048576) (W : World) (hb : Below w.heap.size w W) => szMilnor_c a2 l2 p2 t2 left W (h2.same hb.block hb.size) hl)
  have TM20 := fun (W : World) (hb : Below w.heap.size w W) => toMilnor_c a2 l2 p2 t2 W (h2.same hb.block hb.size)
  clear h1 h2
  go_enter Try.func9, Try.ntmps9
  go_wp2_with fail
  rw [← HW0.out]
  clear HW0
  have S0 := SM1.out 1048576 (Nat.le_refl _) _ BW0.out
  by_cases hz1 : t1.length + cnt t1 ≤ 1048576
  rotate_left
  · have e9 : szR t1 1048576 = -1 := by unfold szR; rw [if_neg hz1]
    rw [e9] at S0
    have S1 := Lib.hid S0
    clear S0 e9
    refine (S1.out).mono ?_
    rintro e W ⟨rfl, hx⟩
    have BE := Lib.hid (BW0.out.trans (hx.mono BW0.out.size))
    clear hx
    go_wp2_with fail
    go_ret
    exact ⟨rfl, BE.out⟩
  obtain ⟨left1, hl9⟩ : ∃ left : Nat, szR t1 1048576 = left := ⟨1048576 - (t1.length + cnt t1), by unfold szR; rw [if_pos hz1]; omega⟩
  have HLN : Hid (left1 ≤ 1048576) := by show _ ≤ _; unfold szR at hl9; rw [if_pos hz1] at hl9; have := Nat.le_refl 1048576; omega
  rw [hl9] at S0
  have S1 := Lib.hid S0
  clear S0 hl9
  have TM1 := Lib.hid (fun (W : World) (hb : Below w.heap.size w W) => TM10 W hb (by have := Nat.le_refl 1048576; omega))
  have HSZ1 : Hid (cnt t1 ≤ 1048576) := by show _ ≤ _; have := Nat.le_refl 1048576; omega
  clear TM10 hz1 SM1
  have HLF := HLN
  clear HLN
  refine (S1.out).mono ?_
  rintro e W4 ⟨rfl, hx⟩
  clear S1
  have Z5 := Lib.hid (hx.size)
  have k6 := (hx.cell (World.block_lt_of_cell? _ _ k1)).trans k1
  clear k1
  have k7 := (hx.cell (World.block_lt_of_cell? _ _ k2)).trans k2
  clear k2
  have B8 := Lib.hid (BW0.out.trans (hx.mono BW0.out.size))
  clear BW0
  clear hx
  go_wp2_with fail
  have S0 := SM2.out left1 HLF.out _ B8.out
  by_cases hz2 : t2.length + cnt t2 ≤ left1
  rotate_left
  · have e9 : szR t2 left1 = -1 := by unfold szR; rw [if_neg hz2]
    rw [e9] at S0
    have S1 := Lib.hid S0
    clear S0 e9
    refine (S1.out).mono ?_
    rintro e W ⟨rfl, hx⟩
    have BE := Lib.hid (B8.out.trans (hx.mono B8.out.size))
    clear hx
    go_wp2_with fail
    go_ret
    exact ⟨rfl, BE.out⟩
  obtain ⟨left2, hl9⟩ : ∃ left : Nat, szR t2 left1 = left := ⟨left1 - (t2.length + cnt t2), by unfold szR; rw [if_pos hz2]; omega⟩
  have HLN : Hid (left2 ≤ 1048576) := by show _ ≤ _; unfold szR at hl9; rw [if_pos hz2] at hl9; have := HLF.out; omega
  rw [hl9] at S0
  have S1 := Lib.hid S0
  clear S0 hl9
  have TM2 := Lib.hid (fun (W : World) (hb : Below w.heap.size w W) => TM20 W hb (by have := HLF.out; omega))
  have HSZ2 : Hid (cnt t2 ≤ 1048576) := by show _ ≤ _; have := HLF.out; omega
  clear TM20 hz2 SM2 HLF
  have HLF := HLN
  clear HLN
  refine (S1.out).mono ?_
  rintro e W9 ⟨rfl, hx⟩
  clear S1
  have Z10 := Lib.hid (hx.size)
  have k11 := (hx.cell (World.block_lt_of_cell? _ _ k6)).trans k6
  clear k6
  have k12 := (hx.cell (World.block_lt_of_cell? _ _ k7)).trans k7
  clear k7
  have B13 := Lib.hid (B8.out.trans (hx.mono B8.out.size))
  clear B8
  clear hx
  go_upto_region 8 with fail
  go_cut [6, 7] (fun s6 s7 W16 => ∃ (W : World) (g : Nat) (r1 : Value), W = W16 ∧ s6 = .pointer (some ⟨g, 0, none⟩) ∧ s7 = .int .i64 pc ∧ W16.cell? ⟨g, 0, none⟩ = some r1 ∧ IntSS W16.heap r1 rx ∧ Below W9.heap.size W9 W16 ∧ W9.heap.size ≤ g)
  case first =>
    go_region_held3 (fun W => W.cell? ⟨w.heap.size, 0, none⟩ = some (.slice a1 l1 p1) ∧ W.cell? ⟨w.heap.size + 1, 0, none⟩ = some (.slice a2 l2 p2) ∧ Below W9.heap.size W9 W)
      (first | exact ⟨k11, k12, (Below.refl _ _).drew⟩ | exact heldC2 (by assumption) hx8 | exact heldC2 (by assumption) hx9 | exact heldC2 (by assumption) hx7 | exact heldC2A (by assumption) _ | exact heldC2S hs18 (by first | exact hs17.2.2.size | exact hs16.2.2.size | exact Nat.le_refl _) (World.block_lt_of_cell? _ _ k11) (World.block_lt_of_cell? _ _ k12) _)
      (first | (go_at_call 16; first | (refine (TM1.out _ (heldC2B B13.out (by assumption) B13.out.size)).mono ?_; rintro e W16 ⟨v1, rfl, ⟨us1, hm1⟩, hx9⟩; obtain ⟨e1, e2, e3, rfl⟩ := own_shape hm1.row; have hs16 := heldC2 (by assumption) hx9; first | have n16 := new_below hx9 | have n16 := new_below_d hx9 | skip) | (refine (TM2.out _ (heldC2B B13.out (by assumption) B13.out.size)).mono ?_; rintro e W17 ⟨v2, rfl, ⟨us2, hm2⟩, hx8⟩; obtain ⟨f1, f2, f3, rfl⟩ := own_shape hm2.row; have hs17 := heldC2 (by assumption) hx8; first | have n17 := n16.behind hx8 | have n17 := new_below hx8 | skip)) | (go_at_call 39; (first | refine (S.out _ _ _ (hm1.ints.same hx8.block) hm2.ints).mono ?_ | refine (S.out _ _ _ ((hm1.ints.same (alloc_old _ _)).same hx8.block) hm2.ints).mono ?_ | refine (S.out _ _ _ ((hm1.ints.same hx8.block).same (alloc_old _ _)) (hm2.ints.same (alloc_old _ _))).mono ?_); rintro e W18 ⟨r1, rfl, hR, hx7⟩; obtain ⟨j1, j2, rfl, -⟩ := hR.len; have hs18 := heldC2 (by assumption) hx7; first | (have n18 := n17.behind hx7; have nc := n18.c0; have nf := n18.free 0) | (have n18 := new_below hx7; have nc := n18.c0; have nf := n18.free 0) | skip))
    all_goals
      first | go_meet | (go_wp2_with fail; go_meet)
      first | exact ⟨_, _, _, rfl, rfl, rfl, (Cell1.new W18 _ 26).c0, hR.same (alloc_old _ _), hs18.2.2.alloc hs18.2.2.size _, hs18.2.2.size⟩ | exact ⟨_, _, _, rfl, rfl, rfl, (n18.set _).c0, hR.other n18 (by decide) (by decide) _, (heldC2S hs18 (by first | exact hs17.2.2.size | exact hs16.2.2.size | exact Nat.le_refl _) (World.block_lt_of_cell? _ _ k11) (World.block_lt_of_cell? _ _ k12) _).2.2, (by first | exact hs17.2.2.size | exact hs16.2.2.size | exact Nat.le_refl _)⟩
  case rest =>
    obtain ⟨W16, g14, v15, hWe, rfl, rfl, k17, hm, hx, hge⟩ := hcut
    subst hWe
    obtain ⟨q19, q20, rfl, -⟩ := hm.len
    have R18 := Lib.hid hm
    clear hm
    have Z21 := Lib.hid (World.block_lt_of_cell? _ _ k17)
    simp only at Z21
    have Z22 := Lib.hid (hge)
    clear hge
    have Z23 := Lib.hid (hx.size)
    have k24 := (hx.cell (World.block_lt_of_cell? _ _ k11)).trans k11
    clear k11
    have k25 := (hx.cell (World.block_lt_of_cell? _ _ k12)).trans k12
    clear k12
    have B26 := Lib.hid (B13.out.trans (hx.mono B13.out.size))
    clear B13
    clear hx
    have B27 := Lib.hid (Below.refl W16.heap.size W16)
    go_wp2_with fail
    refine (TM1.out _ B26.out).mono ?_
    rintro e W30 ⟨v28, rfl, ⟨u29, hm⟩, hx⟩
    obtain ⟨q31, q32, q33, rfl⟩ := own_shape hm.row
    have O34 := Lib.hid hm
    have R35 := Lib.hid hm.range
    clear hm
    have Z36 := Lib.hid (hx.size)
    have k37 := (hx.cell (World.block_lt_of_cell? _ _ k24)).trans k24
    clear k24
    have k38 := (hx.cell (World.block_lt_of_cell? _ _ k25)).trans k25
    clear k25
    have k39 := (hx.cell (World.block_lt_of_cell? _ _ k17)).trans k17
    clear k17
    have B40 := Lib.hid (B26.out.trans (hx.mono B26.out.size))
    clear B26
    have B41 := Lib.hid (B27.out.trans (hx.mono B27.out.size))
    clear B27
    clear hx
    obtain ⟨W42, E430⟩ : ∃ W, W = W30.alloc (.cells #[.slice q31 q32 q33] 26) := ⟨_, rfl⟩
    have hx : Below W30.heap.size W30 W42 := by rw [E430]; exact (Below.refl _ _).alloc (Nat.le_refl _) _
    have k44 : W42.cell? ⟨W30.heap.size, 0, none⟩ = some (.slice q31 q32 q33) := by rw [E430, World.cell?]; simp only [heap_alloc_new]; rfl
    have kx0 := Go.Lib.cell?_alloc_some (.cells #[.slice q31 q32 q33] 26) k37
    have kx1 := Go.Lib.cell?_alloc_some (.cells #[.slice q31 q32 q33] 26) k38
    have kx2 := Go.Lib.cell?_alloc_some (.cells #[.slice q31 q32 q33] 26) k39
    have Z45 := Lib.hid (World.block_lt_of_cell? _ _ k44)
    simp only at Z45
    have Z46 := Lib.hid (hx.size)
    have k47 := (hx.cell (World.block_lt_of_cell? _ _ k37)).trans k37
    clear k37
    have k48 := (hx.cell (World.block_lt_of_cell? _ _ k38)).trans k38
    clear k38
    have k49 := (hx.cell (World.block_lt_of_cell? _ _ k39)).trans k39
    clear k39
    have O50 := Lib.hid (O34.out.same hx.block)
    clear O34
    have B51 := Lib.hid (B40.out.trans (hx.mono B40.out.size))
    clear B40
    have B52 := Lib.hid (B41.out.trans (hx.mono B41.out.size))
    clear B41
    clear hx
    have E43 := Lib.hid E430
    clear E430
    go_wp2_with fail
    rw [← E43.out]
    clear E43 kx0 kx1 kx2
    go_wp2_with fail
    refine (TM2.out _ B51.out).mono ?_
    rintro e W55 ⟨v53, rfl, ⟨u54, hm⟩, hx⟩
    obtain ⟨q56, q57, q58, rfl⟩ := own_shape hm.row
    have O59 := Lib.hid hm
    have R60 := Lib.hid hm.range
    clear hm
    have Z61 := Lib.hid (hx.size)
    have k62 := (hx.cell (World.block_lt_of_cell? _ _ k47)).trans k47
    clear k47
    have k63 := (hx.cell (World.block_lt_of_cell? _ _ k48)).trans k48
    clear k48
    have k64 := (hx.cell (World.block_lt_of_cell? _ _ k49)).trans k49
    clear k49
    have k65 := (hx.cell (World.block_lt_of_cell? _ _ k44)).trans k44
    clear k44
    have O66 := Lib.hid (O50.out.same hx.block)
    clear O50
    have B67 := Lib.hid (B51.out.trans (hx.mono B51.out.size))
    clear B51
    have B68 := Lib.hid (B52.out.trans (hx.mono B52.out.size))
    clear B52
    clear hx
    obtain ⟨W69, E700⟩ : ∃ W, W = W55.alloc (.cells #[.slice q56 q57 q58] 26) := ⟨_, rfl⟩
    have hx : Below W55.heap.size W55 W69 := by rw [E700]; exact (Below.refl _ _).alloc (Nat.le_refl _) _
    have k71 : W69.cell? ⟨W55.heap.size, 0, none⟩ = some (.slice q56 q57 q58) := by rw [E700, World.cell?]; simp only [heap_alloc_new]; rfl
    have kx0 := Go.Lib.cell?_alloc_some (.cells #[.slice q56 q57 q58] 26) k62
    have kx1 := Go.Lib.cell?_alloc_some (.cells #[.slice q56 q57 q58] 26) k63
    have kx2 := Go.Lib.cell?_alloc_some (.cells #[.slice q56 q57 q58] 26) k64
    have kx3 := Go.Lib.cell?_alloc_some (.cells #[.slice q56 q57 q58] 26) k65
    have Z72 := Lib.hid (World.block_lt_of_cell? _ _ k71)
    simp only at Z72
    have Z73 := Lib.hid (hx.size)
    have k74 := (hx.cell (World.block_lt_of_cell? _ _ k62)).trans k62
    clear k62
    have k75 := (hx.cell (World.block_lt_of_cell? _ _ k63)).trans k63
    clear k63
    have k76 := (hx.cell (World.block_lt_of_cell? _ _ k64)).trans k64
    clear k64
    have k77 := (hx.cell (World.block_lt_of_cell? _ _ k65)).trans k65
    clear k65
    have O78 := Lib.hid (O66.out.same hx.block)
    clear O66
    have O79 := Lib.hid (O59.out.same hx.block)
    clear O59
    have B80 := Lib.hid (B67.out.trans (hx.mono B67.out.size))
    clear B67
    have B81 := Lib.hid (B68.out.trans (hx.mono B68.out.size))
    clear B68
    clear hx
    have E70 := Lib.hid E700
    clear E700
    go_wp2_with fail
    rw [← E70.out]
    clear E70 kx0 kx1 kx2 kx3
    go_wp2_with fail
    refine (I.out (.slice q31 q32 q33) (.slice q56 q57 q58) _ O78.out.ints O79.out.ints).mono ?_
    rintro e W84 ⟨v82, u83, rfl, hm, hx⟩
    obtain ⟨q85, q86, q87, rfl⟩ := own_shape hm.row
    have O88 := Lib.hid hm
    have R89 := Lib.hid hm.range
    clear hm
    have Z90 := Lib.hid (hx.size)
    have k91 := (hx.cell (World.block_lt_of_cell? _ _ k74)).trans k74
    clear k74
    have k92 := (hx.cell (World.block_lt_of_cell? _ _ k75)).trans k75
    clear k75
    have k93 := (hx.cell (World.block_lt_of_cell? _ _ k76)).trans k76
    clear k76
    have k94 := (hx.cell (World.block_lt_of_cell? _ _ k77)).trans k77
    clear k77
    have k95 := (hx.cell (World.block_lt_of_cell? _ _ k71)).trans k71
    clear k71
    have O96 := Lib.hid (O78.out.same hx.block)
    clear O78
    have O97 := Lib.hid (O79.out.same hx.block)
    clear O79
    have B98 := Lib.hid (B80.out.trans (hx.mono B80.out.size))
    clear B80
    have B99 := Lib.hid (B81.out.trans (hx.mono B81.out.size))
    clear B81
    clear hx
    obtain ⟨W100, E1010⟩ : ∃ W, W = W84.alloc (.cells #[.slice q85 q86 q87] 26) := ⟨_, rfl⟩
    have hx : Below W84.heap.size W84 W100 := by rw [E1010]; exact (Below.refl _ _).alloc (Nat.le_refl _) _
    have k102 : W100.cell? ⟨W84.heap.size, 0, none⟩ = some (.slice q85 q86 q87) := by rw [E1010, World.cell?]; simp only [heap_alloc_new]; rfl
    have kx0 := Go.Lib.cell?_alloc_some (.cells #[.slice q85 q86 q87] 26) k91
    have kx1 := Go.Lib.cell?_alloc_some (.cells #[.slice q85 q86 q87] 26) k92
    have kx2 := Go.Lib.cell?_alloc_some (.cells #[.slice q85 q86 q87] 26) k93
    have kx3 := Go.Lib.cell?_alloc_some (.cells #[.slice q85 q86 q87] 26) k94
    have kx4 := Go.Lib.cell?_alloc_some (.cells #[.slice q85 q86 q87] 26) k95
    have Z103 := Lib.hid (World.block_lt_of_cell? _ _ k102)
    simp only at Z103
    have Z104 := Lib.hid (hx.size)
    have k105 := (hx.cell (World.block_lt_of_cell? _ _ k91)).trans k91
    clear k91
    have k106 := (hx.cell (World.block_lt_of_cell? _ _ k92)).trans k92
    clear k92
    have k107 := (hx.cell (World.block_lt_of_cell? _ _ k93)).trans k93
    clear k93
    have k108 := (hx.cell (World.block_lt_of_cell? _ _ k94)).trans k94
    clear k94
    have k109 := (hx.cell (World.block_lt_of_cell? _ _ k95)).trans k95
    clear k95
    have O110 := Lib.hid (O96.out.same hx.block)
    clear O96
    have O111 := Lib.hid (O97.out.same hx.block)
    clear O97
    have O112 := Lib.hid (O88.out.same hx.block)
    clear O88
    have B113 := Lib.hid (B98.out.trans (hx.mono B98.out.size))
    clear B98
    have B114 := Lib.hid (B99.out.trans (hx.mono B99.out.size))
    clear B99
    clear hx
    have E101 := Lib.hid E1010
    clear E1010
    go_wp2_with fail
    rw [← E101.out]
    clear E101 kx0 kx1 kx2 kx3 kx4
    go_wp2_with fail
    refine (eqMilnor_same _ _ rx _ O112.out.ints (R18.out.same B114.out.block)).mono ?_
    rintro e W115 ⟨rfl, hx⟩
    have Z116 := Lib.hid (hx.size)
    have k117 := (hx.cell (World.block_lt_of_cell? _ _ k105)).trans k105
    clear k105
    have k118 := (hx.cell (World.block_lt_of_cell? _ _ k106)).trans k106
    clear k106
    have k119 := (hx.cell (World.block_lt_of_cell? _ _ k107)).trans k107
    clear k107
    have k120 := (hx.cell (World.block_lt_of_cell? _ _ k108)).trans k108
    clear k108
    have k121 := (hx.cell (World.block_lt_of_cell? _ _ k109)).trans k109
    clear k109
    have k122 := (hx.cell (World.block_lt_of_cell? _ _ k102)).trans k102
    clear k102
    have O123 := Lib.hid (O110.out.same hx.block)
    clear O110
    have O124 := Lib.hid (O111.out.same hx.block)
    clear O111
    have O125 := Lib.hid (O112.out.same hx.block)
    clear O112
    have B126 := Lib.hid (B113.out.trans (hx.mono B113.out.size))
    clear B113
    have B127 := Lib.hid (B114.out.trans (hx.mono B114.out.size))
    clear B114
    clear hx
    go_wp2_with fail
    go_region_held3 (fun W => W.cell? ⟨W30.heap.size, 0, none⟩ = some (.slice q31 q32 q33) ∧ W.cell? ⟨w.heap.size, 0, none⟩ = some (.slice a1 l1 p1) ∧ Below W115.heap.size W115 W)
      (first | exact ⟨k120, k117, (Below.refl _ _).drew⟩ | exact heldC2 (by assumption) hx8 | exact heldC2 (by assumption) hx9)
      (first | (go_at_call 16; refine (TM1.out _ (heldC2B B126.out (by assumption) B126.out.size)).mono ?_; rintro e W9 ⟨v9, rfl, ⟨u9, hm9⟩, hx9⟩; obtain ⟨e1, e2, e3, rfl⟩ := own_shape hm9.row) | (go_at_call 18; refine (eqMilnor_same _ _ t1 _ (O123.out.ints.same (heldC2X (by assumption)).block) hm9.ints).mono ?_; rintro e W8 ⟨rfl, hx8⟩))
    all_goals
      rename_i hh
      obtain ⟨W128, hWe⟩ : ∃ W, W = W8 := ⟨_, rfl⟩
      have hx : Below W115.heap.size W115 W128 := by rw [hWe]; exact heldC2X hh
      rw [← hWe]
      clear hWe hh hx8 hx9 hm9
      have Z129 := Lib.hid (hx.size)
      have k130 := (hx.cell (World.block_lt_of_cell? _ _ k117)).trans k117
      clear k117
      have k131 := (hx.cell (World.block_lt_of_cell? _ _ k118)).trans k118
      clear k118
      have k132 := (hx.cell (World.block_lt_of_cell? _ _ k119)).trans k119
      clear k119
      have k133 := (hx.cell (World.block_lt_of_cell? _ _ k120)).trans k120
      clear k120
      have k134 := (hx.cell (World.block_lt_of_cell? _ _ k121)).trans k121
      clear k121
      have k135 := (hx.cell (World.block_lt_of_cell? _ _ k122)).trans k122
      clear k122
      have O136 := Lib.hid (O123.out.same hx.block)
      clear O123
      have O137 := Lib.hid (O124.out.same hx.block)
      clear O124
      have O138 := Lib.hid (O125.out.same hx.block)
      clear O125
      have B139 := Lib.hid (B126.out.trans (hx.mono B126.out.size))
      clear B126
      have B140 := Lib.hid (B127.out.trans (hx.mono B127.out.size))
      clear B127
      clear hx
      go_wp2_with fail
      go_region_held3 (fun W => W.cell? ⟨W55.heap.size, 0, none⟩ = some (.slice q56 q57 q58) ∧ W.cell? ⟨w.heap.size + 1, 0, none⟩ = some (.slice a2 l2 p2) ∧ Below W128.heap.size W128 W)
        (first | exact ⟨k134, k131, (Below.refl _ _).drew⟩ | exact heldC2 (by assumption) hx8 | exact heldC2 (by assumption) hx9)
        (first | (go_at_call 16; refine (TM2.out _ (heldC2B B139.out (by assumption) B139.out.size)).mono ?_; rintro e W9 ⟨v9, rfl, ⟨u9, hm9⟩, hx9⟩; obtain ⟨e1, e2, e3, rfl⟩ := own_shape hm9.row) | (go_at_call 18; refine (eqMilnor_same _ _ t2 _ (O137.out.ints.same (heldC2X (by assumption)).block) hm9.ints).mono ?_; rintro e W8 ⟨rfl, hx8⟩))
      all_goals
        rename_i hh
        obtain ⟨W141, hWe⟩ : ∃ W, W = W8 := ⟨_, rfl⟩
        have hx : Below W128.heap.size W128 W141 := by rw [hWe]; exact heldC2X hh
        rw [← hWe]
        clear hWe hh hx8 hx9 hm9
        have Z142 := Lib.hid (hx.size)
        have k143 := (hx.cell (World.block_lt_of_cell? _ _ k130)).trans k130
        clear k130
        have k144 := (hx.cell (World.block_lt_of_cell? _ _ k131)).trans k131
        clear k131
        have k145 := (hx.cell (World.block_lt_of_cell? _ _ k132)).trans k132
        clear k132
        have k146 := (hx.cell (World.block_lt_of_cell? _ _ k133)).trans k133
        clear k133
        have k147 := (hx.cell (World.block_lt_of_cell? _ _ k134)).trans k134
        clear k134
        have k148 := (hx.cell (World.block_lt_of_cell? _ _ k135)).trans k135
        clear k135
        have O149 := Lib.hid (O136.out.same hx.block)
        clear O136
        have O150 := Lib.hid (O137.out.same hx.block)
        clear O137
        have O151 := Lib.hid (O138.out.same hx.block)
        clear O138
        have B152 := Lib.hid (B139.out.trans (hx.mono B139.out.size))
        clear B139
        have B153 := Lib.hid (B140.out.trans (hx.mono B140.out.size))
        clear B140
        clear hx
        go_wp2_with fail
        refine (markMilnor_c (.slice q31 q32 q33) u29 t1 1 W16.heap.size W141 O149.out (by have := Z3.out; have := Z5.out; have := Z10.out; have := Z21.out; have := Z22.out; have := Z23.out; have := Z36.out; have := Z45.out; have := Z46.out; have := Z61.out; have := Z72.out; have := Z73.out; have := Z90.out; have := Z103.out; have := Z104.out; have := Z116.out; have := Z129.out; have := Z142.out; omega) (by omega) (by have := HXL.out; have := HSZ1.out; have := HSZ2.out; omega)).mono ?_
        rintro e W154 ⟨rfl, hm, hlow, hfr⟩
        have RRR := R35.out
        have hhi : ∀ b, W30.heap.size ≤ b → b < W141.heap.size → W154.heap[b]? = W141.heap[b]? := fun b h1 h2 => hfr b h2 (fun u hu e => by have := RRR.2 u hu b e; omega)
        clear RRR
        have O155 := Lib.hid hm
        clear hm
        have Z156 := Lib.hid (hlow.size)
        have k157 := (hlow.cell (p := ⟨w.heap.size, 0, none⟩) (by show w.heap.size < W16.heap.size; exact (by have := Z3.out; have := Z5.out; have := Z10.out; have := Z21.out; have := Z22.out; have := Z23.out; have := Z36.out; have := Z45.out; have := Z46.out; have := Z61.out; have := Z72.out; have := Z73.out; have := Z90.out; have := Z103.out; have := Z104.out; have := Z116.out; have := Z129.out; have := Z142.out; have := Z156.out; omega))).trans k143
        clear k143
        have k158 := (hlow.cell (p := ⟨w.heap.size + 1, 0, none⟩) (by show w.heap.size + 1 < W16.heap.size; exact (by have := Z3.out; have := Z5.out; have := Z10.out; have := Z21.out; have := Z22.out; have := Z23.out; have := Z36.out; have := Z45.out; have := Z46.out; have := Z61.out; have := Z72.out; have := Z73.out; have := Z90.out; have := Z103.out; have := Z104.out; have := Z116.out; have := Z129.out; have := Z142.out; have := Z156.out; omega))).trans k144
        clear k144
        have k159 := (hlow.cell (p := ⟨g14, 0, none⟩) (by show g14 < W16.heap.size; exact (by have := Z3.out; have := Z5.out; have := Z10.out; have := Z21.out; have := Z22.out; have := Z23.out; have := Z36.out; have := Z45.out; have := Z46.out; have := Z61.out; have := Z72.out; have := Z73.out; have := Z90.out; have := Z103.out; have := Z104.out; have := Z116.out; have := Z129.out; have := Z142.out; have := Z156.out; omega))).trans k145
        clear k145
        have k160 := (World.cell?_of_block (hhi W30.heap.size (by have := Z3.out; have := Z5.out; have := Z10.out; have := Z21.out; have := Z22.out; have := Z23.out; have := Z36.out; have := Z45.out; have := Z46.out; have := Z61.out; have := Z72.out; have := Z73.out; have := Z90.out; have := Z103.out; have := Z104.out; have := Z116.out; have := Z129.out; have := Z142.out; have := Z156.out; omega) (World.block_lt_of_cell? _ _ k146))).trans k146
        clear k146
        have k161 := (World.cell?_of_block (hhi W55.heap.size (by have := Z3.out; have := Z5.out; have := Z10.out; have := Z21.out; have := Z22.out; have := Z23.out; have := Z36.out; have := Z45.out; have := Z46.out; have := Z61.out; have := Z72.out; have := Z73.out; have := Z90.out; have := Z103.out; have := Z104.out; have := Z116.out; have := Z129.out; have := Z142.out; have := Z156.out; omega) (World.block_lt_of_cell? _ _ k147))).trans k147
        clear k147
        have k162 := (World.cell?_of_block (hhi W84.heap.size (by have := Z3.out; have := Z5.out; have := Z10.out; have := Z21.out; have := Z22.out; have := Z23.out; have := Z36.out; have := Z45.out; have := Z46.out; have := Z61.out; have := Z72.out; have := Z73.out; have := Z90.out; have := Z103.out; have := Z104.out; have := Z116.out; have := Z129.out; have := Z142.out; have := Z156.out; omega) (World.block_lt_of_cell? _ _ k148))).trans k148
        clear k148
        have O163 := Lib.hid (O150.out.far fun b h1 h2 => hhi b (Nat.le_trans (by have := Z3.out; have := Z5.out; have := Z10.out; have := Z21.out; have := Z22.out; have := Z23.out; have := Z36.out; have := Z45.out; have := Z46.out; have := Z61.out; have := Z72.out; have := Z73.out; have := Z90.out; have := Z103.out; have := Z104.out; have := Z116.out; have := Z129.out; have := Z142.out; have := Z156.out; omega) h1) h2)
        clear O150
        have O164 := Lib.hid (O151.out.far fun b h1 h2 => hhi b (Nat.le_trans (by have := Z3.out; have := Z5.out; have := Z10.out; have := Z21.out; have := Z22.out; have := Z23.out; have := Z36.out; have := Z45.out; have := Z46.out; have := Z61.out; have := Z72.out; have := Z73.out; have := Z90.out; have := Z103.out; have := Z104.out; have := Z116.out; have := Z129.out; have := Z142.out; have := Z156.out; omega) h1) h2)
        clear O151
        have B165 := Lib.hid (B152.out.trans (hlow.mono (by have := Z3.out; have := Z5.out; have := Z10.out; have := Z21.out; have := Z22.out; have := Z23.out; have := Z36.out; have := Z45.out; have := Z46.out; have := Z61.out; have := Z72.out; have := Z73.out; have := Z90.out; have := Z103.out; have := Z104.out; have := Z116.out; have := Z129.out; have := Z142.out; have := Z156.out; omega)))
        clear B152
        have B166 := Lib.hid (B153.out.trans (hlow.mono (by have := Z3.out; have := Z5.out; have := Z10.out; have := Z21.out; have := Z22.out; have := Z23.out; have := Z36.out; have := Z45.out; have := Z46.out; have := Z61.out; have := Z72.out; have := Z73.out; have := Z90.out; have := Z103.out; have := Z104.out; have := Z116.out; have := Z129.out; have := Z142.out; have := Z156.out; omega)))
        clear B153
        clear hlow hhi hfr
        go_wp2_with fail
        refine (markMilnor_c (.slice q56 q57 q58) u54 t2 (1 + (cnt t1 : Int)) W42.heap.size W154 O163.out (by have := Z3.out; have := Z5.out; have := Z10.out; have := Z21.out; have := Z22.out; have := Z23.out; have := Z36.out; have := Z45.out; have := Z46.out; have := Z61.out; have := Z72.out; have := Z73.out; have := Z90.out; have := Z103.out; have := Z104.out; have := Z116.out; have := Z129.out; have := Z142.out; have := Z156.out; omega) (by omega) (by have := HXL.out; have := HSZ1.out; have := HSZ2.out; omega)).mono ?_
        rintro e W167 ⟨rfl, hm, hlow, hfr⟩
        have RRR := R60.out
        have hhi : ∀ b, W55.heap.size ≤ b → b < W154.heap.size → W167.heap[b]? = W154.heap[b]? := fun b h1 h2 => hfr b h2 (fun u hu e => by have := RRR.2 u hu b e; omega)
        clear RRR
        have O168 := Lib.hid hm
        clear hm
        have Z169 := Lib.hid (hlow.size)
        have k170 := (hlow.cell (p := ⟨w.heap.size, 0, none⟩) (by show w.heap.size < W42.heap.size; exact (by have := Z3.out; have := Z5.out; have := Z10.out; have := Z21.out; have := Z22.out; have := Z23.out; have := Z36.out; have := Z45.out; have := Z46.out; have := Z61.out; have := Z72.out; have := Z73.out; have := Z90.out; have := Z103.out; have := Z104.out; have := Z116.out; have := Z129.out; have := Z142.out; have := Z156.out; have := Z169.out; omega))).trans k157
        clear k157
        have k171 := (hlow.cell (p := ⟨w.heap.size + 1, 0, none⟩) (by show w.heap.size + 1 < W42.heap.size; exact (by have := Z3.out; have := Z5.out; have := Z10.out; have := Z21.out; have := Z22.out; have := Z23.out; have := Z36.out; have := Z45.out; have := Z46.out; have := Z61.out; have := Z72.out; have := Z73.out; have := Z90.out; have := Z103.out; have := Z104.out; have := Z116.out; have := Z129.out; have := Z142.out; have := Z156.out; have := Z169.out; omega))).trans k158
        clear k158
        have k172 := (hlow.cell (p := ⟨g14, 0, none⟩) (by show g14 < W42.heap.size; exact (by have := Z3.out; have := Z5.out; have := Z10.out; have := Z21.out; have := Z22.out; have := Z23.out; have := Z36.out; have := Z45.out; have := Z46.out; have := Z61.out; have := Z72.out; have := Z73.out; have := Z90.out; have := Z103.out; have := Z104.out; have := Z116.out; have := Z129.out; have := Z142.out; have := Z156.out; have := Z169.out; omega))).trans k159
        clear k159
        clear k160
        have k174 := (World.cell?_of_block (hhi W55.heap.size (by have := Z3.out; have := Z5.out; have := Z10.out; have := Z21.out; have := Z22.out; have := Z23.out; have := Z36.out; have := Z45.out; have := Z46.out; have := Z61.out; have := Z72.out; have := Z73.out; have := Z90.out; have := Z103.out; have := Z104.out; have := Z116.out; have := Z129.out; have := Z142.out; have := Z156.out; have := Z169.out; omega) (World.block_lt_of_cell? _ _ k161))).trans k161
        clear k161
        have k175 := (World.cell?_of_block (hhi W84.heap.size (by have := Z3.out; have := Z5.out; have := Z10.out; have := Z21.out; have := Z22.out; have := Z23.out; have := Z36.out; have := Z45.out; have := Z46.out; have := Z61.out; have := Z72.out; have := Z73.out; have := Z90.out; have := Z103.out; have := Z104.out; have := Z116.out; have := Z129.out; have := Z142.out; have := Z156.out; have := Z169.out; omega) (World.block_lt_of_cell? _ _ k162))).trans k162
        clear k162
        have O176 := Lib.hid (O164.out.far fun b h1 h2 => hhi b (Nat.le_trans (by have := Z3.out; have := Z5.out; have := Z10.out; have := Z21.out; have := Z22.out; have := Z23.out; have := Z36.out; have := Z45.out; have := Z46.out; have := Z61.out; have := Z72.out; have := Z73.out; have := Z90.out; have := Z103.out; have := Z104.out; have := Z116.out; have := Z129.out; have := Z142.out; have := Z156.out; have := Z169.out; omega) h1) h2)
        clear O164
        clear O155
        have B178 := Lib.hid (B165.out.trans (hlow.mono (by have := Z3.out; have := Z5.out; have := Z10.out; have := Z21.out; have := Z22.out; have := Z23.out; have := Z36.out; have := Z45.out; have := Z46.out; have := Z61.out; have := Z72.out; have := Z73.out; have := Z90.out; have := Z103.out; have := Z104.out; have := Z116.out; have := Z129.out; have := Z142.out; have := Z156.out; have := Z169.out; omega)))
        clear B165
        have B179 := Lib.hid (B166.out.trans (hlow.mono (by have := Z3.out; have := Z5.out; have := Z10.out; have := Z21.out; have := Z22.out; have := Z23.out; have := Z36.out; have := Z45.out; have := Z46.out; have := Z61.out; have := Z72.out; have := Z73.out; have := Z90.out; have := Z103.out; have := Z104.out; have := Z116.out; have := Z129.out; have := Z142.out; have := Z156.out; have := Z169.out; omega)))
        clear B166
        clear hlow hhi hfr
        have t9 : decide (((1 + (cnt t1 : Int)) + (cnt t2 : Int)) < 0) = false := by simp; omega
        clear O168
        clear k174
        go_wp2_with fail
        refine (eqMilnor_same _ _ rx _ O176.out.ints (R18.out.same B179.out.block)).mono ?_
        rintro e W180 ⟨rfl, hx⟩
        have Z181 := Lib.hid (hx.size)
        have k182 := (hx.cell (World.block_lt_of_cell? _ _ k170)).trans k170
        clear k170
        have k183 := (hx.cell (World.block_lt_of_cell? _ _ k171)).trans k171
        clear k171
        have k184 := (hx.cell (World.block_lt_of_cell? _ _ k172)).trans k172
        clear k172
        have k185 := (hx.cell (World.block_lt_of_cell? _ _ k175)).trans k175
        clear k175
        have O186 := Lib.hid (O176.out.same hx.block)
        clear O176
        have B187 := Lib.hid (B178.out.trans (hx.mono B178.out.size))
        clear B178
        have B188 := Lib.hid (B179.out.trans (hx.mono B179.out.size))
        clear B179
        clear hx
        go_wp2_with fail
        refine (markMilnor_c (.slice q85 q86 q87) u83 rx 1 W69.heap.size W180 O186.out (by have := Z3.out; have := Z5.out; have := Z10.out; have := Z21.out; have := Z22.out; have := Z23.out; have := Z36.out; have := Z45.out; have := Z46.out; have := Z61.out; have := Z72.out; have := Z73.out; have := Z90.out; have := Z103.out; have := Z104.out; have := Z116.out; have := Z129.out; have := Z142.out; have := Z156.out; have := Z169.out; have := Z181.out; omega) (by omega) (by have := HXL.out; have := HSZ1.out; have := HSZ2.out; omega)).mono ?_
        rintro e W189 ⟨rfl, hm, hlow, hfr⟩
        have RRR := R89.out
        have hhi : ∀ b, W84.heap.size ≤ b → b < W180.heap.size → W189.heap[b]? = W180.heap[b]? := fun b h1 h2 => hfr b h2 (fun u hu e => by have := RRR.2 u hu b e; omega)
        clear RRR
        have O190 := Lib.hid hm
        clear hm
        have Z191 := Lib.hid (hlow.size)
        have k192 := (hlow.cell (p := ⟨w.heap.size, 0, none⟩) (by show w.heap.size < W69.heap.size; exact (by have := Z3.out; have := Z5.out; have := Z10.out; have := Z21.out; have := Z22.out; have := Z23.out; have := Z36.out; have := Z45.out; have := Z46.out; have := Z61.out; have := Z72.out; have := Z73.out; have := Z90.out; have := Z103.out; have := Z104.out; have := Z116.out; have := Z129.out; have := Z142.out; have := Z156.out; have := Z169.out; have := Z181.out; have := Z191.out; omega))).trans k182
        clear k182
        have k193 := (hlow.cell (p := ⟨w.heap.size + 1, 0, none⟩) (by show w.heap.size + 1 < W69.heap.size; exact (by have := Z3.out; have := Z5.out; have := Z10.out; have := Z21.out; have := Z22.out; have := Z23.out; have := Z36.out; have := Z45.out; have := Z46.out; have := Z61.out; have := Z72.out; have := Z73.out; have := Z90.out; have := Z103.out; have := Z104.out; have := Z116.out; have := Z129.out; have := Z142.out; have := Z156.out; have := Z169.out; have := Z181.out; have := Z191.out; omega))).trans k183
        clear k183
        have k194 := (hlow.cell (p := ⟨g14, 0, none⟩) (by show g14 < W69.heap.size; exact (by have := Z3.out; have := Z5.out; have := Z10.out; have := Z21.out; have := Z22.out; have := Z23.out; have := Z36.out; have := Z45.out; have := Z46.out; have := Z61.out; have := Z72.out; have := Z73.out; have := Z90.out; have := Z103.out; have := Z104.out; have := Z116.out; have := Z129.out; have := Z142.out; have := Z156.out; have := Z169.out; have := Z181.out; have := Z191.out; omega))).trans k184
        clear k184
        have k195 := (World.cell?_of_block (hhi W84.heap.size (by have := Z3.out; have := Z5.out; have := Z10.out; have := Z21.out; have := Z22.out; have := Z23.out; have := Z36.out; have := Z45.out; have := Z46.out; have := Z61.out; have := Z72.out; have := Z73.out; have := Z90.out; have := Z103.out; have := Z104.out; have := Z116.out; have := Z129.out; have := Z142.out; have := Z156.out; have := Z169.out; have := Z181.out; have := Z191.out; omega) (World.block_lt_of_cell? _ _ k185))).trans k185
        clear k185
        have B196 := Lib.hid (B187.out.trans (hlow.mono (by have := Z3.out; have := Z5.out; have := Z10.out; have := Z21.out; have := Z22.out; have := Z23.out; have := Z36.out; have := Z45.out; have := Z46.out; have := Z61.out; have := Z72.out; have := Z73.out; have := Z90.out; have := Z103.out; have := Z104.out; have := Z116.out; have := Z129.out; have := Z142.out; have := Z156.out; have := Z169.out; have := Z181.out; have := Z191.out; omega)))
        clear B187
        have B197 := Lib.hid (B188.out.trans (hlow.mono (by have := Z3.out; have := Z5.out; have := Z10.out; have := Z21.out; have := Z22.out; have := Z23.out; have := Z36.out; have := Z45.out; have := Z46.out; have := Z61.out; have := Z72.out; have := Z73.out; have := Z90.out; have := Z103.out; have := Z104.out; have := Z116.out; have := Z129.out; have := Z142.out; have := Z156.out; have := Z169.out; have := Z181.out; have := Z191.out; omega)))
        clear B188
        clear hlow hhi hfr
        go_wp2_with fail
        refine (heldMilnor_c (.slice q85 q86 q87) rx 1 _ O190.out.ints (by omega) (by have := HXL.out; have := HSZ1.out; have := HSZ2.out; omega)).mono ?_
        rintro e W198 ⟨rfl, hx⟩
        have Z199 := Lib.hid (hx.size)
        have k200 := (hx.cell (World.block_lt_of_cell? _ _ k192)).trans k192
        clear k192
        have k201 := (hx.cell (World.block_lt_of_cell? _ _ k193)).trans k193
        clear k193
        have k202 := (hx.cell (World.block_lt_of_cell? _ _ k194)).trans k194
        clear k194
        have k203 := (hx.cell (World.block_lt_of_cell? _ _ k195)).trans k195
        clear k195
        have O204 := Lib.hid (O190.out.same hx.block)
        clear O190
        have B205 := Lib.hid (B196.out.trans (hx.mono B196.out.size))
        clear B196
        have B206 := Lib.hid (B197.out.trans (hx.mono B197.out.size))
        clear B197
        clear hx
        go_upto_region 31 with fail
        go_cut [15, 16] (fun s6 s7 W209 => ∃ (W : World) (g : Nat) (r1 : Value), W = W209 ∧ s6 = .pointer (some ⟨g, 0, none⟩) ∧ s7 = .int .i64 pc ∧ W209.cell? ⟨g, 0, none⟩ = some r1 ∧ IntSS W209.heap r1 rx ∧ Below W198.heap.size W198 W209 ∧ W198.heap.size ≤ g)
        case first =>
          go_region_held3 (fun W => W.cell? ⟨w.heap.size, 0, none⟩ = some (.slice a1 l1 p1) ∧ W.cell? ⟨w.heap.size + 1, 0, none⟩ = some (.slice a2 l2 p2) ∧ Below W198.heap.size W198 W)
            (first | exact ⟨k200, k201, (Below.refl _ _).drew⟩ | exact heldC2 (by assumption) hx8 | exact heldC2 (by assumption) hx9 | exact heldC2 (by assumption) hx7 | exact heldC2A (by assumption) _ | exact heldC2S hs18 (by first | exact hs17.2.2.size | exact hs16.2.2.size | exact Nat.le_refl _) (World.block_lt_of_cell? _ _ k200) (World.block_lt_of_cell? _ _ k201) _)
            (first | (go_at_call 16; first | (refine (TM1.out _ (heldC2B B205.out (by assumption) B205.out.size)).mono ?_; rintro e W16 ⟨v1, rfl, ⟨us1, hm1⟩, hx9⟩; obtain ⟨e1, e2, e3, rfl⟩ := own_shape hm1.row; have hs16 := heldC2 (by assumption) hx9; first | have n16 := new_below hx9 | have n16 := new_below_d hx9 | skip) | (refine (TM2.out _ (heldC2B B205.out (by assumption) B205.out.size)).mono ?_; rintro e W17 ⟨v2, rfl, ⟨us2, hm2⟩, hx8⟩; obtain ⟨f1, f2, f3, rfl⟩ := own_shape hm2.row; have hs17 := heldC2 (by assumption) hx8; first | have n17 := n16.behind hx8 | have n17 := new_below hx8 | skip)) | (go_at_call 40; (first | refine (I.out _ _ _ (hm1.ints.same hx8.block) hm2.ints).mono ?_ | refine (I.out _ _ _ ((hm1.ints.same (alloc_old _ _)).same hx8.block) hm2.ints).mono ?_ | refine (I.out _ _ _ ((hm1.ints.same hx8.block).same (alloc_old _ _)) (hm2.ints.same (alloc_old _ _))).mono ?_); rintro e W18 ⟨r1, us7, rfl, hm7, hx7⟩; have hR := hm7.ints; obtain ⟨j1, j2, rfl, -⟩ := hR.len; have hs18 := heldC2 (by assumption) hx7; first | (have n18 := n17.behind hx7; have nc := n18.c0; have nf := n18.free 0) | (have n18 := new_below hx7; have nc := n18.c0; have nf := n18.free 0) | skip))
          all_goals
            first | go_meet | (go_wp2_with fail; go_meet)
            first | exact ⟨_, _, _, rfl, rfl, rfl, (Cell1.new W18 _ 26).c0, hR.same (alloc_old _ _), hs18.2.2.alloc hs18.2.2.size _, hs18.2.2.size⟩ | exact ⟨_, _, _, rfl, rfl, rfl, (n18.set _).c0, hR.other n18 (by decide) (by decide) _, (heldC2S hs18 (by first | exact hs17.2.2.size | exact hs16.2.2.size | exact Nat.le_refl _) (World.block_lt_of_cell? _ _ k200) (World.block_lt_of_cell? _ _ k201) _).2.2, (by first | exact hs17.2.2.size | exact hs16.2.2.size | exact Nat.le_refl _)⟩
        case rest =>
          obtain ⟨W209, g207, v208, hWe, rfl, rfl, k210, hm, hx, hge⟩ := hcut
          subst hWe
          obtain ⟨q212, q213, rfl, -⟩ := hm.len
          have R211 := Lib.hid hm
          clear hm
          have Z214 := Lib.hid (World.block_lt_of_cell? _ _ k210)
          simp only at Z214
          have Z215 := Lib.hid (hge)
          clear hge
          have Z216 := Lib.hid (hx.size)
          have k217 := (hx.cell (World.block_lt_of_cell? _ _ k200)).trans k200
          clear k200
          have k218 := (hx.cell (World.block_lt_of_cell? _ _ k201)).trans k201
          clear k201
          have k219 := (hx.cell (World.block_lt_of_cell? _ _ k202)).trans k202
          clear k202
          have k220 := (hx.cell (World.block_lt_of_cell? _ _ k203)).trans k203
          clear k203
          have O221 := Lib.hid (O204.out.same hx.block)
          clear O204
          have B222 := Lib.hid (B205.out.trans (hx.mono B205.out.size))
          clear B205
          have B223 := Lib.hid (B206.out.trans (hx.mono B206.out.size))
          clear B206
          clear hx
          go_wp2_with fail
          refine (eqMilnor_same _ _ rx _ R211.out (R18.out.same B223.out.block)).mono ?_
          rintro e W224 ⟨rfl, hx⟩
          have Z225 := Lib.hid (hx.size)
          have k226 := (hx.cell (World.block_lt_of_cell? _ _ k217)).trans k217
          clear k217
          have k227 := (hx.cell (World.block_lt_of_cell? _ _ k218)).trans k218
          clear k218
          have k228 := (hx.cell (World.block_lt_of_cell? _ _ k219)).trans k219
          clear k219
          have k229 := (hx.cell (World.block_lt_of_cell? _ _ k220)).trans k220
          clear k220
          have k230 := (hx.cell (World.block_lt_of_cell? _ _ k210)).trans k210
          clear k210
          have O231 := Lib.hid (O221.out.same hx.block)
          clear O221
          have B232 := Lib.hid (B222.out.trans (hx.mono B222.out.size))
          clear B222
          have B233 := Lib.hid (B223.out.trans (hx.mono B223.out.size))
          clear B223
          clear hx
          go_wp2_with fail
          refine (heldMilnor_c (.slice q85 q86 q87) rx 1 _ O231.out.ints (by omega) (by have := HXL.out; have := HSZ1.out; have := HSZ2.out; omega)).mono ?_
          rintro e W234 ⟨rfl, hx⟩
          have Z235 := Lib.hid (hx.size)
          have k236 := (hx.cell (World.block_lt_of_cell? _ _ k226)).trans k226
          clear k226
          have k237 := (hx.cell (World.block_lt_of_cell? _ _ k227)).trans k227
          clear k227
          have k238 := (hx.cell (World.block_lt_of_cell? _ _ k228)).trans k228
          clear k228
          have k239 := (hx.cell (World.block_lt_of_cell? _ _ k229)).trans k229
          clear k229
          have k240 := (hx.cell (World.block_lt_of_cell? _ _ k230)).trans k230
          clear k230
          have O241 := Lib.hid (O231.out.same hx.block)
          clear O231
          have B242 := Lib.hid (B232.out.trans (hx.mono B232.out.size))
          clear B232
          have B243 := Lib.hid (B233.out.trans (hx.mono B233.out.size))
          clear B233
          clear hx
          go_wp2_with fail
          go_ret
          exact ⟨rfl, B242.out⟩

namespace fnExactCommutatorOf_row
theorem own : ownKnob Try.prog.godebug = none := by kernel_rfl
theorem laidOut : laidOutB Try.prog = true := by kernel_rfl
set_option linter.unusedVariables false in
set_option maxRecDepth 100000 in
theorem lifted (os : Os) (started : os.Started) (H : Type) (enc : TypeId × Value → H) :
    ReturnsInHanded {} Try.checked os 9 .any (Rows.fnExactCommutatorOfSpec.pre6 enc Try.prog Try.f9 Rows.fnExactCommutatorOfRow.domain false) (Rows.fnExactCommutatorOfSpec.post enc Try.prog Try.f9 false true false false) := by
  refine returnsInHanded_of_change (C := Try.checked) own started (by kernel_rfl) Try.func9
    (ChangeSpec.witness6 (enc := enc) (C := Try.checked) false ⟨#[], #[.agg #[.slice none 0 0], .agg #[.slice none 0 0]], []⟩ 8 (by kernel_rfl) (by kernel_rfl) (by kernel_rfl) (by kernel_rfl)) ?_
  intro W base args ds gs before hval0 hW hcnd _
  have hval : ∀ (j : Nat) t v, Try.f9.params[j]? = some t → args[j]? = some v → Value.okWide Try.prog W .any base t v := hval0
  have hW' := hW
  obtain ⟨p, q, hA0, hV, rfl, hfz, hnd⟩ := hW
  have hA : DataW.TrodAll enc Try.prog W 0 (fun _ => true) true Try.f9.params.toList args.toList ds p := hA0
  rw [Try.params9] at hA hval
  obtain ⟨v0, vs0, d0, ds0, p0, q0, hargs, rfl, rfl, h0, r0⟩ := trodAll_cons hA
  obtain ⟨v1, vs1, d1, ds1, p1, q1, rfl, rfl, rfl, h1, r1⟩ := trodAll_cons r0
  obtain ⟨rfl, rfl, rfl⟩ := trodAll_nil r1
  obtain rfl : args = #[v0, v1] := by cases args; simp_all
  obtain ⟨rfl, rfl⟩ := trodVars_none hV
  have k0 := h0
  have lt0 : ∀ x ∈ p0, x.block < W.heap.size := by obtain ⟨m, hm⟩ := k0; exact DataW.trod_lt m _ _ _ hm
  obtain ⟨x0, y0, n0, rfl, f0⟩ := open_agg1 Try.underlying24 (by kernel_rfl) (by kernel_rfl) (hval 0 24 v0 rfl rfl) h0
  obtain ⟨a0, len0, cap0, z0, e0, w0⟩ := isRows_of Try.underlying22 Try.underlying42 Try.underlying2 (by kernel_rfl) (by kernel_rfl) f0
  obtain rfl : x0 = .slice a0 len0 cap0 := by simpa using e0
  have k1 := h1
  have lt1 : ∀ x ∈ p1, x.block < W.heap.size := by obtain ⟨m, hm⟩ := k1; exact DataW.trod_lt m _ _ _ hm
  obtain ⟨x1, y1, n1, rfl, f1⟩ := open_agg1 Try.underlying24 (by kernel_rfl) (by kernel_rfl) (hval 1 24 v1 rfl rfl) h1
  obtain ⟨a1, len1, cap1, z1, e1, w1⟩ := isRows_of Try.underlying22 Try.underlying42 Try.underlying2 (by kernel_rfl) (by kernel_rfl) f1
  obtain rfl : x1 = .slice a1 len1 cap1 := by simpa using e1
  clear hA0 hval0
  refine (fnExactCommutatorOf_walk W a0 len0 cap0 z0 w0 a1 len1 cap1 z1 w1).mono fun e W' ⟨he, bel⟩ => ?_
  subst he
  exact ⟨_, rfl, _, _, _, [], _, [], hW', trodAll_mk1 (shut_bool Try.underlying4 _), (trodAll_cons_mk (Below.trod laidOut (by kernel_rfl) (of_decide_eq_true (by kernel_rfl)) k0 bel lt0) (trodAll_cons_mk (Below.trod laidOut (by kernel_rfl) (of_decide_eq_true (by kernel_rfl)) k1 bel lt1) trodAll_mk0)), rfl, bel.frame _, fun h => by cases h⟩
theorem over : Rows.fnExactCommutatorOfRow.holds Try.pinned (OpenSpec.ofChange Rows.fnExactCommutatorOfSpec) :=
  OpenClaim.holds_of_wide 9 Try.f9 rfl rfl rfl rfl rfl rfl rfl ⟨rfl, rfl, rfl, rfl, rfl⟩ rfl rfl rfl rfl rfl (by kernel_rfl) Try.func9 (by kernel_rfl)
    (of_decide_eq_true (by kernel_rfl)) (by unfold Func.isWrapper; first | (rw [if_pos (by decide +kernel)]; kernel_rfl) | (rw [if_neg (by decide +kernel)]; exact ⟨rfl, rfl⟩))
    (fun os started H enc _ => lifted os started H enc)
end fnExactCommutatorOf_row
/-- The statement. -/
theorem fnExactCommutatorOf_proved : Rows.FnExactCommutatorOfSaid := fnExactCommutatorOf_row.over
#print axioms fnExactCommutatorOf_proved
end Go.Proofs.Ytljpjoegeincoaa

/- What is proved: for every input the law FnExactPairingOf returns true and its arguments read behind the call as before: the program's PairingOf and the reference's agree. No condition. -/
import Derived.Test.YthclhbjbimncpaaRows
import Derived.Test.YthclhbjbimncpaaLPair
import Derived.Test.YthclhbjbimncpaaLMilArg
import Derived.OpenShut
import Derived.ShutString
import Derived.ChangeOld
namespace Go.Proofs.Ythclhbjbimncpaa
open Go.ChangeShapes Go.WideShapes Go.ChangeAt Go.RowKit
open Go.ChangeMaps (open_string shut_string)

def paC (a b : List (List Int)) : Int := if arT a && arT b then 0 else 1
def paV (a b : List (List Int)) : Int := if arT a && arT b then pairL a b else 0
theorem specPairingOf_c (v u : Value) (xss yss : List (List Int)) (w : World) (h : IntSS w.heap v xss) (hu : IntSS w.heap u yss) :
    Calls Try.prog 42 #[.agg #[v], .agg #[u]] w fun e w' => e = .returned (.tuple #[.int .i64 (paV xss yss), .int .i64 (paC xss yss)]) ∧ Below w.heap.size w w' := by
  have hb : Below w.heap.size w ((w.alloc (.cells #[v] 42)).alloc (.cells #[u] 51)) := ((Below.refl _ _).alloc (Nat.le_refl _) _).alloc (by simp) _
  have M := Lib.hid (l04Is_c v xss _ (h.same hb.block))
  have D := Lib.hid (fun (w : World) (hu : IntSS w.heap u yss) => l06Is_c u yss w hu)
  have P := fun (hl : xss.length ≤ 4611686018427387904) => Lib.hid (fun (w : World) (h : IntSS w.heap v xss) (hu : IntSS w.heap u yss) => l06Pairing_c v u xss yss w h hu hl)
  have HX := Lib.hid h; have HU := Lib.hid hu
  obtain ⟨ao, c, rfl, hm⟩ := h.len
  obtain ⟨bo, d, rfl, hn⟩ := hu.len
  have HB := Lib.hid hb; clear hb h hu
  cases hA : arT xss
  · have e1 : paC xss yss = 1 := by simp [paC, hA]
    have e2 : paV xss yss = 0 := by simp [paV, hA]
    rw [e1, e2]
    rw [hA] at M
    clear e1 e2 hA P
    go_enter Try.func42, Try.ntmps42
    go_wp2_with (go_at_call 92; refine M.out.mono ?_; rintro e w1 ⟨rfl, hb1⟩; have HB1 := Lib.hid hb1; clear hb1)
    go_ret2
    exact ⟨rfl, HB.out.trans (HB1.out.mono HB.out.size)⟩
  · have P := P (by have := arT_len hA; omega)
    rw [hA] at M
    have hs : Hid ((w.alloc (.cells #[.slice ao xss.length c] 42)).heap.size < ((w.alloc (.cells #[.slice ao xss.length c] 42)).alloc (.cells #[.slice bo yss.length d] 51)).heap.size) := by show _ < _; simp
    have k0 : ((w.alloc (.cells #[.slice ao xss.length c] 42)).alloc (.cells #[.slice bo yss.length d] 51)).cell? ⟨w.heap.size + 1, 0, none⟩ = some (.slice bo yss.length d) := by
      rw [World.cell?, show w.heap.size + 1 = (w.alloc (.cells #[.slice ao xss.length c] 42)).heap.size by simp]; simp only [heap_alloc_new]; rfl
    have k1 : ((w.alloc (.cells #[.slice ao xss.length c] 42)).alloc (.cells #[.slice bo yss.length d] 51)).cell? ⟨w.heap.size, 0, none⟩ = some (.slice ao xss.length c) := by
      rw [World.cell?, alloc_old _ _ _ (by simp)]; simp only [heap_alloc_new]; rfl
    have K0 := Lib.hid k0; have K1 := Lib.hid k1; clear k0 k1
    cases hD : arT yss
    · have e1 : paC xss yss = 1 := by simp [paC, hD]
      have e2 : paV xss yss = 0 := by simp [paV, hD]
      rw [e1, e2]
      rw [hD] at D
      clear e1 e2 hA hD P
      go_enter Try.func42, Try.ntmps42
      go_wp2_with (first | (go_at_call 92; refine M.out.mono ?_; rintro e w1 ⟨rfl, hb1⟩; have k0 := (hb1.cell (p := ⟨w.heap.size + 1, 0, none⟩) (by simp)).trans K0.out; have HB1 := Lib.hid (HB.out.trans (hb1.mono HB.out.size)); clear hb1) | (go_at_call 101; refine (D.out _ (HU.out.same HB1.out.block)).mono ?_; rintro e w2 ⟨rfl, hb2⟩; have HB2 := Lib.hid (HB1.out.trans (hb2.mono HB1.out.size)); clear hb2))
      go_ret2
      exact ⟨rfl, HB2.out⟩
    · have e1 : paC xss yss = 0 := by simp [paC, hA, hD]
      have e2 : paV xss yss = pairL xss yss := by simp [paV, hA, hD]
      rw [e1, e2]
      rw [hD] at D
      clear e1 e2 hA hD
      go_enter Try.func42, Try.ntmps42
      go_wp2_with (first | (go_at_call 92; refine M.out.mono ?_; rintro e w1 ⟨rfl, hb1⟩; have k0 := (hb1.cell (p := ⟨w.heap.size + 1, 0, none⟩) (by simp)).trans K0.out; have k1 := (hb1.cell (p := ⟨w.heap.size, 0, none⟩) (by simp; omega)).trans K1.out; have hs1 := World.block_lt_of_cell? _ _ k0; have HB1 := Lib.hid (HB.out.trans (hb1.mono HB.out.size)); clear hb1) | (go_at_call 101; refine (D.out _ (HU.out.same HB1.out.block)).mono ?_; rintro e w2 ⟨rfl, hb2⟩; have k2 := (hb2.cell (p := ⟨w.heap.size + 1, 0, none⟩) hs1).trans k0; have k3 := (hb2.cell (p := ⟨w.heap.size, 0, none⟩) (World.block_lt_of_cell? _ _ k1)).trans k1; have HB2 := Lib.hid (HB1.out.trans (hb2.mono HB1.out.size)); clear hb2 hs1) | (go_at_call 102; refine (P.out _ (HX.out.same HB2.out.block) (HU.out.same HB2.out.block)).mono ?_; rintro e w3 ⟨rfl, n3, rfl⟩))
      go_ret2
      exact ⟨rfl, below_drewN n3 HB2.out⟩
theorem implPairingOf_c (v u : Value) (xss yss : List (List Int)) (w : World) (h : IntSS w.heap v xss) (hu : IntSS w.heap u yss) :
    Calls Try.prog 44 #[.agg #[v], .agg #[u]] w fun e w' => e = .returned (.tuple #[.int .i64 (paV xss yss), .int .i64 (paC xss yss)]) ∧ Below w.heap.size w w' := by
  have hb : Below w.heap.size w ((w.alloc (.cells #[v] 42)).alloc (.cells #[u] 51)) := ((Below.refl _ _).alloc (Nat.le_refl _) _).alloc (by simp) _
  have M := Lib.hid (isMilnor_c v xss _ (h.same hb.block))
  have D := Lib.hid (fun (w : World) (hu : IntSS w.heap u yss) => isDual_c u yss w hu)
  have P := fun (ha : Asc yss) (hl : yss.length ≤ 4611686018427387904) => Lib.hid (fun (w : World) (h : IntSS w.heap v xss) (hu : IntSS w.heap u yss) => pairing_c v u xss yss w h hu ha hl)
  have HX := Lib.hid h; have HU := Lib.hid hu
  obtain ⟨ao, c, rfl, hm⟩ := h.len
  obtain ⟨bo, d, rfl, hn⟩ := hu.len
  have HB := Lib.hid hb; clear hb h hu
  cases hA : arT xss
  · have e1 : paC xss yss = 1 := by simp [paC, hA]
    have e2 : paV xss yss = 0 := by simp [paV, hA]
    rw [e1, e2]
    rw [hA] at M
    clear e1 e2 hA P
    go_enter Try.func44, Try.ntmps44
    go_wp2_with (go_at_call 95; refine M.out.mono ?_; rintro e w1 ⟨rfl, hb1⟩; have HB1 := Lib.hid hb1; clear hb1)
    go_ret2
    exact ⟨rfl, HB.out.trans (HB1.out.mono HB.out.size)⟩
  · rw [hA] at M
    have hs : Hid ((w.alloc (.cells #[.slice ao xss.length c] 42)).heap.size < ((w.alloc (.cells #[.slice ao xss.length c] 42)).alloc (.cells #[.slice bo yss.length d] 51)).heap.size) := by show _ < _; simp
    have k0 : ((w.alloc (.cells #[.slice ao xss.length c] 42)).alloc (.cells #[.slice bo yss.length d] 51)).cell? ⟨w.heap.size + 1, 0, none⟩ = some (.slice bo yss.length d) := by
      rw [World.cell?, show w.heap.size + 1 = (w.alloc (.cells #[.slice ao xss.length c] 42)).heap.size by simp]; simp only [heap_alloc_new]; rfl
    have k1 : ((w.alloc (.cells #[.slice ao xss.length c] 42)).alloc (.cells #[.slice bo yss.length d] 51)).cell? ⟨w.heap.size, 0, none⟩ = some (.slice ao xss.length c) := by
      rw [World.cell?, alloc_old _ _ _ (by simp)]; simp only [heap_alloc_new]; rfl
    have K0 := Lib.hid k0; have K1 := Lib.hid k1; clear k0 k1
    cases hD : arT yss
    · have e1 : paC xss yss = 1 := by simp [paC, hD]
      have e2 : paV xss yss = 0 := by simp [paV, hD]
      rw [e1, e2]
      rw [hD] at D
      clear e1 e2 hA hD P
      go_enter Try.func44, Try.ntmps44
      go_wp2_with (first | (go_at_call 95; refine M.out.mono ?_; rintro e w1 ⟨rfl, hb1⟩; have k0 := (hb1.cell (p := ⟨w.heap.size + 1, 0, none⟩) (by simp)).trans K0.out; have HB1 := Lib.hid (HB.out.trans (hb1.mono HB.out.size)); clear hb1) | (go_at_call 103; refine (D.out _ (HU.out.same HB1.out.block)).mono ?_; rintro e w2 ⟨rfl, hb2⟩; have HB2 := Lib.hid (HB1.out.trans (hb2.mono HB1.out.size)); clear hb2))
      go_ret2
      exact ⟨rfl, HB2.out⟩
    · have e1 : paC xss yss = 0 := by simp [paC, hA, hD]
      have e2 : paV xss yss = pairL xss yss := by simp [paV, hA, hD]
      rw [e1, e2]
      have P := P (arT_asc hD) (by have := arT_len hD; omega)
      rw [hD] at D
      clear e1 e2 hA hD
      go_enter Try.func44, Try.ntmps44
      go_wp2_with (first | (go_at_call 95; refine M.out.mono ?_; rintro e w1 ⟨rfl, hb1⟩; have k0 := (hb1.cell (p := ⟨w.heap.size + 1, 0, none⟩) (by simp)).trans K0.out; have k1 := (hb1.cell (p := ⟨w.heap.size, 0, none⟩) (by simp; omega)).trans K1.out; have hs1 := World.block_lt_of_cell? _ _ k0; have HB1 := Lib.hid (HB.out.trans (hb1.mono HB.out.size)); clear hb1) | (go_at_call 103; refine (D.out _ (HU.out.same HB1.out.block)).mono ?_; rintro e w2 ⟨rfl, hb2⟩; have k2 := (hb2.cell (p := ⟨w.heap.size + 1, 0, none⟩) hs1).trans k0; have k3 := (hb2.cell (p := ⟨w.heap.size, 0, none⟩) (World.block_lt_of_cell? _ _ k1)).trans k1; have HB2 := Lib.hid (HB1.out.trans (hb2.mono HB1.out.size)); clear hb2 hs1) | (go_at_call 104; refine (P.out _ (HX.out.same HB2.out.block) (HU.out.same HB2.out.block)).mono ?_; rintro e w3 ⟨rfl, rfl⟩))
      go_ret2
      exact ⟨rfl, HB2.out⟩
theorem held2 {x1 x2 : Value} {g1 g2 : Addr} {w0 W W' : World} (h : W.cell? g1 = some x1 ∧ W.cell? g2 = some x2 ∧ Below w0.heap.size w0 W) (hb : Below W.heap.size W W') : W'.cell? g1 = some x1 ∧ W'.cell? g2 = some x2 ∧ Below w0.heap.size w0 W' :=
  ⟨(hb.cell (World.block_lt_of_cell? _ _ h.1)).trans h.1, (hb.cell (World.block_lt_of_cell? _ _ h.2.1)).trans h.2.1, h.2.2.trans (hb.mono h.2.2.size)⟩
theorem held2X {x1 x2 : Value} {g1 g2 : Addr} {w0 W : World} (h : W.cell? g1 = some x1 ∧ W.cell? g2 = some x2 ∧ Below w0.heap.size w0 W) : Below w0.heap.size w0 W := h.2.2
theorem held2B {x1 x2 : Value} {g1 g2 : Addr} {w w0 W : World} {B : Nat} (k : Below B w w0) (h : W.cell? g1 = some x1 ∧ W.cell? g2 = some x2 ∧ Below w0.heap.size w0 W) (hB : B ≤ w0.heap.size) : Below B w W := k.trans (h.2.2.mono hB)
set_option maxHeartbeats 1000000 in
theorem fnExactPairingOf_walk (w : World) (a1 : Option Addr) (l1 p1 : Nat) (xss : List (List Int)) (h1 : IsRows w a1 l1 xss) (a2 : Option Addr) (l2 p2 : Nat) (yss : List (List Int)) (h2 : IsRows w a2 l2 yss) :
    Calls Try.prog 5 #[.agg #[.slice a1 l1 p1], .agg #[.slice a2 l2 p2]] w fun e w' => e = .returned (.bool true) ∧ Below w.heap.size w w' := by
  have hb0 : Below w.heap.size w ((w.alloc (.cells #[.slice a1 l1 p1] 39)).alloc (.cells #[.slice a2 l2 p2] 48)) := ((Below.refl _ _).alloc (Nat.le_refl _) _).alloc (by simp) _
  have k1 : ((w.alloc (.cells #[.slice a1 l1 p1] 39)).alloc (.cells #[.slice a2 l2 p2] 48)).cell? ⟨w.heap.size, 0, none⟩ = some (.slice a1 l1 p1) := by
    rw [World.cell?, alloc_old _ _ _ (by simp)]; simp only [heap_alloc_new]; rfl
  have k2 : ((w.alloc (.cells #[.slice a1 l1 p1] 39)).alloc (.cells #[.slice a2 l2 p2] 48)).cell? ⟨w.heap.size + 1, 0, none⟩ = some (.slice a2 l2 p2) := by
    rw [World.cell?, show w.heap.size + 1 = (w.alloc (.cells #[.slice a1 l1 p1] 39)).heap.size by simp]; simp only [heap_alloc_new]; rfl
  have hsz : ((w.alloc (.cells #[.slice a1 l1 p1] 39)).alloc (.cells #[.slice a2 l2 p2] 48)).heap.size = w.heap.size + 2 := by simp
  have H1 := Lib.hid (fun (W : World) (hb : Below w.heap.size w W) => h1.same hb.block hb.size)
  have H2 := Lib.hid (fun (W : World) (hb : Below w.heap.size w W) => h2.same hb.block hb.size)
  have HB0 := Lib.hid hb0; have K1 := Lib.hid k1; have K2 := Lib.hid k2; have HSZ := Lib.hid hsz
  clear hb0 k1 k2 hsz h1 h2
  have SM := Lib.hid (fun (W : World) (hb : Below w.heap.size w W) => szMilnor_c a1 l1 p1 xss 1048576 W (H1.out W hb) (Nat.le_refl _))
  by_cases hz : xss.length + cnt xss ≤ 1048576
  · obtain ⟨left, hleft⟩ : ∃ left : Nat, szR xss 1048576 = left ∧ left ≤ 1048576 := ⟨1048576 - (xss.length + cnt xss), by unfold szR; rw [if_pos hz]; omega, by omega⟩
    obtain ⟨hl1, hl2⟩ := hleft
    have SD := Lib.hid (fun (W : World) (hb : Below w.heap.size w W) => szDual_c a2 l2 p2 yss left W (H2.out W hb) hl2)
    rw [hl1] at SM
    clear hl1
    by_cases hz2 : yss.length + cnt yss ≤ left
    · obtain ⟨left2, hl3⟩ : ∃ left2 : Nat, szR yss left = left2 := ⟨left - (yss.length + cnt yss), by unfold szR; rw [if_pos hz2]; omega⟩
      rw [hl3] at SD
      clear hl3
      have TM := Lib.hid (fun (W : World) (hb : Below w.heap.size w W) => toMilnor_c a1 l1 p1 xss W (H1.out W hb) hz)
      have TD := Lib.hid (fun (W : World) (hb : Below w.heap.size w W) => toDual_c a2 l2 p2 yss W (H2.out W hb) (by omega))
      go_enter Try.func5, Try.ntmps5
      go_wp2_with (first | (go_at_call 32; refine (SM.out _ HB0.out).mono ?_; rintro e w1 ⟨rfl, hb1⟩; have HB1 := Lib.hid (HB0.out.trans (hb1.mono HB0.out.size)); have k1 := (hb1.cell (p := ⟨w.heap.size, 0, none⟩) (by simp; omega)).trans K1.out; have k2 := (hb1.cell (p := ⟨w.heap.size + 1, 0, none⟩) (by simp)).trans K2.out; have hw1 := hb1.size; clear hb1) | (go_at_call 41; refine (SD.out _ HB1.out).mono ?_; rintro e w2 ⟨rfl, hb2⟩; have HB2 := Lib.hid (HB1.out.trans (hb2.mono HB1.out.size)); have k3 := (hb2.cell (p := ⟨w.heap.size, 0, none⟩) (World.block_lt_of_cell? _ _ k1)).trans k1; have k4 := (hb2.cell (p := ⟨w.heap.size + 1, 0, none⟩) (World.block_lt_of_cell? _ _ k2)).trans k2; clear hb2 k1 k2))
      go_region_held3 (fun W => W.cell? ⟨w.heap.size, 0, none⟩ = some (.slice a1 l1 p1) ∧ W.cell? ⟨w.heap.size + 1, 0, none⟩ = some (.slice a2 l2 p2) ∧ Below w2.heap.size w2 W)
        (first | exact ⟨k3, k4, (Below.refl _ _).drew⟩ | exact held2 (by assumption) hx)
        (first | (go_at_call 34; refine (TM.out _ (held2B HB2.out (by assumption) HB2.out.size)).mono ?_; rintro e W1 ⟨v1, rfl, hv1, hx⟩) | (go_at_call 43; refine (TD.out _ (held2B HB2.out (by assumption) HB2.out.size)).mono ?_; rintro e W2 ⟨v2, rfl, hv2, hx⟩) | (go_at_call 42; (first | (with_reducible refine (specPairingOf_c _ _ xss yss _ (hv1.same hx.block).ints hv2.ints).mono ?_) | (with_reducible refine (specPairingOf_c _ _ xss yss _ hv1.ints (hv2.same hx.block).ints).mono ?_)); rintro e W3 ⟨rfl, hx⟩))
      all_goals
        rename_i hh
        obtain ⟨k5, k6, hb3⟩ := hh
        have HB3 := Lib.hid (HB2.out.trans (hb3.mono HB2.out.size))
        clear hx hb3 hv1 hv2 k3 k4
        have IC := Lib.hid (fun (v u : Value) (W : World) (h : IntSS W.heap v xss) (hu : IntSS W.heap u yss) => implPairingOf_c v u xss yss W h hu)
        have t1 := (eqB (show paV xss yss = paV xss yss from rfl)).2
        have t2 := (eqB (show paC xss yss = paC xss yss from rfl)).2
        generalize paV xss yss = pv at *
        generalize paC xss yss = pc at *
        go_wp2_with fail
        refine (TM.out _ HB3.out).mono ?_
        rintro e W4 ⟨v3, rfl, ⟨us3, hU3⟩, hx4⟩
        obtain ⟨q1, q2, q3, rfl⟩ := own_shape hU3.row
        have hy4 : Below W3.heap.size W3 (W4.alloc (.cells #[.slice q1 q2 q3] 42)) := hx4.alloc hx4.size _
        have k7 := (hy4.cell (World.block_lt_of_cell? _ _ k5)).trans k5
        have k8 := (hy4.cell (World.block_lt_of_cell? _ _ k6)).trans k6
        have R4 := Lib.hid (hU3.ints.same (alloc_old W4 (.cells #[.slice q1 q2 q3] 42)))
        have N4 := Lib.hid (Cell1.new W4 (.slice q1 q2 q3) 42)
        have HB4 := Lib.hid (HB3.out.trans (hy4.mono HB3.out.size))
        clear hx4 hy4 hU3 k5 k6
        go_wp2_with fail
        refine (TD.out _ HB4.out).mono ?_
        rintro e W5 ⟨v4, rfl, ⟨us4, hU4⟩, hx5⟩
        obtain ⟨r1, r2, r3, rfl⟩ := own_shape hU4.row
        have hy5 : Below (W4.alloc (.cells #[.slice q1 q2 q3] 42)).heap.size (W4.alloc (.cells #[.slice q1 q2 q3] 42)) (W5.alloc (.cells #[.slice r1 r2 r3] 51)) := hx5.alloc hx5.size _
        have k9 := (hy5.cell (World.block_lt_of_cell? _ _ k7)).trans k7
        have k10 := (hy5.cell (World.block_lt_of_cell? _ _ k8)).trans k8
        have x5 := (hy5.cell (World.block_lt_of_cell? _ _ N4.out.c0)).trans N4.out.c0
        have y5 := (Cell1.new W5 (.slice r1 r2 r3) 51).c0
        have R5 := Lib.hid (R4.out.same hy5.block)
        have Q5 := Lib.hid (hU4.ints.same (alloc_old W5 (.cells #[.slice r1 r2 r3] 51)))
        have HB5 := Lib.hid (HB4.out.trans (hy5.mono HB4.out.size))
        clear hx5 hy5 hU4 k7 k8
        have Y5 := Lib.hid y5; clear y5
        go_wp2_with fail
        refine (IC.out _ _ _ R5.out Q5.out).mono ?_
        rintro e W6 ⟨rfl, hx6⟩
        have k11 := (hx6.cell (World.block_lt_of_cell? _ _ k9)).trans k9
        have k12 := (hx6.cell (World.block_lt_of_cell? _ _ k10)).trans k10
        have x6 := (hx6.cell (World.block_lt_of_cell? _ _ x5)).trans x5
        have y6 := (hx6.cell (World.block_lt_of_cell? _ _ Y5.out)).trans Y5.out
        have R6 := Lib.hid (R5.out.same hx6.block)
        have Q6 := Lib.hid (Q5.out.same hx6.block)
        have HB6 := Lib.hid (HB5.out.trans (hx6.mono HB5.out.size))
        clear hx6 k9 k10 x5
        go_wp2_with fail
        go_region_held3 (fun W => W.cell? ⟨W4.heap.size, 0, none⟩ = some (.slice q1 q2 q3) ∧ W.cell? ⟨w.heap.size, 0, none⟩ = some (.slice a1 l1 p1) ∧ Below W6.heap.size W6 W)
          (first | exact ⟨x6, k11, (Below.refl _ _).drew⟩ | exact held2 (by assumption) hx)
          (first | (go_at_call 34; refine (TM.out _ (held2B HB6.out (by assumption) HB6.out.size)).mono ?_; rintro e W7 ⟨v7, rfl, hv7, hx⟩) | (go_at_call 37; refine (eqMilnor_same _ _ xss _ (R6.out.same (held2X (by assumption)).block) hv7.ints).mono ?_; rintro e W8 ⟨rfl, hx⟩))
        all_goals
          rename_i hh
          obtain ⟨-, -, hb8⟩ := hh
          have k13 := (hb8.cell (World.block_lt_of_cell? _ _ k12)).trans k12
          have y8 := (hb8.cell (World.block_lt_of_cell? _ _ y6)).trans y6
          have Q8 := Lib.hid (Q6.out.same hb8.block)
          have HB8 := Lib.hid (HB6.out.trans (hb8.mono HB6.out.size))
          clear hx hb8 hv7 k11 k12 x6 y6
          go_wp2_with fail
          go_region_held3 (fun W => W.cell? ⟨W5.heap.size, 0, none⟩ = some (.slice r1 r2 r3) ∧ W.cell? ⟨w.heap.size + 1, 0, none⟩ = some (.slice a2 l2 p2) ∧ Below W8.heap.size W8 W)
            (first | exact ⟨y8, k13, (Below.refl _ _).drew⟩ | exact held2 (by assumption) hx)
            (first | (go_at_call 43; refine (TD.out _ (held2B HB8.out (by assumption) HB8.out.size)).mono ?_; rintro e W9 ⟨v9, rfl, hv9, hx⟩) | (go_at_call 45; refine (eqDual_same _ _ yss _ (Q8.out.same (held2X (by assumption)).block) hv9.ints).mono ?_; rintro e Wa ⟨rfl, hx⟩))
          all_goals
            rename_i hh
            obtain ⟨-, -, hba⟩ := hh
            have HBa := Lib.hid (HB8.out.trans (hba.mono HB8.out.size))
            clear hx hba hv9 k13 y8
            go_wp2_with fail
            go_ret
            exact ⟨rfl, HBa.out⟩
    · have e : szR yss left = -1 := by unfold szR; rw [if_neg hz2]
      rw [e] at SD
      clear e
      go_enter Try.func5, Try.ntmps5
      go_wp2_with (first | (go_at_call 32; refine (SM.out _ HB0.out).mono ?_; rintro e w1 ⟨rfl, hb1⟩; have HB1 := Lib.hid (HB0.out.trans (hb1.mono HB0.out.size)); have k1 := (hb1.cell (p := ⟨w.heap.size, 0, none⟩) (by simp; omega)).trans K1.out; have k2 := (hb1.cell (p := ⟨w.heap.size + 1, 0, none⟩) (by simp)).trans K2.out; clear hb1) | (go_at_call 41; refine (SD.out _ HB1.out).mono ?_; rintro e w2 ⟨rfl, hb2⟩; have HB2 := Lib.hid (HB1.out.trans (hb2.mono HB1.out.size)); clear hb2 k1 k2))
      go_ret
      exact ⟨rfl, HB2.out⟩
  · have e : szR xss 1048576 = -1 := by unfold szR; rw [if_neg hz]
    rw [e] at SM
    clear e
    go_enter Try.func5, Try.ntmps5
    go_wp2_with (first | (go_at_call 32; refine (SM.out _ HB0.out).mono ?_; rintro e w1 ⟨rfl, hb1⟩; have HB1 := Lib.hid (HB0.out.trans (hb1.mono HB0.out.size)); clear hb1))
    go_ret
    exact ⟨rfl, HB1.out⟩
namespace fnExactPairingOf_row
theorem own : ownKnob Try.prog.godebug = none := by kernel_rfl
theorem laidOut : laidOutB Try.prog = true := by kernel_rfl
set_option linter.unusedVariables false in
set_option maxRecDepth 100000 in
theorem lifted (os : Os) (started : os.Started) (H : Type) (enc : TypeId × Value → H) :
    ReturnsInHanded {} Try.checked os 5 .any (Rows.fnExactPairingOfSpec.pre6 enc Try.prog Try.f5 Rows.fnExactPairingOfRow.domain false) (Rows.fnExactPairingOfSpec.post enc Try.prog Try.f5 false true false false) := by
  refine returnsInHanded_of_change (C := Try.checked) own started (by kernel_rfl) Try.func5
    (ChangeSpec.witness6 (enc := enc) (C := Try.checked) false ⟨#[], #[.agg #[.slice none 0 0], .agg #[.slice none 0 0]], []⟩ 8 (by kernel_rfl) (by kernel_rfl) (by kernel_rfl) (by kernel_rfl)) ?_
  intro W base args ds gs before hval0 hW hcnd _
  have hval : ∀ (j : Nat) t v, Try.f5.params[j]? = some t → args[j]? = some v → Value.okWide Try.prog W .any base t v := hval0
  have hW' := hW
  obtain ⟨p, q, hA0, hV, rfl, hfz, hnd⟩ := hW
  have hA : DataW.TrodAll enc Try.prog W 0 (fun _ => true) true Try.f5.params.toList args.toList ds p := hA0
  rw [Try.params5] at hA hval
  obtain ⟨v0, vs0, d0, ds0, p0, q0, hargs, rfl, rfl, h0, r0⟩ := trodAll_cons hA
  obtain ⟨v1, vs1, d1, ds1, p1, q1, rfl, rfl, rfl, h1, r1⟩ := trodAll_cons r0
  obtain ⟨rfl, rfl, rfl⟩ := trodAll_nil r1
  obtain rfl : args = #[v0, v1] := by cases args; simp_all
  obtain ⟨rfl, rfl⟩ := trodVars_none hV
  have k0 := h0
  have lt0 : ∀ x ∈ p0, x.block < W.heap.size := by obtain ⟨m, hm⟩ := k0; exact DataW.trod_lt m _ _ _ hm
  obtain ⟨x0, y0, n0, rfl, f0⟩ := open_agg1 Try.underlying39 (by kernel_rfl) (by kernel_rfl) (hval 0 39 v0 rfl rfl) h0
  obtain ⟨a0, len0, cap0, z0, e0, w0⟩ := isRows_of Try.underlying37 Try.underlying25 Try.underlying2 (by kernel_rfl) (by kernel_rfl) f0
  obtain rfl : x0 = .slice a0 len0 cap0 := by simpa using e0
  have k1 := h1
  have lt1 : ∀ x ∈ p1, x.block < W.heap.size := by obtain ⟨m, hm⟩ := k1; exact DataW.trod_lt m _ _ _ hm
  obtain ⟨x1, y1, n1, rfl, f1⟩ := open_agg1 Try.underlying48 (by kernel_rfl) (by kernel_rfl) (hval 1 48 v1 rfl rfl) h1
  obtain ⟨a1, len1, cap1, z1, e1, w1⟩ := isRows_of Try.underlying37 Try.underlying25 Try.underlying2 (by kernel_rfl) (by kernel_rfl) f1
  obtain rfl : x1 = .slice a1 len1 cap1 := by simpa using e1
  clear hA0 hval0
  refine (fnExactPairingOf_walk W a0 len0 cap0 z0 w0 a1 len1 cap1 z1 w1).mono fun e W' ⟨he, bel⟩ => ?_
  subst he
  exact ⟨_, rfl, _, _, _, [], _, [], hW', trodAll_mk1 (shut_bool Try.underlying4 _), (trodAll_cons_mk (Below.trod laidOut (by kernel_rfl) (of_decide_eq_true (by kernel_rfl)) k0 bel lt0) (trodAll_cons_mk (Below.trod laidOut (by kernel_rfl) (of_decide_eq_true (by kernel_rfl)) k1 bel lt1) trodAll_mk0)), rfl, bel.frame _, fun h => by cases h⟩
theorem over : Rows.fnExactPairingOfRow.holds Try.pinned (OpenSpec.ofChange Rows.fnExactPairingOfSpec) :=
  OpenClaim.holds_of_wide 5 Try.f5 rfl rfl rfl rfl rfl rfl rfl ⟨rfl, rfl, rfl, rfl, rfl⟩ rfl rfl rfl rfl rfl (by kernel_rfl) Try.func5 (by kernel_rfl)
    (of_decide_eq_true (by kernel_rfl)) (by unfold Func.isWrapper; first | (rw [if_pos (by decide +kernel)]; kernel_rfl) | (rw [if_neg (by decide +kernel)]; exact ⟨rfl, rfl⟩))
    (fun os started H enc _ => lifted os started H enc)
end fnExactPairingOf_row
/-- The statement. -/
theorem fnExactPairingOf_proved : Rows.FnExactPairingOfSaid := fnExactPairingOf_row.over
#print axioms fnExactPairingOf_proved
end Go.Proofs.Ythclhbjbimncpaa

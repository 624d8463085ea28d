/- What is proved: for every input the law FnExactCoordinatesOf returns true and its arguments read behind the call as before: the program's CoordinatesOf and the reference's agree, and the result is the call's own. No condition. -/
import Derived.Test.YtljpjoegeincoaaRows
import Derived.Test.YtljpjoegeincoaaLCoo
import Derived.Test.YtljpjoegeincoaaLSort
import Derived.Test.YtljpjoegeincoaaLGen
import Derived.Test.YtljpjoegeincoaaLHeld2
import Derived.Deep.DeepCutAuto
import Derived.Lib.SliceRun
import Derived.OpenShut
import Derived.ShutString
import Derived.ChangeOld
namespace Go.Proofs.Ytljpjoegeincoaa
open Go.ChangeShapes Go.WideShapes Go.ChangeAt Go.RowKit
open Go.ChangeMaps (open_string shut_string)

theorem sortOk : SortOk := sortSS_c
theorem sortOk2 : SortOk2 := sortSS_c2
set_option maxRecDepth 100000 in
set_option maxHeartbeats 4000000 in
theorem fnExactCoordinatesOf_walk (w : World) (a1 : Option Addr) (l1 p1 : Nat) (t1 : List (List Int)) (h1 : IsRows w a1 l1 t1) (n : Int) (_hn : (Lit.int .i64 n).wf = true) :
    Calls Try.prog 5 #[.agg #[.slice a1 l1 p1], .int .i64 n] w fun e w' => e = .returned (.bool true) ∧ Below w.heap.size w w' := by
  have S := Lib.hid (fun (v : Value) (W : World) (h : IntSS W.heap v t1) => readI (specCoordinatesOf_c v t1 n W h))
  have I := Lib.hid (fun (v : Value) (W : World) (h : IntSS W.heap v t1) => implCoordinatesOf_of sortOk2 v t1 n W h)
  have HXL := Lib.hid (coR_len t1 n)
  generalize coR t1 n = rs at *
  generalize coC t1 n = pc at *
  have u1 : (pc != pc) = false := by simp
  obtain ⟨W0, hW0⟩ : ∃ W, W = (w.alloc (.cells #[.slice a1 l1 p1] 24)) := ⟨_, rfl⟩
  have hx : Below w.heap.size w W0 := by rw [hW0]; exact ((Below.refl _ _).alloc (by exact Nat.le_refl _) _)
  have hsz : w.heap.size + 1 ≤ W0.heap.size := by rw [hW0]; simp
  have k1 := (Cell1.new w (.slice a1 l1 p1) 24).c0
  rw [← hW0] at k1
  have BW0 := Lib.hid hx
  have Z2 := Lib.hid (hsz)
  have HW0 := Lib.hid hW0
  clear hW0 hx hsz
  have SM1 := Lib.hid (fun (left : Nat) (hl : left ≤ 1048576) (W : World) (hb : Below w.heap.size w W) => szMilnor_c a1 l1 p1 t1 left W (h1.same hb.block hb.size) hl)
  have TM10 := fun (W : World) (hb : Below w.heap.size w W) => toMilnor_c a1 l1 p1 t1 W (h1.same hb.block hb.size)
  clear h1
  go_enter Try.func5, Try.ntmps5
  go_wp2_with fail
  rw [← HW0.out]
  clear HW0
  have S0 := SM1.out 1048576 (Nat.le_refl _) _ BW0.out
  by_cases hz1 : t1.length + cnt t1 ≤ 1048576
  rotate_left
  · have e9 : szR t1 1048576 = -1 := by unfold szR; rw [if_neg hz1]
    rw [e9] at S0
    have S1 := Lib.hid S0
    clear S0 e9
    refine (S1.out).mono ?_
    rintro e W ⟨rfl, hx⟩
    have BE := Lib.hid (BW0.out.trans (hx.mono BW0.out.size))
    clear hx
    go_wp2_with fail
    go_ret
    exact ⟨rfl, BE.out⟩
  obtain ⟨left1, hl9⟩ : ∃ left : Nat, szR t1 1048576 = left := ⟨1048576 - (t1.length + cnt t1), by unfold szR; rw [if_pos hz1]; omega⟩
  have HLN : Hid (left1 ≤ 1048576) := by show _ ≤ _; unfold szR at hl9; rw [if_pos hz1] at hl9; have := Nat.le_refl 1048576; omega
  rw [hl9] at S0
  have S1 := Lib.hid S0
  clear S0 hl9
  have TM1 := Lib.hid (fun (W : World) (hb : Below w.heap.size w W) => TM10 W hb (by have := Nat.le_refl 1048576; omega))
  have HSZ1 : Hid (cnt t1 ≤ 1048576) := by show _ ≤ _; have := Nat.le_refl 1048576; omega
  clear TM10 hz1 SM1
  have HLF := HLN
  clear HLN
  refine (S1.out).mono ?_
  rintro e W3 ⟨rfl, hx⟩
  clear S1
  have Z4 := Lib.hid (hx.size)
  have k5 := (hx.cell (World.block_lt_of_cell? _ _ k1)).trans k1
  clear k1
  have B6 := Lib.hid (BW0.out.trans (hx.mono BW0.out.size))
  clear BW0
  clear hx
  go_wp2_with fail
  refine (TM1.out _ B6.out).mono ?_
  rintro e W9 ⟨v7, rfl, ⟨u8, hm⟩, hx⟩
  obtain ⟨q10, q11, q12, rfl⟩ := own_shape hm.row
  have O13 := Lib.hid hm
  have R14 := Lib.hid hm.range
  clear hm
  have Z15 := Lib.hid (hx.size)
  have k16 := (hx.cell (World.block_lt_of_cell? _ _ k5)).trans k5
  clear k5
  have B17 := Lib.hid (B6.out.trans (hx.mono B6.out.size))
  clear B6
  clear hx
  go_wp2_with fail
  refine (S.out (.slice q10 q11 q12) _ O13.out.ints).mono ?_
  rintro e W18 ⟨r1, rfl, hm, hx⟩
  have RW := Lib.hid hm
  clear hm
  have Z19 := Lib.hid (hx.size)
  have k20 := (hx.cell (World.block_lt_of_cell? _ _ k16)).trans k16
  clear k16
  have O21 := Lib.hid (O13.out.same hx.block)
  clear O13
  have B22 := Lib.hid (B17.out.trans (hx.mono B17.out.size))
  clear B17
  clear hx
  have B23 := Lib.hid (Below.refl W18.heap.size W18)
  clear O21
  go_wp2_with fail
  refine (TM1.out _ B22.out).mono ?_
  rintro e W26 ⟨v24, rfl, ⟨u25, hm⟩, hx⟩
  obtain ⟨q27, q28, q29, rfl⟩ := own_shape hm.row
  have O30 := Lib.hid hm
  have R31 := Lib.hid hm.range
  clear hm
  have Z32 := Lib.hid (hx.size)
  have k33 := (hx.cell (World.block_lt_of_cell? _ _ k20)).trans k20
  clear k20
  have B34 := Lib.hid (B22.out.trans (hx.mono B22.out.size))
  clear B22
  have B35 := Lib.hid (B23.out.trans (hx.mono B23.out.size))
  clear B23
  clear hx
  obtain ⟨W36, E370⟩ : ∃ W, W = W26.alloc (.cells #[.slice q27 q28 q29] 26) := ⟨_, rfl⟩
  have hx : Below W26.heap.size W26 W36 := by rw [E370]; exact (Below.refl _ _).alloc (Nat.le_refl _) _
  have k38 : W36.cell? ⟨W26.heap.size, 0, none⟩ = some (.slice q27 q28 q29) := by rw [E370, World.cell?]; simp only [heap_alloc_new]; rfl
  have kx0 := Go.Lib.cell?_alloc_some (.cells #[.slice q27 q28 q29] 26) k33
  have Z39 := Lib.hid (World.block_lt_of_cell? _ _ k38)
  simp only at Z39
  have Z40 := Lib.hid (hx.size)
  have k41 := (hx.cell (World.block_lt_of_cell? _ _ k33)).trans k33
  clear k33
  have O42 := Lib.hid (O30.out.same hx.block)
  clear O30
  have B43 := Lib.hid (B34.out.trans (hx.mono B34.out.size))
  clear B34
  have B44 := Lib.hid (B35.out.trans (hx.mono B35.out.size))
  clear B35
  clear hx
  have E37 := Lib.hid E370
  clear E370
  go_wp2_with fail
  rw [← E37.out]
  clear E37 kx0
  go_wp2_with fail
  refine (I.out (.slice q27 q28 q29) _ O42.out.ints).mono ?_
  rintro e W46 ⟨v45, rfl, hm, hx⟩
  obtain ⟨q47, q48, q49, rfl⟩ := own_shape hm
  have O50 := Lib.hid hm
  have R51 := Lib.hid hm.range
  clear hm
  have Z52 := Lib.hid (hx.size)
  have k53 := (hx.cell (World.block_lt_of_cell? _ _ k41)).trans k41
  clear k41
  have k54 := (hx.cell (World.block_lt_of_cell? _ _ k38)).trans k38
  clear k38
  have O55 := Lib.hid (O42.out.same hx.block)
  clear O42
  have B56 := Lib.hid (B43.out.trans (hx.mono B43.out.size))
  clear B43
  have B57 := Lib.hid (B44.out.trans (hx.mono B44.out.size))
  clear B44
  clear hx
  go_wp2_with fail
  refine (eqInt64S_same _ _ rs _ O50.out.ints (RW.out.same B57.out.block)).mono ?_
  rintro e W58x ⟨rfl, n59, hWn⟩
  obtain ⟨W58, hWe⟩ : ∃ W, W = W58x := ⟨_, rfl⟩
  have hx : Below W46.heap.size W46 W58 := by rw [hWe, hWn]; exact below_drewN _ (Below.refl _ _)
  rw [← hWe]
  clear hWn hWe
  have Z60 := Lib.hid (hx.size)
  have k61 := (hx.cell (World.block_lt_of_cell? _ _ k53)).trans k53
  clear k53
  have k62 := (hx.cell (World.block_lt_of_cell? _ _ k54)).trans k54
  clear k54
  have O63 := Lib.hid (O55.out.same hx.block)
  clear O55
  have O64 := Lib.hid (O50.out.same hx.block)
  clear O50
  have B65 := Lib.hid (B56.out.trans (hx.mono B56.out.size))
  clear B56
  have B66 := Lib.hid (B57.out.trans (hx.mono B57.out.size))
  clear B57
  clear hx
  go_wp2_with fail
  go_region_held3 (fun W => W.cell? ⟨W26.heap.size, 0, none⟩ = some (.slice q27 q28 q29) ∧ W.cell? ⟨w.heap.size, 0, none⟩ = some (.slice a1 l1 p1) ∧ Below W58.heap.size W58 W)
    (first | exact ⟨k62, k61, (Below.refl _ _).drew⟩ | exact heldC2 (by assumption) hx8 | exact heldC2 (by assumption) hx9)
    (first | (go_at_call 16; refine (TM1.out _ (heldC2B B65.out (by assumption) B65.out.size)).mono ?_; rintro e W9 ⟨v9, rfl, ⟨u9, hm9⟩, hx9⟩; obtain ⟨e1, e2, e3, rfl⟩ := own_shape hm9.row) | (go_at_call 18; refine (eqMilnor_same _ _ t1 _ (O63.out.ints.same (heldC2X (by assumption)).block) hm9.ints).mono ?_; rintro e W8 ⟨rfl, hx8⟩))
  all_goals
    rename_i hh
    obtain ⟨W67, hWe⟩ : ∃ W, W = W8 := ⟨_, rfl⟩
    have hx : Below W58.heap.size W58 W67 := by rw [hWe]; exact heldC2X hh
    rw [← hWe]
    clear hWe hh hx8 hx9 hm9
    have Z68 := Lib.hid (hx.size)
    have k69 := (hx.cell (World.block_lt_of_cell? _ _ k61)).trans k61
    clear k61
    have k70 := (hx.cell (World.block_lt_of_cell? _ _ k62)).trans k62
    clear k62
    have O71 := Lib.hid (O63.out.same hx.block)
    clear O63
    have O72 := Lib.hid (O64.out.same hx.block)
    clear O64
    have B73 := Lib.hid (B65.out.trans (hx.mono B65.out.size))
    clear B65
    have B74 := Lib.hid (B66.out.trans (hx.mono B66.out.size))
    clear B66
    clear hx
    go_wp2_with fail
    refine (markMilnor_c (.slice q27 q28 q29) u25 t1 1 W18.heap.size W67 O71.out (by have := Z2.out; have := Z4.out; have := Z15.out; have := Z19.out; have := Z32.out; have := Z39.out; have := Z40.out; have := Z52.out; have := Z60.out; have := Z68.out; omega) (by omega) (by have := HXL.out; have := HSZ1.out; omega)).mono ?_
    rintro e W75 ⟨rfl, hm, hlow, hfr⟩
    have RRR := R31.out
    have hhi : ∀ b, W26.heap.size ≤ b → b < W67.heap.size → W75.heap[b]? = W67.heap[b]? := fun b h1 h2 => hfr b h2 (fun u hu e => by have := RRR.2 u hu b e; omega)
    clear RRR
    have O76 := Lib.hid hm
    clear hm
    have Z77 := Lib.hid (hlow.size)
    have k78 := (hlow.cell (p := ⟨w.heap.size, 0, none⟩) (by show w.heap.size < W18.heap.size; exact (by have := Z2.out; have := Z4.out; have := Z15.out; have := Z19.out; have := Z32.out; have := Z39.out; have := Z40.out; have := Z52.out; have := Z60.out; have := Z68.out; have := Z77.out; omega))).trans k69
    clear k69
    have k79 := (World.cell?_of_block (hhi W26.heap.size (by have := Z2.out; have := Z4.out; have := Z15.out; have := Z19.out; have := Z32.out; have := Z39.out; have := Z40.out; have := Z52.out; have := Z60.out; have := Z68.out; have := Z77.out; omega) (World.block_lt_of_cell? _ _ k70))).trans k70
    clear k70
    have O80 := Lib.hid (O72.out.far fun b h1 h2 => hhi b (Nat.le_trans (by have := Z2.out; have := Z4.out; have := Z15.out; have := Z19.out; have := Z32.out; have := Z39.out; have := Z40.out; have := Z52.out; have := Z60.out; have := Z68.out; have := Z77.out; omega) h1) h2)
    clear O72
    have B81 := Lib.hid (B73.out.trans (hlow.mono (by have := Z2.out; have := Z4.out; have := Z15.out; have := Z19.out; have := Z32.out; have := Z39.out; have := Z40.out; have := Z52.out; have := Z60.out; have := Z68.out; have := Z77.out; omega)))
    clear B73
    have B82 := Lib.hid (B74.out.trans (hlow.mono (by have := Z2.out; have := Z4.out; have := Z15.out; have := Z19.out; have := Z32.out; have := Z39.out; have := Z40.out; have := Z52.out; have := Z60.out; have := Z68.out; have := Z77.out; omega)))
    clear B74
    clear hlow hhi hfr
    have t9 : decide ((1 + (cnt t1 : Int)) < 0) = false := by simp; omega
    clear O76
    clear k79
    go_wp2_with fail
    refine (eqInt64S_same _ _ rs _ O80.out.ints (RW.out.same B82.out.block)).mono ?_
    rintro e W83x ⟨rfl, n84, hWn⟩
    obtain ⟨W83, hWe⟩ : ∃ W, W = W83x := ⟨_, rfl⟩
    have hx : Below W75.heap.size W75 W83 := by rw [hWe, hWn]; exact below_drewN _ (Below.refl _ _)
    rw [← hWe]
    clear hWn hWe
    have Z85 := Lib.hid (hx.size)
    have k86 := (hx.cell (World.block_lt_of_cell? _ _ k78)).trans k78
    clear k78
    have O87 := Lib.hid (O80.out.same hx.block)
    clear O80
    have B88 := Lib.hid (B81.out.trans (hx.mono B81.out.size))
    clear B81
    have B89 := Lib.hid (B82.out.trans (hx.mono B82.out.size))
    clear B82
    clear hx
    go_wp2_with fail
    refine (markInt64S_c (.slice q47 q48 q49) rs 1 W36.heap.size W83 O87.out (by omega) (by have := HXL.out; have := HSZ1.out; omega)).mono ?_
    rintro e W90 ⟨rfl, hm, hfr⟩
    have hlow : Below W36.heap.size W83 W90 := Below_of_grown hfr (by have := Z2.out; have := Z4.out; have := Z15.out; have := Z19.out; have := Z32.out; have := Z39.out; have := Z40.out; have := Z52.out; have := Z60.out; have := Z68.out; have := Z77.out; have := Z85.out; omega) (fun b hb => (World.ownsRow.lt O87.out b hb).1)
    have RRR := R51.out
    have hhi : ∀ b, W46.heap.size ≤ b → b < W83.heap.size → W90.heap[b]? = W83.heap[b]? := fun b h1 h2 => hfr.block b h2 (fun e => by have := RRR b e.symm; omega)
    clear RRR
    have O91 := Lib.hid hm
    clear hm
    have Z92 := Lib.hid (hlow.size)
    have k93 := (hlow.cell (p := ⟨w.heap.size, 0, none⟩) (by show w.heap.size < W36.heap.size; exact (by have := Z2.out; have := Z4.out; have := Z15.out; have := Z19.out; have := Z32.out; have := Z39.out; have := Z40.out; have := Z52.out; have := Z60.out; have := Z68.out; have := Z77.out; have := Z85.out; have := Z92.out; omega))).trans k86
    clear k86
    have B94 := Lib.hid (B88.out.trans (hlow.mono (by have := Z2.out; have := Z4.out; have := Z15.out; have := Z19.out; have := Z32.out; have := Z39.out; have := Z40.out; have := Z52.out; have := Z60.out; have := Z68.out; have := Z77.out; have := Z85.out; have := Z92.out; omega)))
    clear B88
    have B95 := Lib.hid (B89.out.trans (hlow.mono (by have := Z2.out; have := Z4.out; have := Z15.out; have := Z19.out; have := Z32.out; have := Z39.out; have := Z40.out; have := Z52.out; have := Z60.out; have := Z68.out; have := Z77.out; have := Z85.out; have := Z92.out; omega)))
    clear B89
    clear hlow hhi hfr
    go_wp2_with fail
    refine (heldInt64S_c (.slice q47 q48 q49) rs.length 1 _ O91.out.ints (by omega) (by have := HXL.out; have := HSZ1.out; omega)).mono ?_
    rintro e W96 ⟨rfl, rfl⟩
    go_wp2_with fail
    refine (TM1.out _ B94.out).mono ?_
    rintro e W99 ⟨v97, rfl, ⟨u98, hm⟩, hx⟩
    obtain ⟨q100, q101, q102, rfl⟩ := own_shape hm.row
    have O103 := Lib.hid hm
    have R104 := Lib.hid hm.range
    clear hm
    have Z105 := Lib.hid (hx.size)
    have k106 := (hx.cell (World.block_lt_of_cell? _ _ k93)).trans k93
    clear k93
    have O107 := Lib.hid (O91.out.same hx.block)
    clear O91
    have B108 := Lib.hid (B94.out.trans (hx.mono B94.out.size))
    clear B94
    have B109 := Lib.hid (B95.out.trans (hx.mono B95.out.size))
    clear B95
    clear hx
    go_wp2_with fail
    refine (I.out (.slice q100 q101 q102) _ O103.out.ints).mono ?_
    rintro e W111 ⟨v110, rfl, hm, hx⟩
    obtain ⟨q112, q113, q114, rfl⟩ := own_shape hm
    have O115 := Lib.hid hm
    have R116 := Lib.hid hm.range
    clear hm
    have Z117 := Lib.hid (hx.size)
    have k118 := (hx.cell (World.block_lt_of_cell? _ _ k106)).trans k106
    clear k106
    have O119 := Lib.hid (O107.out.same hx.block)
    clear O107
    have O120 := Lib.hid (O103.out.same hx.block)
    clear O103
    have B121 := Lib.hid (B108.out.trans (hx.mono B108.out.size))
    clear B108
    have B122 := Lib.hid (B109.out.trans (hx.mono B109.out.size))
    clear B109
    clear hx
    clear O120
    go_wp2_with fail
    refine (eqInt64S_same _ _ rs _ O115.out.ints (RW.out.same B122.out.block)).mono ?_
    rintro e W123x ⟨rfl, n124, hWn⟩
    obtain ⟨W123, hWe⟩ : ∃ W, W = W123x := ⟨_, rfl⟩
    have hx : Below W111.heap.size W111 W123 := by rw [hWe, hWn]; exact below_drewN _ (Below.refl _ _)
    rw [← hWe]
    clear hWn hWe
    have Z125 := Lib.hid (hx.size)
    have k126 := (hx.cell (World.block_lt_of_cell? _ _ k118)).trans k118
    clear k118
    have O127 := Lib.hid (O119.out.same hx.block)
    clear O119
    have O128 := Lib.hid (O115.out.same hx.block)
    clear O115
    have B129 := Lib.hid (B121.out.trans (hx.mono B121.out.size))
    clear B121
    have B130 := Lib.hid (B122.out.trans (hx.mono B122.out.size))
    clear B122
    clear hx
    go_wp2_with fail
    refine (heldInt64S_c (.slice q47 q48 q49) rs.length 1 _ O127.out.ints (by omega) (by have := HXL.out; have := HSZ1.out; omega)).mono ?_
    rintro e W131 ⟨rfl, rfl⟩
    go_wp2_with fail
    go_ret
    exact ⟨rfl, B129.out⟩

namespace fnExactCoordinatesOf_row
theorem own : ownKnob Try.prog.godebug = none := by kernel_rfl
theorem laidOut : laidOutB Try.prog = true := by kernel_rfl
set_option linter.unusedVariables false in
set_option maxRecDepth 100000 in
theorem lifted (os : Os) (started : os.Started) (H : Type) (enc : TypeId × Value → H) :
    ReturnsInHanded {} Try.checked os 5 .any (Rows.fnExactCoordinatesOfSpec.pre6 enc Try.prog Try.f5 Rows.fnExactCoordinatesOfRow.domain false) (Rows.fnExactCoordinatesOfSpec.post enc Try.prog Try.f5 false true false false) := by
  refine returnsInHanded_of_change (C := Try.checked) own started (by kernel_rfl) Try.func5
    (ChangeSpec.witness6 (enc := enc) (C := Try.checked) false ⟨#[], #[.agg #[.slice none 0 0], .int .i64 0], []⟩ 8 (by kernel_rfl) (by kernel_rfl) (by kernel_rfl) (by kernel_rfl)) ?_
  intro W base args ds gs before hval0 hW hcnd _
  have hval : ∀ (j : Nat) t v, Try.f5.params[j]? = some t → args[j]? = some v → Value.okWide Try.prog W .any base t v := hval0
  have hW' := hW
  obtain ⟨p, q, hA0, hV, rfl, hfz, hnd⟩ := hW
  have hA : DataW.TrodAll enc Try.prog W 0 (fun _ => true) true Try.f5.params.toList args.toList ds p := hA0
  rw [Try.params5] at hA hval
  obtain ⟨v0, vs0, d0, ds0, p0, q0, hargs, rfl, rfl, h0, r0⟩ := trodAll_cons hA
  obtain ⟨v1, vs1, d1, ds1, p1, q1, rfl, rfl, rfl, h1, r1⟩ := trodAll_cons r0
  obtain ⟨rfl, rfl, rfl⟩ := trodAll_nil r1
  obtain rfl : args = #[v0, v1] := by cases args; simp_all
  obtain ⟨rfl, rfl⟩ := trodVars_none hV
  have k0 := h0
  have lt0 : ∀ x ∈ p0, x.block < W.heap.size := by obtain ⟨m, hm⟩ := k0; exact DataW.trod_lt m _ _ _ hm
  obtain ⟨x0, y0, n0, rfl, f0⟩ := open_agg1 Try.underlying24 (by kernel_rfl) (by kernel_rfl) (hval 0 24 v0 rfl rfl) h0
  obtain ⟨a0, len0, cap0, z0, e0, w0⟩ := isRows_of Try.underlying22 Try.underlying42 Try.underlying2 (by kernel_rfl) (by kernel_rfl) f0
  obtain rfl : x0 = .slice a0 len0 cap0 := by simpa using e0
  obtain ⟨a1, rfl, rfl, rfl, w1⟩ := open_int Try.underlying2 (hval 1 2 v1 rfl rfl) h1
  clear hA0 hval0
  refine (fnExactCoordinatesOf_walk W a0 len0 cap0 z0 w0 a1 w1).mono fun e W' ⟨he, bel⟩ => ?_
  subst he
  exact ⟨_, rfl, _, _, _, [], _, [], hW', trodAll_mk1 (shut_bool Try.underlying4 _), (trodAll_cons_mk (Below.trod laidOut (by kernel_rfl) (of_decide_eq_true (by kernel_rfl)) k0 bel lt0) (trodAll_cons_mk (shut_int Try.underlying2 w1) trodAll_mk0)), rfl, bel.frame _, fun h => by cases h⟩
theorem over : Rows.fnExactCoordinatesOfRow.holds Try.pinned (OpenSpec.ofChange Rows.fnExactCoordinatesOfSpec) :=
  OpenClaim.holds_of_wide 5 Try.f5 rfl rfl rfl rfl rfl rfl rfl ⟨rfl, rfl, rfl, rfl, rfl⟩ rfl rfl rfl rfl rfl (by kernel_rfl) Try.func5 (by kernel_rfl)
    (of_decide_eq_true (by kernel_rfl)) (by unfold Func.isWrapper; first | (rw [if_pos (by decide +kernel)]; kernel_rfl) | (rw [if_neg (by decide +kernel)]; exact ⟨rfl, rfl⟩))
    (fun os started H enc _ => lifted os started H enc)
end fnExactCoordinatesOf_row
/-- The statement. -/
theorem fnExactCoordinatesOf_proved : Rows.FnExactCoordinatesOfSaid := fnExactCoordinatesOf_row.over
#print axioms fnExactCoordinatesOf_proved
end Go.Proofs.Ytljpjoegeincoaa

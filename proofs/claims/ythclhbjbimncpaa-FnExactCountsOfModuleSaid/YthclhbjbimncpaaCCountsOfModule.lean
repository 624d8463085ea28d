/- What is proved: for every input the law FnExactCountsOfModule returns true and its argument reads behind the call as before: the program's CountsOfModule and the reference's agree, and the result is the call's own. No condition. -/
import Derived.Test.YthclhbjbimncpaaRows
import Derived.Test.YthclhbjbimncpaaLCnt
import Derived.Test.YthclhbjbimncpaaLGen
import Derived.OpenShut
import Derived.ShutString
import Derived.ChangeOld
namespace Go.Proofs.Ythclhbjbimncpaa
open Go.ChangeShapes Go.WideShapes Go.ChangeAt Go.RowKit
open Go.ChangeMaps (open_string shut_string)

set_option maxRecDepth 100000 in
set_option maxHeartbeats 2000000 in
theorem fnExactCountsOfModule_walk (w : World) (a1 : Option Addr) (l1 p1 : Nat) (z1 : List Int) (h1 : IsRow .i64 w a1 l1 p1 z1) (a1q : Option Addr) (l1q p1q : Nat) (t1 : List (List Int)) (h1q : IsRows w a1q l1q t1) :
    Calls Try.prog 10 #[.agg #[.slice a1 l1 p1, .slice a1q l1q p1q]] w fun e w' => e = .returned (.bool true) ∧ Below w.heap.size w w' := by
  have S := Lib.hid (fun (d a : Value) (W : World) (h : ModS W.heap d a (z1.take l1) t1) => readI (specCountsOfModule_c d a (z1.take l1) t1 W h))
  have I := Lib.hid (fun (d a : Value) (W : World) (h : ModS W.heap d a (z1.take l1) t1) => implCountsOfModule_c d a (z1.take l1) t1 W h)
  have HXL := Lib.hid (cmL_len (z1.take l1) t1)
  generalize cmL (z1.take l1) t1 = rs at *
  generalize cmC (z1.take l1) t1 = pc at *
  have u1 : (pc != pc) = false := by simp
  obtain ⟨W0, hW0⟩ : ∃ W, W = (w.alloc (.cells #[.slice a1 l1 p1, .slice a1q l1q p1q] 67)) := ⟨_, rfl⟩
  have hx : Below w.heap.size w W0 := by rw [hW0]; exact ((Below.refl _ _).alloc (by exact Nat.le_refl _) _)
  have hsz : w.heap.size + 1 ≤ W0.heap.size := by rw [hW0]; simp
  have k1 := (two_new w (.slice a1 l1 p1) (.slice a1q l1q p1q) 67).1
  rw [← hW0] at k1
  have k2 := (two_new w (.slice a1 l1 p1) (.slice a1q l1q p1q) 67).2
  rw [← hW0] at k2
  have BW0 := Lib.hid hx
  have Z3 := Lib.hid (hsz)
  have HW0 := Lib.hid hW0
  clear hW0 hx hsz
  have SM1 := Lib.hid (fun (left : Nat) (hl : left ≤ 1048576) (W : World) (hb : Below w.heap.size w W) => szModule_c a1 l1 p1 a1q l1q p1q t1 left W h1.le (h1q.same hb.block hb.size) hl)
  have TM10 := fun (W : World) (hb : Below w.heap.size w W) => toModule_c a1 l1 p1 z1 a1q l1q p1q t1 W (h1.same hb.block) (h1q.same hb.block hb.size)
  have hl1 : (z1.take l1).length = l1 := h1.takeLen
  have HL1 := Lib.hid hl1
  clear hl1
  clear h1 h1q
  go_enter Try.func10, Try.ntmps10
  go_wp2_with fail
  rw [← HW0.out]
  clear HW0
  have S0 := SM1.out 1048576 (Nat.le_refl _) _ BW0.out
  by_cases hz1 : l1 + (t1.length + cnt t1) ≤ 1048576
  rotate_left
  · have e9 : szM l1 t1 1048576 = -1 := by unfold szM; rw [if_neg hz1]
    rw [e9] at S0
    have S1 := Lib.hid S0
    clear S0 e9
    refine (S1.out).mono ?_
    rintro e W ⟨rfl, hx⟩
    have BE := Lib.hid (BW0.out.trans (hx.mono BW0.out.size))
    clear hx
    go_wp2_with fail
    go_ret
    exact ⟨rfl, BE.out⟩
  obtain ⟨left1, hl9⟩ : ∃ left : Nat, szM l1 t1 1048576 = left := ⟨1048576 - (l1 + (t1.length + cnt t1)), by unfold szM; rw [if_pos hz1]; omega⟩
  have HLN : Hid (left1 ≤ 1048576) := by show _ ≤ _; unfold szM at hl9; rw [if_pos hz1] at hl9; have := Nat.le_refl 1048576; omega
  rw [hl9] at S0
  have S1 := Lib.hid S0
  clear S0 hl9
  have TM1 := Lib.hid (fun (W : World) (hb : Below w.heap.size w W) => TM10 W hb (by have := Nat.le_refl 1048576; omega) (by have := Nat.le_refl 1048576; omega))
  have HSZ1 : Hid ((z1.take l1).length + cnt t1 ≤ 1048576) := by show _ ≤ _; rw [HL1.out]; have := Nat.le_refl 1048576; omega
  clear TM10 hz1 SM1
  have HLF := HLN
  clear HLN
  refine (S1.out).mono ?_
  rintro e W4 ⟨rfl, hx⟩
  clear S1
  have Z5 := Lib.hid (hx.size)
  have k6 := (hx.cell (World.block_lt_of_cell? _ _ k1)).trans k1
  clear k1
  have k7 := (hx.cell (World.block_lt_of_cell? _ _ k2)).trans k2
  clear k2
  have B8 := Lib.hid (BW0.out.trans (hx.mono BW0.out.size))
  clear BW0
  clear hx
  go_wp2_with fail
  refine (TM1.out _ B8.out).mono ?_
  rintro e W12 ⟨d9, v10, u11, rfl, hm, hx⟩
  obtain ⟨q13, q14, q15, rfl⟩ := own_shape hm.deg
  obtain ⟨q16, q17, q18, rfl⟩ := own_shape hm.act.row
  have O19 := Lib.hid hm
  have R20 := Lib.hid hm.range
  clear hm
  have Z21 := Lib.hid (hx.size)
  have k22 := (hx.cell (World.block_lt_of_cell? _ _ k6)).trans k6
  clear k6
  have k23 := (hx.cell (World.block_lt_of_cell? _ _ k7)).trans k7
  clear k7
  have B24 := Lib.hid (B8.out.trans (hx.mono B8.out.size))
  clear B8
  clear hx
  go_wp2_with fail
  refine (S.out (.slice q13 q14 q15) (.slice q16 q17 q18) _ O19.out.ints).mono ?_
  rintro e W25 ⟨r1, rfl, hm, hx⟩
  have RW := Lib.hid hm
  clear hm
  have Z26 := Lib.hid (hx.size)
  have k27 := (hx.cell (World.block_lt_of_cell? _ _ k22)).trans k22
  clear k22
  have k28 := (hx.cell (World.block_lt_of_cell? _ _ k23)).trans k23
  clear k23
  have O29 := Lib.hid (O19.out.same hx.block)
  clear O19
  have B30 := Lib.hid (B24.out.trans (hx.mono B24.out.size))
  clear B24
  clear hx
  have B31 := Lib.hid (Below.refl W25.heap.size W25)
  clear O29
  go_wp2_with fail
  refine (TM1.out _ B30.out).mono ?_
  rintro e W35 ⟨d32, v33, u34, rfl, hm, hx⟩
  obtain ⟨q36, q37, q38, rfl⟩ := own_shape hm.deg
  obtain ⟨q39, q40, q41, rfl⟩ := own_shape hm.act.row
  have O42 := Lib.hid hm
  have R43 := Lib.hid hm.range
  clear hm
  have Z44 := Lib.hid (hx.size)
  have k45 := (hx.cell (World.block_lt_of_cell? _ _ k27)).trans k27
  clear k27
  have k46 := (hx.cell (World.block_lt_of_cell? _ _ k28)).trans k28
  clear k28
  have B47 := Lib.hid (B30.out.trans (hx.mono B30.out.size))
  clear B30
  have B48 := Lib.hid (B31.out.trans (hx.mono B31.out.size))
  clear B31
  clear hx
  obtain ⟨W49, E500⟩ : ∃ W, W = W35.alloc (.cells #[.slice q36 q37 q38, .slice q39 q40 q41] 70) := ⟨_, rfl⟩
  have hx : Below W35.heap.size W35 W49 := by rw [E500]; exact (Below.refl _ _).alloc (Nat.le_refl _) _
  have k51 : W49.cell? ⟨W35.heap.size, 0, none⟩ = some (.slice q36 q37 q38) := by rw [E500, World.cell?]; simp only [heap_alloc_new]; rfl
  have k52 : W49.cell? ⟨W35.heap.size, 1, none⟩ = some (.slice q39 q40 q41) := by rw [E500, World.cell?]; simp only [heap_alloc_new]; rfl
  have Z53 := Lib.hid (World.block_lt_of_cell? _ _ k51)
  simp only at Z53
  have Z54 := Lib.hid (hx.size)
  have k55 := (hx.cell (World.block_lt_of_cell? _ _ k45)).trans k45
  clear k45
  have k56 := (hx.cell (World.block_lt_of_cell? _ _ k46)).trans k46
  clear k46
  have O57 := Lib.hid (O42.out.same hx.block)
  clear O42
  have B58 := Lib.hid (B47.out.trans (hx.mono B47.out.size))
  clear B47
  have B59 := Lib.hid (B48.out.trans (hx.mono B48.out.size))
  clear B48
  clear hx
  have E50 := Lib.hid E500
  clear E500
  go_wp2_with fail
  rw [← E50.out]
  clear E50
  go_wp2_with fail
  refine (I.out (.slice q36 q37 q38) (.slice q39 q40 q41) _ O57.out.ints).mono ?_
  rintro e W61 ⟨v60, rfl, hm, hx⟩
  obtain ⟨q62, q63, q64, rfl⟩ := own_shape hm
  have O65 := Lib.hid hm
  have R66 := Lib.hid hm.range
  clear hm
  have Z67 := Lib.hid (hx.size)
  have k68 := (hx.cell (World.block_lt_of_cell? _ _ k55)).trans k55
  clear k55
  have k69 := (hx.cell (World.block_lt_of_cell? _ _ k56)).trans k56
  clear k56
  have k70 := (hx.cell (World.block_lt_of_cell? _ _ k51)).trans k51
  clear k51
  have k71 := (hx.cell (World.block_lt_of_cell? _ _ k52)).trans k52
  clear k52
  have O72 := Lib.hid (O57.out.same hx.block)
  clear O57
  have B73 := Lib.hid (B58.out.trans (hx.mono B58.out.size))
  clear B58
  have B74 := Lib.hid (B59.out.trans (hx.mono B59.out.size))
  clear B59
  clear hx
  go_wp2_with fail
  refine (eqInt64S_same _ _ rs _ O65.out.ints (RW.out.same B74.out.block)).mono ?_
  rintro e W75x ⟨rfl, n76, hWn⟩
  obtain ⟨W75, hWe⟩ : ∃ W, W = W75x := ⟨_, rfl⟩
  have hx : Below W61.heap.size W61 W75 := by rw [hWe, hWn]; exact below_drewN _ (Below.refl _ _)
  rw [← hWe]
  clear hWn hWe
  have Z77 := Lib.hid (hx.size)
  have k78 := (hx.cell (World.block_lt_of_cell? _ _ k68)).trans k68
  clear k68
  have k79 := (hx.cell (World.block_lt_of_cell? _ _ k69)).trans k69
  clear k69
  have k80 := (hx.cell (World.block_lt_of_cell? _ _ k70)).trans k70
  clear k70
  have k81 := (hx.cell (World.block_lt_of_cell? _ _ k71)).trans k71
  clear k71
  have O82 := Lib.hid (O72.out.same hx.block)
  clear O72
  have O83 := Lib.hid (O65.out.same hx.block)
  clear O65
  have B84 := Lib.hid (B73.out.trans (hx.mono B73.out.size))
  clear B73
  have B85 := Lib.hid (B74.out.trans (hx.mono B74.out.size))
  clear B74
  clear hx
  go_wp2_with fail
  go_region_held3 (fun W => W.cell? ⟨W35.heap.size, 0, none⟩ = some (.slice q36 q37 q38) ∧ W.cell? ⟨W35.heap.size, 1, none⟩ = some (.slice q39 q40 q41) ∧ W.cell? ⟨w.heap.size, 0, none⟩ = some (.slice a1 l1 p1) ∧ W.cell? ⟨w.heap.size, 1, none⟩ = some (.slice a1q l1q p1q) ∧ Below W75.heap.size W75 W)
    (first | exact ⟨k80, k81, k78, k79, (Below.refl _ _).drew⟩ | exact heldC4 (by assumption) hx8 | exact heldC4 (by assumption) hx9)
    (first | (go_at_call 57; refine (TM1.out _ (heldC4B B84.out (by assumption) B84.out.size)).mono ?_; rintro e W9 ⟨d9, v9, u9, rfl, hm9, hx9⟩; obtain ⟨e1, e2, e3, rfl⟩ := own_shape hm9.deg; obtain ⟨f1, f2, f3, rfl⟩ := own_shape hm9.act.row) | (go_at_call 59; refine (eqModule_same _ _ _ _ (z1.take l1) t1 _ (O82.out.ints.same (heldC4X (by assumption)).block) hm9.ints).mono ?_; rintro e W8 ⟨rfl, hx8⟩))
  all_goals
    rename_i hh
    obtain ⟨W86, hWe⟩ : ∃ W, W = W8 := ⟨_, rfl⟩
    have hx : Below W75.heap.size W75 W86 := by rw [hWe]; exact heldC4X hh
    rw [← hWe]
    clear hWe hh hx8 hx9 hm9
    have Z87 := Lib.hid (hx.size)
    have k88 := (hx.cell (World.block_lt_of_cell? _ _ k78)).trans k78
    clear k78
    have k89 := (hx.cell (World.block_lt_of_cell? _ _ k79)).trans k79
    clear k79
    have k90 := (hx.cell (World.block_lt_of_cell? _ _ k80)).trans k80
    clear k80
    have k91 := (hx.cell (World.block_lt_of_cell? _ _ k81)).trans k81
    clear k81
    have O92 := Lib.hid (O82.out.same hx.block)
    clear O82
    have O93 := Lib.hid (O83.out.same hx.block)
    clear O83
    have B94 := Lib.hid (B84.out.trans (hx.mono B84.out.size))
    clear B84
    have B95 := Lib.hid (B85.out.trans (hx.mono B85.out.size))
    clear B85
    clear hx
    go_wp2_with fail
    refine (markModule_c (.slice q36 q37 q38) (.slice q39 q40 q41) u34 (z1.take l1) t1 1 W25.heap.size W86 O92.out (by have := Z3.out; have := Z5.out; have := Z21.out; have := Z26.out; have := Z44.out; have := Z53.out; have := Z54.out; have := Z67.out; have := Z77.out; have := Z87.out; omega) (by omega) (by have := HXL.out; have := HSZ1.out; omega)).mono ?_
    rintro e W96 ⟨rfl, hm, hlow, hfr⟩
    have RRR := R43.out
    have hhi : ∀ b, W35.heap.size ≤ b → b < W86.heap.size → W96.heap[b]? = W86.heap[b]? := fun b h1 h2 => hfr b h2 (fun e => by have := RRR.1 b e; omega) (fun u hu e => by have := RRR.2 u hu b e; omega)
    clear RRR
    have O97 := Lib.hid hm
    clear hm
    have Z98 := Lib.hid (hlow.size)
    have k99 := (hlow.cell (p := ⟨w.heap.size, 0, none⟩) (by show w.heap.size < W25.heap.size; exact (by have := Z3.out; have := Z5.out; have := Z21.out; have := Z26.out; have := Z44.out; have := Z53.out; have := Z54.out; have := Z67.out; have := Z77.out; have := Z87.out; have := Z98.out; omega))).trans k88
    clear k88
    have k100 := (hlow.cell (p := ⟨w.heap.size, 1, none⟩) (by show w.heap.size < W25.heap.size; exact (by have := Z3.out; have := Z5.out; have := Z21.out; have := Z26.out; have := Z44.out; have := Z53.out; have := Z54.out; have := Z67.out; have := Z77.out; have := Z87.out; have := Z98.out; omega))).trans k89
    clear k89
    have k101 := (World.cell?_of_block (hhi W35.heap.size (by have := Z3.out; have := Z5.out; have := Z21.out; have := Z26.out; have := Z44.out; have := Z53.out; have := Z54.out; have := Z67.out; have := Z77.out; have := Z87.out; have := Z98.out; omega) (World.block_lt_of_cell? _ _ k90))).trans k90
    clear k90
    have k102 := (World.cell?_of_block (hhi W35.heap.size (by have := Z3.out; have := Z5.out; have := Z21.out; have := Z26.out; have := Z44.out; have := Z53.out; have := Z54.out; have := Z67.out; have := Z77.out; have := Z87.out; have := Z98.out; omega) (World.block_lt_of_cell? _ _ k91))).trans k91
    clear k91
    have O103 := Lib.hid (O93.out.far fun b h1 h2 => hhi b (Nat.le_trans (by have := Z3.out; have := Z5.out; have := Z21.out; have := Z26.out; have := Z44.out; have := Z53.out; have := Z54.out; have := Z67.out; have := Z77.out; have := Z87.out; have := Z98.out; omega) h1) h2)
    clear O93
    have B104 := Lib.hid (B94.out.trans (hlow.mono (by have := Z3.out; have := Z5.out; have := Z21.out; have := Z26.out; have := Z44.out; have := Z53.out; have := Z54.out; have := Z67.out; have := Z77.out; have := Z87.out; have := Z98.out; omega)))
    clear B94
    have B105 := Lib.hid (B95.out.trans (hlow.mono (by have := Z3.out; have := Z5.out; have := Z21.out; have := Z26.out; have := Z44.out; have := Z53.out; have := Z54.out; have := Z67.out; have := Z77.out; have := Z87.out; have := Z98.out; omega)))
    clear B95
    clear hlow hhi hfr
    have t9 : decide ((1 + ((z1.take l1).length : Int) + (cnt t1 : Int)) < 0) = false := by simp; omega
    clear O97
    clear k101
    clear k102
    go_wp2_with fail
    refine (eqInt64S_same _ _ rs _ O103.out.ints (RW.out.same B105.out.block)).mono ?_
    rintro e W106x ⟨rfl, n107, hWn⟩
    obtain ⟨W106, hWe⟩ : ∃ W, W = W106x := ⟨_, rfl⟩
    have hx : Below W96.heap.size W96 W106 := by rw [hWe, hWn]; exact below_drewN _ (Below.refl _ _)
    rw [← hWe]
    clear hWn hWe
    have Z108 := Lib.hid (hx.size)
    have k109 := (hx.cell (World.block_lt_of_cell? _ _ k99)).trans k99
    clear k99
    have k110 := (hx.cell (World.block_lt_of_cell? _ _ k100)).trans k100
    clear k100
    have O111 := Lib.hid (O103.out.same hx.block)
    clear O103
    have B112 := Lib.hid (B104.out.trans (hx.mono B104.out.size))
    clear B104
    have B113 := Lib.hid (B105.out.trans (hx.mono B105.out.size))
    clear B105
    clear hx
    go_wp2_with fail
    refine (markInt64S_c (.slice q62 q63 q64) rs 1 W49.heap.size W106 O111.out (by omega) (by have := HXL.out; have := HSZ1.out; omega)).mono ?_
    rintro e W114 ⟨rfl, hm, hfr⟩
    have hlow : Below W49.heap.size W106 W114 := Below_of_grown hfr (by have := Z3.out; have := Z5.out; have := Z21.out; have := Z26.out; have := Z44.out; have := Z53.out; have := Z54.out; have := Z67.out; have := Z77.out; have := Z87.out; have := Z98.out; have := Z108.out; omega) (fun b hb => (World.ownsRow.lt O111.out b hb).1)
    have RRR := R66.out
    have hhi : ∀ b, W61.heap.size ≤ b → b < W106.heap.size → W114.heap[b]? = W106.heap[b]? := fun b h1 h2 => hfr.block b h2 (fun e => by have := RRR b e.symm; omega)
    clear RRR
    have O115 := Lib.hid hm
    clear hm
    have Z116 := Lib.hid (hlow.size)
    have k117 := (hlow.cell (p := ⟨w.heap.size, 0, none⟩) (by show w.heap.size < W49.heap.size; exact (by have := Z3.out; have := Z5.out; have := Z21.out; have := Z26.out; have := Z44.out; have := Z53.out; have := Z54.out; have := Z67.out; have := Z77.out; have := Z87.out; have := Z98.out; have := Z108.out; have := Z116.out; omega))).trans k109
    clear k109
    have k118 := (hlow.cell (p := ⟨w.heap.size, 1, none⟩) (by show w.heap.size < W49.heap.size; exact (by have := Z3.out; have := Z5.out; have := Z21.out; have := Z26.out; have := Z44.out; have := Z53.out; have := Z54.out; have := Z67.out; have := Z77.out; have := Z87.out; have := Z98.out; have := Z108.out; have := Z116.out; omega))).trans k110
    clear k110
    have B119 := Lib.hid (B112.out.trans (hlow.mono (by have := Z3.out; have := Z5.out; have := Z21.out; have := Z26.out; have := Z44.out; have := Z53.out; have := Z54.out; have := Z67.out; have := Z77.out; have := Z87.out; have := Z98.out; have := Z108.out; have := Z116.out; omega)))
    clear B112
    have B120 := Lib.hid (B113.out.trans (hlow.mono (by have := Z3.out; have := Z5.out; have := Z21.out; have := Z26.out; have := Z44.out; have := Z53.out; have := Z54.out; have := Z67.out; have := Z77.out; have := Z87.out; have := Z98.out; have := Z108.out; have := Z116.out; omega)))
    clear B113
    clear hlow hhi hfr
    go_wp2_with fail
    refine (heldInt64S_c (.slice q62 q63 q64) rs.length 1 _ O115.out.ints (by omega) (by have := HXL.out; have := HSZ1.out; omega)).mono ?_
    rintro e W121 ⟨rfl, rfl⟩
    go_wp2_with fail
    refine (TM1.out _ B119.out).mono ?_
    rintro e W125 ⟨d122, v123, u124, rfl, hm, hx⟩
    obtain ⟨q126, q127, q128, rfl⟩ := own_shape hm.deg
    obtain ⟨q129, q130, q131, rfl⟩ := own_shape hm.act.row
    have O132 := Lib.hid hm
    have R133 := Lib.hid hm.range
    clear hm
    have Z134 := Lib.hid (hx.size)
    have k135 := (hx.cell (World.block_lt_of_cell? _ _ k117)).trans k117
    clear k117
    have k136 := (hx.cell (World.block_lt_of_cell? _ _ k118)).trans k118
    clear k118
    have O137 := Lib.hid (O115.out.same hx.block)
    clear O115
    have B138 := Lib.hid (B119.out.trans (hx.mono B119.out.size))
    clear B119
    have B139 := Lib.hid (B120.out.trans (hx.mono B120.out.size))
    clear B120
    clear hx
    go_wp2_with fail
    refine (I.out (.slice q126 q127 q128) (.slice q129 q130 q131) _ O132.out.ints).mono ?_
    rintro e W141 ⟨v140, rfl, hm, hx⟩
    obtain ⟨q142, q143, q144, rfl⟩ := own_shape hm
    have O145 := Lib.hid hm
    have R146 := Lib.hid hm.range
    clear hm
    have Z147 := Lib.hid (hx.size)
    have k148 := (hx.cell (World.block_lt_of_cell? _ _ k135)).trans k135
    clear k135
    have k149 := (hx.cell (World.block_lt_of_cell? _ _ k136)).trans k136
    clear k136
    have O150 := Lib.hid (O137.out.same hx.block)
    clear O137
    have O151 := Lib.hid (O132.out.same hx.block)
    clear O132
    have B152 := Lib.hid (B138.out.trans (hx.mono B138.out.size))
    clear B138
    have B153 := Lib.hid (B139.out.trans (hx.mono B139.out.size))
    clear B139
    clear hx
    clear O151
    go_wp2_with fail
    refine (eqInt64S_same _ _ rs _ O145.out.ints (RW.out.same B153.out.block)).mono ?_
    rintro e W154x ⟨rfl, n155, hWn⟩
    obtain ⟨W154, hWe⟩ : ∃ W, W = W154x := ⟨_, rfl⟩
    have hx : Below W141.heap.size W141 W154 := by rw [hWe, hWn]; exact below_drewN _ (Below.refl _ _)
    rw [← hWe]
    clear hWn hWe
    have Z156 := Lib.hid (hx.size)
    have k157 := (hx.cell (World.block_lt_of_cell? _ _ k148)).trans k148
    clear k148
    have k158 := (hx.cell (World.block_lt_of_cell? _ _ k149)).trans k149
    clear k149
    have O159 := Lib.hid (O150.out.same hx.block)
    clear O150
    have O160 := Lib.hid (O145.out.same hx.block)
    clear O145
    have B161 := Lib.hid (B152.out.trans (hx.mono B152.out.size))
    clear B152
    have B162 := Lib.hid (B153.out.trans (hx.mono B153.out.size))
    clear B153
    clear hx
    go_wp2_with fail
    refine (heldInt64S_c (.slice q62 q63 q64) rs.length 1 _ O159.out.ints (by omega) (by have := HXL.out; have := HSZ1.out; omega)).mono ?_
    rintro e W163 ⟨rfl, rfl⟩
    go_wp2_with fail
    go_ret
    exact ⟨rfl, B161.out⟩

namespace fnExactCountsOfModule_row
theorem own : ownKnob Try.prog.godebug = none := by kernel_rfl
theorem laidOut : laidOutB Try.prog = true := by kernel_rfl
set_option linter.unusedVariables false in
set_option maxRecDepth 100000 in
theorem lifted (os : Os) (started : os.Started) (H : Type) (enc : TypeId × Value → H) :
    ReturnsInHanded {} Try.checked os 10 .any (Rows.fnExactCountsOfModuleSpec.pre6 enc Try.prog Try.f10 Rows.fnExactCountsOfModuleRow.domain false) (Rows.fnExactCountsOfModuleSpec.post enc Try.prog Try.f10 false true false false) := by
  refine returnsInHanded_of_change (C := Try.checked) own started (by kernel_rfl) Try.func10
    (ChangeSpec.witness6 (enc := enc) (C := Try.checked) false ⟨#[], #[.agg #[.slice none 0 0, .slice none 0 0]], []⟩ 8 (by kernel_rfl) (by kernel_rfl) (by kernel_rfl) (by kernel_rfl)) ?_
  intro W base args ds gs before hval0 hW hcnd _
  have hval : ∀ (j : Nat) t v, Try.f10.params[j]? = some t → args[j]? = some v → Value.okWide Try.prog W .any base t v := hval0
  have hW' := hW
  obtain ⟨p, q, hA0, hV, rfl, hfz, hnd⟩ := hW
  have hA : DataW.TrodAll enc Try.prog W 0 (fun _ => true) true Try.f10.params.toList args.toList ds p := hA0
  rw [Try.params10] at hA hval
  obtain ⟨v0, vs0, d0, ds0, p0, q0, hargs, rfl, rfl, h0, r0⟩ := trodAll_cons hA
  obtain ⟨rfl, rfl, rfl⟩ := trodAll_nil r0
  obtain rfl : args = #[v0] := by cases args; simp_all
  obtain ⟨rfl, rfl⟩ := trodVars_none hV
  have k0 := h0
  have lt0 : ∀ x ∈ p0, x.block < W.heap.size := by obtain ⟨m, hm⟩ := k0; exact DataW.trod_lt m _ _ _ hm
  obtain ⟨x0, x0q, y0, y0q, n0, rfl, -, -, f0, g0⟩ := Go.Joins.open_agg2 Try.underlying67 (by kernel_rfl) (by kernel_rfl) (hval 0 67 v0 rfl rfl) h0
  obtain ⟨a0, len0, cap0, z0, e0, w0⟩ := isRow_of Try.underlying25 Try.underlying2 (by kernel_rfl) f0
  obtain rfl : x0 = .slice a0 len0 cap0 := by simpa using e0
  obtain ⟨a0q, len0q, cap0q, z0q, e0q, w0q⟩ := isRows_of Try.underlying37 Try.underlying25 Try.underlying2 (by kernel_rfl) (by kernel_rfl) g0
  obtain rfl : x0q = .slice a0q len0q cap0q := by simpa using e0q
  clear hA0 hval0
  refine (fnExactCountsOfModule_walk W a0 len0 cap0 z0 w0 a0q len0q cap0q z0q w0q).mono fun e W' ⟨he, bel⟩ => ?_
  subst he
  exact ⟨_, rfl, _, _, _, [], _, [], hW', trodAll_mk1 (shut_bool Try.underlying4 _), (trodAll_cons_mk (Below.trod laidOut (by kernel_rfl) (of_decide_eq_true (by kernel_rfl)) k0 bel lt0) trodAll_mk0), rfl, bel.frame _, fun h => by cases h⟩
theorem over : Rows.fnExactCountsOfModuleRow.holds Try.pinned (OpenSpec.ofChange Rows.fnExactCountsOfModuleSpec) :=
  OpenClaim.holds_of_wide 10 Try.f10 rfl rfl rfl rfl rfl rfl rfl ⟨rfl, rfl, rfl, rfl, rfl⟩ rfl rfl rfl rfl rfl (by kernel_rfl) Try.func10 (by kernel_rfl)
    (of_decide_eq_true (by kernel_rfl)) (by unfold Func.isWrapper; first | (rw [if_pos (by decide +kernel)]; kernel_rfl) | (rw [if_neg (by decide +kernel)]; exact ⟨rfl, rfl⟩))
    (fun os started H enc _ => lifted os started H enc)
end fnExactCountsOfModule_row
/-- The statement. -/
theorem fnExactCountsOfModule_proved : Rows.FnExactCountsOfModuleSaid := fnExactCountsOfModule_row.over
#print axioms fnExactCountsOfModule_proved
end Go.Proofs.Ythclhbjbimncpaa

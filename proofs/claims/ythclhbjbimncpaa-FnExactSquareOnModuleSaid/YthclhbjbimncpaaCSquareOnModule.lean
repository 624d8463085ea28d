/- What is proved: for every input the law FnExactSquareOnModule returns true and its arguments read behind the call as before: the program's SquareOnModule and the reference's agree, and the result is the call's own. No condition. -/
import Derived.Test.YthclhbjbimncpaaRows
import Derived.Test.YthclhbjbimncpaaLSqm2
import Derived.Test.YthclhbjbimncpaaLModArg
import Derived.Test.YthclhbjbimncpaaLGen
import Derived.OpenShut
import Derived.ShutString
import Derived.ChangeOld
namespace Go.Proofs.Ythclhbjbimncpaa
open Go.ChangeShapes Go.WideShapes Go.ChangeAt Go.RowKit
open Go.ChangeMaps (open_string shut_string)

set_option maxRecDepth 100000 in
set_option maxHeartbeats 20000000 in
theorem fnExactSquareOnModule_walk (w : World) (a1 : Option Addr) (l1 p1 : Nat) (z1 : List Int) (h1 : IsRow .i64 w a1 l1 p1 z1) (a1q : Option Addr) (l1q p1q : Nat) (t1 : List (List Int)) (h1q : IsRows w a1q l1q t1) (n : Int) (_hn : (Lit.int .i64 n).wf = true) (a3 : Option Addr) (l3 p3 : Nat) (z3 : List Int) (h3 : IsRow .i64 w a3 l3 p3 z3) :
    Calls Try.prog 11 #[.agg #[.slice a1 l1 p1, .slice a1q l1q p1q], .int .i64 n, .slice a3 l3 p3] w fun e w' => e = .returned (.bool true) ∧ Below w.heap.size w w' := by
  have S := Lib.hid (fun (d a v : Value) (W : World) (h : ModS W.heap d a (z1.take l1) t1) (hv : IntS W.heap v (z3.take l3)) => readI (specSquareOnModule_c d a v (z1.take l1) t1 n (z3.take l3) W h hv))
  have I := Lib.hid (fun (d a v : Value) (W : World) (h : ModS W.heap d a (z1.take l1) t1) (hv : IntS W.heap v (z3.take l3)) => implSquareOnModule_c d a v (z1.take l1) t1 n (z3.take l3) W h hv)
  have HXL := Lib.hid (sqmL_len (z1.take l1) t1 n (z3.take l3))
  generalize sqmL (z1.take l1) t1 n (z3.take l3) = rs at *
  generalize sqmC (z1.take l1) t1 n (z3.take l3) = pc at *
  have u1 : (pc != pc) = false := by simp
  obtain ⟨W0, hW0⟩ : ∃ W, W = (w.alloc (.cells #[.slice a1 l1 p1, .slice a1q l1q p1q] 67)) := ⟨_, rfl⟩
  have hx : Below w.heap.size w W0 := by rw [hW0]; exact ((Below.refl _ _).alloc (by exact Nat.le_refl _) _)
  have hsz : w.heap.size + 1 ≤ W0.heap.size := by rw [hW0]; simp
  have k1 := (two_new w (.slice a1 l1 p1) (.slice a1q l1q p1q) 67).1
  rw [← hW0] at k1
  have k2 := (two_new w (.slice a1 l1 p1) (.slice a1q l1q p1q) 67).2
  rw [← hW0] at k2
  have BW0 := Lib.hid hx
  have Z3 := Lib.hid (hsz)
  have HW0 := Lib.hid hW0
  clear hW0 hx hsz
  have SM1 := Lib.hid (fun (left : Nat) (hl : left ≤ 1048576) (W : World) (hb : Below w.heap.size w W) => szModule_c a1 l1 p1 a1q l1q p1q t1 left W h1.le (h1q.same hb.block hb.size) hl)
  have TM10 := fun (W : World) (hb : Below w.heap.size w W) => toModule_c a1 l1 p1 z1 a1q l1q p1q t1 W (h1.same hb.block) (h1q.same hb.block hb.size)
  have TM30 := fun (W : World) (hb : Below w.heap.size w W) => toInt64S_c a3 l3 p3 z3 W (h3.same hb.block)
  have hl1 : (z1.take l1).length = l1 := h1.takeLen
  have HL1 := Lib.hid hl1
  clear hl1
  have hl3 : (z3.take l3).length = l3 := h3.takeLen
  have HL3 := Lib.hid hl3
  clear hl3
  clear h1 h1q h3
  generalize z1.take l1 = y1 at *
  generalize z3.take l3 = y3 at *
  by_cases hv3 : l3 ≤ 1048576
  rotate_left
  · have u3 : decide ((1048576 : Int) < (l3 : Int)) = true := by simp; omega
    have u3b : decide (1048576 < l3) = true := by simp; omega
    go_enter Try.func11, Try.ntmps11
    go_wp2_with fail
    first | rw [← HW0.out] | skip
    go_ret
    exact ⟨rfl, BW0.out⟩
  have u3 : decide ((1048576 : Int) < (l3 : Int)) = false := by simp; omega
  have u3b : decide (1048576 < l3) = false := by simp; omega
  have TM3 := Lib.hid (fun (W : World) (hb : Below w.heap.size w W) => TM30 W hb hv3)
  have HSZ3 : Hid (y3.length ≤ 1048576) := by show _ ≤ _; rw [HL3.out]; exact hv3
  clear TM30 hv3
  go_enter Try.func11, Try.ntmps11
  go_wp2_with fail
  rw [← HW0.out]
  clear HW0
  have S0 := SM1.out 1048576 (Nat.le_refl _) _ BW0.out
  by_cases hz1 : l1 + (t1.length + cnt t1) ≤ 1048576
  rotate_left
  · have e9 : szM l1 t1 1048576 = -1 := by unfold szM; rw [if_neg hz1]
    rw [e9] at S0
    have S1 := Lib.hid S0
    clear S0 e9
    refine (S1.out).mono ?_
    rintro e W ⟨rfl, hx⟩
    have BE := Lib.hid (BW0.out.trans (hx.mono BW0.out.size))
    clear hx
    go_wp2_with fail
    go_ret
    exact ⟨rfl, BE.out⟩
  obtain ⟨left1, hl9⟩ : ∃ left : Nat, szM l1 t1 1048576 = left := ⟨1048576 - (l1 + (t1.length + cnt t1)), by unfold szM; rw [if_pos hz1]; omega⟩
  have HLN : Hid (left1 ≤ 1048576) := by show _ ≤ _; unfold szM at hl9; rw [if_pos hz1] at hl9; have := Nat.le_refl 1048576; omega
  rw [hl9] at S0
  have S1 := Lib.hid S0
  clear S0 hl9
  have TM1 := Lib.hid (fun (W : World) (hb : Below w.heap.size w W) => TM10 W hb (by have := Nat.le_refl 1048576; omega) (by have := Nat.le_refl 1048576; omega))
  have HSZ1 : Hid (y1.length + cnt t1 ≤ 1048576) := by show _ ≤ _; rw [HL1.out]; have := Nat.le_refl 1048576; omega
  clear TM10 hz1 SM1
  have HLF := HLN
  clear HLN
  refine (S1.out).mono ?_
  rintro e W4 ⟨rfl, hx⟩
  clear S1
  have Z5 := Lib.hid (hx.size)
  have k6 := (hx.cell (World.block_lt_of_cell? _ _ k1)).trans k1
  clear k1
  have k7 := (hx.cell (World.block_lt_of_cell? _ _ k2)).trans k2
  clear k2
  have B8 := Lib.hid (BW0.out.trans (hx.mono BW0.out.size))
  clear BW0
  clear hx
  go_wp2_with fail
  refine (TM1.out _ B8.out).mono ?_
  rintro e W12 ⟨d9, v10, u11, rfl, hm, hx⟩
  obtain ⟨q13, q14, q15, rfl⟩ := own_shape hm.deg
  obtain ⟨q16, q17, q18, rfl⟩ := own_shape hm.act.row
  have O19 := Lib.hid hm
  have R20 := Lib.hid hm.range
  clear hm
  have Z21 := Lib.hid (hx.size)
  have k22 := (hx.cell (World.block_lt_of_cell? _ _ k6)).trans k6
  clear k6
  have k23 := (hx.cell (World.block_lt_of_cell? _ _ k7)).trans k7
  clear k7
  have B24 := Lib.hid (B8.out.trans (hx.mono B8.out.size))
  clear B8
  clear hx
  go_wp2_with fail
  refine (TM3.out _ B24.out).mono ?_
  rintro e W26 ⟨v25, rfl, hm, hx⟩
  obtain ⟨q27, q28, q29, rfl⟩ := own_shape hm
  have O30 := Lib.hid hm
  have R31 := Lib.hid hm.range
  clear hm
  have Z32 := Lib.hid (hx.size)
  have k33 := (hx.cell (World.block_lt_of_cell? _ _ k22)).trans k22
  clear k22
  have k34 := (hx.cell (World.block_lt_of_cell? _ _ k23)).trans k23
  clear k23
  have O35 := Lib.hid (O19.out.same hx.block)
  clear O19
  have B36 := Lib.hid (B24.out.trans (hx.mono B24.out.size))
  clear B24
  clear hx
  go_wp2_with fail
  refine (S.out (.slice q13 q14 q15) (.slice q16 q17 q18) (.slice q27 q28 q29) _ O35.out.ints O30.out.ints).mono ?_
  rintro e W37 ⟨r1, rfl, hm, hx⟩
  have RW := Lib.hid hm
  clear hm
  have Z38 := Lib.hid (hx.size)
  have k39 := (hx.cell (World.block_lt_of_cell? _ _ k33)).trans k33
  clear k33
  have k40 := (hx.cell (World.block_lt_of_cell? _ _ k34)).trans k34
  clear k34
  have O41 := Lib.hid (O35.out.same hx.block)
  clear O35
  have O42 := Lib.hid (O30.out.same hx.block)
  clear O30
  have B43 := Lib.hid (B36.out.trans (hx.mono B36.out.size))
  clear B36
  clear hx
  have B44 := Lib.hid (Below.refl W37.heap.size W37)
  clear O41
  clear O42
  go_wp2_with fail
  refine (TM1.out _ B43.out).mono ?_
  rintro e W48 ⟨d45, v46, u47, rfl, hm, hx⟩
  obtain ⟨q49, q50, q51, rfl⟩ := own_shape hm.deg
  obtain ⟨q52, q53, q54, rfl⟩ := own_shape hm.act.row
  have O55 := Lib.hid hm
  have R56 := Lib.hid hm.range
  clear hm
  have Z57 := Lib.hid (hx.size)
  have k58 := (hx.cell (World.block_lt_of_cell? _ _ k39)).trans k39
  clear k39
  have k59 := (hx.cell (World.block_lt_of_cell? _ _ k40)).trans k40
  clear k40
  have B60 := Lib.hid (B43.out.trans (hx.mono B43.out.size))
  clear B43
  have B61 := Lib.hid (B44.out.trans (hx.mono B44.out.size))
  clear B44
  clear hx
  obtain ⟨W62, E630⟩ : ∃ W, W = W48.alloc (.cells #[.slice q49 q50 q51, .slice q52 q53 q54] 70) := ⟨_, rfl⟩
  have hx : Below W48.heap.size W48 W62 := by rw [E630]; exact (Below.refl _ _).alloc (Nat.le_refl _) _
  have k64 : W62.cell? ⟨W48.heap.size, 0, none⟩ = some (.slice q49 q50 q51) := by rw [E630, World.cell?]; simp only [heap_alloc_new]; rfl
  have k65 : W62.cell? ⟨W48.heap.size, 1, none⟩ = some (.slice q52 q53 q54) := by rw [E630, World.cell?]; simp only [heap_alloc_new]; rfl
  have Z66 := Lib.hid (World.block_lt_of_cell? _ _ k64)
  simp only at Z66
  have Z67 := Lib.hid (hx.size)
  have k68 := (hx.cell (World.block_lt_of_cell? _ _ k58)).trans k58
  clear k58
  have k69 := (hx.cell (World.block_lt_of_cell? _ _ k59)).trans k59
  clear k59
  have O70 := Lib.hid (O55.out.same hx.block)
  clear O55
  have B71 := Lib.hid (B60.out.trans (hx.mono B60.out.size))
  clear B60
  have B72 := Lib.hid (B61.out.trans (hx.mono B61.out.size))
  clear B61
  clear hx
  have E63 := Lib.hid E630
  clear E630
  go_wp2_with fail
  rw [← E63.out]
  clear E63
  go_wp2_with fail
  refine (TM3.out _ B71.out).mono ?_
  rintro e W74 ⟨v73, rfl, hm, hx⟩
  obtain ⟨q75, q76, q77, rfl⟩ := own_shape hm
  have O78 := Lib.hid hm
  have R79 := Lib.hid hm.range
  clear hm
  have Z80 := Lib.hid (hx.size)
  have k81 := (hx.cell (World.block_lt_of_cell? _ _ k68)).trans k68
  clear k68
  have k82 := (hx.cell (World.block_lt_of_cell? _ _ k69)).trans k69
  clear k69
  have k83 := (hx.cell (World.block_lt_of_cell? _ _ k64)).trans k64
  clear k64
  have k84 := (hx.cell (World.block_lt_of_cell? _ _ k65)).trans k65
  clear k65
  have O85 := Lib.hid (O70.out.same hx.block)
  clear O70
  have B86 := Lib.hid (B71.out.trans (hx.mono B71.out.size))
  clear B71
  have B87 := Lib.hid (B72.out.trans (hx.mono B72.out.size))
  clear B72
  clear hx
  go_wp2_with fail
  refine (I.out (.slice q49 q50 q51) (.slice q52 q53 q54) (.slice q75 q76 q77) _ O85.out.ints O78.out.ints).mono ?_
  rintro e W89 ⟨v88, rfl, hm, hx⟩
  obtain ⟨q90, q91, q92, rfl⟩ := own_shape hm
  have O93 := Lib.hid hm
  have R94 := Lib.hid hm.range
  clear hm
  have Z95 := Lib.hid (hx.size)
  have k96 := (hx.cell (World.block_lt_of_cell? _ _ k81)).trans k81
  clear k81
  have k97 := (hx.cell (World.block_lt_of_cell? _ _ k82)).trans k82
  clear k82
  have k98 := (hx.cell (World.block_lt_of_cell? _ _ k83)).trans k83
  clear k83
  have k99 := (hx.cell (World.block_lt_of_cell? _ _ k84)).trans k84
  clear k84
  have O100 := Lib.hid (O85.out.same hx.block)
  clear O85
  have O101 := Lib.hid (O78.out.same hx.block)
  clear O78
  have B102 := Lib.hid (B86.out.trans (hx.mono B86.out.size))
  clear B86
  have B103 := Lib.hid (B87.out.trans (hx.mono B87.out.size))
  clear B87
  clear hx
  go_wp2_with fail
  refine (eqInt64S_same _ _ rs _ O93.out.ints (RW.out.same B103.out.block)).mono ?_
  rintro e W104x ⟨rfl, n105, hWn⟩
  obtain ⟨W104, hWe⟩ : ∃ W, W = W104x := ⟨_, rfl⟩
  have hx : Below W89.heap.size W89 W104 := by rw [hWe, hWn]; exact below_drewN _ (Below.refl _ _)
  rw [← hWe]
  clear hWn hWe
  have Z106 := Lib.hid (hx.size)
  have k107 := (hx.cell (World.block_lt_of_cell? _ _ k96)).trans k96
  clear k96
  have k108 := (hx.cell (World.block_lt_of_cell? _ _ k97)).trans k97
  clear k97
  have k109 := (hx.cell (World.block_lt_of_cell? _ _ k98)).trans k98
  clear k98
  have k110 := (hx.cell (World.block_lt_of_cell? _ _ k99)).trans k99
  clear k99
  have O111 := Lib.hid (O100.out.same hx.block)
  clear O100
  have O112 := Lib.hid (O101.out.same hx.block)
  clear O101
  have O113 := Lib.hid (O93.out.same hx.block)
  clear O93
  have B114 := Lib.hid (B102.out.trans (hx.mono B102.out.size))
  clear B102
  have B115 := Lib.hid (B103.out.trans (hx.mono B103.out.size))
  clear B103
  clear hx
  go_wp2_with fail
  go_region_held3 (fun W => W.cell? ⟨W48.heap.size, 0, none⟩ = some (.slice q49 q50 q51) ∧ W.cell? ⟨W48.heap.size, 1, none⟩ = some (.slice q52 q53 q54) ∧ W.cell? ⟨w.heap.size, 0, none⟩ = some (.slice a1 l1 p1) ∧ W.cell? ⟨w.heap.size, 1, none⟩ = some (.slice a1q l1q p1q) ∧ Below W104.heap.size W104 W)
    (first | exact ⟨k109, k110, k107, k108, (Below.refl _ _).drew⟩ | exact heldC4 (by assumption) hx8 | exact heldC4 (by assumption) hx9)
    (first | (go_at_call 57; refine (TM1.out _ (heldC4B B114.out (by assumption) B114.out.size)).mono ?_; rintro e W9 ⟨d9, v9, u9, rfl, hm9, hx9⟩; obtain ⟨e1, e2, e3, rfl⟩ := own_shape hm9.deg; obtain ⟨f1, f2, f3, rfl⟩ := own_shape hm9.act.row) | (go_at_call 59; refine (eqModule_same _ _ _ _ y1 t1 _ (O111.out.ints.same (heldC4X (by assumption)).block) hm9.ints).mono ?_; rintro e W8 ⟨rfl, hx8⟩))
  all_goals
    rename_i hh
    obtain ⟨W116, hWe⟩ : ∃ W, W = W8 := ⟨_, rfl⟩
    have hx : Below W104.heap.size W104 W116 := by rw [hWe]; exact heldC4X hh
    rw [← hWe]
    clear hWe hh hx8 hx9 hm9
    have Z117 := Lib.hid (hx.size)
    have k118 := (hx.cell (World.block_lt_of_cell? _ _ k107)).trans k107
    clear k107
    have k119 := (hx.cell (World.block_lt_of_cell? _ _ k108)).trans k108
    clear k108
    have k120 := (hx.cell (World.block_lt_of_cell? _ _ k109)).trans k109
    clear k109
    have k121 := (hx.cell (World.block_lt_of_cell? _ _ k110)).trans k110
    clear k110
    have O122 := Lib.hid (O111.out.same hx.block)
    clear O111
    have O123 := Lib.hid (O112.out.same hx.block)
    clear O112
    have O124 := Lib.hid (O113.out.same hx.block)
    clear O113
    have B125 := Lib.hid (B114.out.trans (hx.mono B114.out.size))
    clear B114
    have B126 := Lib.hid (B115.out.trans (hx.mono B115.out.size))
    clear B115
    clear hx
    go_wp2_with fail
    refine (TM3.out _ B125.out).mono ?_
    rintro e W128 ⟨v127, rfl, hm, hx⟩
    obtain ⟨q129, q130, q131, rfl⟩ := own_shape hm
    have O132 := Lib.hid hm
    have R133 := Lib.hid hm.range
    clear hm
    have Z134 := Lib.hid (hx.size)
    have k135 := (hx.cell (World.block_lt_of_cell? _ _ k118)).trans k118
    clear k118
    have k136 := (hx.cell (World.block_lt_of_cell? _ _ k119)).trans k119
    clear k119
    have k137 := (hx.cell (World.block_lt_of_cell? _ _ k120)).trans k120
    clear k120
    have k138 := (hx.cell (World.block_lt_of_cell? _ _ k121)).trans k121
    clear k121
    have O139 := Lib.hid (O122.out.same hx.block)
    clear O122
    have O140 := Lib.hid (O123.out.same hx.block)
    clear O123
    have O141 := Lib.hid (O124.out.same hx.block)
    clear O124
    have B142 := Lib.hid (B125.out.trans (hx.mono B125.out.size))
    clear B125
    have B143 := Lib.hid (B126.out.trans (hx.mono B126.out.size))
    clear B126
    clear hx
    go_wp2_with fail
    refine (eqInt64S_same _ _ y3 _ O140.out.ints O132.out.ints).mono ?_
    rintro e W144x ⟨rfl, n145, hWn⟩
    obtain ⟨W144, hWe⟩ : ∃ W, W = W144x := ⟨_, rfl⟩
    have hx : Below W128.heap.size W128 W144 := by rw [hWe, hWn]; exact below_drewN _ (Below.refl _ _)
    rw [← hWe]
    clear hWn hWe
    have Z146 := Lib.hid (hx.size)
    have k147 := (hx.cell (World.block_lt_of_cell? _ _ k135)).trans k135
    clear k135
    have k148 := (hx.cell (World.block_lt_of_cell? _ _ k136)).trans k136
    clear k136
    have k149 := (hx.cell (World.block_lt_of_cell? _ _ k137)).trans k137
    clear k137
    have k150 := (hx.cell (World.block_lt_of_cell? _ _ k138)).trans k138
    clear k138
    have O151 := Lib.hid (O139.out.same hx.block)
    clear O139
    have O152 := Lib.hid (O140.out.same hx.block)
    clear O140
    have O153 := Lib.hid (O141.out.same hx.block)
    clear O141
    have O154 := Lib.hid (O132.out.same hx.block)
    clear O132
    have B155 := Lib.hid (B142.out.trans (hx.mono B142.out.size))
    clear B142
    have B156 := Lib.hid (B143.out.trans (hx.mono B143.out.size))
    clear B143
    clear hx
    clear O154
    go_wp2_with fail
    refine (markModule_c (.slice q49 q50 q51) (.slice q52 q53 q54) u47 y1 t1 1 W37.heap.size W144 O151.out (by have := Z3.out; have := Z5.out; have := Z21.out; have := Z32.out; have := Z38.out; have := Z57.out; have := Z66.out; have := Z67.out; have := Z80.out; have := Z95.out; have := Z106.out; have := Z117.out; have := Z134.out; have := Z146.out; omega) (by omega) (by have := HXL.out; have := HSZ1.out; have := HSZ3.out; omega)).mono ?_
    rintro e W157 ⟨rfl, hm, hlow, hfr⟩
    have RRR := R56.out
    have hhi : ∀ b, W48.heap.size ≤ b → b < W144.heap.size → W157.heap[b]? = W144.heap[b]? := fun b h1 h2 => hfr b h2 (fun e => by have := RRR.1 b e; omega) (fun u hu e => by have := RRR.2 u hu b e; omega)
    clear RRR
    have O158 := Lib.hid hm
    clear hm
    have Z159 := Lib.hid (hlow.size)
    have k160 := (hlow.cell (p := ⟨w.heap.size, 0, none⟩) (by show w.heap.size < W37.heap.size; exact (by have := Z3.out; have := Z5.out; have := Z21.out; have := Z32.out; have := Z38.out; have := Z57.out; have := Z66.out; have := Z67.out; have := Z80.out; have := Z95.out; have := Z106.out; have := Z117.out; have := Z134.out; have := Z146.out; have := Z159.out; omega))).trans k147
    clear k147
    have k161 := (hlow.cell (p := ⟨w.heap.size, 1, none⟩) (by show w.heap.size < W37.heap.size; exact (by have := Z3.out; have := Z5.out; have := Z21.out; have := Z32.out; have := Z38.out; have := Z57.out; have := Z66.out; have := Z67.out; have := Z80.out; have := Z95.out; have := Z106.out; have := Z117.out; have := Z134.out; have := Z146.out; have := Z159.out; omega))).trans k148
    clear k148
    have k162 := (World.cell?_of_block (hhi W48.heap.size (by have := Z3.out; have := Z5.out; have := Z21.out; have := Z32.out; have := Z38.out; have := Z57.out; have := Z66.out; have := Z67.out; have := Z80.out; have := Z95.out; have := Z106.out; have := Z117.out; have := Z134.out; have := Z146.out; have := Z159.out; omega) (World.block_lt_of_cell? _ _ k149))).trans k149
    clear k149
    have k163 := (World.cell?_of_block (hhi W48.heap.size (by have := Z3.out; have := Z5.out; have := Z21.out; have := Z32.out; have := Z38.out; have := Z57.out; have := Z66.out; have := Z67.out; have := Z80.out; have := Z95.out; have := Z106.out; have := Z117.out; have := Z134.out; have := Z146.out; have := Z159.out; omega) (World.block_lt_of_cell? _ _ k150))).trans k150
    clear k150
    have O164 := Lib.hid (O152.out.far fun b h1 h2 => hhi b (Nat.le_trans (by have := Z3.out; have := Z5.out; have := Z21.out; have := Z32.out; have := Z38.out; have := Z57.out; have := Z66.out; have := Z67.out; have := Z80.out; have := Z95.out; have := Z106.out; have := Z117.out; have := Z134.out; have := Z146.out; have := Z159.out; omega) h1) h2)
    clear O152
    have O165 := Lib.hid (O153.out.far fun b h1 h2 => hhi b (Nat.le_trans (by have := Z3.out; have := Z5.out; have := Z21.out; have := Z32.out; have := Z38.out; have := Z57.out; have := Z66.out; have := Z67.out; have := Z80.out; have := Z95.out; have := Z106.out; have := Z117.out; have := Z134.out; have := Z146.out; have := Z159.out; omega) h1) h2)
    clear O153
    have B166 := Lib.hid (B155.out.trans (hlow.mono (by have := Z3.out; have := Z5.out; have := Z21.out; have := Z32.out; have := Z38.out; have := Z57.out; have := Z66.out; have := Z67.out; have := Z80.out; have := Z95.out; have := Z106.out; have := Z117.out; have := Z134.out; have := Z146.out; have := Z159.out; omega)))
    clear B155
    have B167 := Lib.hid (B156.out.trans (hlow.mono (by have := Z3.out; have := Z5.out; have := Z21.out; have := Z32.out; have := Z38.out; have := Z57.out; have := Z66.out; have := Z67.out; have := Z80.out; have := Z95.out; have := Z106.out; have := Z117.out; have := Z134.out; have := Z146.out; have := Z159.out; omega)))
    clear B156
    clear hlow hhi hfr
    go_wp2_with fail
    refine (markInt64S_c (.slice q75 q76 q77) y3 (1 + (y1.length : Int) + (cnt t1 : Int)) W62.heap.size W157 O164.out (by omega) (by have := HXL.out; have := HSZ1.out; have := HSZ3.out; omega)).mono ?_
    rintro e W168 ⟨rfl, hm, hfr⟩
    have hlow : Below W62.heap.size W157 W168 := Below_of_grown hfr (by have := Z3.out; have := Z5.out; have := Z21.out; have := Z32.out; have := Z38.out; have := Z57.out; have := Z66.out; have := Z67.out; have := Z80.out; have := Z95.out; have := Z106.out; have := Z117.out; have := Z134.out; have := Z146.out; have := Z159.out; omega) (fun b hb => (World.ownsRow.lt O164.out b hb).1)
    have RRR := R79.out
    have hhi : ∀ b, W74.heap.size ≤ b → b < W157.heap.size → W168.heap[b]? = W157.heap[b]? := fun b h1 h2 => hfr.block b h2 (fun e => by have := RRR b e.symm; omega)
    clear RRR
    have O169 := Lib.hid hm
    clear hm
    have Z170 := Lib.hid (hlow.size)
    have k171 := (hlow.cell (p := ⟨w.heap.size, 0, none⟩) (by show w.heap.size < W62.heap.size; exact (by have := Z3.out; have := Z5.out; have := Z21.out; have := Z32.out; have := Z38.out; have := Z57.out; have := Z66.out; have := Z67.out; have := Z80.out; have := Z95.out; have := Z106.out; have := Z117.out; have := Z134.out; have := Z146.out; have := Z159.out; have := Z170.out; omega))).trans k160
    clear k160
    have k172 := (hlow.cell (p := ⟨w.heap.size, 1, none⟩) (by show w.heap.size < W62.heap.size; exact (by have := Z3.out; have := Z5.out; have := Z21.out; have := Z32.out; have := Z38.out; have := Z57.out; have := Z66.out; have := Z67.out; have := Z80.out; have := Z95.out; have := Z106.out; have := Z117.out; have := Z134.out; have := Z146.out; have := Z159.out; have := Z170.out; omega))).trans k161
    clear k161
    clear k162
    clear k163
    have O175 := Lib.hid (O165.out.far fun b h1 h2 => hhi b (Nat.le_trans (by have := Z3.out; have := Z5.out; have := Z21.out; have := Z32.out; have := Z38.out; have := Z57.out; have := Z66.out; have := Z67.out; have := Z80.out; have := Z95.out; have := Z106.out; have := Z117.out; have := Z134.out; have := Z146.out; have := Z159.out; have := Z170.out; omega) h1) h2)
    clear O165
    clear O158
    have B177 := Lib.hid (B166.out.trans (hlow.mono (by have := Z3.out; have := Z5.out; have := Z21.out; have := Z32.out; have := Z38.out; have := Z57.out; have := Z66.out; have := Z67.out; have := Z80.out; have := Z95.out; have := Z106.out; have := Z117.out; have := Z134.out; have := Z146.out; have := Z159.out; have := Z170.out; omega)))
    clear B166
    have B178 := Lib.hid (B167.out.trans (hlow.mono (by have := Z3.out; have := Z5.out; have := Z21.out; have := Z32.out; have := Z38.out; have := Z57.out; have := Z66.out; have := Z67.out; have := Z80.out; have := Z95.out; have := Z106.out; have := Z117.out; have := Z134.out; have := Z146.out; have := Z159.out; have := Z170.out; omega)))
    clear B167
    clear hlow hhi hfr
    have t9 : decide (((1 + (y1.length : Int) + (cnt t1 : Int)) + (y3.length : Int)) < 0) = false := by simp; omega
    clear O169
    go_wp2_with fail
    refine (eqInt64S_same _ _ rs _ O175.out.ints (RW.out.same B178.out.block)).mono ?_
    rintro e W179x ⟨rfl, n180, hWn⟩
    obtain ⟨W179, hWe⟩ : ∃ W, W = W179x := ⟨_, rfl⟩
    have hx : Below W168.heap.size W168 W179 := by rw [hWe, hWn]; exact below_drewN _ (Below.refl _ _)
    rw [← hWe]
    clear hWn hWe
    have Z181 := Lib.hid (hx.size)
    have k182 := (hx.cell (World.block_lt_of_cell? _ _ k171)).trans k171
    clear k171
    have k183 := (hx.cell (World.block_lt_of_cell? _ _ k172)).trans k172
    clear k172
    have O184 := Lib.hid (O175.out.same hx.block)
    clear O175
    have B185 := Lib.hid (B177.out.trans (hx.mono B177.out.size))
    clear B177
    have B186 := Lib.hid (B178.out.trans (hx.mono B178.out.size))
    clear B178
    clear hx
    go_wp2_with fail
    refine (markInt64S_c (.slice q90 q91 q92) rs 1 W74.heap.size W179 O184.out (by omega) (by have := HXL.out; have := HSZ1.out; have := HSZ3.out; omega)).mono ?_
    rintro e W187 ⟨rfl, hm, hfr⟩
    have hlow : Below W74.heap.size W179 W187 := Below_of_grown hfr (by have := Z3.out; have := Z5.out; have := Z21.out; have := Z32.out; have := Z38.out; have := Z57.out; have := Z66.out; have := Z67.out; have := Z80.out; have := Z95.out; have := Z106.out; have := Z117.out; have := Z134.out; have := Z146.out; have := Z159.out; have := Z170.out; have := Z181.out; omega) (fun b hb => (World.ownsRow.lt O184.out b hb).1)
    have RRR := R94.out
    have hhi : ∀ b, W89.heap.size ≤ b → b < W179.heap.size → W187.heap[b]? = W179.heap[b]? := fun b h1 h2 => hfr.block b h2 (fun e => by have := RRR b e.symm; omega)
    clear RRR
    have O188 := Lib.hid hm
    clear hm
    have Z189 := Lib.hid (hlow.size)
    have k190 := (hlow.cell (p := ⟨w.heap.size, 0, none⟩) (by show w.heap.size < W74.heap.size; exact (by have := Z3.out; have := Z5.out; have := Z21.out; have := Z32.out; have := Z38.out; have := Z57.out; have := Z66.out; have := Z67.out; have := Z80.out; have := Z95.out; have := Z106.out; have := Z117.out; have := Z134.out; have := Z146.out; have := Z159.out; have := Z170.out; have := Z181.out; have := Z189.out; omega))).trans k182
    clear k182
    have k191 := (hlow.cell (p := ⟨w.heap.size, 1, none⟩) (by show w.heap.size < W74.heap.size; exact (by have := Z3.out; have := Z5.out; have := Z21.out; have := Z32.out; have := Z38.out; have := Z57.out; have := Z66.out; have := Z67.out; have := Z80.out; have := Z95.out; have := Z106.out; have := Z117.out; have := Z134.out; have := Z146.out; have := Z159.out; have := Z170.out; have := Z181.out; have := Z189.out; omega))).trans k183
    clear k183
    have B192 := Lib.hid (B185.out.trans (hlow.mono (by have := Z3.out; have := Z5.out; have := Z21.out; have := Z32.out; have := Z38.out; have := Z57.out; have := Z66.out; have := Z67.out; have := Z80.out; have := Z95.out; have := Z106.out; have := Z117.out; have := Z134.out; have := Z146.out; have := Z159.out; have := Z170.out; have := Z181.out; have := Z189.out; omega)))
    clear B185
    have B193 := Lib.hid (B186.out.trans (hlow.mono (by have := Z3.out; have := Z5.out; have := Z21.out; have := Z32.out; have := Z38.out; have := Z57.out; have := Z66.out; have := Z67.out; have := Z80.out; have := Z95.out; have := Z106.out; have := Z117.out; have := Z134.out; have := Z146.out; have := Z159.out; have := Z170.out; have := Z181.out; have := Z189.out; omega)))
    clear B186
    clear hlow hhi hfr
    go_wp2_with fail
    refine (heldInt64S_c (.slice q90 q91 q92) rs.length 1 _ O188.out.ints (by omega) (by have := HXL.out; have := HSZ1.out; have := HSZ3.out; omega)).mono ?_
    rintro e W194 ⟨rfl, rfl⟩
    go_wp2_with fail
    refine (TM1.out _ B192.out).mono ?_
    rintro e W198 ⟨d195, v196, u197, rfl, hm, hx⟩
    obtain ⟨q199, q200, q201, rfl⟩ := own_shape hm.deg
    obtain ⟨q202, q203, q204, rfl⟩ := own_shape hm.act.row
    have O205 := Lib.hid hm
    have R206 := Lib.hid hm.range
    clear hm
    have Z207 := Lib.hid (hx.size)
    have k208 := (hx.cell (World.block_lt_of_cell? _ _ k190)).trans k190
    clear k190
    have k209 := (hx.cell (World.block_lt_of_cell? _ _ k191)).trans k191
    clear k191
    have O210 := Lib.hid (O188.out.same hx.block)
    clear O188
    have B211 := Lib.hid (B192.out.trans (hx.mono B192.out.size))
    clear B192
    have B212 := Lib.hid (B193.out.trans (hx.mono B193.out.size))
    clear B193
    clear hx
    go_wp2_with fail
    refine (TM3.out _ B211.out).mono ?_
    rintro e W214 ⟨v213, rfl, hm, hx⟩
    obtain ⟨q215, q216, q217, rfl⟩ := own_shape hm
    have O218 := Lib.hid hm
    have R219 := Lib.hid hm.range
    clear hm
    have Z220 := Lib.hid (hx.size)
    have k221 := (hx.cell (World.block_lt_of_cell? _ _ k208)).trans k208
    clear k208
    have k222 := (hx.cell (World.block_lt_of_cell? _ _ k209)).trans k209
    clear k209
    have O223 := Lib.hid (O210.out.same hx.block)
    clear O210
    have O224 := Lib.hid (O205.out.same hx.block)
    clear O205
    have B225 := Lib.hid (B211.out.trans (hx.mono B211.out.size))
    clear B211
    have B226 := Lib.hid (B212.out.trans (hx.mono B212.out.size))
    clear B212
    clear hx
    go_wp2_with fail
    refine (I.out (.slice q199 q200 q201) (.slice q202 q203 q204) (.slice q215 q216 q217) _ O224.out.ints O218.out.ints).mono ?_
    rintro e W228 ⟨v227, rfl, hm, hx⟩
    obtain ⟨q229, q230, q231, rfl⟩ := own_shape hm
    have O232 := Lib.hid hm
    have R233 := Lib.hid hm.range
    clear hm
    have Z234 := Lib.hid (hx.size)
    have k235 := (hx.cell (World.block_lt_of_cell? _ _ k221)).trans k221
    clear k221
    have k236 := (hx.cell (World.block_lt_of_cell? _ _ k222)).trans k222
    clear k222
    have O237 := Lib.hid (O223.out.same hx.block)
    clear O223
    have O238 := Lib.hid (O224.out.same hx.block)
    clear O224
    have O239 := Lib.hid (O218.out.same hx.block)
    clear O218
    have B240 := Lib.hid (B225.out.trans (hx.mono B225.out.size))
    clear B225
    have B241 := Lib.hid (B226.out.trans (hx.mono B226.out.size))
    clear B226
    clear hx
    clear O238
    clear O239
    go_wp2_with fail
    refine (eqInt64S_same _ _ rs _ O232.out.ints (RW.out.same B241.out.block)).mono ?_
    rintro e W242x ⟨rfl, n243, hWn⟩
    obtain ⟨W242, hWe⟩ : ∃ W, W = W242x := ⟨_, rfl⟩
    have hx : Below W228.heap.size W228 W242 := by rw [hWe, hWn]; exact below_drewN _ (Below.refl _ _)
    rw [← hWe]
    clear hWn hWe
    have Z244 := Lib.hid (hx.size)
    have k245 := (hx.cell (World.block_lt_of_cell? _ _ k235)).trans k235
    clear k235
    have k246 := (hx.cell (World.block_lt_of_cell? _ _ k236)).trans k236
    clear k236
    have O247 := Lib.hid (O237.out.same hx.block)
    clear O237
    have O248 := Lib.hid (O232.out.same hx.block)
    clear O232
    have B249 := Lib.hid (B240.out.trans (hx.mono B240.out.size))
    clear B240
    have B250 := Lib.hid (B241.out.trans (hx.mono B241.out.size))
    clear B241
    clear hx
    go_wp2_with fail
    refine (heldInt64S_c (.slice q90 q91 q92) rs.length 1 _ O247.out.ints (by omega) (by have := HXL.out; have := HSZ1.out; have := HSZ3.out; omega)).mono ?_
    rintro e W251 ⟨rfl, rfl⟩
    go_wp2_with fail
    go_ret
    exact ⟨rfl, B249.out⟩

namespace fnExactSquareOnModule_row
theorem own : ownKnob Try.prog.godebug = none := by kernel_rfl
theorem laidOut : laidOutB Try.prog = true := by kernel_rfl
set_option linter.unusedVariables false in
set_option maxRecDepth 100000 in
theorem lifted (os : Os) (started : os.Started) (H : Type) (enc : TypeId × Value → H) :
    ReturnsInHanded {} Try.checked os 11 .any (Rows.fnExactSquareOnModuleSpec.pre6 enc Try.prog Try.f11 Rows.fnExactSquareOnModuleRow.domain false) (Rows.fnExactSquareOnModuleSpec.post enc Try.prog Try.f11 false true false false) := by
  refine returnsInHanded_of_change (C := Try.checked) own started (by kernel_rfl) Try.func11
    (ChangeSpec.witness6 (enc := enc) (C := Try.checked) false ⟨#[], #[.agg #[.slice none 0 0, .slice none 0 0], .int .i64 0, .slice none 0 0], []⟩ 8 (by kernel_rfl) (by kernel_rfl) (by kernel_rfl) (by kernel_rfl)) ?_
  intro W base args ds gs before hval0 hW hcnd _
  have hval : ∀ (j : Nat) t v, Try.f11.params[j]? = some t → args[j]? = some v → Value.okWide Try.prog W .any base t v := hval0
  have hW' := hW
  obtain ⟨p, q, hA0, hV, rfl, hfz, hnd⟩ := hW
  have hA : DataW.TrodAll enc Try.prog W 0 (fun _ => true) true Try.f11.params.toList args.toList ds p := hA0
  rw [Try.params11] at hA hval
  obtain ⟨v0, vs0, d0, ds0, p0, q0, hargs, rfl, rfl, h0, r0⟩ := trodAll_cons hA
  obtain ⟨v1, vs1, d1, ds1, p1, q1, rfl, rfl, rfl, h1, r1⟩ := trodAll_cons r0
  obtain ⟨v2, vs2, d2, ds2, p2, q2, rfl, rfl, rfl, h2, r2⟩ := trodAll_cons r1
  obtain ⟨rfl, rfl, rfl⟩ := trodAll_nil r2
  obtain rfl : args = #[v0, v1, v2] := by cases args; simp_all
  obtain ⟨rfl, rfl⟩ := trodVars_none hV
  have k0 := h0
  have lt0 : ∀ x ∈ p0, x.block < W.heap.size := by obtain ⟨m, hm⟩ := k0; exact DataW.trod_lt m _ _ _ hm
  obtain ⟨x0, x0q, y0, y0q, n0, rfl, -, -, f0, g0⟩ := Go.Joins.open_agg2 Try.underlying67 (by kernel_rfl) (by kernel_rfl) (hval 0 67 v0 rfl rfl) h0
  obtain ⟨a0, len0, cap0, z0, e0, w0⟩ := isRow_of Try.underlying25 Try.underlying2 (by kernel_rfl) f0
  obtain rfl : x0 = .slice a0 len0 cap0 := by simpa using e0
  obtain ⟨a0q, len0q, cap0q, z0q, e0q, w0q⟩ := isRows_of Try.underlying37 Try.underlying25 Try.underlying2 (by kernel_rfl) (by kernel_rfl) g0
  obtain rfl : x0q = .slice a0q len0q cap0q := by simpa using e0q
  obtain ⟨a1, rfl, rfl, rfl, w1⟩ := open_int Try.underlying2 (hval 1 2 v1 rfl rfl) h1
  obtain ⟨a2, len2, cap2, rfl⟩ := okWide_slice Try.underlying25 (hval 2 25 v2 rfl rfl)
  have k2 := h2
  have lt2 : ∀ x ∈ p2, x.block < W.heap.size := by obtain ⟨m, hm⟩ := k2; exact DataW.trod_lt m _ _ _ hm
  obtain ⟨z2, w2⟩ : ∃ zs, IsRow .i64 W a2 len2 cap2 zs := by
    obtain ⟨fuel, hf⟩ := h2
    rcases open_ints Try.underlying25 Try.underlying2 (by kernel_rfl) hf with ⟨hcs, _⟩ | ⟨x, l, c, zs, hcs, _, hl, hm, hz, _, hcell, hwz⟩
    · simp [Value.cells] at hcs
      obtain ⟨rfl, rfl, rfl⟩ := hcs
      exact ⟨[], .inl ⟨rfl, rfl, rfl, rfl⟩⟩
    · simp [Value.cells] at hcs
      obtain ⟨rfl, rfl, rfl⟩ := hcs
      exact ⟨zs, .inr ⟨_, rfl, hl, hm, by simpa using hz, hcell, hwz⟩⟩
  clear hA0 hval0
  refine (fnExactSquareOnModule_walk W a0 len0 cap0 z0 w0 a0q len0q cap0q z0q w0q a1 w1 a2 len2 cap2 z2 w2).mono fun e W' ⟨he, bel⟩ => ?_
  subst he
  exact ⟨_, rfl, _, _, _, [], _, [], hW', trodAll_mk1 (shut_bool Try.underlying4 _), (trodAll_cons_mk (Below.trod laidOut (by kernel_rfl) (of_decide_eq_true (by kernel_rfl)) k0 bel lt0) (trodAll_cons_mk (shut_int Try.underlying2 w1) (trodAll_cons_mk (Below.trod laidOut (by kernel_rfl) (of_decide_eq_true (by kernel_rfl)) k2 bel lt2) trodAll_mk0))), rfl, bel.frame _, fun h => by cases h⟩
theorem over : Rows.fnExactSquareOnModuleRow.holds Try.pinned (OpenSpec.ofChange Rows.fnExactSquareOnModuleSpec) :=
  OpenClaim.holds_of_wide 11 Try.f11 rfl rfl rfl rfl rfl rfl rfl ⟨rfl, rfl, rfl, rfl, rfl⟩ rfl rfl rfl rfl rfl (by kernel_rfl) Try.func11 (by kernel_rfl)
    (of_decide_eq_true (by kernel_rfl)) (by unfold Func.isWrapper; first | (rw [if_pos (by decide +kernel)]; kernel_rfl) | (rw [if_neg (by decide +kernel)]; exact ⟨rfl, rfl⟩))
    (fun os started H enc _ => lifted os started H enc)
end fnExactSquareOnModule_row
/-- The statement. -/
theorem fnExactSquareOnModule_proved : Rows.FnExactSquareOnModuleSaid := fnExactSquareOnModule_row.over
#print axioms fnExactSquareOnModule_proved
end Go.Proofs.Ythclhbjbimncpaa

/- What is proved: for every input the law FnExactDualOfModule returns true and its argument reads behind the call as before: the program's DualOfModule and the reference's agree, and the result is the call's own. No condition. -/
import Derived.Test.YtljfpkhgijangaaRows
import Derived.Test.YtljfpkhgijangaaLDuT
import Derived.Test.YtljfpkhgijangaaLModArg
import Derived.Test.YtljfpkhgijangaaLGen
import Derived.OpenShut
import Derived.ShutString
import Derived.ChangeOld
namespace Go.Proofs.Ytljfpkhgijangaa
open Go.ChangeShapes Go.WideShapes Go.ChangeAt Go.RowKit
open Go.ChangeMaps (open_string shut_string)

set_option maxRecDepth 100000 in
set_option maxHeartbeats 20000000 in
theorem fnExactDualOfModule_walk (w : World) (a1 : Option Addr) (l1 p1 : Nat) (z1 : List Int) (h1 : IsRow .i64 w a1 l1 p1 z1) (a1q : Option Addr) (l1q p1q : Nat) (t1 : List (List Int)) (h1q : IsRows w a1q l1q t1) :
    Calls Try.prog 5 #[.agg #[.slice a1 l1 p1, .slice a1q l1q p1q]] w fun e w' => e = .returned (.bool true) ∧ Below w.heap.size w w' := by
  have S := Lib.hid (fun (d a : Value) (W : World) (h : ModS W.heap d a (z1.take l1) t1) => specDualOfModule_c d a (z1.take l1) t1 W h)
  have I := Lib.hid (fun (d a : Value) (W : World) (h : ModS W.heap d a (z1.take l1) t1) => implDualOfModule_c d a (z1.take l1) t1 W h)
  have HXL := Lib.hid (dum_bounds (z1.take l1) t1)
  generalize dumD (z1.take l1) t1 = rd at *
  generalize dumA (z1.take l1) t1 = ra at *
  generalize (if isMod (z1.take l1) t1 = true then (0 : Int) else 1) = pc at *
  have u1 : (pc != pc) = false := by simp
  obtain ⟨W0, hW0⟩ : ∃ W, W = (w.alloc (.cells #[.slice a1 l1 p1, .slice a1q l1q p1q] 58)) := ⟨_, rfl⟩
  have hx : Below w.heap.size w W0 := by rw [hW0]; exact ((Below.refl _ _).alloc (by exact Nat.le_refl _) _)
  have hsz : w.heap.size + 1 ≤ W0.heap.size := by rw [hW0]; simp
  have k1 := (two_new w (.slice a1 l1 p1) (.slice a1q l1q p1q) 58).1
  rw [← hW0] at k1
  have k2 := (two_new w (.slice a1 l1 p1) (.slice a1q l1q p1q) 58).2
  rw [← hW0] at k2
  have BW0 := Lib.hid hx
  have Z3 := Lib.hid (hsz)
  have HW0 := Lib.hid hW0
  clear hW0 hx hsz
  have SM1 := Lib.hid (fun (left : Nat) (hl : left ≤ 1048576) (W : World) (hb : Below w.heap.size w W) => szModule_c a1 l1 p1 a1q l1q p1q t1 left W h1.le (h1q.same hb.block hb.size) hl)
  have TM10 := fun (W : World) (hb : Below w.heap.size w W) => toModule_c a1 l1 p1 z1 a1q l1q p1q t1 W (h1.same hb.block) (h1q.same hb.block hb.size)
  have hl1 : (z1.take l1).length = l1 := h1.takeLen
  have HL1 := Lib.hid hl1
  clear hl1
  clear h1 h1q
  generalize z1.take l1 = y1 at *
  go_enter Try.func5, Try.ntmps5
  go_wp2_with fail
  rw [← HW0.out]
  clear HW0
  have S0 := SM1.out 1048576 (Nat.le_refl _) _ BW0.out
  by_cases hz1 : l1 + (t1.length + cnt t1) ≤ 1048576
  rotate_left
  · have e9 : szM l1 t1 1048576 = -1 := by unfold szM; rw [if_neg hz1]
    rw [e9] at S0
    have S1 := Lib.hid S0
    clear S0 e9
    refine (S1.out).mono ?_
    rintro e W ⟨rfl, hx⟩
    have BE := Lib.hid (BW0.out.trans (hx.mono BW0.out.size))
    clear hx
    go_wp2_with fail
    go_ret
    exact ⟨rfl, BE.out⟩
  obtain ⟨left1, hl9⟩ : ∃ left : Nat, szM l1 t1 1048576 = left := ⟨1048576 - (l1 + (t1.length + cnt t1)), by unfold szM; rw [if_pos hz1]; omega⟩
  have HLN : Hid (left1 ≤ 1048576) := by show _ ≤ _; unfold szM at hl9; rw [if_pos hz1] at hl9; have := Nat.le_refl 1048576; omega
  rw [hl9] at S0
  have S1 := Lib.hid S0
  clear S0 hl9
  have TM1 := Lib.hid (fun (W : World) (hb : Below w.heap.size w W) => TM10 W hb (by have := Nat.le_refl 1048576; omega) (by have := Nat.le_refl 1048576; omega))
  have HSZ1 : Hid (y1.length + cnt t1 ≤ 1048576) := by show _ ≤ _; rw [HL1.out]; have := Nat.le_refl 1048576; omega
  clear TM10 hz1 SM1
  have HLF := HLN
  clear HLN
  refine (S1.out).mono ?_
  rintro e W4 ⟨rfl, hx⟩
  clear S1
  have Z5 := Lib.hid (hx.size)
  have k6 := (hx.cell (World.block_lt_of_cell? _ _ k1)).trans k1
  clear k1
  have k7 := (hx.cell (World.block_lt_of_cell? _ _ k2)).trans k2
  clear k2
  have B8 := Lib.hid (BW0.out.trans (hx.mono BW0.out.size))
  clear BW0
  clear hx
  go_wp2_with fail
  refine (TM1.out _ B8.out).mono ?_
  rintro e W12 ⟨d9, v10, u11, rfl, hm, hx⟩
  obtain ⟨q13, q14, q15, rfl⟩ := own_shape hm.deg
  obtain ⟨q16, q17, q18, rfl⟩ := own_shape hm.act.row
  have O19 := Lib.hid hm
  have R20 := Lib.hid hm.range
  clear hm
  have Z21 := Lib.hid (hx.size)
  have k22 := (hx.cell (World.block_lt_of_cell? _ _ k6)).trans k6
  clear k6
  have k23 := (hx.cell (World.block_lt_of_cell? _ _ k7)).trans k7
  clear k7
  have B24 := Lib.hid (B8.out.trans (hx.mono B8.out.size))
  clear B8
  clear hx
  go_wp2_with fail
  refine (S.out (.slice q13 q14 q15) (.slice q16 q17 q18) _ O19.out.ints).mono ?_
  rintro e W25 ⟨r1, r2, rfl, hm, hx⟩
  obtain ⟨⟨j1, j2, rfl, -⟩, ⟨j3, j4, rfl, -⟩⟩ := And.intro hm.1.len hm.2.len
  have RW := Lib.hid hm
  clear hm
  have Z26 := Lib.hid (hx.size)
  have k27 := (hx.cell (World.block_lt_of_cell? _ _ k22)).trans k22
  clear k22
  have k28 := (hx.cell (World.block_lt_of_cell? _ _ k23)).trans k23
  clear k23
  have O29 := Lib.hid (O19.out.same hx.block)
  clear O19
  have B30 := Lib.hid (B24.out.trans (hx.mono B24.out.size))
  clear B24
  clear hx
  have B31 := Lib.hid (Below.refl W25.heap.size W25)
  obtain ⟨W32, E330⟩ : ∃ W, W = W25.alloc (.cells #[.slice j1 rd.length j2, .slice j3 ra.length j4] 60) := ⟨_, rfl⟩
  have hx : Below W25.heap.size W25 W32 := by rw [E330]; exact (Below.refl _ _).alloc (Nat.le_refl _) _
  have k34 : W32.cell? ⟨W25.heap.size, 0, none⟩ = some (.slice j1 rd.length j2) := by rw [E330, World.cell?]; simp only [heap_alloc_new]; rfl
  have k35 : W32.cell? ⟨W25.heap.size, 1, none⟩ = some (.slice j3 ra.length j4) := by rw [E330, World.cell?]; simp only [heap_alloc_new]; rfl
  have kx0 := Go.Lib.cell?_alloc_some (.cells #[.slice j1 rd.length j2, .slice j3 ra.length j4] 60) k27
  have kx1 := Go.Lib.cell?_alloc_some (.cells #[.slice j1 rd.length j2, .slice j3 ra.length j4] 60) k28
  have Z36 := Lib.hid (World.block_lt_of_cell? _ _ k34)
  simp only at Z36
  have Z37 := Lib.hid (hx.size)
  have k38 := (hx.cell (World.block_lt_of_cell? _ _ k27)).trans k27
  clear k27
  have k39 := (hx.cell (World.block_lt_of_cell? _ _ k28)).trans k28
  clear k28
  have O40 := Lib.hid (O29.out.same hx.block)
  clear O29
  have B41 := Lib.hid (B30.out.trans (hx.mono B30.out.size))
  clear B30
  have B42 := Lib.hid (B31.out.trans (hx.mono B31.out.size))
  clear B31
  clear hx
  have E33 := Lib.hid E330
  clear E330
  go_wp2_with fail
  rw [← E33.out]
  clear E33 kx0 kx1
  clear O40
  go_wp2_with fail
  refine (TM1.out _ B41.out).mono ?_
  rintro e W46 ⟨d43, v44, u45, rfl, hm, hx⟩
  obtain ⟨q47, q48, q49, rfl⟩ := own_shape hm.deg
  obtain ⟨q50, q51, q52, rfl⟩ := own_shape hm.act.row
  have O53 := Lib.hid hm
  have R54 := Lib.hid hm.range
  clear hm
  have Z55 := Lib.hid (hx.size)
  have k56 := (hx.cell (World.block_lt_of_cell? _ _ k38)).trans k38
  clear k38
  have k57 := (hx.cell (World.block_lt_of_cell? _ _ k39)).trans k39
  clear k39
  have k58 := (hx.cell (World.block_lt_of_cell? _ _ k34)).trans k34
  clear k34
  have k59 := (hx.cell (World.block_lt_of_cell? _ _ k35)).trans k35
  clear k35
  have B60 := Lib.hid (B41.out.trans (hx.mono B41.out.size))
  clear B41
  have B61 := Lib.hid (B42.out.trans (hx.mono B42.out.size))
  clear B42
  clear hx
  obtain ⟨W62, E630⟩ : ∃ W, W = W46.alloc (.cells #[.slice q47 q48 q49, .slice q50 q51 q52] 60) := ⟨_, rfl⟩
  have hx : Below W46.heap.size W46 W62 := by rw [E630]; exact (Below.refl _ _).alloc (Nat.le_refl _) _
  have k64 : W62.cell? ⟨W46.heap.size, 0, none⟩ = some (.slice q47 q48 q49) := by rw [E630, World.cell?]; simp only [heap_alloc_new]; rfl
  have k65 : W62.cell? ⟨W46.heap.size, 1, none⟩ = some (.slice q50 q51 q52) := by rw [E630, World.cell?]; simp only [heap_alloc_new]; rfl
  have kx0 := Go.Lib.cell?_alloc_some (.cells #[.slice q47 q48 q49, .slice q50 q51 q52] 60) k56
  have kx1 := Go.Lib.cell?_alloc_some (.cells #[.slice q47 q48 q49, .slice q50 q51 q52] 60) k57
  have kx2 := Go.Lib.cell?_alloc_some (.cells #[.slice q47 q48 q49, .slice q50 q51 q52] 60) k58
  have kx3 := Go.Lib.cell?_alloc_some (.cells #[.slice q47 q48 q49, .slice q50 q51 q52] 60) k59
  have Z66 := Lib.hid (World.block_lt_of_cell? _ _ k64)
  simp only at Z66
  have Z67 := Lib.hid (hx.size)
  have k68 := (hx.cell (World.block_lt_of_cell? _ _ k56)).trans k56
  clear k56
  have k69 := (hx.cell (World.block_lt_of_cell? _ _ k57)).trans k57
  clear k57
  have k70 := (hx.cell (World.block_lt_of_cell? _ _ k58)).trans k58
  clear k58
  have k71 := (hx.cell (World.block_lt_of_cell? _ _ k59)).trans k59
  clear k59
  have O72 := Lib.hid (O53.out.same hx.block)
  clear O53
  have B73 := Lib.hid (B60.out.trans (hx.mono B60.out.size))
  clear B60
  have B74 := Lib.hid (B61.out.trans (hx.mono B61.out.size))
  clear B61
  clear hx
  have E63 := Lib.hid E630
  clear E630
  go_wp2_with fail
  rw [← E63.out]
  clear E63 kx0 kx1 kx2 kx3
  go_wp2_with fail
  refine (I.out (.slice q47 q48 q49) (.slice q50 q51 q52) _ O72.out.ints).mono ?_
  rintro e W78 ⟨d75, v76, u77, rfl, hm, hx⟩
  obtain ⟨q79, q80, q81, rfl⟩ := own_shape hm.deg
  obtain ⟨q82, q83, q84, rfl⟩ := own_shape hm.act.row
  have O85 := Lib.hid hm
  have R86 := Lib.hid hm.range
  clear hm
  have Z87 := Lib.hid (hx.size)
  have k88 := (hx.cell (World.block_lt_of_cell? _ _ k68)).trans k68
  clear k68
  have k89 := (hx.cell (World.block_lt_of_cell? _ _ k69)).trans k69
  clear k69
  have k90 := (hx.cell (World.block_lt_of_cell? _ _ k70)).trans k70
  clear k70
  have k91 := (hx.cell (World.block_lt_of_cell? _ _ k71)).trans k71
  clear k71
  have k92 := (hx.cell (World.block_lt_of_cell? _ _ k64)).trans k64
  clear k64
  have k93 := (hx.cell (World.block_lt_of_cell? _ _ k65)).trans k65
  clear k65
  have O94 := Lib.hid (O72.out.same hx.block)
  clear O72
  have B95 := Lib.hid (B73.out.trans (hx.mono B73.out.size))
  clear B73
  have B96 := Lib.hid (B74.out.trans (hx.mono B74.out.size))
  clear B74
  clear hx
  obtain ⟨W97, E980⟩ : ∃ W, W = W78.alloc (.cells #[.slice q79 q80 q81, .slice q82 q83 q84] 60) := ⟨_, rfl⟩
  have hx : Below W78.heap.size W78 W97 := by rw [E980]; exact (Below.refl _ _).alloc (Nat.le_refl _) _
  have k99 : W97.cell? ⟨W78.heap.size, 0, none⟩ = some (.slice q79 q80 q81) := by rw [E980, World.cell?]; simp only [heap_alloc_new]; rfl
  have k100 : W97.cell? ⟨W78.heap.size, 1, none⟩ = some (.slice q82 q83 q84) := by rw [E980, World.cell?]; simp only [heap_alloc_new]; rfl
  have kx0 := Go.Lib.cell?_alloc_some (.cells #[.slice q79 q80 q81, .slice q82 q83 q84] 60) k88
  have kx1 := Go.Lib.cell?_alloc_some (.cells #[.slice q79 q80 q81, .slice q82 q83 q84] 60) k89
  have kx2 := Go.Lib.cell?_alloc_some (.cells #[.slice q79 q80 q81, .slice q82 q83 q84] 60) k90
  have kx3 := Go.Lib.cell?_alloc_some (.cells #[.slice q79 q80 q81, .slice q82 q83 q84] 60) k91
  have kx4 := Go.Lib.cell?_alloc_some (.cells #[.slice q79 q80 q81, .slice q82 q83 q84] 60) k92
  have kx5 := Go.Lib.cell?_alloc_some (.cells #[.slice q79 q80 q81, .slice q82 q83 q84] 60) k93
  have Z101 := Lib.hid (World.block_lt_of_cell? _ _ k99)
  simp only at Z101
  have Z102 := Lib.hid (hx.size)
  have k103 := (hx.cell (World.block_lt_of_cell? _ _ k88)).trans k88
  clear k88
  have k104 := (hx.cell (World.block_lt_of_cell? _ _ k89)).trans k89
  clear k89
  have k105 := (hx.cell (World.block_lt_of_cell? _ _ k90)).trans k90
  clear k90
  have k106 := (hx.cell (World.block_lt_of_cell? _ _ k91)).trans k91
  clear k91
  have k107 := (hx.cell (World.block_lt_of_cell? _ _ k92)).trans k92
  clear k92
  have k108 := (hx.cell (World.block_lt_of_cell? _ _ k93)).trans k93
  clear k93
  have O109 := Lib.hid (O94.out.same hx.block)
  clear O94
  have O110 := Lib.hid (O85.out.same hx.block)
  clear O85
  have B111 := Lib.hid (B95.out.trans (hx.mono B95.out.size))
  clear B95
  have B112 := Lib.hid (B96.out.trans (hx.mono B96.out.size))
  clear B96
  clear hx
  have E98 := Lib.hid E980
  clear E980
  go_wp2_with fail
  rw [← E98.out]
  clear E98 kx0 kx1 kx2 kx3 kx4 kx5
  go_wp2_with fail
  refine (eqModule_same _ _ _ _ rd ra _ O110.out.ints (RW.out.same B112.out.block)).mono ?_
  rintro e W113 ⟨rfl, hx⟩
  have Z114 := Lib.hid (hx.size)
  have k115 := (hx.cell (World.block_lt_of_cell? _ _ k103)).trans k103
  clear k103
  have k116 := (hx.cell (World.block_lt_of_cell? _ _ k104)).trans k104
  clear k104
  have k117 := (hx.cell (World.block_lt_of_cell? _ _ k105)).trans k105
  clear k105
  have k118 := (hx.cell (World.block_lt_of_cell? _ _ k106)).trans k106
  clear k106
  have k119 := (hx.cell (World.block_lt_of_cell? _ _ k107)).trans k107
  clear k107
  have k120 := (hx.cell (World.block_lt_of_cell? _ _ k108)).trans k108
  clear k108
  have k121 := (hx.cell (World.block_lt_of_cell? _ _ k99)).trans k99
  clear k99
  have k122 := (hx.cell (World.block_lt_of_cell? _ _ k100)).trans k100
  clear k100
  have O123 := Lib.hid (O109.out.same hx.block)
  clear O109
  have O124 := Lib.hid (O110.out.same hx.block)
  clear O110
  have B125 := Lib.hid (B111.out.trans (hx.mono B111.out.size))
  clear B111
  have B126 := Lib.hid (B112.out.trans (hx.mono B112.out.size))
  clear B112
  clear hx
  go_wp2_with fail
  go_region_held3 (fun W => W.cell? ⟨W46.heap.size, 0, none⟩ = some (.slice q47 q48 q49) ∧ W.cell? ⟨W46.heap.size, 1, none⟩ = some (.slice q50 q51 q52) ∧ W.cell? ⟨w.heap.size, 0, none⟩ = some (.slice a1 l1 p1) ∧ W.cell? ⟨w.heap.size, 1, none⟩ = some (.slice a1q l1q p1q) ∧ Below W113.heap.size W113 W)
    (first | exact ⟨k119, k120, k115, k116, (Below.refl _ _).drew⟩ | exact heldC4 (by assumption) hx8 | exact heldC4 (by assumption) hx9)
    (first | (go_at_call 46; refine (TM1.out _ (heldC4B B125.out (by assumption) B125.out.size)).mono ?_; rintro e W9 ⟨d9, v9, u9, rfl, hm9, hx9⟩; obtain ⟨e1, e2, e3, rfl⟩ := own_shape hm9.deg; obtain ⟨f1, f2, f3, rfl⟩ := own_shape hm9.act.row) | (go_at_call 48; refine (eqModule_same _ _ _ _ y1 t1 _ (O123.out.ints.same (heldC4X (by assumption)).block) hm9.ints).mono ?_; rintro e W8 ⟨rfl, hx8⟩))
  all_goals
    rename_i hh
    obtain ⟨W127, hWe⟩ : ∃ W, W = W8 := ⟨_, rfl⟩
    have hx : Below W113.heap.size W113 W127 := by rw [hWe]; exact heldC4X hh
    rw [← hWe]
    clear hWe hh hx8 hx9 hm9
    have Z128 := Lib.hid (hx.size)
    have k129 := (hx.cell (World.block_lt_of_cell? _ _ k115)).trans k115
    clear k115
    have k130 := (hx.cell (World.block_lt_of_cell? _ _ k116)).trans k116
    clear k116
    have k131 := (hx.cell (World.block_lt_of_cell? _ _ k117)).trans k117
    clear k117
    have k132 := (hx.cell (World.block_lt_of_cell? _ _ k118)).trans k118
    clear k118
    have k133 := (hx.cell (World.block_lt_of_cell? _ _ k119)).trans k119
    clear k119
    have k134 := (hx.cell (World.block_lt_of_cell? _ _ k120)).trans k120
    clear k120
    have k135 := (hx.cell (World.block_lt_of_cell? _ _ k121)).trans k121
    clear k121
    have k136 := (hx.cell (World.block_lt_of_cell? _ _ k122)).trans k122
    clear k122
    have O137 := Lib.hid (O123.out.same hx.block)
    clear O123
    have O138 := Lib.hid (O124.out.same hx.block)
    clear O124
    have B139 := Lib.hid (B125.out.trans (hx.mono B125.out.size))
    clear B125
    have B140 := Lib.hid (B126.out.trans (hx.mono B126.out.size))
    clear B126
    clear hx
    go_wp2_with fail
    refine (markModule_c (.slice q47 q48 q49) (.slice q50 q51 q52) u45 y1 t1 1 W32.heap.size W127 O137.out (by have := Z3.out; have := Z5.out; have := Z21.out; have := Z26.out; have := Z36.out; have := Z37.out; have := Z55.out; have := Z66.out; have := Z67.out; have := Z87.out; have := Z101.out; have := Z102.out; have := Z114.out; have := Z128.out; omega) (by omega) (by have := HXL.out; have := HSZ1.out; omega)).mono ?_
    rintro e W141 ⟨rfl, hm, hlow, hfr⟩
    have RRR := R54.out
    have hhi : ∀ b, W46.heap.size ≤ b → b < W127.heap.size → W141.heap[b]? = W127.heap[b]? := fun b h1 h2 => hfr b h2 (fun e => by have := RRR.1 b e; omega) (fun u hu e => by have := RRR.2 u hu b e; omega)
    clear RRR
    have O142 := Lib.hid hm
    clear hm
    have Z143 := Lib.hid (hlow.size)
    have k144 := (hlow.cell (p := ⟨w.heap.size, 0, none⟩) (by show w.heap.size < W32.heap.size; exact (by have := Z3.out; have := Z5.out; have := Z21.out; have := Z26.out; have := Z36.out; have := Z37.out; have := Z55.out; have := Z66.out; have := Z67.out; have := Z87.out; have := Z101.out; have := Z102.out; have := Z114.out; have := Z128.out; have := Z143.out; omega))).trans k129
    clear k129
    have k145 := (hlow.cell (p := ⟨w.heap.size, 1, none⟩) (by show w.heap.size < W32.heap.size; exact (by have := Z3.out; have := Z5.out; have := Z21.out; have := Z26.out; have := Z36.out; have := Z37.out; have := Z55.out; have := Z66.out; have := Z67.out; have := Z87.out; have := Z101.out; have := Z102.out; have := Z114.out; have := Z128.out; have := Z143.out; omega))).trans k130
    clear k130
    have k146 := (hlow.cell (p := ⟨W25.heap.size, 0, none⟩) (by show W25.heap.size < W32.heap.size; exact (by have := Z3.out; have := Z5.out; have := Z21.out; have := Z26.out; have := Z36.out; have := Z37.out; have := Z55.out; have := Z66.out; have := Z67.out; have := Z87.out; have := Z101.out; have := Z102.out; have := Z114.out; have := Z128.out; have := Z143.out; omega))).trans k131
    clear k131
    have k147 := (hlow.cell (p := ⟨W25.heap.size, 1, none⟩) (by show W25.heap.size < W32.heap.size; exact (by have := Z3.out; have := Z5.out; have := Z21.out; have := Z26.out; have := Z36.out; have := Z37.out; have := Z55.out; have := Z66.out; have := Z67.out; have := Z87.out; have := Z101.out; have := Z102.out; have := Z114.out; have := Z128.out; have := Z143.out; omega))).trans k132
    clear k132
    have k148 := (World.cell?_of_block (hhi W46.heap.size (by have := Z3.out; have := Z5.out; have := Z21.out; have := Z26.out; have := Z36.out; have := Z37.out; have := Z55.out; have := Z66.out; have := Z67.out; have := Z87.out; have := Z101.out; have := Z102.out; have := Z114.out; have := Z128.out; have := Z143.out; omega) (World.block_lt_of_cell? _ _ k133))).trans k133
    clear k133
    have k149 := (World.cell?_of_block (hhi W46.heap.size (by have := Z3.out; have := Z5.out; have := Z21.out; have := Z26.out; have := Z36.out; have := Z37.out; have := Z55.out; have := Z66.out; have := Z67.out; have := Z87.out; have := Z101.out; have := Z102.out; have := Z114.out; have := Z128.out; have := Z143.out; omega) (World.block_lt_of_cell? _ _ k134))).trans k134
    clear k134
    have k150 := (World.cell?_of_block (hhi W78.heap.size (by have := Z3.out; have := Z5.out; have := Z21.out; have := Z26.out; have := Z36.out; have := Z37.out; have := Z55.out; have := Z66.out; have := Z67.out; have := Z87.out; have := Z101.out; have := Z102.out; have := Z114.out; have := Z128.out; have := Z143.out; omega) (World.block_lt_of_cell? _ _ k135))).trans k135
    clear k135
    have k151 := (World.cell?_of_block (hhi W78.heap.size (by have := Z3.out; have := Z5.out; have := Z21.out; have := Z26.out; have := Z36.out; have := Z37.out; have := Z55.out; have := Z66.out; have := Z67.out; have := Z87.out; have := Z101.out; have := Z102.out; have := Z114.out; have := Z128.out; have := Z143.out; omega) (World.block_lt_of_cell? _ _ k136))).trans k136
    clear k136
    have O152 := Lib.hid (O138.out.far fun b h1 h2 => hhi b (Nat.le_trans (by have := Z3.out; have := Z5.out; have := Z21.out; have := Z26.out; have := Z36.out; have := Z37.out; have := Z55.out; have := Z66.out; have := Z67.out; have := Z87.out; have := Z101.out; have := Z102.out; have := Z114.out; have := Z128.out; have := Z143.out; omega) h1) h2)
    clear O138
    have B153 := Lib.hid (B139.out.trans (hlow.mono (by have := Z3.out; have := Z5.out; have := Z21.out; have := Z26.out; have := Z36.out; have := Z37.out; have := Z55.out; have := Z66.out; have := Z67.out; have := Z87.out; have := Z101.out; have := Z102.out; have := Z114.out; have := Z128.out; have := Z143.out; omega)))
    clear B139
    have B154 := Lib.hid (B140.out.trans (hlow.mono (by have := Z3.out; have := Z5.out; have := Z21.out; have := Z26.out; have := Z36.out; have := Z37.out; have := Z55.out; have := Z66.out; have := Z67.out; have := Z87.out; have := Z101.out; have := Z102.out; have := Z114.out; have := Z128.out; have := Z143.out; omega)))
    clear B140
    clear hlow hhi hfr
    have t9 : decide ((1 + (y1.length : Int) + (cnt t1 : Int)) < 0) = false := by simp; omega
    clear O142
    clear k148
    clear k149
    go_wp2_with fail
    refine (eqModule_same _ _ _ _ rd ra _ O152.out.ints (RW.out.same B154.out.block)).mono ?_
    rintro e W155 ⟨rfl, hx⟩
    have Z156 := Lib.hid (hx.size)
    have k157 := (hx.cell (World.block_lt_of_cell? _ _ k144)).trans k144
    clear k144
    have k158 := (hx.cell (World.block_lt_of_cell? _ _ k145)).trans k145
    clear k145
    have k159 := (hx.cell (World.block_lt_of_cell? _ _ k146)).trans k146
    clear k146
    have k160 := (hx.cell (World.block_lt_of_cell? _ _ k147)).trans k147
    clear k147
    have k161 := (hx.cell (World.block_lt_of_cell? _ _ k150)).trans k150
    clear k150
    have k162 := (hx.cell (World.block_lt_of_cell? _ _ k151)).trans k151
    clear k151
    have O163 := Lib.hid (O152.out.same hx.block)
    clear O152
    have B164 := Lib.hid (B153.out.trans (hx.mono B153.out.size))
    clear B153
    have B165 := Lib.hid (B154.out.trans (hx.mono B154.out.size))
    clear B154
    clear hx
    go_wp2_with fail
    refine (markModule_c (.slice q79 q80 q81) (.slice q82 q83 q84) u77 rd ra 1 W62.heap.size W155 O163.out (by have := Z3.out; have := Z5.out; have := Z21.out; have := Z26.out; have := Z36.out; have := Z37.out; have := Z55.out; have := Z66.out; have := Z67.out; have := Z87.out; have := Z101.out; have := Z102.out; have := Z114.out; have := Z128.out; have := Z143.out; have := Z156.out; omega) (by omega) (by have := HXL.out; have := HSZ1.out; omega)).mono ?_
    rintro e W166 ⟨rfl, hm, hlow, hfr⟩
    have RRR := R86.out
    have hhi : ∀ b, W78.heap.size ≤ b → b < W155.heap.size → W166.heap[b]? = W155.heap[b]? := fun b h1 h2 => hfr b h2 (fun e => by have := RRR.1 b e; omega) (fun u hu e => by have := RRR.2 u hu b e; omega)
    clear RRR
    have O167 := Lib.hid hm
    clear hm
    have Z168 := Lib.hid (hlow.size)
    have k169 := (hlow.cell (p := ⟨w.heap.size, 0, none⟩) (by show w.heap.size < W62.heap.size; exact (by have := Z3.out; have := Z5.out; have := Z21.out; have := Z26.out; have := Z36.out; have := Z37.out; have := Z55.out; have := Z66.out; have := Z67.out; have := Z87.out; have := Z101.out; have := Z102.out; have := Z114.out; have := Z128.out; have := Z143.out; have := Z156.out; have := Z168.out; omega))).trans k157
    clear k157
    have k170 := (hlow.cell (p := ⟨w.heap.size, 1, none⟩) (by show w.heap.size < W62.heap.size; exact (by have := Z3.out; have := Z5.out; have := Z21.out; have := Z26.out; have := Z36.out; have := Z37.out; have := Z55.out; have := Z66.out; have := Z67.out; have := Z87.out; have := Z101.out; have := Z102.out; have := Z114.out; have := Z128.out; have := Z143.out; have := Z156.out; have := Z168.out; omega))).trans k158
    clear k158
    have k171 := (hlow.cell (p := ⟨W25.heap.size, 0, none⟩) (by show W25.heap.size < W62.heap.size; exact (by have := Z3.out; have := Z5.out; have := Z21.out; have := Z26.out; have := Z36.out; have := Z37.out; have := Z55.out; have := Z66.out; have := Z67.out; have := Z87.out; have := Z101.out; have := Z102.out; have := Z114.out; have := Z128.out; have := Z143.out; have := Z156.out; have := Z168.out; omega))).trans k159
    clear k159
    have k172 := (hlow.cell (p := ⟨W25.heap.size, 1, none⟩) (by show W25.heap.size < W62.heap.size; exact (by have := Z3.out; have := Z5.out; have := Z21.out; have := Z26.out; have := Z36.out; have := Z37.out; have := Z55.out; have := Z66.out; have := Z67.out; have := Z87.out; have := Z101.out; have := Z102.out; have := Z114.out; have := Z128.out; have := Z143.out; have := Z156.out; have := Z168.out; omega))).trans k160
    clear k160
    have k173 := (World.cell?_of_block (hhi W78.heap.size (by have := Z3.out; have := Z5.out; have := Z21.out; have := Z26.out; have := Z36.out; have := Z37.out; have := Z55.out; have := Z66.out; have := Z67.out; have := Z87.out; have := Z101.out; have := Z102.out; have := Z114.out; have := Z128.out; have := Z143.out; have := Z156.out; have := Z168.out; omega) (World.block_lt_of_cell? _ _ k161))).trans k161
    clear k161
    have k174 := (World.cell?_of_block (hhi W78.heap.size (by have := Z3.out; have := Z5.out; have := Z21.out; have := Z26.out; have := Z36.out; have := Z37.out; have := Z55.out; have := Z66.out; have := Z67.out; have := Z87.out; have := Z101.out; have := Z102.out; have := Z114.out; have := Z128.out; have := Z143.out; have := Z156.out; have := Z168.out; omega) (World.block_lt_of_cell? _ _ k162))).trans k162
    clear k162
    have B175 := Lib.hid (B164.out.trans (hlow.mono (by have := Z3.out; have := Z5.out; have := Z21.out; have := Z26.out; have := Z36.out; have := Z37.out; have := Z55.out; have := Z66.out; have := Z67.out; have := Z87.out; have := Z101.out; have := Z102.out; have := Z114.out; have := Z128.out; have := Z143.out; have := Z156.out; have := Z168.out; omega)))
    clear B164
    have B176 := Lib.hid (B165.out.trans (hlow.mono (by have := Z3.out; have := Z5.out; have := Z21.out; have := Z26.out; have := Z36.out; have := Z37.out; have := Z55.out; have := Z66.out; have := Z67.out; have := Z87.out; have := Z101.out; have := Z102.out; have := Z114.out; have := Z128.out; have := Z143.out; have := Z156.out; have := Z168.out; omega)))
    clear B165
    clear hlow hhi hfr
    go_wp2_with fail
    refine (heldModule_c (.slice q79 q80 q81) (.slice q82 q83 q84) rd ra 1 _ O167.out.ints (by omega) (by have := HXL.out; have := HSZ1.out; omega)).mono ?_
    rintro e W177 ⟨rfl, hx⟩
    have Z178 := Lib.hid (hx.size)
    have k179 := (hx.cell (World.block_lt_of_cell? _ _ k169)).trans k169
    clear k169
    have k180 := (hx.cell (World.block_lt_of_cell? _ _ k170)).trans k170
    clear k170
    have k181 := (hx.cell (World.block_lt_of_cell? _ _ k171)).trans k171
    clear k171
    have k182 := (hx.cell (World.block_lt_of_cell? _ _ k172)).trans k172
    clear k172
    have k183 := (hx.cell (World.block_lt_of_cell? _ _ k173)).trans k173
    clear k173
    have k184 := (hx.cell (World.block_lt_of_cell? _ _ k174)).trans k174
    clear k174
    have O185 := Lib.hid (O167.out.same hx.block)
    clear O167
    have B186 := Lib.hid (B175.out.trans (hx.mono B175.out.size))
    clear B175
    have B187 := Lib.hid (B176.out.trans (hx.mono B176.out.size))
    clear B176
    clear hx
    go_wp2_with fail
    refine (TM1.out _ B186.out).mono ?_
    rintro e W191 ⟨d188, v189, u190, rfl, hm, hx⟩
    obtain ⟨q192, q193, q194, rfl⟩ := own_shape hm.deg
    obtain ⟨q195, q196, q197, rfl⟩ := own_shape hm.act.row
    have O198 := Lib.hid hm
    have R199 := Lib.hid hm.range
    clear hm
    have Z200 := Lib.hid (hx.size)
    have k201 := (hx.cell (World.block_lt_of_cell? _ _ k179)).trans k179
    clear k179
    have k202 := (hx.cell (World.block_lt_of_cell? _ _ k180)).trans k180
    clear k180
    have k203 := (hx.cell (World.block_lt_of_cell? _ _ k181)).trans k181
    clear k181
    have k204 := (hx.cell (World.block_lt_of_cell? _ _ k182)).trans k182
    clear k182
    have k205 := (hx.cell (World.block_lt_of_cell? _ _ k183)).trans k183
    clear k183
    have k206 := (hx.cell (World.block_lt_of_cell? _ _ k184)).trans k184
    clear k184
    have O207 := Lib.hid (O185.out.same hx.block)
    clear O185
    have B208 := Lib.hid (B186.out.trans (hx.mono B186.out.size))
    clear B186
    have B209 := Lib.hid (B187.out.trans (hx.mono B187.out.size))
    clear B187
    clear hx
    go_wp2_with fail
    refine (I.out (.slice q192 q193 q194) (.slice q195 q196 q197) _ O198.out.ints).mono ?_
    rintro e W213 ⟨d210, v211, u212, rfl, hm, hx⟩
    obtain ⟨q214, q215, q216, rfl⟩ := own_shape hm.deg
    obtain ⟨q217, q218, q219, rfl⟩ := own_shape hm.act.row
    have O220 := Lib.hid hm
    have R221 := Lib.hid hm.range
    clear hm
    have Z222 := Lib.hid (hx.size)
    have k223 := (hx.cell (World.block_lt_of_cell? _ _ k201)).trans k201
    clear k201
    have k224 := (hx.cell (World.block_lt_of_cell? _ _ k202)).trans k202
    clear k202
    have k225 := (hx.cell (World.block_lt_of_cell? _ _ k203)).trans k203
    clear k203
    have k226 := (hx.cell (World.block_lt_of_cell? _ _ k204)).trans k204
    clear k204
    have k227 := (hx.cell (World.block_lt_of_cell? _ _ k205)).trans k205
    clear k205
    have k228 := (hx.cell (World.block_lt_of_cell? _ _ k206)).trans k206
    clear k206
    have O229 := Lib.hid (O207.out.same hx.block)
    clear O207
    have O230 := Lib.hid (O198.out.same hx.block)
    clear O198
    have B231 := Lib.hid (B208.out.trans (hx.mono B208.out.size))
    clear B208
    have B232 := Lib.hid (B209.out.trans (hx.mono B209.out.size))
    clear B209
    clear hx
    obtain ⟨W233, E2340⟩ : ∃ W, W = W213.alloc (.cells #[.slice q214 q215 q216, .slice q217 q218 q219] 60) := ⟨_, rfl⟩
    have hx : Below W213.heap.size W213 W233 := by rw [E2340]; exact (Below.refl _ _).alloc (Nat.le_refl _) _
    have k235 : W233.cell? ⟨W213.heap.size, 0, none⟩ = some (.slice q214 q215 q216) := by rw [E2340, World.cell?]; simp only [heap_alloc_new]; rfl
    have k236 : W233.cell? ⟨W213.heap.size, 1, none⟩ = some (.slice q217 q218 q219) := by rw [E2340, World.cell?]; simp only [heap_alloc_new]; rfl
    have kx0 := Go.Lib.cell?_alloc_some (.cells #[.slice q214 q215 q216, .slice q217 q218 q219] 60) k223
    have kx1 := Go.Lib.cell?_alloc_some (.cells #[.slice q214 q215 q216, .slice q217 q218 q219] 60) k224
    have kx2 := Go.Lib.cell?_alloc_some (.cells #[.slice q214 q215 q216, .slice q217 q218 q219] 60) k225
    have kx3 := Go.Lib.cell?_alloc_some (.cells #[.slice q214 q215 q216, .slice q217 q218 q219] 60) k226
    have kx4 := Go.Lib.cell?_alloc_some (.cells #[.slice q214 q215 q216, .slice q217 q218 q219] 60) k227
    have kx5 := Go.Lib.cell?_alloc_some (.cells #[.slice q214 q215 q216, .slice q217 q218 q219] 60) k228
    have Z237 := Lib.hid (World.block_lt_of_cell? _ _ k235)
    simp only at Z237
    have Z238 := Lib.hid (hx.size)
    have k239 := (hx.cell (World.block_lt_of_cell? _ _ k223)).trans k223
    clear k223
    have k240 := (hx.cell (World.block_lt_of_cell? _ _ k224)).trans k224
    clear k224
    have k241 := (hx.cell (World.block_lt_of_cell? _ _ k225)).trans k225
    clear k225
    have k242 := (hx.cell (World.block_lt_of_cell? _ _ k226)).trans k226
    clear k226
    have k243 := (hx.cell (World.block_lt_of_cell? _ _ k227)).trans k227
    clear k227
    have k244 := (hx.cell (World.block_lt_of_cell? _ _ k228)).trans k228
    clear k228
    have O245 := Lib.hid (O229.out.same hx.block)
    clear O229
    have O246 := Lib.hid (O230.out.same hx.block)
    clear O230
    have O247 := Lib.hid (O220.out.same hx.block)
    clear O220
    have B248 := Lib.hid (B231.out.trans (hx.mono B231.out.size))
    clear B231
    have B249 := Lib.hid (B232.out.trans (hx.mono B232.out.size))
    clear B232
    clear hx
    have E234 := Lib.hid E2340
    clear E2340
    go_wp2_with fail
    rw [← E234.out]
    clear E234 kx0 kx1 kx2 kx3 kx4 kx5
    clear O246
    go_wp2_with fail
    refine (eqModule_same _ _ _ _ rd ra _ O247.out.ints (RW.out.same B249.out.block)).mono ?_
    rintro e W250 ⟨rfl, hx⟩
    have Z251 := Lib.hid (hx.size)
    have k252 := (hx.cell (World.block_lt_of_cell? _ _ k239)).trans k239
    clear k239
    have k253 := (hx.cell (World.block_lt_of_cell? _ _ k240)).trans k240
    clear k240
    have k254 := (hx.cell (World.block_lt_of_cell? _ _ k241)).trans k241
    clear k241
    have k255 := (hx.cell (World.block_lt_of_cell? _ _ k242)).trans k242
    clear k242
    have k256 := (hx.cell (World.block_lt_of_cell? _ _ k243)).trans k243
    clear k243
    have k257 := (hx.cell (World.block_lt_of_cell? _ _ k244)).trans k244
    clear k244
    have k258 := (hx.cell (World.block_lt_of_cell? _ _ k235)).trans k235
    clear k235
    have k259 := (hx.cell (World.block_lt_of_cell? _ _ k236)).trans k236
    clear k236
    have O260 := Lib.hid (O245.out.same hx.block)
    clear O245
    have O261 := Lib.hid (O247.out.same hx.block)
    clear O247
    have B262 := Lib.hid (B248.out.trans (hx.mono B248.out.size))
    clear B248
    have B263 := Lib.hid (B249.out.trans (hx.mono B249.out.size))
    clear B249
    clear hx
    go_wp2_with fail
    refine (heldModule_c (.slice q79 q80 q81) (.slice q82 q83 q84) rd ra 1 _ O260.out.ints (by omega) (by have := HXL.out; have := HSZ1.out; omega)).mono ?_
    rintro e W264 ⟨rfl, hx⟩
    have Z265 := Lib.hid (hx.size)
    have k266 := (hx.cell (World.block_lt_of_cell? _ _ k252)).trans k252
    clear k252
    have k267 := (hx.cell (World.block_lt_of_cell? _ _ k253)).trans k253
    clear k253
    have k268 := (hx.cell (World.block_lt_of_cell? _ _ k254)).trans k254
    clear k254
    have k269 := (hx.cell (World.block_lt_of_cell? _ _ k255)).trans k255
    clear k255
    have k270 := (hx.cell (World.block_lt_of_cell? _ _ k256)).trans k256
    clear k256
    have k271 := (hx.cell (World.block_lt_of_cell? _ _ k257)).trans k257
    clear k257
    have k272 := (hx.cell (World.block_lt_of_cell? _ _ k258)).trans k258
    clear k258
    have k273 := (hx.cell (World.block_lt_of_cell? _ _ k259)).trans k259
    clear k259
    have O274 := Lib.hid (O260.out.same hx.block)
    clear O260
    have O275 := Lib.hid (O261.out.same hx.block)
    clear O261
    have B276 := Lib.hid (B262.out.trans (hx.mono B262.out.size))
    clear B262
    have B277 := Lib.hid (B263.out.trans (hx.mono B263.out.size))
    clear B263
    clear hx
    go_wp2_with fail
    go_ret
    exact ⟨rfl, B276.out⟩

namespace fnExactDualOfModule_row
theorem own : ownKnob Try.prog.godebug = none := by kernel_rfl
theorem laidOut : laidOutB Try.prog = true := by kernel_rfl
set_option linter.unusedVariables false in
set_option maxRecDepth 100000 in
theorem lifted (os : Os) (started : os.Started) (H : Type) (enc : TypeId × Value → H) :
    ReturnsInHanded {} Try.checked os 5 .any (Rows.fnExactDualOfModuleSpec.pre6 enc Try.prog Try.f5 Rows.fnExactDualOfModuleRow.domain false) (Rows.fnExactDualOfModuleSpec.post enc Try.prog Try.f5 false true false false) := by
  refine returnsInHanded_of_change (C := Try.checked) own started (by kernel_rfl) Try.func5
    (ChangeSpec.witness6 (enc := enc) (C := Try.checked) false ⟨#[], #[.agg #[.slice none 0 0, .slice none 0 0]], []⟩ 8 (by kernel_rfl) (by kernel_rfl) (by kernel_rfl) (by kernel_rfl)) ?_
  intro W base args ds gs before hval0 hW hcnd _
  have hval : ∀ (j : Nat) t v, Try.f5.params[j]? = some t → args[j]? = some v → Value.okWide Try.prog W .any base t v := hval0
  have hW' := hW
  obtain ⟨p, q, hA0, hV, rfl, hfz, hnd⟩ := hW
  have hA : DataW.TrodAll enc Try.prog W 0 (fun _ => true) true Try.f5.params.toList args.toList ds p := hA0
  rw [Try.params5] at hA hval
  obtain ⟨v0, vs0, d0, ds0, p0, q0, hargs, rfl, rfl, h0, r0⟩ := trodAll_cons hA
  obtain ⟨rfl, rfl, rfl⟩ := trodAll_nil r0
  obtain rfl : args = #[v0] := by cases args; simp_all
  obtain ⟨rfl, rfl⟩ := trodVars_none hV
  have k0 := h0
  have lt0 : ∀ x ∈ p0, x.block < W.heap.size := by obtain ⟨m, hm⟩ := k0; exact DataW.trod_lt m _ _ _ hm
  obtain ⟨x0, x0q, y0, y0q, n0, rfl, -, -, f0, g0⟩ := Go.Joins.open_agg2 Try.underlying58 (by kernel_rfl) (by kernel_rfl) (hval 0 58 v0 rfl rfl) h0
  obtain ⟨a0, len0, cap0, z0, e0, w0⟩ := isRow_of Try.underlying27 Try.underlying2 (by kernel_rfl) f0
  obtain rfl : x0 = .slice a0 len0 cap0 := by simpa using e0
  obtain ⟨a0q, len0q, cap0q, z0q, e0q, w0q⟩ := isRows_of Try.underlying36 Try.underlying27 Try.underlying2 (by kernel_rfl) (by kernel_rfl) g0
  obtain rfl : x0q = .slice a0q len0q cap0q := by simpa using e0q
  clear hA0 hval0
  refine (fnExactDualOfModule_walk W a0 len0 cap0 z0 w0 a0q len0q cap0q z0q w0q).mono fun e W' ⟨he, bel⟩ => ?_
  subst he
  exact ⟨_, rfl, _, _, _, [], _, [], hW', trodAll_mk1 (shut_bool Try.underlying4 _), (trodAll_cons_mk (Below.trod laidOut (by kernel_rfl) (of_decide_eq_true (by kernel_rfl)) k0 bel lt0) trodAll_mk0), rfl, bel.frame _, fun h => by cases h⟩
theorem over : Rows.fnExactDualOfModuleRow.holds Try.pinned (OpenSpec.ofChange Rows.fnExactDualOfModuleSpec) :=
  OpenClaim.holds_of_wide 5 Try.f5 rfl rfl rfl rfl rfl rfl rfl ⟨rfl, rfl, rfl, rfl, rfl⟩ rfl rfl rfl rfl rfl (by kernel_rfl) Try.func5 (by kernel_rfl)
    (of_decide_eq_true (by kernel_rfl)) (by unfold Func.isWrapper; first | (rw [if_pos (by decide +kernel)]; kernel_rfl) | (rw [if_neg (by decide +kernel)]; exact ⟨rfl, rfl⟩))
    (fun os started H enc _ => lifted os started H enc)
end fnExactDualOfModule_row
/-- The statement. -/
theorem fnExactDualOfModule_proved : Rows.FnExactDualOfModuleSaid := fnExactDualOfModule_row.over
#print axioms fnExactDualOfModule_proved
end Go.Proofs.Ytljfpkhgijangaa

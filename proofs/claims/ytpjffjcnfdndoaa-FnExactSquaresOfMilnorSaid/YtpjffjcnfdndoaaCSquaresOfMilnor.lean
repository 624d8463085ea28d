/- What is proved: for every input the law FnExactSquaresOfMilnor returns true and its arguments read behind the call as before: the program's SquaresOfMilnor and the reference's agree, and the result is the call's own. No condition. -/
import Derived.Test.YtpjffjcnfdndoaaRows
import Derived.Test.YtpjffjcnfdndoaaLGen
import Derived.Test.YtpjffjcnfdndoaaLHeld2
import Derived.Deep.DeepCutAuto
import Derived.Lib.SliceRun
import Derived.OpenShut
import Derived.ShutString
import Derived.ChangeOld
import Derived.Test.YtpjffjcnfdndoaaBSquaresOfMilnor
import Derived.Test.YtpjffjcnfdndoaaB2SquaresOfMilnor
namespace Go.Proofs.Ytpjffjcnfdndoaa
open Go.ChangeShapes Go.WideShapes Go.ChangeAt Go.RowKit
open Go.ChangeMaps (open_string shut_string)

theorem sortOk : SortOk := sortSS_c
set_option maxRecDepth 100000 in
set_option maxHeartbeats 4000000 in
theorem fnExactSquaresOfMilnor_walk (w : World) (a1 : Option Addr) (l1 p1 : Nat) (t1 : List (List Int)) (h1 : IsRows w a1 l1 t1) :
    Calls Try.prog 3 #[.agg #[.slice a1 l1 p1]] w fun e w' => e = .returned (.bool true) ∧ Below w.heap.size w w' := by
  have S := Lib.hid (fun (v : Value) (W : World) (h : IntSS W.heap v t1) => specSquaresOfMilnor_c v t1 W h)
  have I := Lib.hid (fun (v : Value) (W : World) (h : IntSS W.heap v t1) => implSquaresOfMilnor_of sortOk v t1 W h)
  have HXL := Lib.hid (smR_cnt t1)
  generalize smR t1 = rx at *
  generalize smC t1 = pc at *
  have u1 : (pc != pc) = false := by simp
  obtain ⟨W0, hW0⟩ : ∃ W, W = (w.alloc (.cells #[.slice a1 l1 p1] 24)) := ⟨_, rfl⟩
  have hx : Below w.heap.size w W0 := by rw [hW0]; exact ((Below.refl _ _).alloc (by exact Nat.le_refl _) _)
  have hsz : w.heap.size + 1 ≤ W0.heap.size := by rw [hW0]; simp
  have k1 := (Cell1.new w (.slice a1 l1 p1) 24).c0
  rw [← hW0] at k1
  have BW0 := Lib.hid hx
  have Z2 := Lib.hid (hsz)
  have HW0 := Lib.hid hW0
  clear hW0 hx hsz
  have SM1 := Lib.hid (fun (left : Nat) (hl : left ≤ 1048576) (W : World) (hb : Below w.heap.size w W) => szMilnor_c a1 l1 p1 t1 left W (h1.same hb.block hb.size) hl)
  have TM10 := fun (W : World) (hb : Below w.heap.size w W) => toMilnor_c a1 l1 p1 t1 W (h1.same hb.block hb.size)
  clear h1
  go_enter Try.func3, Try.ntmps3
  go_wp2_with fail
  rw [← HW0.out]
  clear HW0
  have S0 := SM1.out 1048576 (Nat.le_refl _) _ BW0.out
  by_cases hz1 : t1.length + cnt t1 ≤ 1048576
  rotate_left
  · have e9 : szR t1 1048576 = -1 := by unfold szR; rw [if_neg hz1]
    rw [e9] at S0
    have S1 := Lib.hid S0
    clear S0 e9
    refine (S1.out).mono ?_
    rintro e W ⟨rfl, hx⟩
    have BE := Lib.hid (BW0.out.trans (hx.mono BW0.out.size))
    clear hx
    go_wp2_with fail
    go_ret
    exact ⟨rfl, BE.out⟩
  obtain ⟨left1, hl9⟩ : ∃ left : Nat, szR t1 1048576 = left := ⟨1048576 - (t1.length + cnt t1), by unfold szR; rw [if_pos hz1]; omega⟩
  have HLN : Hid (left1 ≤ 1048576) := by show _ ≤ _; unfold szR at hl9; rw [if_pos hz1] at hl9; have := Nat.le_refl 1048576; omega
  rw [hl9] at S0
  have S1 := Lib.hid S0
  clear S0 hl9
  have TM1 := Lib.hid (fun (W : World) (hb : Below w.heap.size w W) => TM10 W hb (by have := Nat.le_refl 1048576; omega))
  have HSZ1 : Hid (cnt t1 ≤ 1048576) := by show _ ≤ _; have := Nat.le_refl 1048576; omega
  clear TM10 hz1 SM1
  have HLF := HLN
  clear HLN
  refine (S1.out).mono ?_
  rintro e W3 ⟨rfl, hx⟩
  clear S1
  have Z4 := Lib.hid (hx.size)
  have k5 := (hx.cell (World.block_lt_of_cell? _ _ k1)).trans k1
  clear k1
  have B6 := Lib.hid (BW0.out.trans (hx.mono BW0.out.size))
  clear BW0
  clear hx
  go_wp2_with fail
  refine (TM1.out _ B6.out).mono ?_
  rintro e W9 ⟨v7, rfl, ⟨u8, hm⟩, hx⟩
  obtain ⟨q10, q11, q12, rfl⟩ := own_shape hm.row
  have O13 := Lib.hid hm
  have R14 := Lib.hid hm.range
  clear hm
  have Z15 := Lib.hid (hx.size)
  have k16 := (hx.cell (World.block_lt_of_cell? _ _ k5)).trans k5
  clear k5
  have B17 := Lib.hid (B6.out.trans (hx.mono B6.out.size))
  clear B6
  clear hx
  go_wp2_with fail
  refine (S.out (.slice q10 q11 q12) _ O13.out.ints).mono ?_
  rintro e W18 ⟨r1, rfl, hm, hx⟩
  obtain ⟨j1, j2, rfl, -⟩ := hm.len
  have RW := Lib.hid hm
  clear hm
  have Z19 := Lib.hid (hx.size)
  have k20 := (hx.cell (World.block_lt_of_cell? _ _ k16)).trans k16
  clear k16
  have O21 := Lib.hid (O13.out.same hx.block)
  clear O13
  have B22 := Lib.hid (B17.out.trans (hx.mono B17.out.size))
  clear B17
  clear hx
  have B23 := Lib.hid (Below.refl W18.heap.size W18)
  obtain ⟨W24, E250⟩ : ∃ W, W = W18.alloc (.cells #[.slice j1 rx.length j2] 26) := ⟨_, rfl⟩
  have hx : Below W18.heap.size W18 W24 := by rw [E250]; exact (Below.refl _ _).alloc (Nat.le_refl _) _
  have k26 : W24.cell? ⟨W18.heap.size, 0, none⟩ = some (.slice j1 rx.length j2) := by rw [E250, World.cell?]; simp only [heap_alloc_new]; rfl
  have kx0 := Go.Lib.cell?_alloc_some (.cells #[.slice j1 rx.length j2] 26) k20
  have Z27 := Lib.hid (World.block_lt_of_cell? _ _ k26)
  simp only at Z27
  have Z28 := Lib.hid (hx.size)
  have k29 := (hx.cell (World.block_lt_of_cell? _ _ k20)).trans k20
  clear k20
  have O30 := Lib.hid (O21.out.same hx.block)
  clear O21
  have B31 := Lib.hid (B22.out.trans (hx.mono B22.out.size))
  clear B22
  have B32 := Lib.hid (B23.out.trans (hx.mono B23.out.size))
  clear B23
  clear hx
  have E25 := Lib.hid E250
  clear E250
  go_wp2_with fail
  rw [← E25.out]
  clear E25 kx0
  clear O30
  go_wp2_with fail
  refine (TM1.out _ B31.out).mono ?_
  rintro e W35 ⟨v33, rfl, ⟨u34, hm⟩, hx⟩
  obtain ⟨q36, q37, q38, rfl⟩ := own_shape hm.row
  have O39 := Lib.hid hm
  have R40 := Lib.hid hm.range
  clear hm
  have Z41 := Lib.hid (hx.size)
  have k42 := (hx.cell (World.block_lt_of_cell? _ _ k29)).trans k29
  clear k29
  have k43 := (hx.cell (World.block_lt_of_cell? _ _ k26)).trans k26
  clear k26
  have B44 := Lib.hid (B31.out.trans (hx.mono B31.out.size))
  clear B31
  have B45 := Lib.hid (B32.out.trans (hx.mono B32.out.size))
  clear B32
  clear hx
  obtain ⟨W46, E470⟩ : ∃ W, W = W35.alloc (.cells #[.slice q36 q37 q38] 29) := ⟨_, rfl⟩
  have hx : Below W35.heap.size W35 W46 := by rw [E470]; exact (Below.refl _ _).alloc (Nat.le_refl _) _
  have k48 : W46.cell? ⟨W35.heap.size, 0, none⟩ = some (.slice q36 q37 q38) := by rw [E470, World.cell?]; simp only [heap_alloc_new]; rfl
  have kx0 := Go.Lib.cell?_alloc_some (.cells #[.slice q36 q37 q38] 29) k42
  have kx1 := Go.Lib.cell?_alloc_some (.cells #[.slice q36 q37 q38] 29) k43
  have Z49 := Lib.hid (World.block_lt_of_cell? _ _ k48)
  simp only at Z49
  have Z50 := Lib.hid (hx.size)
  have k51 := (hx.cell (World.block_lt_of_cell? _ _ k42)).trans k42
  clear k42
  have k52 := (hx.cell (World.block_lt_of_cell? _ _ k43)).trans k43
  clear k43
  have O53 := Lib.hid (O39.out.same hx.block)
  clear O39
  have B54 := Lib.hid (B44.out.trans (hx.mono B44.out.size))
  clear B44
  have B55 := Lib.hid (B45.out.trans (hx.mono B45.out.size))
  clear B45
  clear hx
  have E47 := Lib.hid E470
  clear E470
  go_wp2_with fail
  rw [← E47.out]
  clear E47 kx0 kx1
  go_wp2_with fail
  refine (I.out (.slice q36 q37 q38) _ O53.out.ints).mono ?_
  rintro e W58 ⟨v56, u57, rfl, hm, hx⟩
  obtain ⟨q59, q60, q61, rfl⟩ := own_shape hm.row
  have O62 := Lib.hid hm
  have R63 := Lib.hid hm.range
  clear hm
  have Z64 := Lib.hid (hx.size)
  have k65 := (hx.cell (World.block_lt_of_cell? _ _ k51)).trans k51
  clear k51
  have k66 := (hx.cell (World.block_lt_of_cell? _ _ k52)).trans k52
  clear k52
  have k67 := (hx.cell (World.block_lt_of_cell? _ _ k48)).trans k48
  clear k48
  have O68 := Lib.hid (O53.out.same hx.block)
  clear O53
  have B69 := Lib.hid (B54.out.trans (hx.mono B54.out.size))
  clear B54
  have B70 := Lib.hid (B55.out.trans (hx.mono B55.out.size))
  clear B55
  clear hx
  obtain ⟨W71, E720⟩ : ∃ W, W = W58.alloc (.cells #[.slice q59 q60 q61] 26) := ⟨_, rfl⟩
  have hx : Below W58.heap.size W58 W71 := by rw [E720]; exact (Below.refl _ _).alloc (Nat.le_refl _) _
  have k73 : W71.cell? ⟨W58.heap.size, 0, none⟩ = some (.slice q59 q60 q61) := by rw [E720, World.cell?]; simp only [heap_alloc_new]; rfl
  have kx0 := Go.Lib.cell?_alloc_some (.cells #[.slice q59 q60 q61] 26) k65
  have kx1 := Go.Lib.cell?_alloc_some (.cells #[.slice q59 q60 q61] 26) k66
  have kx2 := Go.Lib.cell?_alloc_some (.cells #[.slice q59 q60 q61] 26) k67
  have Z74 := Lib.hid (World.block_lt_of_cell? _ _ k73)
  simp only at Z74
  have Z75 := Lib.hid (hx.size)
  have k76 := (hx.cell (World.block_lt_of_cell? _ _ k65)).trans k65
  clear k65
  have k77 := (hx.cell (World.block_lt_of_cell? _ _ k66)).trans k66
  clear k66
  have k78 := (hx.cell (World.block_lt_of_cell? _ _ k67)).trans k67
  clear k67
  have O79 := Lib.hid (O68.out.same hx.block)
  clear O68
  have O80 := Lib.hid (O62.out.same hx.block)
  clear O62
  have B81 := Lib.hid (B69.out.trans (hx.mono B69.out.size))
  clear B69
  have B82 := Lib.hid (B70.out.trans (hx.mono B70.out.size))
  clear B70
  clear hx
  have E72 := Lib.hid E720
  clear E720
  go_wp2_with fail
  rw [← E72.out]
  clear E72 kx0 kx1 kx2
  go_wp2_with fail
  refine (eqSquares_same _ _ rx _ O80.out.ints (RW.out.same B82.out.block)).mono ?_
  rintro e W83 ⟨rfl, hx⟩
  have Z84 := Lib.hid (hx.size)
  have k85 := (hx.cell (World.block_lt_of_cell? _ _ k76)).trans k76
  clear k76
  have k86 := (hx.cell (World.block_lt_of_cell? _ _ k77)).trans k77
  clear k77
  have k87 := (hx.cell (World.block_lt_of_cell? _ _ k78)).trans k78
  clear k78
  have k88 := (hx.cell (World.block_lt_of_cell? _ _ k73)).trans k73
  clear k73
  have O89 := Lib.hid (O79.out.same hx.block)
  clear O79
  have O90 := Lib.hid (O80.out.same hx.block)
  clear O80
  have B91 := Lib.hid (B81.out.trans (hx.mono B81.out.size))
  clear B81
  have B92 := Lib.hid (B82.out.trans (hx.mono B82.out.size))
  clear B82
  clear hx
  go_wp2_with fail
  go_region_held3 (fun W => W.cell? ⟨W35.heap.size, 0, none⟩ = some (.slice q36 q37 q38) ∧ W.cell? ⟨w.heap.size, 0, none⟩ = some (.slice a1 l1 p1) ∧ Below W83.heap.size W83 W)
    (first | exact ⟨k87, k85, (Below.refl _ _).drew⟩ | exact heldC2 (by assumption) hx8 | exact heldC2 (by assumption) hx9)
    (first | (go_at_call 6; refine (TM1.out _ (heldC2B B91.out (by assumption) B91.out.size)).mono ?_; rintro e W9 ⟨v9, rfl, ⟨u9, hm9⟩, hx9⟩; obtain ⟨e1, e2, e3, rfl⟩ := own_shape hm9.row) | (go_at_call 9; refine (eqMilnor_same _ _ t1 _ (O89.out.ints.same (heldC2X (by assumption)).block) hm9.ints).mono ?_; rintro e W8 ⟨rfl, hx8⟩))
  all_goals
    rename_i hh
    obtain ⟨W93, hWe⟩ : ∃ W, W = W8 := ⟨_, rfl⟩
    have hx : Below W83.heap.size W83 W93 := by rw [hWe]; exact heldC2X hh
    rw [← hWe]
    clear hWe hh hx8 hx9 hm9
    have Z94 := Lib.hid (hx.size)
    have k95 := (hx.cell (World.block_lt_of_cell? _ _ k85)).trans k85
    clear k85
    have k96 := (hx.cell (World.block_lt_of_cell? _ _ k86)).trans k86
    clear k86
    have k97 := (hx.cell (World.block_lt_of_cell? _ _ k87)).trans k87
    clear k87
    have k98 := (hx.cell (World.block_lt_of_cell? _ _ k88)).trans k88
    clear k88
    have O99 := Lib.hid (O89.out.same hx.block)
    clear O89
    have O100 := Lib.hid (O90.out.same hx.block)
    clear O90
    have B101 := Lib.hid (B91.out.trans (hx.mono B91.out.size))
    clear B91
    have B102 := Lib.hid (B92.out.trans (hx.mono B92.out.size))
    clear B92
    clear hx
    go_wp2_with fail
    refine (markMilnor_c (.slice q36 q37 q38) u34 t1 1 W24.heap.size W93 O99.out (by have := Z2.out; have := Z4.out; have := Z15.out; have := Z19.out; have := Z27.out; have := Z28.out; have := Z41.out; have := Z49.out; have := Z50.out; have := Z64.out; have := Z74.out; have := Z75.out; have := Z84.out; have := Z94.out; omega) (by omega) (by have := HXL.out; have := HSZ1.out; omega)).mono ?_
    rintro e W103 ⟨rfl, hm, hlow, hfr⟩
    have RRR := R40.out
    have hhi : ∀ b, W35.heap.size ≤ b → b < W93.heap.size → W103.heap[b]? = W93.heap[b]? := fun b h1 h2 => hfr b h2 (fun u hu e => by have := RRR.2 u hu b e; omega)
    clear RRR
    have O104 := Lib.hid hm
    clear hm
    have Z105 := Lib.hid (hlow.size)
    have k106 := (hlow.cell (p := ⟨w.heap.size, 0, none⟩) (by show w.heap.size < W24.heap.size; exact (by have := Z2.out; have := Z4.out; have := Z15.out; have := Z19.out; have := Z27.out; have := Z28.out; have := Z41.out; have := Z49.out; have := Z50.out; have := Z64.out; have := Z74.out; have := Z75.out; have := Z84.out; have := Z94.out; have := Z105.out; omega))).trans k95
    clear k95
    have k107 := (hlow.cell (p := ⟨W18.heap.size, 0, none⟩) (by show W18.heap.size < W24.heap.size; exact (by have := Z2.out; have := Z4.out; have := Z15.out; have := Z19.out; have := Z27.out; have := Z28.out; have := Z41.out; have := Z49.out; have := Z50.out; have := Z64.out; have := Z74.out; have := Z75.out; have := Z84.out; have := Z94.out; have := Z105.out; omega))).trans k96
    clear k96
    have k108 := (World.cell?_of_block (hhi W35.heap.size (by have := Z2.out; have := Z4.out; have := Z15.out; have := Z19.out; have := Z27.out; have := Z28.out; have := Z41.out; have := Z49.out; have := Z50.out; have := Z64.out; have := Z74.out; have := Z75.out; have := Z84.out; have := Z94.out; have := Z105.out; omega) (World.block_lt_of_cell? _ _ k97))).trans k97
    clear k97
    have k109 := (World.cell?_of_block (hhi W58.heap.size (by have := Z2.out; have := Z4.out; have := Z15.out; have := Z19.out; have := Z27.out; have := Z28.out; have := Z41.out; have := Z49.out; have := Z50.out; have := Z64.out; have := Z74.out; have := Z75.out; have := Z84.out; have := Z94.out; have := Z105.out; omega) (World.block_lt_of_cell? _ _ k98))).trans k98
    clear k98
    have O110 := Lib.hid (O100.out.far fun b h1 h2 => hhi b (Nat.le_trans (by have := Z2.out; have := Z4.out; have := Z15.out; have := Z19.out; have := Z27.out; have := Z28.out; have := Z41.out; have := Z49.out; have := Z50.out; have := Z64.out; have := Z74.out; have := Z75.out; have := Z84.out; have := Z94.out; have := Z105.out; omega) h1) h2)
    clear O100
    have B111 := Lib.hid (B101.out.trans (hlow.mono (by have := Z2.out; have := Z4.out; have := Z15.out; have := Z19.out; have := Z27.out; have := Z28.out; have := Z41.out; have := Z49.out; have := Z50.out; have := Z64.out; have := Z74.out; have := Z75.out; have := Z84.out; have := Z94.out; have := Z105.out; omega)))
    clear B101
    have B112 := Lib.hid (B102.out.trans (hlow.mono (by have := Z2.out; have := Z4.out; have := Z15.out; have := Z19.out; have := Z27.out; have := Z28.out; have := Z41.out; have := Z49.out; have := Z50.out; have := Z64.out; have := Z74.out; have := Z75.out; have := Z84.out; have := Z94.out; have := Z105.out; omega)))
    clear B102
    clear hlow hhi hfr
    have t9 : decide ((1 + (cnt t1 : Int)) < 0) = false := by simp; omega
    clear O104
    clear k108
    go_wp2_with fail
    refine (eqSquares_same _ _ rx _ O110.out.ints (RW.out.same B112.out.block)).mono ?_
    rintro e W113 ⟨rfl, hx⟩
    have Z114 := Lib.hid (hx.size)
    have k115 := (hx.cell (World.block_lt_of_cell? _ _ k106)).trans k106
    clear k106
    have k116 := (hx.cell (World.block_lt_of_cell? _ _ k107)).trans k107
    clear k107
    have k117 := (hx.cell (World.block_lt_of_cell? _ _ k109)).trans k109
    clear k109
    have O118 := Lib.hid (O110.out.same hx.block)
    clear O110
    have B119 := Lib.hid (B111.out.trans (hx.mono B111.out.size))
    clear B111
    have B120 := Lib.hid (B112.out.trans (hx.mono B112.out.size))
    clear B112
    clear hx
    go_wp2_with fail
    refine (markSquares_c (.slice q59 q60 q61) u57 rx 1 W46.heap.size W113 O118.out (by have := Z2.out; have := Z4.out; have := Z15.out; have := Z19.out; have := Z27.out; have := Z28.out; have := Z41.out; have := Z49.out; have := Z50.out; have := Z64.out; have := Z74.out; have := Z75.out; have := Z84.out; have := Z94.out; have := Z105.out; have := Z114.out; omega) (by omega) (by have := HXL.out; have := HSZ1.out; omega)).mono ?_
    rintro e W121 ⟨rfl, hm, hlow, hfr⟩
    have RRR := R63.out
    have hhi : ∀ b, W58.heap.size ≤ b → b < W113.heap.size → W121.heap[b]? = W113.heap[b]? := fun b h1 h2 => hfr b h2 (fun u hu e => by have := RRR.2 u hu b e; omega)
    clear RRR
    have O122 := Lib.hid hm
    clear hm
    have Z123 := Lib.hid (hlow.size)
    have k124 := (hlow.cell (p := ⟨w.heap.size, 0, none⟩) (by show w.heap.size < W46.heap.size; exact (by have := Z2.out; have := Z4.out; have := Z15.out; have := Z19.out; have := Z27.out; have := Z28.out; have := Z41.out; have := Z49.out; have := Z50.out; have := Z64.out; have := Z74.out; have := Z75.out; have := Z84.out; have := Z94.out; have := Z105.out; have := Z114.out; have := Z123.out; omega))).trans k115
    clear k115
    have k125 := (hlow.cell (p := ⟨W18.heap.size, 0, none⟩) (by show W18.heap.size < W46.heap.size; exact (by have := Z2.out; have := Z4.out; have := Z15.out; have := Z19.out; have := Z27.out; have := Z28.out; have := Z41.out; have := Z49.out; have := Z50.out; have := Z64.out; have := Z74.out; have := Z75.out; have := Z84.out; have := Z94.out; have := Z105.out; have := Z114.out; have := Z123.out; omega))).trans k116
    clear k116
    have k126 := (World.cell?_of_block (hhi W58.heap.size (by have := Z2.out; have := Z4.out; have := Z15.out; have := Z19.out; have := Z27.out; have := Z28.out; have := Z41.out; have := Z49.out; have := Z50.out; have := Z64.out; have := Z74.out; have := Z75.out; have := Z84.out; have := Z94.out; have := Z105.out; have := Z114.out; have := Z123.out; omega) (World.block_lt_of_cell? _ _ k117))).trans k117
    clear k117
    have B127 := Lib.hid (B119.out.trans (hlow.mono (by have := Z2.out; have := Z4.out; have := Z15.out; have := Z19.out; have := Z27.out; have := Z28.out; have := Z41.out; have := Z49.out; have := Z50.out; have := Z64.out; have := Z74.out; have := Z75.out; have := Z84.out; have := Z94.out; have := Z105.out; have := Z114.out; have := Z123.out; omega)))
    clear B119
    have B128 := Lib.hid (B120.out.trans (hlow.mono (by have := Z2.out; have := Z4.out; have := Z15.out; have := Z19.out; have := Z27.out; have := Z28.out; have := Z41.out; have := Z49.out; have := Z50.out; have := Z64.out; have := Z74.out; have := Z75.out; have := Z84.out; have := Z94.out; have := Z105.out; have := Z114.out; have := Z123.out; omega)))
    clear B120
    clear hlow hhi hfr
    go_wp2_with fail
    refine (heldSquares_c (.slice q59 q60 q61) rx 1 _ O122.out.ints (by omega) (by have := HXL.out; have := HSZ1.out; omega)).mono ?_
    rintro e W129 ⟨rfl, hx⟩
    have Z130 := Lib.hid (hx.size)
    have k131 := (hx.cell (World.block_lt_of_cell? _ _ k124)).trans k124
    clear k124
    have k132 := (hx.cell (World.block_lt_of_cell? _ _ k125)).trans k125
    clear k125
    have k133 := (hx.cell (World.block_lt_of_cell? _ _ k126)).trans k126
    clear k126
    have O134 := Lib.hid (O122.out.same hx.block)
    clear O122
    have B135 := Lib.hid (B127.out.trans (hx.mono B127.out.size))
    clear B127
    have B136 := Lib.hid (B128.out.trans (hx.mono B128.out.size))
    clear B128
    clear hx
    go_wp2_with fail
    refine (TM1.out _ B135.out).mono ?_
    rintro e W139 ⟨v137, rfl, ⟨u138, hm⟩, hx⟩
    obtain ⟨q140, q141, q142, rfl⟩ := own_shape hm.row
    have O143 := Lib.hid hm
    have R144 := Lib.hid hm.range
    clear hm
    have Z145 := Lib.hid (hx.size)
    have k146 := (hx.cell (World.block_lt_of_cell? _ _ k131)).trans k131
    clear k131
    have k147 := (hx.cell (World.block_lt_of_cell? _ _ k132)).trans k132
    clear k132
    have k148 := (hx.cell (World.block_lt_of_cell? _ _ k133)).trans k133
    clear k133
    have O149 := Lib.hid (O134.out.same hx.block)
    clear O134
    have B150 := Lib.hid (B135.out.trans (hx.mono B135.out.size))
    clear B135
    have B151 := Lib.hid (B136.out.trans (hx.mono B136.out.size))
    clear B136
    clear hx
    go_wp2_with fail
    refine (I.out (.slice q140 q141 q142) _ O143.out.ints).mono ?_
    rintro e W154 ⟨v152, u153, rfl, hm, hx⟩
    obtain ⟨q155, q156, q157, rfl⟩ := own_shape hm.row
    have O158 := Lib.hid hm
    have R159 := Lib.hid hm.range
    clear hm
    have Z160 := Lib.hid (hx.size)
    have k161 := (hx.cell (World.block_lt_of_cell? _ _ k146)).trans k146
    clear k146
    have k162 := (hx.cell (World.block_lt_of_cell? _ _ k147)).trans k147
    clear k147
    have k163 := (hx.cell (World.block_lt_of_cell? _ _ k148)).trans k148
    clear k148
    have O164 := Lib.hid (O149.out.same hx.block)
    clear O149
    have O165 := Lib.hid (O143.out.same hx.block)
    clear O143
    have B166 := Lib.hid (B150.out.trans (hx.mono B150.out.size))
    clear B150
    have B167 := Lib.hid (B151.out.trans (hx.mono B151.out.size))
    clear B151
    clear hx
    obtain ⟨W168, E1690⟩ : ∃ W, W = W154.alloc (.cells #[.slice q155 q156 q157] 26) := ⟨_, rfl⟩
    have hx : Below W154.heap.size W154 W168 := by rw [E1690]; exact (Below.refl _ _).alloc (Nat.le_refl _) _
    have k170 : W168.cell? ⟨W154.heap.size, 0, none⟩ = some (.slice q155 q156 q157) := by rw [E1690, World.cell?]; simp only [heap_alloc_new]; rfl
    have kx0 := Go.Lib.cell?_alloc_some (.cells #[.slice q155 q156 q157] 26) k161
    have kx1 := Go.Lib.cell?_alloc_some (.cells #[.slice q155 q156 q157] 26) k162
    have kx2 := Go.Lib.cell?_alloc_some (.cells #[.slice q155 q156 q157] 26) k163
    have Z171 := Lib.hid (World.block_lt_of_cell? _ _ k170)
    simp only at Z171
    have Z172 := Lib.hid (hx.size)
    have k173 := (hx.cell (World.block_lt_of_cell? _ _ k161)).trans k161
    clear k161
    have k174 := (hx.cell (World.block_lt_of_cell? _ _ k162)).trans k162
    clear k162
    have k175 := (hx.cell (World.block_lt_of_cell? _ _ k163)).trans k163
    clear k163
    have O176 := Lib.hid (O164.out.same hx.block)
    clear O164
    have O177 := Lib.hid (O165.out.same hx.block)
    clear O165
    have O178 := Lib.hid (O158.out.same hx.block)
    clear O158
    have B179 := Lib.hid (B166.out.trans (hx.mono B166.out.size))
    clear B166
    have B180 := Lib.hid (B167.out.trans (hx.mono B167.out.size))
    clear B167
    clear hx
    have E169 := Lib.hid E1690
    clear E1690
    go_wp2_with fail
    rw [← E169.out]
    clear E169 kx0 kx1 kx2
    clear O177
    go_wp2_with fail
    refine (eqSquares_same _ _ rx _ O178.out.ints (RW.out.same B180.out.block)).mono ?_
    rintro e W181 ⟨rfl, hx⟩
    have Z182 := Lib.hid (hx.size)
    have k183 := (hx.cell (World.block_lt_of_cell? _ _ k173)).trans k173
    clear k173
    have k184 := (hx.cell (World.block_lt_of_cell? _ _ k174)).trans k174
    clear k174
    have k185 := (hx.cell (World.block_lt_of_cell? _ _ k175)).trans k175
    clear k175
    have k186 := (hx.cell (World.block_lt_of_cell? _ _ k170)).trans k170
    clear k170
    have O187 := Lib.hid (O176.out.same hx.block)
    clear O176
    have O188 := Lib.hid (O178.out.same hx.block)
    clear O178
    have B189 := Lib.hid (B179.out.trans (hx.mono B179.out.size))
    clear B179
    have B190 := Lib.hid (B180.out.trans (hx.mono B180.out.size))
    clear B180
    clear hx
    go_wp2_with fail
    refine (heldSquares_c (.slice q59 q60 q61) rx 1 _ O187.out.ints (by omega) (by have := HXL.out; have := HSZ1.out; omega)).mono ?_
    rintro e W191 ⟨rfl, hx⟩
    have Z192 := Lib.hid (hx.size)
    have k193 := (hx.cell (World.block_lt_of_cell? _ _ k183)).trans k183
    clear k183
    have k194 := (hx.cell (World.block_lt_of_cell? _ _ k184)).trans k184
    clear k184
    have k195 := (hx.cell (World.block_lt_of_cell? _ _ k185)).trans k185
    clear k185
    have k196 := (hx.cell (World.block_lt_of_cell? _ _ k186)).trans k186
    clear k186
    have O197 := Lib.hid (O187.out.same hx.block)
    clear O187
    have O198 := Lib.hid (O188.out.same hx.block)
    clear O188
    have B199 := Lib.hid (B189.out.trans (hx.mono B189.out.size))
    clear B189
    have B200 := Lib.hid (B190.out.trans (hx.mono B190.out.size))
    clear B190
    clear hx
    go_wp2_with fail
    go_ret
    exact ⟨rfl, B199.out⟩

namespace fnExactSquaresOfMilnor_row
theorem own : ownKnob Try.prog.godebug = none := by kernel_rfl
theorem laidOut : laidOutB Try.prog = true := by kernel_rfl
set_option linter.unusedVariables false in
set_option maxRecDepth 100000 in
theorem lifted (os : Os) (started : os.Started) (H : Type) (enc : TypeId × Value → H) :
    ReturnsInHanded {} Try.checked os 3 .any (Rows.fnExactSquaresOfMilnorSpec.pre6 enc Try.prog Try.f3 Rows.fnExactSquaresOfMilnorRow.domain false) (Rows.fnExactSquaresOfMilnorSpec.post enc Try.prog Try.f3 false true false false) := by
  refine returnsInHanded_of_change (C := Try.checked) own started (by kernel_rfl) Try.func3
    (ChangeSpec.witness6 (enc := enc) (C := Try.checked) false ⟨#[], #[.agg #[.slice none 0 0]], []⟩ 8 (by kernel_rfl) (by kernel_rfl) (by kernel_rfl) (by kernel_rfl)) ?_
  intro W base args ds gs before hval0 hW hcnd _
  have hval : ∀ (j : Nat) t v, Try.f3.params[j]? = some t → args[j]? = some v → Value.okWide Try.prog W .any base t v := hval0
  have hW' := hW
  obtain ⟨p, q, hA0, hV, rfl, hfz, hnd⟩ := hW
  have hA : DataW.TrodAll enc Try.prog W 0 (fun _ => true) true Try.f3.params.toList args.toList ds p := hA0
  rw [Try.params3] at hA hval
  obtain ⟨v0, vs0, d0, ds0, p0, q0, hargs, rfl, rfl, h0, r0⟩ := trodAll_cons hA
  obtain ⟨rfl, rfl, rfl⟩ := trodAll_nil r0
  obtain rfl : args = #[v0] := by cases args; simp_all
  obtain ⟨rfl, rfl⟩ := trodVars_none hV
  have k0 := h0
  have lt0 : ∀ x ∈ p0, x.block < W.heap.size := by obtain ⟨m, hm⟩ := k0; exact DataW.trod_lt m _ _ _ hm
  obtain ⟨x0, y0, n0, rfl, f0⟩ := open_agg1 Try.underlying24 (by kernel_rfl) (by kernel_rfl) (hval 0 24 v0 rfl rfl) h0
  obtain ⟨a0, len0, cap0, z0, e0, w0⟩ := isRows_of Try.underlying22 Try.underlying41 Try.underlying2 (by kernel_rfl) (by kernel_rfl) f0
  obtain rfl : x0 = .slice a0 len0 cap0 := by simpa using e0
  clear hA0 hval0
  refine (fnExactSquaresOfMilnor_walk W a0 len0 cap0 z0 w0).mono fun e W' ⟨he, bel⟩ => ?_
  subst he
  exact ⟨_, rfl, _, _, _, [], _, [], hW', trodAll_mk1 (shut_bool Try.underlying4 _), (trodAll_cons_mk (Below.trod laidOut (by kernel_rfl) (of_decide_eq_true (by kernel_rfl)) k0 bel lt0) trodAll_mk0), rfl, bel.frame _, fun h => by cases h⟩
theorem over : Rows.fnExactSquaresOfMilnorRow.holds Try.pinned (OpenSpec.ofChange Rows.fnExactSquaresOfMilnorSpec) :=
  OpenClaim.holds_of_wide 3 Try.f3 rfl rfl rfl rfl rfl rfl rfl ⟨rfl, rfl, rfl, rfl, rfl⟩ rfl rfl rfl rfl rfl (by kernel_rfl) Try.func3 (by kernel_rfl)
    (of_decide_eq_true (by kernel_rfl)) (by unfold Func.isWrapper; first | (rw [if_pos (by decide +kernel)]; kernel_rfl) | (rw [if_neg (by decide +kernel)]; exact ⟨rfl, rfl⟩))
    (fun os started H enc _ => lifted os started H enc)
end fnExactSquaresOfMilnor_row
/-- The statement. -/
theorem fnExactSquaresOfMilnor_proved : Rows.FnExactSquaresOfMilnorSaid := fnExactSquaresOfMilnor_row.over
#print axioms fnExactSquaresOfMilnor_proved
end Go.Proofs.Ytpjffjcnfdndoaa

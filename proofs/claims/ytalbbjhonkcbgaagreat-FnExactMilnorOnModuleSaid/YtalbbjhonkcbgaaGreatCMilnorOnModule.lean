/- What is proved: for every input the law FnExactMilnorOnModule returns true and its arguments read behind the call as before: the program's MilnorOnModule and the reference's agree, and the result is the call's own. No condition. -/
import Derived.Test.YtalbbjhonkcbgaaGreatRows
import Derived.Test.YtalbbjhonkcbgaaGreatLMilArg
import Derived.Test.YtalbbjhonkcbgaaGreatLGen
import Derived.OpenShut
import Derived.ShutString
import Derived.ChangeOld
import Derived.Test.YtalbbjhonkcbgaaGreatBMilnorOnModule
import Derived.Test.YtalbbjhonkcbgaaGreatB2MilnorOnModule
import Derived.Test.YtalbbjhonkcbgaaGreatB3MilnorOnModule
namespace Go.Proofs.YtalbbjhonkcbgaaGreat
open Go.ChangeShapes Go.WideShapes Go.ChangeAt Go.RowKit
open Go.ChangeMaps (open_string shut_string)

set_option maxRecDepth 100000 in
set_option maxHeartbeats 20000000 in
theorem fnExactMilnorOnModule_walk (w : World) (a1 : Option Addr) (l1 p1 : Nat) (z1 : List Int) (h1 : IsRow .i64 w a1 l1 p1 z1) (a1q : Option Addr) (l1q p1q : Nat) (t1 : List (List Int)) (h1q : IsRows w a1q l1q t1) (a2 : Option Addr) (l2 p2 : Nat) (t2 : List (List Int)) (h2 : IsRows w a2 l2 t2) (a3 : Option Addr) (l3 p3 : Nat) (z3 : List Int) (h3 : IsRow .i64 w a3 l3 p3 z3) :
    Calls Tryz.prog 3 #[.agg #[.slice a1 l1 p1, .slice a1q l1q p1q], .agg #[.slice a2 l2 p2], .slice a3 l3 p3] w fun e w' => e = .returned (.bool true) ∧ Below w.heap.size w w' := by
  have S := Lib.hid (fun (d a t v : Value) (W : World) (h : ModS W.heap d a (z1.take l1) t1) (ht : IntSS W.heap t t2) (hv : IntS W.heap v (z3.take l3)) => specMilnorOnModule_c d a v t (z1.take l1) t1 t2 (z3.take l3) W h ht hv)
  have I := Lib.hid (fun (d a t v : Value) (W : World) (h : ModS W.heap d a (z1.take l1) t1) (ht : IntSS W.heap t t2) (hv : IntS W.heap v (z3.take l3)) => implMilnorOnModule_of sortSS_c d a v t (z1.take l1) t1 t2 (z3.take l3) W h ht hv)
  have HXL := Lib.hid (mmoL_len (z1.take l1) t1 t2 (z3.take l3))
  generalize mmoL (z1.take l1) t1 t2 (z3.take l3) = rs at *
  generalize mmoC (z1.take l1) t1 t2 (z3.take l3) = pc at *
  have u1 : (pc != pc) = false := by simp
  obtain ⟨W0, hW0⟩ : ∃ W, W = ((w.alloc (.cells #[.slice a1 l1 p1, .slice a1q l1q p1q] 25)).alloc (.cells #[.slice a2 l2 p2] 27)) := ⟨_, rfl⟩
  have hx : Below w.heap.size w W0 := by rw [hW0]; exact (((Below.refl _ _).alloc (by exact Nat.le_refl _) _).alloc (by simp) _)
  have hsz : w.heap.size + 2 ≤ W0.heap.size := by rw [hW0]; simp
  have k1 := Go.Lib.cell?_alloc_some (.cells #[.slice a2 l2 p2] 27) ((two_new w (.slice a1 l1 p1) (.slice a1q l1q p1q) 25).1)
  rw [← hW0] at k1
  have k2 := Go.Lib.cell?_alloc_some (.cells #[.slice a2 l2 p2] 27) ((two_new w (.slice a1 l1 p1) (.slice a1q l1q p1q) 25).2)
  rw [← hW0] at k2
  have k3 := (Cell1.new (w.alloc (.cells #[.slice a1 l1 p1, .slice a1q l1q p1q] 25)) (.slice a2 l2 p2) 27).c0
  simp only [size_alloc_w] at k3
  rw [← hW0] at k3
  have BW0 := Lib.hid hx
  have Z4 := Lib.hid (hsz)
  have HW0 := Lib.hid hW0
  clear hW0 hx hsz
  have SM1 := Lib.hid (fun (left : Nat) (hl : left ≤ 1048576) (W : World) (hb : Below w.heap.size w W) => szModule_c a1 l1 p1 a1q l1q p1q t1 left W h1.le (h1q.same hb.block hb.size) hl)
  have TM10 := fun (W : World) (hb : Below w.heap.size w W) => toModule_c a1 l1 p1 z1 a1q l1q p1q t1 W (h1.same hb.block) (h1q.same hb.block hb.size)
  have SM2 := Lib.hid (fun (left : Nat) (hl : left ≤ 1048576) (W : World) (hb : Below w.heap.size w W) => szMilnor_c a2 l2 p2 t2 left W (h2.same hb.block hb.size) hl)
  have TM20 := fun (W : World) (hb : Below w.heap.size w W) => toMilnor_c a2 l2 p2 t2 W (h2.same hb.block hb.size)
  have TM30 := fun (W : World) (hb : Below w.heap.size w W) => toInt64S_c a3 l3 p3 z3 W (h3.same hb.block)
  have hl1 : (z1.take l1).length = l1 := h1.takeLen
  have HL1 := Lib.hid hl1
  clear hl1
  have hl3 : (z3.take l3).length = l3 := h3.takeLen
  have HL3 := Lib.hid hl3
  clear hl3
  clear h1 h1q h2 h3
  generalize z1.take l1 = y1 at *
  generalize z3.take l3 = y3 at *
  by_cases hv3 : l3 ≤ 1048576
  rotate_left
  · have u3 : decide ((1048576 : Int) < (l3 : Int)) = true := by simp; omega
    have u3b : decide (1048576 < l3) = true := by simp; omega
    go_enter Tryz.func3, Tryz.ntmps3
    go_wp2_with fail
    first | rw [← HW0.out] | skip
    go_ret
    exact ⟨rfl, BW0.out⟩
  have u3 : decide ((1048576 : Int) < (l3 : Int)) = false := by simp; omega
  have u3b : decide (1048576 < l3) = false := by simp; omega
  have TM3 := Lib.hid (fun (W : World) (hb : Below w.heap.size w W) => TM30 W hb hv3)
  have HSZ3 : Hid (y3.length ≤ 1048576) := by show _ ≤ _; rw [HL3.out]; exact hv3
  clear TM30 hv3
  go_enter Tryz.func3, Tryz.ntmps3
  go_wp2_with fail
  rw [← HW0.out]
  clear HW0
  have S0 := SM1.out 1048576 (Nat.le_refl _) _ BW0.out
  by_cases hz1 : l1 + (t1.length + cnt t1) ≤ 1048576
  rotate_left
  · have e9 : szM l1 t1 1048576 = -1 := by unfold szM; rw [if_neg hz1]
    rw [e9] at S0
    have S1 := Lib.hid S0
    clear S0 e9
    refine (S1.out).mono ?_
    rintro e W ⟨rfl, hx⟩
    have BE := Lib.hid (BW0.out.trans (hx.mono BW0.out.size))
    clear hx
    go_wp2_with fail
    go_ret
    exact ⟨rfl, BE.out⟩
  obtain ⟨left1, hl9⟩ : ∃ left : Nat, szM l1 t1 1048576 = left := ⟨1048576 - (l1 + (t1.length + cnt t1)), by unfold szM; rw [if_pos hz1]; omega⟩
  have HLN : Hid (left1 ≤ 1048576) := by show _ ≤ _; unfold szM at hl9; rw [if_pos hz1] at hl9; have := Nat.le_refl 1048576; omega
  rw [hl9] at S0
  have S1 := Lib.hid S0
  clear S0 hl9
  have TM1 := Lib.hid (fun (W : World) (hb : Below w.heap.size w W) => TM10 W hb (by have := Nat.le_refl 1048576; omega) (by have := Nat.le_refl 1048576; omega))
  have HSZ1 : Hid (y1.length + cnt t1 ≤ 1048576) := by show _ ≤ _; rw [HL1.out]; have := Nat.le_refl 1048576; omega
  clear TM10 hz1 SM1
  have HLF := HLN
  clear HLN
  refine (S1.out).mono ?_
  rintro e W5 ⟨rfl, hx⟩
  clear S1
  have Z6 := Lib.hid (hx.size)
  have k7 := (hx.cell (World.block_lt_of_cell? _ _ k1)).trans k1
  clear k1
  have k8 := (hx.cell (World.block_lt_of_cell? _ _ k2)).trans k2
  clear k2
  have k9 := (hx.cell (World.block_lt_of_cell? _ _ k3)).trans k3
  clear k3
  have B10 := Lib.hid (BW0.out.trans (hx.mono BW0.out.size))
  clear BW0
  clear hx
  go_wp2_with fail
  have S0 := SM2.out left1 HLF.out _ B10.out
  by_cases hz2 : t2.length + cnt t2 ≤ left1
  rotate_left
  · have e9 : szR t2 left1 = -1 := by unfold szR; rw [if_neg hz2]
    rw [e9] at S0
    have S1 := Lib.hid S0
    clear S0 e9
    refine (S1.out).mono ?_
    rintro e W ⟨rfl, hx⟩
    have BE := Lib.hid (B10.out.trans (hx.mono B10.out.size))
    clear hx
    go_wp2_with fail
    go_ret
    exact ⟨rfl, BE.out⟩
  obtain ⟨left2, hl9⟩ : ∃ left : Nat, szR t2 left1 = left := ⟨left1 - (t2.length + cnt t2), by unfold szR; rw [if_pos hz2]; omega⟩
  have HLN : Hid (left2 ≤ 1048576) := by show _ ≤ _; unfold szR at hl9; rw [if_pos hz2] at hl9; have := HLF.out; omega
  rw [hl9] at S0
  have S1 := Lib.hid S0
  clear S0 hl9
  have TM2 := Lib.hid (fun (W : World) (hb : Below w.heap.size w W) => TM20 W hb (by have := HLF.out; omega))
  have HSZ2 : Hid (cnt t2 ≤ 1048576) := by show _ ≤ _; have := HLF.out; omega
  clear TM20 hz2 SM2 HLF
  have HLF := HLN
  clear HLN
  refine (S1.out).mono ?_
  rintro e W11 ⟨rfl, hx⟩
  clear S1
  have Z12 := Lib.hid (hx.size)
  have k13 := (hx.cell (World.block_lt_of_cell? _ _ k7)).trans k7
  clear k7
  have k14 := (hx.cell (World.block_lt_of_cell? _ _ k8)).trans k8
  clear k8
  have k15 := (hx.cell (World.block_lt_of_cell? _ _ k9)).trans k9
  clear k9
  have B16 := Lib.hid (B10.out.trans (hx.mono B10.out.size))
  clear B10
  clear hx
  go_upto_region 10 with fail
  go_cut [8, 9] (fun s6 s7 W17 => ∃ (W : World) (r1 : Value), W = W17 ∧ s6 = r1 ∧ s7 = .int .i64 pc ∧ IntS W17.heap r1 rs ∧ Below W11.heap.size W11 W17)
  case first =>
    go_region_held3 (fun W => W.cell? ⟨w.heap.size, 0, none⟩ = some (.slice a1 l1 p1) ∧ W.cell? ⟨w.heap.size, 1, none⟩ = some (.slice a1q l1q p1q) ∧ W.cell? ⟨w.heap.size + 1, 0, none⟩ = some (.slice a2 l2 p2) ∧ Below W11.heap.size W11 W)
      (first | exact ⟨k13, k14, k15, (Below.refl _ _).drew⟩ | exact heldC3 (by assumption) hx0 | exact heldC3 (by assumption) hx1 | exact heldC3 (by assumption) hx2 | exact heldC3 (by assumption) hxf | fail)
      (first | (go_at_call 7; refine (TM1.out _ (heldC3B B16.out (by assumption) B16.out.size)).mono ?_; rintro e W10 ⟨d0, v0, u0, rfl, hm0, hx0⟩; obtain ⟨ea0, eb0, ec0, rfl⟩ := own_shape hm0.deg; obtain ⟨fa0, fb0, fc0, rfl⟩ := own_shape hm0.act.row) | (go_at_call 8; refine (TM2.out _ (heldC3B B16.out (by assumption) B16.out.size)).mono ?_; rintro e W11 ⟨v1, rfl, ⟨u1, hm1⟩, hx1⟩; obtain ⟨ea1, eb1, ec1, rfl⟩ := own_shape hm1.row) | (go_at_call 9; refine (TM3.out _ (heldC3B B16.out (by assumption) B16.out.size)).mono ?_; rintro e W12 ⟨v2, rfl, hm2, hx2⟩; obtain ⟨ea2, eb2, ec2, rfl⟩ := own_shape hm2) | (go_at_call 6; refine (S.out _ _ _ _ _ ((hm0.ints.same hx1.block).same hx2.block) (hm1.ints.same hx2.block) hm2.ints).mono ?_; rintro e W18 ⟨r1, rfl, hR, hxf⟩; obtain ⟨j1, j2, rfl, -⟩ := hR.len))
    all_goals
      rename_i hh
      first | go_meet | (go_wp2_with fail; go_meet)
      exact ⟨_, _, rfl, rfl, rfl, hR, heldC3X hh⟩
  case rest =>
    obtain ⟨W17, r19, hWe, rfl, rfl, hm, hx⟩ := hcut
    subst hWe
    obtain ⟨q20, q21, rfl, -⟩ := hm.len
    have R18 := Lib.hid hm
    clear hm
    have Z22 := Lib.hid (hx.size)
    have k23 := (hx.cell (World.block_lt_of_cell? _ _ k13)).trans k13
    clear k13
    have k24 := (hx.cell (World.block_lt_of_cell? _ _ k14)).trans k14
    clear k14
    have k25 := (hx.cell (World.block_lt_of_cell? _ _ k15)).trans k15
    clear k15
    have B26 := Lib.hid (B16.out.trans (hx.mono B16.out.size))
    clear B16
    clear hx
    have B27 := Lib.hid (Below.refl W17.heap.size W17)
    go_wp2_with fail
    refine (TM1.out _ B26.out).mono ?_
    rintro e W31 ⟨d28, v29, u30, rfl, hm, hx⟩
    obtain ⟨q32, q33, q34, rfl⟩ := own_shape hm.deg
    obtain ⟨q35, q36, q37, rfl⟩ := own_shape hm.act.row
    have O38 := Lib.hid hm
    have R39 := Lib.hid hm.range
    clear hm
    have Z40 := Lib.hid (hx.size)
    have k41 := (hx.cell (World.block_lt_of_cell? _ _ k23)).trans k23
    clear k23
    have k42 := (hx.cell (World.block_lt_of_cell? _ _ k24)).trans k24
    clear k24
    have k43 := (hx.cell (World.block_lt_of_cell? _ _ k25)).trans k25
    clear k25
    have B44 := Lib.hid (B26.out.trans (hx.mono B26.out.size))
    clear B26
    have B45 := Lib.hid (B27.out.trans (hx.mono B27.out.size))
    clear B27
    clear hx
    obtain ⟨W46, E470⟩ : ∃ W, W = W31.alloc (.cells #[.slice q32 q33 q34, .slice q35 q36 q37] 32) := ⟨_, rfl⟩
    have hx : Below W31.heap.size W31 W46 := by rw [E470]; exact (Below.refl _ _).alloc (Nat.le_refl _) _
    have k48 : W46.cell? ⟨W31.heap.size, 0, none⟩ = some (.slice q32 q33 q34) := by rw [E470, World.cell?]; simp only [heap_alloc_new]; rfl
    have k49 : W46.cell? ⟨W31.heap.size, 1, none⟩ = some (.slice q35 q36 q37) := by rw [E470, World.cell?]; simp only [heap_alloc_new]; rfl
    have kx0 := Go.Lib.cell?_alloc_some (.cells #[.slice q32 q33 q34, .slice q35 q36 q37] 32) k41
    have kx1 := Go.Lib.cell?_alloc_some (.cells #[.slice q32 q33 q34, .slice q35 q36 q37] 32) k42
    have kx2 := Go.Lib.cell?_alloc_some (.cells #[.slice q32 q33 q34, .slice q35 q36 q37] 32) k43
    have Z50 := Lib.hid (World.block_lt_of_cell? _ _ k48)
    simp only at Z50
    have Z51 := Lib.hid (hx.size)
    have k52 := (hx.cell (World.block_lt_of_cell? _ _ k41)).trans k41
    clear k41
    have k53 := (hx.cell (World.block_lt_of_cell? _ _ k42)).trans k42
    clear k42
    have k54 := (hx.cell (World.block_lt_of_cell? _ _ k43)).trans k43
    clear k43
    have O55 := Lib.hid (O38.out.same hx.block)
    clear O38
    have B56 := Lib.hid (B44.out.trans (hx.mono B44.out.size))
    clear B44
    have B57 := Lib.hid (B45.out.trans (hx.mono B45.out.size))
    clear B45
    clear hx
    have E47 := Lib.hid E470
    clear E470
    go_wp2_with fail
    rw [← E47.out]
    clear E47 kx0 kx1 kx2
    go_wp2_with fail
    refine (TM2.out _ B56.out).mono ?_
    rintro e W60 ⟨v58, rfl, ⟨u59, hm⟩, hx⟩
    obtain ⟨q61, q62, q63, rfl⟩ := own_shape hm.row
    have O64 := Lib.hid hm
    have R65 := Lib.hid hm.range
    clear hm
    have Z66 := Lib.hid (hx.size)
    have k67 := (hx.cell (World.block_lt_of_cell? _ _ k52)).trans k52
    clear k52
    have k68 := (hx.cell (World.block_lt_of_cell? _ _ k53)).trans k53
    clear k53
    have k69 := (hx.cell (World.block_lt_of_cell? _ _ k54)).trans k54
    clear k54
    have k70 := (hx.cell (World.block_lt_of_cell? _ _ k48)).trans k48
    clear k48
    have k71 := (hx.cell (World.block_lt_of_cell? _ _ k49)).trans k49
    clear k49
    have O72 := Lib.hid (O55.out.same hx.block)
    clear O55
    have B73 := Lib.hid (B56.out.trans (hx.mono B56.out.size))
    clear B56
    have B74 := Lib.hid (B57.out.trans (hx.mono B57.out.size))
    clear B57
    clear hx
    obtain ⟨W75, E760⟩ : ∃ W, W = W60.alloc (.cells #[.slice q61 q62 q63] 34) := ⟨_, rfl⟩
    have hx : Below W60.heap.size W60 W75 := by rw [E760]; exact (Below.refl _ _).alloc (Nat.le_refl _) _
    have k77 : W75.cell? ⟨W60.heap.size, 0, none⟩ = some (.slice q61 q62 q63) := by rw [E760, World.cell?]; simp only [heap_alloc_new]; rfl
    have kx0 := Go.Lib.cell?_alloc_some (.cells #[.slice q61 q62 q63] 34) k67
    have kx1 := Go.Lib.cell?_alloc_some (.cells #[.slice q61 q62 q63] 34) k68
    have kx2 := Go.Lib.cell?_alloc_some (.cells #[.slice q61 q62 q63] 34) k69
    have kx3 := Go.Lib.cell?_alloc_some (.cells #[.slice q61 q62 q63] 34) k70
    have kx4 := Go.Lib.cell?_alloc_some (.cells #[.slice q61 q62 q63] 34) k71
    have Z78 := Lib.hid (World.block_lt_of_cell? _ _ k77)
    simp only at Z78
    have Z79 := Lib.hid (hx.size)
    have k80 := (hx.cell (World.block_lt_of_cell? _ _ k67)).trans k67
    clear k67
    have k81 := (hx.cell (World.block_lt_of_cell? _ _ k68)).trans k68
    clear k68
    have k82 := (hx.cell (World.block_lt_of_cell? _ _ k69)).trans k69
    clear k69
    have k83 := (hx.cell (World.block_lt_of_cell? _ _ k70)).trans k70
    clear k70
    have k84 := (hx.cell (World.block_lt_of_cell? _ _ k71)).trans k71
    clear k71
    have O85 := Lib.hid (O72.out.same hx.block)
    clear O72
    have O86 := Lib.hid (O64.out.same hx.block)
    clear O64
    have B87 := Lib.hid (B73.out.trans (hx.mono B73.out.size))
    clear B73
    have B88 := Lib.hid (B74.out.trans (hx.mono B74.out.size))
    clear B74
    clear hx
    have E76 := Lib.hid E760
    clear E760
    go_wp2_with fail
    rw [← E76.out]
    clear E76 kx0 kx1 kx2 kx3 kx4
    go_wp2_with fail
    refine (TM3.out _ B87.out).mono ?_
    rintro e W90 ⟨v89, rfl, hm, hx⟩
    obtain ⟨q91, q92, q93, rfl⟩ := own_shape hm
    have O94 := Lib.hid hm
    have R95 := Lib.hid hm.range
    clear hm
    have Z96 := Lib.hid (hx.size)
    have k97 := (hx.cell (World.block_lt_of_cell? _ _ k80)).trans k80
    clear k80
    have k98 := (hx.cell (World.block_lt_of_cell? _ _ k81)).trans k81
    clear k81
    have k99 := (hx.cell (World.block_lt_of_cell? _ _ k82)).trans k82
    clear k82
    have k100 := (hx.cell (World.block_lt_of_cell? _ _ k83)).trans k83
    clear k83
    have k101 := (hx.cell (World.block_lt_of_cell? _ _ k84)).trans k84
    clear k84
    have k102 := (hx.cell (World.block_lt_of_cell? _ _ k77)).trans k77
    clear k77
    have O103 := Lib.hid (O85.out.same hx.block)
    clear O85
    have O104 := Lib.hid (O86.out.same hx.block)
    clear O86
    have B105 := Lib.hid (B87.out.trans (hx.mono B87.out.size))
    clear B87
    have B106 := Lib.hid (B88.out.trans (hx.mono B88.out.size))
    clear B88
    clear hx
    go_wp2_with fail
    refine (I.out (.slice q32 q33 q34) (.slice q35 q36 q37) (.slice q61 q62 q63) (.slice q91 q92 q93) _ O103.out.ints O104.out.ints O94.out.ints).mono ?_
    rintro e W108 ⟨v107, rfl, hm, hx⟩
    obtain ⟨q109, q110, q111, rfl⟩ := own_shape hm
    have O112 := Lib.hid hm
    have R113 := Lib.hid hm.range
    clear hm
    have Z114 := Lib.hid (hx.size)
    have k115 := (hx.cell (World.block_lt_of_cell? _ _ k97)).trans k97
    clear k97
    have k116 := (hx.cell (World.block_lt_of_cell? _ _ k98)).trans k98
    clear k98
    have k117 := (hx.cell (World.block_lt_of_cell? _ _ k99)).trans k99
    clear k99
    have k118 := (hx.cell (World.block_lt_of_cell? _ _ k100)).trans k100
    clear k100
    have k119 := (hx.cell (World.block_lt_of_cell? _ _ k101)).trans k101
    clear k101
    have k120 := (hx.cell (World.block_lt_of_cell? _ _ k102)).trans k102
    clear k102
    have O121 := Lib.hid (O103.out.same hx.block)
    clear O103
    have O122 := Lib.hid (O104.out.same hx.block)
    clear O104
    have O123 := Lib.hid (O94.out.same hx.block)
    clear O94
    have B124 := Lib.hid (B105.out.trans (hx.mono B105.out.size))
    clear B105
    have B125 := Lib.hid (B106.out.trans (hx.mono B106.out.size))
    clear B106
    clear hx
    go_wp2_with fail
    refine (eqInt64S_same _ _ rs _ O112.out.ints (R18.out.same B125.out.block)).mono ?_
    rintro e W126x ⟨rfl, n127, hWn⟩
    obtain ⟨W126, hWe⟩ : ∃ W, W = W126x := ⟨_, rfl⟩
    have hx : Below W108.heap.size W108 W126 := by rw [hWe, hWn]; exact below_drewN _ (Below.refl _ _)
    rw [← hWe]
    clear hWn hWe
    have Z128 := Lib.hid (hx.size)
    have k129 := (hx.cell (World.block_lt_of_cell? _ _ k115)).trans k115
    clear k115
    have k130 := (hx.cell (World.block_lt_of_cell? _ _ k116)).trans k116
    clear k116
    have k131 := (hx.cell (World.block_lt_of_cell? _ _ k117)).trans k117
    clear k117
    have k132 := (hx.cell (World.block_lt_of_cell? _ _ k118)).trans k118
    clear k118
    have k133 := (hx.cell (World.block_lt_of_cell? _ _ k119)).trans k119
    clear k119
    have k134 := (hx.cell (World.block_lt_of_cell? _ _ k120)).trans k120
    clear k120
    have O135 := Lib.hid (O121.out.same hx.block)
    clear O121
    have O136 := Lib.hid (O122.out.same hx.block)
    clear O122
    have O137 := Lib.hid (O123.out.same hx.block)
    clear O123
    have O138 := Lib.hid (O112.out.same hx.block)
    clear O112
    have B139 := Lib.hid (B124.out.trans (hx.mono B124.out.size))
    clear B124
    have B140 := Lib.hid (B125.out.trans (hx.mono B125.out.size))
    clear B125
    clear hx
    go_wp2_with fail
    go_region_held3 (fun W => W.cell? ⟨W31.heap.size, 0, none⟩ = some (.slice q32 q33 q34) ∧ W.cell? ⟨W31.heap.size, 1, none⟩ = some (.slice q35 q36 q37) ∧ W.cell? ⟨w.heap.size, 0, none⟩ = some (.slice a1 l1 p1) ∧ W.cell? ⟨w.heap.size, 1, none⟩ = some (.slice a1q l1q p1q) ∧ Below W126.heap.size W126 W)
      (first | exact ⟨k132, k133, k129, k130, (Below.refl _ _).drew⟩ | exact heldC4 (by assumption) hx8 | exact heldC4 (by assumption) hx9)
      (first | (go_at_call 7; refine (TM1.out _ (heldC4B B139.out (by assumption) B139.out.size)).mono ?_; rintro e W9 ⟨d9, v9, u9, rfl, hm9, hx9⟩; obtain ⟨e1, e2, e3, rfl⟩ := own_shape hm9.deg; obtain ⟨f1, f2, f3, rfl⟩ := own_shape hm9.act.row) | (go_at_call 12; refine (eqModule_same _ _ _ _ y1 t1 _ (O135.out.ints.same (heldC4X (by assumption)).block) hm9.ints).mono ?_; rintro e W8 ⟨rfl, hx8⟩))
    all_goals
      rename_i hh
      obtain ⟨W141, hWe⟩ : ∃ W, W = W8 := ⟨_, rfl⟩
      have hx : Below W126.heap.size W126 W141 := by rw [hWe]; exact heldC4X hh
      rw [← hWe]
      clear hWe hh hx8 hx9 hm9
      have Z142 := Lib.hid (hx.size)
      have k143 := (hx.cell (World.block_lt_of_cell? _ _ k129)).trans k129
      clear k129
      have k144 := (hx.cell (World.block_lt_of_cell? _ _ k130)).trans k130
      clear k130
      have k145 := (hx.cell (World.block_lt_of_cell? _ _ k131)).trans k131
      clear k131
      have k146 := (hx.cell (World.block_lt_of_cell? _ _ k132)).trans k132
      clear k132
      have k147 := (hx.cell (World.block_lt_of_cell? _ _ k133)).trans k133
      clear k133
      have k148 := (hx.cell (World.block_lt_of_cell? _ _ k134)).trans k134
      clear k134
      have O149 := Lib.hid (O135.out.same hx.block)
      clear O135
      have O150 := Lib.hid (O136.out.same hx.block)
      clear O136
      have O151 := Lib.hid (O137.out.same hx.block)
      clear O137
      have O152 := Lib.hid (O138.out.same hx.block)
      clear O138
      have B153 := Lib.hid (B139.out.trans (hx.mono B139.out.size))
      clear B139
      have B154 := Lib.hid (B140.out.trans (hx.mono B140.out.size))
      clear B140
      clear hx
      go_wp2_with fail
      go_region_held3 (fun W => W.cell? ⟨W60.heap.size, 0, none⟩ = some (.slice q61 q62 q63) ∧ W.cell? ⟨w.heap.size + 1, 0, none⟩ = some (.slice a2 l2 p2) ∧ Below W141.heap.size W141 W)
        (first | exact ⟨k148, k145, (Below.refl _ _).drew⟩ | exact heldC2 (by assumption) hx8 | exact heldC2 (by assumption) hx9)
        (first | (go_at_call 8; refine (TM2.out _ (heldC2B B153.out (by assumption) B153.out.size)).mono ?_; rintro e W9 ⟨v9, rfl, ⟨u9, hm9⟩, hx9⟩; obtain ⟨e1, e2, e3, rfl⟩ := own_shape hm9.row) | (go_at_call 13; refine (eqMilnor_same _ _ t2 _ (O150.out.ints.same (heldC2X (by assumption)).block) hm9.ints).mono ?_; rintro e W8 ⟨rfl, hx8⟩))
      all_goals
        rename_i hh
        obtain ⟨W155, hWe⟩ : ∃ W, W = W8 := ⟨_, rfl⟩
        have hx : Below W141.heap.size W141 W155 := by rw [hWe]; exact heldC2X hh
        rw [← hWe]
        clear hWe hh hx8 hx9 hm9
        have Z156 := Lib.hid (hx.size)
        have k157 := (hx.cell (World.block_lt_of_cell? _ _ k143)).trans k143
        clear k143
        have k158 := (hx.cell (World.block_lt_of_cell? _ _ k144)).trans k144
        clear k144
        have k159 := (hx.cell (World.block_lt_of_cell? _ _ k145)).trans k145
        clear k145
        have k160 := (hx.cell (World.block_lt_of_cell? _ _ k146)).trans k146
        clear k146
        have k161 := (hx.cell (World.block_lt_of_cell? _ _ k147)).trans k147
        clear k147
        have k162 := (hx.cell (World.block_lt_of_cell? _ _ k148)).trans k148
        clear k148
        have O163 := Lib.hid (O149.out.same hx.block)
        clear O149
        have O164 := Lib.hid (O150.out.same hx.block)
        clear O150
        have O165 := Lib.hid (O151.out.same hx.block)
        clear O151
        have O166 := Lib.hid (O152.out.same hx.block)
        clear O152
        have B167 := Lib.hid (B153.out.trans (hx.mono B153.out.size))
        clear B153
        have B168 := Lib.hid (B154.out.trans (hx.mono B154.out.size))
        clear B154
        clear hx
        go_wp2_with fail
        refine (TM3.out _ B167.out).mono ?_
        rintro e W170 ⟨v169, rfl, hm, hx⟩
        obtain ⟨q171, q172, q173, rfl⟩ := own_shape hm
        have O174 := Lib.hid hm
        have R175 := Lib.hid hm.range
        clear hm
        have Z176 := Lib.hid (hx.size)
        have k177 := (hx.cell (World.block_lt_of_cell? _ _ k157)).trans k157
        clear k157
        have k178 := (hx.cell (World.block_lt_of_cell? _ _ k158)).trans k158
        clear k158
        have k179 := (hx.cell (World.block_lt_of_cell? _ _ k159)).trans k159
        clear k159
        have k180 := (hx.cell (World.block_lt_of_cell? _ _ k160)).trans k160
        clear k160
        have k181 := (hx.cell (World.block_lt_of_cell? _ _ k161)).trans k161
        clear k161
        have k182 := (hx.cell (World.block_lt_of_cell? _ _ k162)).trans k162
        clear k162
        have O183 := Lib.hid (O163.out.same hx.block)
        clear O163
        have O184 := Lib.hid (O164.out.same hx.block)
        clear O164
        have O185 := Lib.hid (O165.out.same hx.block)
        clear O165
        have O186 := Lib.hid (O166.out.same hx.block)
        clear O166
        have B187 := Lib.hid (B167.out.trans (hx.mono B167.out.size))
        clear B167
        have B188 := Lib.hid (B168.out.trans (hx.mono B168.out.size))
        clear B168
        clear hx
        go_wp2_with fail
        refine (eqInt64S_same _ _ y3 _ O185.out.ints O174.out.ints).mono ?_
        rintro e W189x ⟨rfl, n190, hWn⟩
        obtain ⟨W189, hWe⟩ : ∃ W, W = W189x := ⟨_, rfl⟩
        have hx : Below W170.heap.size W170 W189 := by rw [hWe, hWn]; exact below_drewN _ (Below.refl _ _)
        rw [← hWe]
        clear hWn hWe
        have Z191 := Lib.hid (hx.size)
        have k192 := (hx.cell (World.block_lt_of_cell? _ _ k177)).trans k177
        clear k177
        have k193 := (hx.cell (World.block_lt_of_cell? _ _ k178)).trans k178
        clear k178
        have k194 := (hx.cell (World.block_lt_of_cell? _ _ k179)).trans k179
        clear k179
        have k195 := (hx.cell (World.block_lt_of_cell? _ _ k180)).trans k180
        clear k180
        have k196 := (hx.cell (World.block_lt_of_cell? _ _ k181)).trans k181
        clear k181
        have k197 := (hx.cell (World.block_lt_of_cell? _ _ k182)).trans k182
        clear k182
        have O198 := Lib.hid (O183.out.same hx.block)
        clear O183
        have O199 := Lib.hid (O184.out.same hx.block)
        clear O184
        have O200 := Lib.hid (O185.out.same hx.block)
        clear O185
        have O201 := Lib.hid (O186.out.same hx.block)
        clear O186
        have O202 := Lib.hid (O174.out.same hx.block)
        clear O174
        have B203 := Lib.hid (B187.out.trans (hx.mono B187.out.size))
        clear B187
        have B204 := Lib.hid (B188.out.trans (hx.mono B188.out.size))
        clear B188
        clear hx
        clear O202
        go_wp2_with fail
        refine (markModule_c (.slice q32 q33 q34) (.slice q35 q36 q37) u30 y1 t1 1 W17.heap.size W189 O198.out (by have := Z4.out; have := Z6.out; have := Z12.out; have := Z22.out; have := Z40.out; have := Z50.out; have := Z51.out; have := Z66.out; have := Z78.out; have := Z79.out; have := Z96.out; have := Z114.out; have := Z128.out; have := Z142.out; have := Z156.out; have := Z176.out; have := Z191.out; omega) (by omega) (by have := HXL.out; have := HSZ1.out; have := HSZ2.out; have := HSZ3.out; omega)).mono ?_
        rintro e W205 ⟨rfl, hm, hlow, hfr⟩
        have RRR := R39.out
        have hhi : ∀ b, W31.heap.size ≤ b → b < W189.heap.size → W205.heap[b]? = W189.heap[b]? := fun b h1 h2 => hfr b h2 (fun e => by have := RRR.1 b e; omega) (fun u hu e => by have := RRR.2 u hu b e; omega)
        clear RRR
        have O206 := Lib.hid hm
        clear hm
        have Z207 := Lib.hid (hlow.size)
        have k208 := (hlow.cell (p := ⟨w.heap.size, 0, none⟩) (by show w.heap.size < W17.heap.size; exact (by have := Z4.out; have := Z6.out; have := Z12.out; have := Z22.out; have := Z40.out; have := Z50.out; have := Z51.out; have := Z66.out; have := Z78.out; have := Z79.out; have := Z96.out; have := Z114.out; have := Z128.out; have := Z142.out; have := Z156.out; have := Z176.out; have := Z191.out; have := Z207.out; omega))).trans k192
        clear k192
        have k209 := (hlow.cell (p := ⟨w.heap.size, 1, none⟩) (by show w.heap.size < W17.heap.size; exact (by have := Z4.out; have := Z6.out; have := Z12.out; have := Z22.out; have := Z40.out; have := Z50.out; have := Z51.out; have := Z66.out; have := Z78.out; have := Z79.out; have := Z96.out; have := Z114.out; have := Z128.out; have := Z142.out; have := Z156.out; have := Z176.out; have := Z191.out; have := Z207.out; omega))).trans k193
        clear k193
        have k210 := (hlow.cell (p := ⟨w.heap.size + 1, 0, none⟩) (by show w.heap.size + 1 < W17.heap.size; exact (by have := Z4.out; have := Z6.out; have := Z12.out; have := Z22.out; have := Z40.out; have := Z50.out; have := Z51.out; have := Z66.out; have := Z78.out; have := Z79.out; have := Z96.out; have := Z114.out; have := Z128.out; have := Z142.out; have := Z156.out; have := Z176.out; have := Z191.out; have := Z207.out; omega))).trans k194
        clear k194
        have k211 := (World.cell?_of_block (hhi W31.heap.size (by have := Z4.out; have := Z6.out; have := Z12.out; have := Z22.out; have := Z40.out; have := Z50.out; have := Z51.out; have := Z66.out; have := Z78.out; have := Z79.out; have := Z96.out; have := Z114.out; have := Z128.out; have := Z142.out; have := Z156.out; have := Z176.out; have := Z191.out; have := Z207.out; omega) (World.block_lt_of_cell? _ _ k195))).trans k195
        clear k195
        have k212 := (World.cell?_of_block (hhi W31.heap.size (by have := Z4.out; have := Z6.out; have := Z12.out; have := Z22.out; have := Z40.out; have := Z50.out; have := Z51.out; have := Z66.out; have := Z78.out; have := Z79.out; have := Z96.out; have := Z114.out; have := Z128.out; have := Z142.out; have := Z156.out; have := Z176.out; have := Z191.out; have := Z207.out; omega) (World.block_lt_of_cell? _ _ k196))).trans k196
        clear k196
        have k213 := (World.cell?_of_block (hhi W60.heap.size (by have := Z4.out; have := Z6.out; have := Z12.out; have := Z22.out; have := Z40.out; have := Z50.out; have := Z51.out; have := Z66.out; have := Z78.out; have := Z79.out; have := Z96.out; have := Z114.out; have := Z128.out; have := Z142.out; have := Z156.out; have := Z176.out; have := Z191.out; have := Z207.out; omega) (World.block_lt_of_cell? _ _ k197))).trans k197
        clear k197
        have O214 := Lib.hid (O199.out.far fun b h1 h2 => hhi b (Nat.le_trans (by have := Z4.out; have := Z6.out; have := Z12.out; have := Z22.out; have := Z40.out; have := Z50.out; have := Z51.out; have := Z66.out; have := Z78.out; have := Z79.out; have := Z96.out; have := Z114.out; have := Z128.out; have := Z142.out; have := Z156.out; have := Z176.out; have := Z191.out; have := Z207.out; omega) h1) h2)
        clear O199
        have O215 := Lib.hid (O200.out.far fun b h1 h2 => hhi b (Nat.le_trans (by have := Z4.out; have := Z6.out; have := Z12.out; have := Z22.out; have := Z40.out; have := Z50.out; have := Z51.out; have := Z66.out; have := Z78.out; have := Z79.out; have := Z96.out; have := Z114.out; have := Z128.out; have := Z142.out; have := Z156.out; have := Z176.out; have := Z191.out; have := Z207.out; omega) h1) h2)
        clear O200
        have O216 := Lib.hid (O201.out.far fun b h1 h2 => hhi b (Nat.le_trans (by have := Z4.out; have := Z6.out; have := Z12.out; have := Z22.out; have := Z40.out; have := Z50.out; have := Z51.out; have := Z66.out; have := Z78.out; have := Z79.out; have := Z96.out; have := Z114.out; have := Z128.out; have := Z142.out; have := Z156.out; have := Z176.out; have := Z191.out; have := Z207.out; omega) h1) h2)
        clear O201
        have B217 := Lib.hid (B203.out.trans (hlow.mono (by have := Z4.out; have := Z6.out; have := Z12.out; have := Z22.out; have := Z40.out; have := Z50.out; have := Z51.out; have := Z66.out; have := Z78.out; have := Z79.out; have := Z96.out; have := Z114.out; have := Z128.out; have := Z142.out; have := Z156.out; have := Z176.out; have := Z191.out; have := Z207.out; omega)))
        clear B203
        have B218 := Lib.hid (B204.out.trans (hlow.mono (by have := Z4.out; have := Z6.out; have := Z12.out; have := Z22.out; have := Z40.out; have := Z50.out; have := Z51.out; have := Z66.out; have := Z78.out; have := Z79.out; have := Z96.out; have := Z114.out; have := Z128.out; have := Z142.out; have := Z156.out; have := Z176.out; have := Z191.out; have := Z207.out; omega)))
        clear B204
        clear hlow hhi hfr
        go_wp2_with fail
        refine (markMilnor_c (.slice q61 q62 q63) u59 t2 (1 + (y1.length : Int) + (cnt t1 : Int)) W46.heap.size W205 O214.out (by have := Z4.out; have := Z6.out; have := Z12.out; have := Z22.out; have := Z40.out; have := Z50.out; have := Z51.out; have := Z66.out; have := Z78.out; have := Z79.out; have := Z96.out; have := Z114.out; have := Z128.out; have := Z142.out; have := Z156.out; have := Z176.out; have := Z191.out; have := Z207.out; omega) (by omega) (by have := HXL.out; have := HSZ1.out; have := HSZ2.out; have := HSZ3.out; omega)).mono ?_
        rintro e W219 ⟨rfl, hm, hlow, hfr⟩
        have RRR := R65.out
        have hhi : ∀ b, W60.heap.size ≤ b → b < W205.heap.size → W219.heap[b]? = W205.heap[b]? := fun b h1 h2 => hfr b h2 (fun u hu e => by have := RRR.2 u hu b e; omega)
        clear RRR
        have O220 := Lib.hid hm
        clear hm
        have Z221 := Lib.hid (hlow.size)
        have k222 := (hlow.cell (p := ⟨w.heap.size, 0, none⟩) (by show w.heap.size < W46.heap.size; exact (by have := Z4.out; have := Z6.out; have := Z12.out; have := Z22.out; have := Z40.out; have := Z50.out; have := Z51.out; have := Z66.out; have := Z78.out; have := Z79.out; have := Z96.out; have := Z114.out; have := Z128.out; have := Z142.out; have := Z156.out; have := Z176.out; have := Z191.out; have := Z207.out; have := Z221.out; omega))).trans k208
        clear k208
        have k223 := (hlow.cell (p := ⟨w.heap.size, 1, none⟩) (by show w.heap.size < W46.heap.size; exact (by have := Z4.out; have := Z6.out; have := Z12.out; have := Z22.out; have := Z40.out; have := Z50.out; have := Z51.out; have := Z66.out; have := Z78.out; have := Z79.out; have := Z96.out; have := Z114.out; have := Z128.out; have := Z142.out; have := Z156.out; have := Z176.out; have := Z191.out; have := Z207.out; have := Z221.out; omega))).trans k209
        clear k209
        have k224 := (hlow.cell (p := ⟨w.heap.size + 1, 0, none⟩) (by show w.heap.size + 1 < W46.heap.size; exact (by have := Z4.out; have := Z6.out; have := Z12.out; have := Z22.out; have := Z40.out; have := Z50.out; have := Z51.out; have := Z66.out; have := Z78.out; have := Z79.out; have := Z96.out; have := Z114.out; have := Z128.out; have := Z142.out; have := Z156.out; have := Z176.out; have := Z191.out; have := Z207.out; have := Z221.out; omega))).trans k210
        clear k210
        clear k211
        clear k212
        have k227 := (World.cell?_of_block (hhi W60.heap.size (by have := Z4.out; have := Z6.out; have := Z12.out; have := Z22.out; have := Z40.out; have := Z50.out; have := Z51.out; have := Z66.out; have := Z78.out; have := Z79.out; have := Z96.out; have := Z114.out; have := Z128.out; have := Z142.out; have := Z156.out; have := Z176.out; have := Z191.out; have := Z207.out; have := Z221.out; omega) (World.block_lt_of_cell? _ _ k213))).trans k213
        clear k213
        have O228 := Lib.hid (O215.out.far fun b h1 h2 => hhi b (Nat.le_trans (by have := Z4.out; have := Z6.out; have := Z12.out; have := Z22.out; have := Z40.out; have := Z50.out; have := Z51.out; have := Z66.out; have := Z78.out; have := Z79.out; have := Z96.out; have := Z114.out; have := Z128.out; have := Z142.out; have := Z156.out; have := Z176.out; have := Z191.out; have := Z207.out; have := Z221.out; omega) h1) h2)
        clear O215
        have O229 := Lib.hid (O216.out.far fun b h1 h2 => hhi b (Nat.le_trans (by have := Z4.out; have := Z6.out; have := Z12.out; have := Z22.out; have := Z40.out; have := Z50.out; have := Z51.out; have := Z66.out; have := Z78.out; have := Z79.out; have := Z96.out; have := Z114.out; have := Z128.out; have := Z142.out; have := Z156.out; have := Z176.out; have := Z191.out; have := Z207.out; have := Z221.out; omega) h1) h2)
        clear O216
        clear O206
        have B231 := Lib.hid (B217.out.trans (hlow.mono (by have := Z4.out; have := Z6.out; have := Z12.out; have := Z22.out; have := Z40.out; have := Z50.out; have := Z51.out; have := Z66.out; have := Z78.out; have := Z79.out; have := Z96.out; have := Z114.out; have := Z128.out; have := Z142.out; have := Z156.out; have := Z176.out; have := Z191.out; have := Z207.out; have := Z221.out; omega)))
        clear B217
        have B232 := Lib.hid (B218.out.trans (hlow.mono (by have := Z4.out; have := Z6.out; have := Z12.out; have := Z22.out; have := Z40.out; have := Z50.out; have := Z51.out; have := Z66.out; have := Z78.out; have := Z79.out; have := Z96.out; have := Z114.out; have := Z128.out; have := Z142.out; have := Z156.out; have := Z176.out; have := Z191.out; have := Z207.out; have := Z221.out; omega)))
        clear B218
        clear hlow hhi hfr
        go_wp2_with fail
        refine (markInt64S_c (.slice q91 q92 q93) y3 ((1 + (y1.length : Int) + (cnt t1 : Int)) + (cnt t2 : Int)) W75.heap.size W219 O228.out (by omega) (by have := HXL.out; have := HSZ1.out; have := HSZ2.out; have := HSZ3.out; omega)).mono ?_
        rintro e W233 ⟨rfl, hm, hfr⟩
        have hlow : Below W75.heap.size W219 W233 := Below_of_grown hfr (by have := Z4.out; have := Z6.out; have := Z12.out; have := Z22.out; have := Z40.out; have := Z50.out; have := Z51.out; have := Z66.out; have := Z78.out; have := Z79.out; have := Z96.out; have := Z114.out; have := Z128.out; have := Z142.out; have := Z156.out; have := Z176.out; have := Z191.out; have := Z207.out; have := Z221.out; omega) (fun b hb => (World.ownsRow.lt O228.out b hb).1)
        have RRR := R95.out
        have hhi : ∀ b, W90.heap.size ≤ b → b < W219.heap.size → W233.heap[b]? = W219.heap[b]? := fun b h1 h2 => hfr.block b h2 (fun e => by have := RRR b e.symm; omega)
        clear RRR
        have O234 := Lib.hid hm
        clear hm
        have Z235 := Lib.hid (hlow.size)
        have k236 := (hlow.cell (p := ⟨w.heap.size, 0, none⟩) (by show w.heap.size < W75.heap.size; exact (by have := Z4.out; have := Z6.out; have := Z12.out; have := Z22.out; have := Z40.out; have := Z50.out; have := Z51.out; have := Z66.out; have := Z78.out; have := Z79.out; have := Z96.out; have := Z114.out; have := Z128.out; have := Z142.out; have := Z156.out; have := Z176.out; have := Z191.out; have := Z207.out; have := Z221.out; have := Z235.out; omega))).trans k222
        clear k222
        have k237 := (hlow.cell (p := ⟨w.heap.size, 1, none⟩) (by show w.heap.size < W75.heap.size; exact (by have := Z4.out; have := Z6.out; have := Z12.out; have := Z22.out; have := Z40.out; have := Z50.out; have := Z51.out; have := Z66.out; have := Z78.out; have := Z79.out; have := Z96.out; have := Z114.out; have := Z128.out; have := Z142.out; have := Z156.out; have := Z176.out; have := Z191.out; have := Z207.out; have := Z221.out; have := Z235.out; omega))).trans k223
        clear k223
        have k238 := (hlow.cell (p := ⟨w.heap.size + 1, 0, none⟩) (by show w.heap.size + 1 < W75.heap.size; exact (by have := Z4.out; have := Z6.out; have := Z12.out; have := Z22.out; have := Z40.out; have := Z50.out; have := Z51.out; have := Z66.out; have := Z78.out; have := Z79.out; have := Z96.out; have := Z114.out; have := Z128.out; have := Z142.out; have := Z156.out; have := Z176.out; have := Z191.out; have := Z207.out; have := Z221.out; have := Z235.out; omega))).trans k224
        clear k224
        clear k227
        have O240 := Lib.hid (O229.out.far fun b h1 h2 => hhi b (Nat.le_trans (by have := Z4.out; have := Z6.out; have := Z12.out; have := Z22.out; have := Z40.out; have := Z50.out; have := Z51.out; have := Z66.out; have := Z78.out; have := Z79.out; have := Z96.out; have := Z114.out; have := Z128.out; have := Z142.out; have := Z156.out; have := Z176.out; have := Z191.out; have := Z207.out; have := Z221.out; have := Z235.out; omega) h1) h2)
        clear O229
        clear O220
        have B242 := Lib.hid (B231.out.trans (hlow.mono (by have := Z4.out; have := Z6.out; have := Z12.out; have := Z22.out; have := Z40.out; have := Z50.out; have := Z51.out; have := Z66.out; have := Z78.out; have := Z79.out; have := Z96.out; have := Z114.out; have := Z128.out; have := Z142.out; have := Z156.out; have := Z176.out; have := Z191.out; have := Z207.out; have := Z221.out; have := Z235.out; omega)))
        clear B231
        have B243 := Lib.hid (B232.out.trans (hlow.mono (by have := Z4.out; have := Z6.out; have := Z12.out; have := Z22.out; have := Z40.out; have := Z50.out; have := Z51.out; have := Z66.out; have := Z78.out; have := Z79.out; have := Z96.out; have := Z114.out; have := Z128.out; have := Z142.out; have := Z156.out; have := Z176.out; have := Z191.out; have := Z207.out; have := Z221.out; have := Z235.out; omega)))
        clear B232
        clear hlow hhi hfr
        have t9 : decide ((((1 + (y1.length : Int) + (cnt t1 : Int)) + (cnt t2 : Int)) + (y3.length : Int)) < 0) = false := by simp; omega
        clear O234
        go_wp2_with fail
        refine (eqInt64S_same _ _ rs _ O240.out.ints (R18.out.same B243.out.block)).mono ?_
        rintro e W244x ⟨rfl, n245, hWn⟩
        obtain ⟨W244, hWe⟩ : ∃ W, W = W244x := ⟨_, rfl⟩
        have hx : Below W233.heap.size W233 W244 := by rw [hWe, hWn]; exact below_drewN _ (Below.refl _ _)
        rw [← hWe]
        clear hWn hWe
        have Z246 := Lib.hid (hx.size)
        have k247 := (hx.cell (World.block_lt_of_cell? _ _ k236)).trans k236
        clear k236
        have k248 := (hx.cell (World.block_lt_of_cell? _ _ k237)).trans k237
        clear k237
        have k249 := (hx.cell (World.block_lt_of_cell? _ _ k238)).trans k238
        clear k238
        have O250 := Lib.hid (O240.out.same hx.block)
        clear O240
        have B251 := Lib.hid (B242.out.trans (hx.mono B242.out.size))
        clear B242
        have B252 := Lib.hid (B243.out.trans (hx.mono B243.out.size))
        clear B243
        clear hx
        go_wp2_with fail
        refine (markInt64S_c (.slice q109 q110 q111) rs 1 W90.heap.size W244 O250.out (by omega) (by have := HXL.out; have := HSZ1.out; have := HSZ2.out; have := HSZ3.out; omega)).mono ?_
        rintro e W253 ⟨rfl, hm, hfr⟩
        have hlow : Below W90.heap.size W244 W253 := Below_of_grown hfr (by have := Z4.out; have := Z6.out; have := Z12.out; have := Z22.out; have := Z40.out; have := Z50.out; have := Z51.out; have := Z66.out; have := Z78.out; have := Z79.out; have := Z96.out; have := Z114.out; have := Z128.out; have := Z142.out; have := Z156.out; have := Z176.out; have := Z191.out; have := Z207.out; have := Z221.out; have := Z235.out; have := Z246.out; omega) (fun b hb => (World.ownsRow.lt O250.out b hb).1)
        have RRR := R113.out
        have hhi : ∀ b, W108.heap.size ≤ b → b < W244.heap.size → W253.heap[b]? = W244.heap[b]? := fun b h1 h2 => hfr.block b h2 (fun e => by have := RRR b e.symm; omega)
        clear RRR
        have O254 := Lib.hid hm
        clear hm
        have Z255 := Lib.hid (hlow.size)
        have k256 := (hlow.cell (p := ⟨w.heap.size, 0, none⟩) (by show w.heap.size < W90.heap.size; exact (by have := Z4.out; have := Z6.out; have := Z12.out; have := Z22.out; have := Z40.out; have := Z50.out; have := Z51.out; have := Z66.out; have := Z78.out; have := Z79.out; have := Z96.out; have := Z114.out; have := Z128.out; have := Z142.out; have := Z156.out; have := Z176.out; have := Z191.out; have := Z207.out; have := Z221.out; have := Z235.out; have := Z246.out; have := Z255.out; omega))).trans k247
        clear k247
        have k257 := (hlow.cell (p := ⟨w.heap.size, 1, none⟩) (by show w.heap.size < W90.heap.size; exact (by have := Z4.out; have := Z6.out; have := Z12.out; have := Z22.out; have := Z40.out; have := Z50.out; have := Z51.out; have := Z66.out; have := Z78.out; have := Z79.out; have := Z96.out; have := Z114.out; have := Z128.out; have := Z142.out; have := Z156.out; have := Z176.out; have := Z191.out; have := Z207.out; have := Z221.out; have := Z235.out; have := Z246.out; have := Z255.out; omega))).trans k248
        clear k248
        have k258 := (hlow.cell (p := ⟨w.heap.size + 1, 0, none⟩) (by show w.heap.size + 1 < W90.heap.size; exact (by have := Z4.out; have := Z6.out; have := Z12.out; have := Z22.out; have := Z40.out; have := Z50.out; have := Z51.out; have := Z66.out; have := Z78.out; have := Z79.out; have := Z96.out; have := Z114.out; have := Z128.out; have := Z142.out; have := Z156.out; have := Z176.out; have := Z191.out; have := Z207.out; have := Z221.out; have := Z235.out; have := Z246.out; have := Z255.out; omega))).trans k249
        clear k249
        have B259 := Lib.hid (B251.out.trans (hlow.mono (by have := Z4.out; have := Z6.out; have := Z12.out; have := Z22.out; have := Z40.out; have := Z50.out; have := Z51.out; have := Z66.out; have := Z78.out; have := Z79.out; have := Z96.out; have := Z114.out; have := Z128.out; have := Z142.out; have := Z156.out; have := Z176.out; have := Z191.out; have := Z207.out; have := Z221.out; have := Z235.out; have := Z246.out; have := Z255.out; omega)))
        clear B251
        have B260 := Lib.hid (B252.out.trans (hlow.mono (by have := Z4.out; have := Z6.out; have := Z12.out; have := Z22.out; have := Z40.out; have := Z50.out; have := Z51.out; have := Z66.out; have := Z78.out; have := Z79.out; have := Z96.out; have := Z114.out; have := Z128.out; have := Z142.out; have := Z156.out; have := Z176.out; have := Z191.out; have := Z207.out; have := Z221.out; have := Z235.out; have := Z246.out; have := Z255.out; omega)))
        clear B252
        clear hlow hhi hfr
        go_wp2_with fail
        refine (heldInt64S_c (.slice q109 q110 q111) rs.length 1 _ O254.out.ints (by omega) (by have := HXL.out; have := HSZ1.out; have := HSZ2.out; have := HSZ3.out; omega)).mono ?_
        rintro e W261 ⟨rfl, rfl⟩
        go_upto_region 37 with fail
        go_cut [18, 19] (fun s6 s7 W262 => ∃ (W : World) (r1 : Value), W = W262 ∧ s6 = r1 ∧ s7 = .int .i64 pc ∧ IntS W262.heap r1 rs ∧ Below W253.heap.size W253 W262)
        case first =>
          go_region_held3 (fun W => W.cell? ⟨w.heap.size, 0, none⟩ = some (.slice a1 l1 p1) ∧ W.cell? ⟨w.heap.size, 1, none⟩ = some (.slice a1q l1q p1q) ∧ W.cell? ⟨w.heap.size + 1, 0, none⟩ = some (.slice a2 l2 p2) ∧ Below W253.heap.size W253 W)
            (first | exact ⟨k256, k257, k258, (Below.refl _ _).drew⟩ | exact heldC3 (by assumption) hx0 | exact heldC3 (by assumption) hx1 | exact heldC3 (by assumption) hx2 | exact heldC3 (by assumption) hxf | fail)
            (first | (go_at_call 7; refine (TM1.out _ (heldC3B B259.out (by assumption) B259.out.size)).mono ?_; rintro e W10 ⟨d0, v0, u0, rfl, hm0, hx0⟩; obtain ⟨ea0, eb0, ec0, rfl⟩ := own_shape hm0.deg; obtain ⟨fa0, fb0, fc0, rfl⟩ := own_shape hm0.act.row) | (go_at_call 8; refine (TM2.out _ (heldC3B B259.out (by assumption) B259.out.size)).mono ?_; rintro e W11 ⟨v1, rfl, ⟨u1, hm1⟩, hx1⟩; obtain ⟨ea1, eb1, ec1, rfl⟩ := own_shape hm1.row) | (go_at_call 9; refine (TM3.out _ (heldC3B B259.out (by assumption) B259.out.size)).mono ?_; rintro e W12 ⟨v2, rfl, hm2, hx2⟩; obtain ⟨ea2, eb2, ec2, rfl⟩ := own_shape hm2) | (go_at_call 10; refine (I.out _ _ _ _ _ ((hm0.ints.same hx1.block).same hx2.block) (hm1.ints.same hx2.block) hm2.ints).mono ?_; rintro e W18 ⟨r1, rfl, hR0, hxf⟩; have hR := hR0.ints; obtain ⟨j1, j2, rfl, -⟩ := hR.len))
          all_goals
            rename_i hh
            first | go_meet | (go_wp2_with fail; go_meet)
            exact ⟨_, _, rfl, rfl, rfl, hR, heldC3X hh⟩
        case rest =>
          obtain ⟨W262, r264, hWe, rfl, rfl, hm, hx⟩ := hcut
          subst hWe
          obtain ⟨q265, q266, rfl, -⟩ := hm.len
          have R263 := Lib.hid hm
          clear hm
          have Z267 := Lib.hid (hx.size)
          have k268 := (hx.cell (World.block_lt_of_cell? _ _ k256)).trans k256
          clear k256
          have k269 := (hx.cell (World.block_lt_of_cell? _ _ k257)).trans k257
          clear k257
          have k270 := (hx.cell (World.block_lt_of_cell? _ _ k258)).trans k258
          clear k258
          have O271 := Lib.hid (O254.out.same hx.block)
          clear O254
          have B272 := Lib.hid (B259.out.trans (hx.mono B259.out.size))
          clear B259
          have B273 := Lib.hid (B260.out.trans (hx.mono B260.out.size))
          clear B260
          clear hx
          go_wp2_with fail
          refine (eqInt64S_same _ _ rs _ R263.out (R18.out.same B273.out.block)).mono ?_
          rintro e W274x ⟨rfl, n275, hWn⟩
          obtain ⟨W274, hWe⟩ : ∃ W, W = W274x := ⟨_, rfl⟩
          have hx : Below W262.heap.size W262 W274 := by rw [hWe, hWn]; exact below_drewN _ (Below.refl _ _)
          rw [← hWe]
          clear hWn hWe
          have Z276 := Lib.hid (hx.size)
          have k277 := (hx.cell (World.block_lt_of_cell? _ _ k268)).trans k268
          clear k268
          have k278 := (hx.cell (World.block_lt_of_cell? _ _ k269)).trans k269
          clear k269
          have k279 := (hx.cell (World.block_lt_of_cell? _ _ k270)).trans k270
          clear k270
          have O280 := Lib.hid (O271.out.same hx.block)
          clear O271
          have B281 := Lib.hid (B272.out.trans (hx.mono B272.out.size))
          clear B272
          have B282 := Lib.hid (B273.out.trans (hx.mono B273.out.size))
          clear B273
          clear hx
          go_wp2_with fail
          refine (heldInt64S_c (.slice q109 q110 q111) rs.length 1 _ O280.out.ints (by omega) (by have := HXL.out; have := HSZ1.out; have := HSZ2.out; have := HSZ3.out; omega)).mono ?_
          rintro e W283 ⟨rfl, rfl⟩
          go_wp2_with fail
          go_ret
          exact ⟨rfl, B281.out⟩

namespace fnExactMilnorOnModule_row
theorem own : ownKnob Tryz.prog.godebug = none := by kernel_rfl
theorem laidOut : laidOutB Tryz.prog = true := by kernel_rfl
set_option linter.unusedVariables false in
set_option maxRecDepth 100000 in
theorem lifted (os : Os) (started : os.Started) (H : Type) (enc : TypeId × Value → H) :
    ReturnsInHanded {} Tryz.checked os 3 .any (Rows.fnExactMilnorOnModuleSpec.pre6 enc Tryz.prog Tryz.f3 Rows.fnExactMilnorOnModuleRow.domain false) (Rows.fnExactMilnorOnModuleSpec.post enc Tryz.prog Tryz.f3 false true false false) := by
  refine returnsInHanded_of_change (C := Tryz.checked) own started (by kernel_rfl) Tryz.func3
    (ChangeSpec.witness6 (enc := enc) (C := Tryz.checked) false ⟨#[], #[.agg #[.slice none 0 0, .slice none 0 0], .agg #[.slice none 0 0], .slice none 0 0], []⟩ 8 (by kernel_rfl) (by kernel_rfl) (by kernel_rfl) (by kernel_rfl)) ?_
  intro W base args ds gs before hval0 hW hcnd _
  have hval : ∀ (j : Nat) t v, Tryz.f3.params[j]? = some t → args[j]? = some v → Value.okWide Tryz.prog W .any base t v := hval0
  have hW' := hW
  obtain ⟨p, q, hA0, hV, rfl, hfz, hnd⟩ := hW
  have hA : DataW.TrodAll enc Tryz.prog W 0 (fun _ => true) true Tryz.f3.params.toList args.toList ds p := hA0
  rw [Tryz.params3] at hA hval
  obtain ⟨v0, vs0, d0, ds0, p0, q0, hargs, rfl, rfl, h0, r0⟩ := trodAll_cons hA
  obtain ⟨v1, vs1, d1, ds1, p1, q1, rfl, rfl, rfl, h1, r1⟩ := trodAll_cons r0
  obtain ⟨v2, vs2, d2, ds2, p2, q2, rfl, rfl, rfl, h2, r2⟩ := trodAll_cons r1
  obtain ⟨rfl, rfl, rfl⟩ := trodAll_nil r2
  obtain rfl : args = #[v0, v1, v2] := by cases args; simp_all
  obtain ⟨rfl, rfl⟩ := trodVars_none hV
  have k0 := h0
  have lt0 : ∀ x ∈ p0, x.block < W.heap.size := by obtain ⟨m, hm⟩ := k0; exact DataW.trod_lt m _ _ _ hm
  obtain ⟨x0, x0q, y0, y0q, n0, rfl, -, -, f0, g0⟩ := Go.Joins.open_agg2 Tryz.underlying25 (by kernel_rfl) (by kernel_rfl) (hval 0 25 v0 rfl rfl) h0
  obtain ⟨a0, len0, cap0, z0, e0, w0⟩ := isRow_of Tryz.underlying22 Tryz.underlying2 (by kernel_rfl) f0
  obtain rfl : x0 = .slice a0 len0 cap0 := by simpa using e0
  obtain ⟨a0q, len0q, cap0q, z0q, e0q, w0q⟩ := isRows_of Tryz.underlying23 Tryz.underlying22 Tryz.underlying2 (by kernel_rfl) (by kernel_rfl) g0
  obtain rfl : x0q = .slice a0q len0q cap0q := by simpa using e0q
  have k1 := h1
  have lt1 : ∀ x ∈ p1, x.block < W.heap.size := by obtain ⟨m, hm⟩ := k1; exact DataW.trod_lt m _ _ _ hm
  obtain ⟨x1, y1, n1, rfl, f1⟩ := open_agg1 Tryz.underlying27 (by kernel_rfl) (by kernel_rfl) (hval 1 27 v1 rfl rfl) h1
  obtain ⟨a1, len1, cap1, z1, e1, w1⟩ := isRows_of Tryz.underlying23 Tryz.underlying22 Tryz.underlying2 (by kernel_rfl) (by kernel_rfl) f1
  obtain rfl : x1 = .slice a1 len1 cap1 := by simpa using e1
  obtain ⟨a2, len2, cap2, rfl⟩ := okWide_slice Tryz.underlying22 (hval 2 22 v2 rfl rfl)
  have k2 := h2
  have lt2 : ∀ x ∈ p2, x.block < W.heap.size := by obtain ⟨m, hm⟩ := k2; exact DataW.trod_lt m _ _ _ hm
  obtain ⟨z2, w2⟩ : ∃ zs, IsRow .i64 W a2 len2 cap2 zs := by
    obtain ⟨fuel, hf⟩ := h2
    rcases open_ints Tryz.underlying22 Tryz.underlying2 (by kernel_rfl) hf with ⟨hcs, _⟩ | ⟨x, l, c, zs, hcs, _, hl, hm, hz, _, hcell, hwz⟩
    · simp [Value.cells] at hcs
      obtain ⟨rfl, rfl, rfl⟩ := hcs
      exact ⟨[], .inl ⟨rfl, rfl, rfl, rfl⟩⟩
    · simp [Value.cells] at hcs
      obtain ⟨rfl, rfl, rfl⟩ := hcs
      exact ⟨zs, .inr ⟨_, rfl, hl, hm, by simpa using hz, hcell, hwz⟩⟩
  clear hA0 hval0
  refine (fnExactMilnorOnModule_walk W a0 len0 cap0 z0 w0 a0q len0q cap0q z0q w0q a1 len1 cap1 z1 w1 a2 len2 cap2 z2 w2).mono fun e W' ⟨he, bel⟩ => ?_
  subst he
  exact ⟨_, rfl, _, _, _, [], _, [], hW', trodAll_mk1 (shut_bool Tryz.underlying4 _), (trodAll_cons_mk (Below.trod laidOut (by kernel_rfl) (of_decide_eq_true (by kernel_rfl)) k0 bel lt0) (trodAll_cons_mk (Below.trod laidOut (by kernel_rfl) (of_decide_eq_true (by kernel_rfl)) k1 bel lt1) (trodAll_cons_mk (Below.trod laidOut (by kernel_rfl) (of_decide_eq_true (by kernel_rfl)) k2 bel lt2) trodAll_mk0))), rfl, bel.frame _, fun h => by cases h⟩
theorem over : Rows.fnExactMilnorOnModuleRow.holds Tryz.pinned (OpenSpec.ofChange Rows.fnExactMilnorOnModuleSpec) :=
  OpenClaim.holds_of_wide 3 Tryz.f3 rfl rfl rfl rfl rfl rfl rfl ⟨rfl, rfl, rfl, rfl, rfl⟩ rfl rfl rfl rfl rfl (by kernel_rfl) Tryz.func3 (by kernel_rfl)
    (of_decide_eq_true (by kernel_rfl)) (by unfold Func.isWrapper; first | (rw [if_pos (by decide +kernel)]; kernel_rfl) | (rw [if_neg (by decide +kernel)]; exact ⟨rfl, rfl⟩))
    (fun os started H enc _ => lifted os started H enc)
end fnExactMilnorOnModule_row
/-- The statement. -/
theorem fnExactMilnorOnModule_proved : Rows.FnExactMilnorOnModuleSaid := fnExactMilnorOnModule_row.over
#print axioms fnExactMilnorOnModule_proved
end Go.Proofs.YtalbbjhonkcbgaaGreat

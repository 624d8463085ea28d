/- What is proved: for every input the law FnExactTensorOfModules returns true and its arguments read behind the call as before: the program's TensorOfModules and the reference's agree, and the result is the call's own. No condition. -/
import Derived.Test.YtljfpkhgijangaaRows
import Derived.Test.YtljfpkhgijangaaLTenI
import Derived.Test.YtljfpkhgijangaaLTenS
import Derived.Test.YtljfpkhgijangaaLModCut
import Derived.Test.YtljfpkhgijangaaLModArg
import Derived.Test.YtljfpkhgijangaaLGen
import Derived.Test.YtljfpkhgijangaaLHeld2
import Derived.Deep.DeepCutAuto
import Derived.OpenShut
import Derived.ShutString
import Derived.ChangeOld
namespace Go.Proofs.Ytljfpkhgijangaa
open Go.ChangeShapes Go.WideShapes Go.ChangeAt Go.RowKit
open Go.ChangeMaps (open_string shut_string)

set_option maxRecDepth 100000 in
set_option maxHeartbeats 20000000 in
theorem fnExactTensorOfModules_walk (w : World) (a1 : Option Addr) (l1 p1 : Nat) (z1 : List Int) (h1 : IsRow .i64 w a1 l1 p1 z1) (a1q : Option Addr) (l1q p1q : Nat) (t1 : List (List Int)) (h1q : IsRows w a1q l1q t1) (a2 : Option Addr) (l2 p2 : Nat) (z2 : List Int) (h2 : IsRow .i64 w a2 l2 p2 z2) (a2q : Option Addr) (l2q p2q : Nat) (t2 : List (List Int)) (h2q : IsRows w a2q l2q t2) :
    Calls Try.prog 7 #[.agg #[.slice a1 l1 p1, .slice a1q l1q p1q], .agg #[.slice a2 l2 p2, .slice a2q l2q p2q]] w fun e w' => e = .returned (.bool true) ∧ Below w.heap.size w w' := by
  have S := Lib.hid (fun (d a d' a' : Value) (W : World) (h : ModS W.heap d a (z1.take l1) t1) (h' : ModS W.heap d' a' (z2.take l2) t2) => specTensorOfModules_c d a d' a' (z1.take l1) t1 (z2.take l2) t2 W h h')
  have I := Lib.hid (fun (d a d' a' : Value) (W : World) (h : ModS W.heap d a (z1.take l1) t1) (h' : ModS W.heap d' a' (z2.take l2) t2) => implTensorOfModules_c d a d' a' (z1.take l1) t1 (z2.take l2) t2 W h h')
  have HXL := Lib.hid (ten_bounds (z1.take l1) t1 (z2.take l2) t2)
  generalize tenDD (z1.take l1) t1 (z2.take l2) t2 = rd at *
  generalize tenA (z1.take l1) t1 (z2.take l2) t2 = ra at *
  generalize tenC (z1.take l1) t1 (z2.take l2) t2 = pc at *
  have u1 : (pc != pc) = false := by simp
  obtain ⟨W0, hW0⟩ : ∃ W, W = ((w.alloc (.cells #[.slice a1 l1 p1, .slice a1q l1q p1q] 58)).alloc (.cells #[.slice a2 l2 p2, .slice a2q l2q p2q] 58)) := ⟨_, rfl⟩
  have hx : Below w.heap.size w W0 := by rw [hW0]; exact (((Below.refl _ _).alloc (by exact Nat.le_refl _) _).alloc (by simp) _)
  have hsz : w.heap.size + 2 ≤ W0.heap.size := by rw [hW0]; simp
  have k1 := Go.Lib.cell?_alloc_some (.cells #[.slice a2 l2 p2, .slice a2q l2q p2q] 58) ((two_new w (.slice a1 l1 p1) (.slice a1q l1q p1q) 58).1)
  rw [← hW0] at k1
  have k2 := Go.Lib.cell?_alloc_some (.cells #[.slice a2 l2 p2, .slice a2q l2q p2q] 58) ((two_new w (.slice a1 l1 p1) (.slice a1q l1q p1q) 58).2)
  rw [← hW0] at k2
  have k3 := (two_new (w.alloc (.cells #[.slice a1 l1 p1, .slice a1q l1q p1q] 58)) (.slice a2 l2 p2) (.slice a2q l2q p2q) 58).1
  simp only [size_alloc_w] at k3
  rw [← hW0] at k3
  have k4 := (two_new (w.alloc (.cells #[.slice a1 l1 p1, .slice a1q l1q p1q] 58)) (.slice a2 l2 p2) (.slice a2q l2q p2q) 58).2
  simp only [size_alloc_w] at k4
  rw [← hW0] at k4
  have BW0 := Lib.hid hx
  have Z5 := Lib.hid (hsz)
  have HW0 := Lib.hid hW0
  clear hW0 hx hsz
  have SM1 := Lib.hid (fun (left : Nat) (hl : left ≤ 1048576) (W : World) (hb : Below w.heap.size w W) => szModule_c a1 l1 p1 a1q l1q p1q t1 left W h1.le (h1q.same hb.block hb.size) hl)
  have TM10 := fun (W : World) (hb : Below w.heap.size w W) => toModule_c a1 l1 p1 z1 a1q l1q p1q t1 W (h1.same hb.block) (h1q.same hb.block hb.size)
  have SM2 := Lib.hid (fun (left : Nat) (hl : left ≤ 1048576) (W : World) (hb : Below w.heap.size w W) => szModule_c a2 l2 p2 a2q l2q p2q t2 left W h2.le (h2q.same hb.block hb.size) hl)
  have TM20 := fun (W : World) (hb : Below w.heap.size w W) => toModule_c a2 l2 p2 z2 a2q l2q p2q t2 W (h2.same hb.block) (h2q.same hb.block hb.size)
  have hl1 : (z1.take l1).length = l1 := h1.takeLen
  have HL1 := Lib.hid hl1
  clear hl1
  have hl2 : (z2.take l2).length = l2 := h2.takeLen
  have HL2 := Lib.hid hl2
  clear hl2
  clear h1 h1q h2 h2q
  generalize z1.take l1 = y1 at *
  generalize z2.take l2 = y2 at *
  go_enter Try.func7, Try.ntmps7
  go_wp2_with fail
  rw [← HW0.out]
  clear HW0
  have S0 := SM1.out 1048576 (Nat.le_refl _) _ BW0.out
  by_cases hz1 : l1 + (t1.length + cnt t1) ≤ 1048576
  rotate_left
  · have e9 : szM l1 t1 1048576 = -1 := by unfold szM; rw [if_neg hz1]
    rw [e9] at S0
    have S1 := Lib.hid S0
    clear S0 e9
    refine (S1.out).mono ?_
    rintro e W ⟨rfl, hx⟩
    have BE := Lib.hid (BW0.out.trans (hx.mono BW0.out.size))
    clear hx
    go_wp2_with fail
    go_ret
    exact ⟨rfl, BE.out⟩
  obtain ⟨left1, hl9⟩ : ∃ left : Nat, szM l1 t1 1048576 = left := ⟨1048576 - (l1 + (t1.length + cnt t1)), by unfold szM; rw [if_pos hz1]; omega⟩
  have HLN : Hid (left1 ≤ 1048576) := by show _ ≤ _; unfold szM at hl9; rw [if_pos hz1] at hl9; have := Nat.le_refl 1048576; omega
  rw [hl9] at S0
  have S1 := Lib.hid S0
  clear S0 hl9
  have TM1 := Lib.hid (fun (W : World) (hb : Below w.heap.size w W) => TM10 W hb (by have := Nat.le_refl 1048576; omega) (by have := Nat.le_refl 1048576; omega))
  have HSZ1 : Hid (y1.length + cnt t1 ≤ 1048576) := by show _ ≤ _; rw [HL1.out]; have := Nat.le_refl 1048576; omega
  clear TM10 hz1 SM1
  have HLF := HLN
  clear HLN
  refine (S1.out).mono ?_
  rintro e W6 ⟨rfl, hx⟩
  clear S1
  have Z7 := Lib.hid (hx.size)
  have k8 := (hx.cell (World.block_lt_of_cell? _ _ k1)).trans k1
  clear k1
  have k9 := (hx.cell (World.block_lt_of_cell? _ _ k2)).trans k2
  clear k2
  have k10 := (hx.cell (World.block_lt_of_cell? _ _ k3)).trans k3
  clear k3
  have k11 := (hx.cell (World.block_lt_of_cell? _ _ k4)).trans k4
  clear k4
  have B12 := Lib.hid (BW0.out.trans (hx.mono BW0.out.size))
  clear BW0
  clear hx
  go_wp2_with fail
  have S0 := SM2.out left1 HLF.out _ B12.out
  by_cases hz2 : l2 + (t2.length + cnt t2) ≤ left1
  rotate_left
  · have e9 : szM l2 t2 left1 = -1 := by unfold szM; rw [if_neg hz2]
    rw [e9] at S0
    have S1 := Lib.hid S0
    clear S0 e9
    refine (S1.out).mono ?_
    rintro e W ⟨rfl, hx⟩
    have BE := Lib.hid (B12.out.trans (hx.mono B12.out.size))
    clear hx
    go_wp2_with fail
    go_ret
    exact ⟨rfl, BE.out⟩
  obtain ⟨left2, hl9⟩ : ∃ left : Nat, szM l2 t2 left1 = left := ⟨left1 - (l2 + (t2.length + cnt t2)), by unfold szM; rw [if_pos hz2]; omega⟩
  have HLN : Hid (left2 ≤ 1048576) := by show _ ≤ _; unfold szM at hl9; rw [if_pos hz2] at hl9; have := HLF.out; omega
  rw [hl9] at S0
  have S1 := Lib.hid S0
  clear S0 hl9
  have TM2 := Lib.hid (fun (W : World) (hb : Below w.heap.size w W) => TM20 W hb (by have := HLF.out; omega) (by have := HLF.out; omega))
  have HSZ2 : Hid (y2.length + cnt t2 ≤ 1048576) := by show _ ≤ _; rw [HL2.out]; have := HLF.out; omega
  clear TM20 hz2 SM2 HLF
  have HLF := HLN
  clear HLN
  refine (S1.out).mono ?_
  rintro e W13 ⟨rfl, hx⟩
  clear S1
  have Z14 := Lib.hid (hx.size)
  have k15 := (hx.cell (World.block_lt_of_cell? _ _ k8)).trans k8
  clear k8
  have k16 := (hx.cell (World.block_lt_of_cell? _ _ k9)).trans k9
  clear k9
  have k17 := (hx.cell (World.block_lt_of_cell? _ _ k10)).trans k10
  clear k10
  have k18 := (hx.cell (World.block_lt_of_cell? _ _ k11)).trans k11
  clear k11
  have B19 := Lib.hid (B12.out.trans (hx.mono B12.out.size))
  clear B12
  clear hx
  go_upto_region 8 with fail
  go_cut [6, 7] (fun s6 s7 W23 => ∃ (W : World) (g : Nat) (r1 r2 : Value), W = W23 ∧ s6 = .pointer (some ⟨g, 0, none⟩) ∧ s7 = .int .i64 pc ∧ W23.cell? ⟨g, 0, none⟩ = some r1 ∧ W23.cell? ⟨g, 1, none⟩ = some r2 ∧ ModS W23.heap r1 r2 rd ra ∧ Below W13.heap.size W13 W23 ∧ W13.heap.size ≤ g)
  case first =>
    have KK24 := Lib.hid (And.intro k15 (And.intro k16 (And.intro k17 k18)))
    go_region_held3 (fun W => W.cell? ⟨w.heap.size, 0, none⟩ = some (.slice a1 l1 p1) ∧ W.cell? ⟨w.heap.size, 1, none⟩ = some (.slice a1q l1q p1q) ∧ W.cell? ⟨w.heap.size + 1, 0, none⟩ = some (.slice a2 l2 p2) ∧ W.cell? ⟨w.heap.size + 1, 1, none⟩ = some (.slice a2q l2q p2q) ∧ Below W13.heap.size W13 W)
      (first | assumption | exact ⟨k15, k16, k17, k18, (Below.refl _ _).drew⟩ | exact heldC4 (by assumption) hx8 | exact heldC4 (by assumption) hx9 | exact heldC4 (by assumption) hx7 | exact heldM4A (by assumption) _ | exact heldM4S KK24.out hs18 (by first | exact hs17.2.2.2.2.size | exact hs16.2.2.2.2.size | exact Nat.le_refl _) _ _ _ _ | fail)
      (first | (go_at_call 46; (with_reducible refine Calls.mono (TM1.out _ ?_) ?_); (exact heldC4B B19.out (by assumption) B19.out.size); (rintro e W16 ⟨md1, mv1, mu1, rfl, hm1, hx9⟩); (obtain ⟨ea1, eb1, ec1, rfl⟩ := own_shape hm1.deg); (obtain ⟨fa1, fb1, fc1, rfl⟩ := own_shape hm1.act.row); (have hs16 := heldC4 (by assumption) hx9); (first | have n16 := var_below hx9 | have n16 := var_below_d hx9 | skip)) | (go_at_call 46; (with_reducible refine Calls.mono (TM2.out _ ?_) ?_); (exact heldC4B B19.out (by assumption) B19.out.size); (rintro e W17 ⟨md2, mv2, mu2, rfl, hm2, hx8⟩); (obtain ⟨ea2, eb2, ec2, rfl⟩ := own_shape hm2.deg); (obtain ⟨fa2, fb2, fc2, rfl⟩ := own_shape hm2.act.row); (have hs17 := heldC4 (by assumption) hx8); (first | have n17 := n16.kept hx8.block | have n17 := var_below hx8 | skip)) | (go_at_call 53; (first | refine (S.out _ _ _ _ _ (hm1.ints.same hx8.block) hm2.ints).mono ?_ | refine (S.out _ _ _ _ _ ((hm1.ints.same (alloc_old _ _)).same hx8.block) hm2.ints).mono ?_ | refine (S.out _ _ _ _ _ ((hm1.ints.same hx8.block).same (alloc_old _ _)) (hm2.ints.same (alloc_old _ _))).mono ?_); rintro e W18 ⟨r1, r2, rfl, hR, hx7⟩; (obtain ⟨j1, j2, rfl, -⟩ := hR.1.len); (obtain ⟨j3, j4, rfl, -⟩ := hR.2.len); (have hs18 := heldC4 (by assumption) hx7); first | (have n18 := n17.kept hx7.block; have nc0 := n18.c0; have nc1 := n18.c1; have nf0 := n18.free 0; have nf1 := n18.free 1) | (have n18 := var_below hx7; have nc0 := n18.c0; have nc1 := n18.c1; have nf0 := n18.free 0; have nf1 := n18.free 1) | skip) | fail)
    all_goals
      first | go_meet | (go_wp2_with fail; go_meet)
      first | exact ⟨_, _, _, _, rfl, rfl, rfl, (two_new W18 _ _ 60).1, (two_new W18 _ _ 60).2, hR.same (alloc_old _ _), hs18.2.2.2.2.alloc hs18.2.2.2.2.size _, hs18.2.2.2.2.size⟩ | exact ⟨_, _, _, _, rfl, rfl, rfl, ((n18.set0 _).set1 _).c0, ((n18.set0 _).set1 _).c1, hR.otherV n18, (heldM4S KK24.out hs18 (by first | exact hs17.2.2.2.2.size | exact hs16.2.2.2.2.size | exact Nat.le_refl _) _ _ _ _).2.2.2.2, (by first | exact hs17.2.2.2.2.size | exact hs16.2.2.2.2.size | exact Nat.le_refl _)⟩
  case rest =>
    obtain ⟨W23, g20, v21, v22, hWe, rfl, rfl, k25, k26, hm, hx, hge⟩ := hcut
    subst hWe
    obtain ⟨⟨q28, q29, rfl, -⟩, ⟨q30, q31, rfl, -⟩⟩ := And.intro hm.1.len hm.2.len
    have R27 := Lib.hid hm
    clear hm
    have Z32 := Lib.hid (World.block_lt_of_cell? _ _ k25)
    simp only at Z32
    have Z33 := Lib.hid (hge)
    clear hge
    have Z34 := Lib.hid (hx.size)
    have k35 := (hx.cell (World.block_lt_of_cell? _ _ k15)).trans k15
    clear k15
    have k36 := (hx.cell (World.block_lt_of_cell? _ _ k16)).trans k16
    clear k16
    have k37 := (hx.cell (World.block_lt_of_cell? _ _ k17)).trans k17
    clear k17
    have k38 := (hx.cell (World.block_lt_of_cell? _ _ k18)).trans k18
    clear k18
    have B39 := Lib.hid (B19.out.trans (hx.mono B19.out.size))
    clear B19
    clear hx
    have B40 := Lib.hid (Below.refl W23.heap.size W23)
    go_wp2_with fail
    refine (TM1.out _ B39.out).mono ?_
    rintro e W44 ⟨d41, v42, u43, rfl, hm, hx⟩
    obtain ⟨q45, q46, q47, rfl⟩ := own_shape hm.deg
    obtain ⟨q48, q49, q50, rfl⟩ := own_shape hm.act.row
    have O51 := Lib.hid hm
    have R52 := Lib.hid hm.range
    clear hm
    have Z53 := Lib.hid (hx.size)
    have k54 := (hx.cell (World.block_lt_of_cell? _ _ k35)).trans k35
    clear k35
    have k55 := (hx.cell (World.block_lt_of_cell? _ _ k36)).trans k36
    clear k36
    have k56 := (hx.cell (World.block_lt_of_cell? _ _ k37)).trans k37
    clear k37
    have k57 := (hx.cell (World.block_lt_of_cell? _ _ k38)).trans k38
    clear k38
    have k58 := (hx.cell (World.block_lt_of_cell? _ _ k25)).trans k25
    clear k25
    have k59 := (hx.cell (World.block_lt_of_cell? _ _ k26)).trans k26
    clear k26
    have B60 := Lib.hid (B39.out.trans (hx.mono B39.out.size))
    clear B39
    have B61 := Lib.hid (B40.out.trans (hx.mono B40.out.size))
    clear B40
    clear hx
    obtain ⟨W62, E630⟩ : ∃ W, W = W44.alloc (.cells #[.slice q45 q46 q47, .slice q48 q49 q50] 60) := ⟨_, rfl⟩
    have hx : Below W44.heap.size W44 W62 := by rw [E630]; exact (Below.refl _ _).alloc (Nat.le_refl _) _
    have k64 : W62.cell? ⟨W44.heap.size, 0, none⟩ = some (.slice q45 q46 q47) := by rw [E630, World.cell?]; simp only [heap_alloc_new]; rfl
    have k65 : W62.cell? ⟨W44.heap.size, 1, none⟩ = some (.slice q48 q49 q50) := by rw [E630, World.cell?]; simp only [heap_alloc_new]; rfl
    have kx0 := Go.Lib.cell?_alloc_some (.cells #[.slice q45 q46 q47, .slice q48 q49 q50] 60) k54
    have kx1 := Go.Lib.cell?_alloc_some (.cells #[.slice q45 q46 q47, .slice q48 q49 q50] 60) k55
    have kx2 := Go.Lib.cell?_alloc_some (.cells #[.slice q45 q46 q47, .slice q48 q49 q50] 60) k56
    have kx3 := Go.Lib.cell?_alloc_some (.cells #[.slice q45 q46 q47, .slice q48 q49 q50] 60) k57
    have kx4 := Go.Lib.cell?_alloc_some (.cells #[.slice q45 q46 q47, .slice q48 q49 q50] 60) k58
    have kx5 := Go.Lib.cell?_alloc_some (.cells #[.slice q45 q46 q47, .slice q48 q49 q50] 60) k59
    have Z66 := Lib.hid (World.block_lt_of_cell? _ _ k64)
    simp only at Z66
    have Z67 := Lib.hid (hx.size)
    have k68 := (hx.cell (World.block_lt_of_cell? _ _ k54)).trans k54
    clear k54
    have k69 := (hx.cell (World.block_lt_of_cell? _ _ k55)).trans k55
    clear k55
    have k70 := (hx.cell (World.block_lt_of_cell? _ _ k56)).trans k56
    clear k56
    have k71 := (hx.cell (World.block_lt_of_cell? _ _ k57)).trans k57
    clear k57
    have k72 := (hx.cell (World.block_lt_of_cell? _ _ k58)).trans k58
    clear k58
    have k73 := (hx.cell (World.block_lt_of_cell? _ _ k59)).trans k59
    clear k59
    have O74 := Lib.hid (O51.out.same hx.block)
    clear O51
    have B75 := Lib.hid (B60.out.trans (hx.mono B60.out.size))
    clear B60
    have B76 := Lib.hid (B61.out.trans (hx.mono B61.out.size))
    clear B61
    clear hx
    have E63 := Lib.hid E630
    clear E630
    go_wp2_with fail
    rw [← E63.out]
    clear E63 kx0 kx1 kx2 kx3 kx4 kx5
    go_wp2_with fail
    refine (TM2.out _ B75.out).mono ?_
    rintro e W80 ⟨d77, v78, u79, rfl, hm, hx⟩
    obtain ⟨q81, q82, q83, rfl⟩ := own_shape hm.deg
    obtain ⟨q84, q85, q86, rfl⟩ := own_shape hm.act.row
    have O87 := Lib.hid hm
    have R88 := Lib.hid hm.range
    clear hm
    have Z89 := Lib.hid (hx.size)
    have k90 := (hx.cell (World.block_lt_of_cell? _ _ k68)).trans k68
    clear k68
    have k91 := (hx.cell (World.block_lt_of_cell? _ _ k69)).trans k69
    clear k69
    have k92 := (hx.cell (World.block_lt_of_cell? _ _ k70)).trans k70
    clear k70
    have k93 := (hx.cell (World.block_lt_of_cell? _ _ k71)).trans k71
    clear k71
    have k94 := (hx.cell (World.block_lt_of_cell? _ _ k72)).trans k72
    clear k72
    have k95 := (hx.cell (World.block_lt_of_cell? _ _ k73)).trans k73
    clear k73
    have k96 := (hx.cell (World.block_lt_of_cell? _ _ k64)).trans k64
    clear k64
    have k97 := (hx.cell (World.block_lt_of_cell? _ _ k65)).trans k65
    clear k65
    have O98 := Lib.hid (O74.out.same hx.block)
    clear O74
    have B99 := Lib.hid (B75.out.trans (hx.mono B75.out.size))
    clear B75
    have B100 := Lib.hid (B76.out.trans (hx.mono B76.out.size))
    clear B76
    clear hx
    obtain ⟨W101, E1020⟩ : ∃ W, W = W80.alloc (.cells #[.slice q81 q82 q83, .slice q84 q85 q86] 60) := ⟨_, rfl⟩
    have hx : Below W80.heap.size W80 W101 := by rw [E1020]; exact (Below.refl _ _).alloc (Nat.le_refl _) _
    have k103 : W101.cell? ⟨W80.heap.size, 0, none⟩ = some (.slice q81 q82 q83) := by rw [E1020, World.cell?]; simp only [heap_alloc_new]; rfl
    have k104 : W101.cell? ⟨W80.heap.size, 1, none⟩ = some (.slice q84 q85 q86) := by rw [E1020, World.cell?]; simp only [heap_alloc_new]; rfl
    have kx0 := Go.Lib.cell?_alloc_some (.cells #[.slice q81 q82 q83, .slice q84 q85 q86] 60) k90
    have kx1 := Go.Lib.cell?_alloc_some (.cells #[.slice q81 q82 q83, .slice q84 q85 q86] 60) k91
    have kx2 := Go.Lib.cell?_alloc_some (.cells #[.slice q81 q82 q83, .slice q84 q85 q86] 60) k92
    have kx3 := Go.Lib.cell?_alloc_some (.cells #[.slice q81 q82 q83, .slice q84 q85 q86] 60) k93
    have kx4 := Go.Lib.cell?_alloc_some (.cells #[.slice q81 q82 q83, .slice q84 q85 q86] 60) k94
    have kx5 := Go.Lib.cell?_alloc_some (.cells #[.slice q81 q82 q83, .slice q84 q85 q86] 60) k95
    have kx6 := Go.Lib.cell?_alloc_some (.cells #[.slice q81 q82 q83, .slice q84 q85 q86] 60) k96
    have kx7 := Go.Lib.cell?_alloc_some (.cells #[.slice q81 q82 q83, .slice q84 q85 q86] 60) k97
    have Z105 := Lib.hid (World.block_lt_of_cell? _ _ k103)
    simp only at Z105
    have Z106 := Lib.hid (hx.size)
    have k107 := (hx.cell (World.block_lt_of_cell? _ _ k90)).trans k90
    clear k90
    have k108 := (hx.cell (World.block_lt_of_cell? _ _ k91)).trans k91
    clear k91
    have k109 := (hx.cell (World.block_lt_of_cell? _ _ k92)).trans k92
    clear k92
    have k110 := (hx.cell (World.block_lt_of_cell? _ _ k93)).trans k93
    clear k93
    have k111 := (hx.cell (World.block_lt_of_cell? _ _ k94)).trans k94
    clear k94
    have k112 := (hx.cell (World.block_lt_of_cell? _ _ k95)).trans k95
    clear k95
    have k113 := (hx.cell (World.block_lt_of_cell? _ _ k96)).trans k96
    clear k96
    have k114 := (hx.cell (World.block_lt_of_cell? _ _ k97)).trans k97
    clear k97
    have O115 := Lib.hid (O98.out.same hx.block)
    clear O98
    have O116 := Lib.hid (O87.out.same hx.block)
    clear O87
    have B117 := Lib.hid (B99.out.trans (hx.mono B99.out.size))
    clear B99
    have B118 := Lib.hid (B100.out.trans (hx.mono B100.out.size))
    clear B100
    clear hx
    have E102 := Lib.hid E1020
    clear E1020
    go_wp2_with fail
    rw [← E102.out]
    clear E102 kx0 kx1 kx2 kx3 kx4 kx5 kx6 kx7
    go_wp2_with fail
    refine (I.out (.slice q45 q46 q47) (.slice q48 q49 q50) (.slice q81 q82 q83) (.slice q84 q85 q86) _ O115.out.ints O116.out.ints).mono ?_
    rintro e W122 ⟨d119, v120, u121, rfl, hm, hx⟩
    obtain ⟨q123, q124, q125, rfl⟩ := own_shape hm.deg
    obtain ⟨q126, q127, q128, rfl⟩ := own_shape hm.act.row
    have O129 := Lib.hid hm
    have R130 := Lib.hid hm.range
    clear hm
    have Z131 := Lib.hid (hx.size)
    have k132 := (hx.cell (World.block_lt_of_cell? _ _ k107)).trans k107
    clear k107
    have k133 := (hx.cell (World.block_lt_of_cell? _ _ k108)).trans k108
    clear k108
    have k134 := (hx.cell (World.block_lt_of_cell? _ _ k109)).trans k109
    clear k109
    have k135 := (hx.cell (World.block_lt_of_cell? _ _ k110)).trans k110
    clear k110
    have k136 := (hx.cell (World.block_lt_of_cell? _ _ k111)).trans k111
    clear k111
    have k137 := (hx.cell (World.block_lt_of_cell? _ _ k112)).trans k112
    clear k112
    have k138 := (hx.cell (World.block_lt_of_cell? _ _ k113)).trans k113
    clear k113
    have k139 := (hx.cell (World.block_lt_of_cell? _ _ k114)).trans k114
    clear k114
    have k140 := (hx.cell (World.block_lt_of_cell? _ _ k103)).trans k103
    clear k103
    have k141 := (hx.cell (World.block_lt_of_cell? _ _ k104)).trans k104
    clear k104
    have O142 := Lib.hid (O115.out.same hx.block)
    clear O115
    have O143 := Lib.hid (O116.out.same hx.block)
    clear O116
    have B144 := Lib.hid (B117.out.trans (hx.mono B117.out.size))
    clear B117
    have B145 := Lib.hid (B118.out.trans (hx.mono B118.out.size))
    clear B118
    clear hx
    obtain ⟨W146, E1470⟩ : ∃ W, W = W122.alloc (.cells #[.slice q123 q124 q125, .slice q126 q127 q128] 60) := ⟨_, rfl⟩
    have hx : Below W122.heap.size W122 W146 := by rw [E1470]; exact (Below.refl _ _).alloc (Nat.le_refl _) _
    have k148 : W146.cell? ⟨W122.heap.size, 0, none⟩ = some (.slice q123 q124 q125) := by rw [E1470, World.cell?]; simp only [heap_alloc_new]; rfl
    have k149 : W146.cell? ⟨W122.heap.size, 1, none⟩ = some (.slice q126 q127 q128) := by rw [E1470, World.cell?]; simp only [heap_alloc_new]; rfl
    have kx0 := Go.Lib.cell?_alloc_some (.cells #[.slice q123 q124 q125, .slice q126 q127 q128] 60) k132
    have kx1 := Go.Lib.cell?_alloc_some (.cells #[.slice q123 q124 q125, .slice q126 q127 q128] 60) k133
    have kx2 := Go.Lib.cell?_alloc_some (.cells #[.slice q123 q124 q125, .slice q126 q127 q128] 60) k134
    have kx3 := Go.Lib.cell?_alloc_some (.cells #[.slice q123 q124 q125, .slice q126 q127 q128] 60) k135
    have kx4 := Go.Lib.cell?_alloc_some (.cells #[.slice q123 q124 q125, .slice q126 q127 q128] 60) k136
    have kx5 := Go.Lib.cell?_alloc_some (.cells #[.slice q123 q124 q125, .slice q126 q127 q128] 60) k137
    have kx6 := Go.Lib.cell?_alloc_some (.cells #[.slice q123 q124 q125, .slice q126 q127 q128] 60) k138
    have kx7 := Go.Lib.cell?_alloc_some (.cells #[.slice q123 q124 q125, .slice q126 q127 q128] 60) k139
    have kx8 := Go.Lib.cell?_alloc_some (.cells #[.slice q123 q124 q125, .slice q126 q127 q128] 60) k140
    have kx9 := Go.Lib.cell?_alloc_some (.cells #[.slice q123 q124 q125, .slice q126 q127 q128] 60) k141
    have Z150 := Lib.hid (World.block_lt_of_cell? _ _ k148)
    simp only at Z150
    have Z151 := Lib.hid (hx.size)
    have k152 := (hx.cell (World.block_lt_of_cell? _ _ k132)).trans k132
    clear k132
    have k153 := (hx.cell (World.block_lt_of_cell? _ _ k133)).trans k133
    clear k133
    have k154 := (hx.cell (World.block_lt_of_cell? _ _ k134)).trans k134
    clear k134
    have k155 := (hx.cell (World.block_lt_of_cell? _ _ k135)).trans k135
    clear k135
    have k156 := (hx.cell (World.block_lt_of_cell? _ _ k136)).trans k136
    clear k136
    have k157 := (hx.cell (World.block_lt_of_cell? _ _ k137)).trans k137
    clear k137
    have k158 := (hx.cell (World.block_lt_of_cell? _ _ k138)).trans k138
    clear k138
    have k159 := (hx.cell (World.block_lt_of_cell? _ _ k139)).trans k139
    clear k139
    have k160 := (hx.cell (World.block_lt_of_cell? _ _ k140)).trans k140
    clear k140
    have k161 := (hx.cell (World.block_lt_of_cell? _ _ k141)).trans k141
    clear k141
    have O162 := Lib.hid (O142.out.same hx.block)
    clear O142
    have O163 := Lib.hid (O143.out.same hx.block)
    clear O143
    have O164 := Lib.hid (O129.out.same hx.block)
    clear O129
    have B165 := Lib.hid (B144.out.trans (hx.mono B144.out.size))
    clear B144
    have B166 := Lib.hid (B145.out.trans (hx.mono B145.out.size))
    clear B145
    clear hx
    have E147 := Lib.hid E1470
    clear E1470
    go_wp2_with fail
    rw [← E147.out]
    clear E147 kx0 kx1 kx2 kx3 kx4 kx5 kx6 kx7 kx8 kx9
    go_wp2_with fail
    refine (eqModule_same _ _ _ _ rd ra _ O164.out.ints (R27.out.same B166.out.block)).mono ?_
    rintro e W167 ⟨rfl, hx⟩
    have Z168 := Lib.hid (hx.size)
    have k169 := (hx.cell (World.block_lt_of_cell? _ _ k152)).trans k152
    clear k152
    have k170 := (hx.cell (World.block_lt_of_cell? _ _ k153)).trans k153
    clear k153
    have k171 := (hx.cell (World.block_lt_of_cell? _ _ k154)).trans k154
    clear k154
    have k172 := (hx.cell (World.block_lt_of_cell? _ _ k155)).trans k155
    clear k155
    have k173 := (hx.cell (World.block_lt_of_cell? _ _ k156)).trans k156
    clear k156
    have k174 := (hx.cell (World.block_lt_of_cell? _ _ k157)).trans k157
    clear k157
    have k175 := (hx.cell (World.block_lt_of_cell? _ _ k158)).trans k158
    clear k158
    have k176 := (hx.cell (World.block_lt_of_cell? _ _ k159)).trans k159
    clear k159
    have k177 := (hx.cell (World.block_lt_of_cell? _ _ k160)).trans k160
    clear k160
    have k178 := (hx.cell (World.block_lt_of_cell? _ _ k161)).trans k161
    clear k161
    have k179 := (hx.cell (World.block_lt_of_cell? _ _ k148)).trans k148
    clear k148
    have k180 := (hx.cell (World.block_lt_of_cell? _ _ k149)).trans k149
    clear k149
    have O181 := Lib.hid (O162.out.same hx.block)
    clear O162
    have O182 := Lib.hid (O163.out.same hx.block)
    clear O163
    have O183 := Lib.hid (O164.out.same hx.block)
    clear O164
    have B184 := Lib.hid (B165.out.trans (hx.mono B165.out.size))
    clear B165
    have B185 := Lib.hid (B166.out.trans (hx.mono B166.out.size))
    clear B166
    clear hx
    go_wp2_with fail
    go_region_held3 (fun W => W.cell? ⟨W44.heap.size, 0, none⟩ = some (.slice q45 q46 q47) ∧ W.cell? ⟨W44.heap.size, 1, none⟩ = some (.slice q48 q49 q50) ∧ W.cell? ⟨w.heap.size, 0, none⟩ = some (.slice a1 l1 p1) ∧ W.cell? ⟨w.heap.size, 1, none⟩ = some (.slice a1q l1q p1q) ∧ Below W167.heap.size W167 W)
      (first | exact ⟨k175, k176, k169, k170, (Below.refl _ _).drew⟩ | exact heldC4 (by assumption) hx8 | exact heldC4 (by assumption) hx9)
      (first | (go_at_call 46; refine (TM1.out _ (heldC4B B184.out (by assumption) B184.out.size)).mono ?_; rintro e W9 ⟨d9, v9, u9, rfl, hm9, hx9⟩; obtain ⟨e1, e2, e3, rfl⟩ := own_shape hm9.deg; obtain ⟨f1, f2, f3, rfl⟩ := own_shape hm9.act.row) | (go_at_call 48; refine (eqModule_same _ _ _ _ y1 t1 _ (O181.out.ints.same (heldC4X (by assumption)).block) hm9.ints).mono ?_; rintro e W8 ⟨rfl, hx8⟩))
    all_goals
      rename_i hh
      obtain ⟨W186, hWe⟩ : ∃ W, W = W8 := ⟨_, rfl⟩
      have hx : Below W167.heap.size W167 W186 := by rw [hWe]; exact heldC4X hh
      rw [← hWe]
      clear hWe hh hx8 hx9 hm9
      have Z187 := Lib.hid (hx.size)
      have k188 := (hx.cell (World.block_lt_of_cell? _ _ k169)).trans k169
      clear k169
      have k189 := (hx.cell (World.block_lt_of_cell? _ _ k170)).trans k170
      clear k170
      have k190 := (hx.cell (World.block_lt_of_cell? _ _ k171)).trans k171
      clear k171
      have k191 := (hx.cell (World.block_lt_of_cell? _ _ k172)).trans k172
      clear k172
      have k192 := (hx.cell (World.block_lt_of_cell? _ _ k173)).trans k173
      clear k173
      have k193 := (hx.cell (World.block_lt_of_cell? _ _ k174)).trans k174
      clear k174
      have k194 := (hx.cell (World.block_lt_of_cell? _ _ k175)).trans k175
      clear k175
      have k195 := (hx.cell (World.block_lt_of_cell? _ _ k176)).trans k176
      clear k176
      have k196 := (hx.cell (World.block_lt_of_cell? _ _ k177)).trans k177
      clear k177
      have k197 := (hx.cell (World.block_lt_of_cell? _ _ k178)).trans k178
      clear k178
      have k198 := (hx.cell (World.block_lt_of_cell? _ _ k179)).trans k179
      clear k179
      have k199 := (hx.cell (World.block_lt_of_cell? _ _ k180)).trans k180
      clear k180
      have O200 := Lib.hid (O181.out.same hx.block)
      clear O181
      have O201 := Lib.hid (O182.out.same hx.block)
      clear O182
      have O202 := Lib.hid (O183.out.same hx.block)
      clear O183
      have B203 := Lib.hid (B184.out.trans (hx.mono B184.out.size))
      clear B184
      have B204 := Lib.hid (B185.out.trans (hx.mono B185.out.size))
      clear B185
      clear hx
      go_wp2_with fail
      go_region_held3 (fun W => W.cell? ⟨W80.heap.size, 0, none⟩ = some (.slice q81 q82 q83) ∧ W.cell? ⟨W80.heap.size, 1, none⟩ = some (.slice q84 q85 q86) ∧ W.cell? ⟨w.heap.size + 1, 0, none⟩ = some (.slice a2 l2 p2) ∧ W.cell? ⟨w.heap.size + 1, 1, none⟩ = some (.slice a2q l2q p2q) ∧ Below W186.heap.size W186 W)
        (first | exact ⟨k196, k197, k190, k191, (Below.refl _ _).drew⟩ | exact heldC4 (by assumption) hx8 | exact heldC4 (by assumption) hx9)
        (first | (go_at_call 46; refine (TM2.out _ (heldC4B B203.out (by assumption) B203.out.size)).mono ?_; rintro e W9 ⟨d9, v9, u9, rfl, hm9, hx9⟩; obtain ⟨e1, e2, e3, rfl⟩ := own_shape hm9.deg; obtain ⟨f1, f2, f3, rfl⟩ := own_shape hm9.act.row) | (go_at_call 48; refine (eqModule_same _ _ _ _ y2 t2 _ (O201.out.ints.same (heldC4X (by assumption)).block) hm9.ints).mono ?_; rintro e W8 ⟨rfl, hx8⟩))
      all_goals
        rename_i hh
        obtain ⟨W205, hWe⟩ : ∃ W, W = W8 := ⟨_, rfl⟩
        have hx : Below W186.heap.size W186 W205 := by rw [hWe]; exact heldC4X hh
        rw [← hWe]
        clear hWe hh hx8 hx9 hm9
        have Z206 := Lib.hid (hx.size)
        have k207 := (hx.cell (World.block_lt_of_cell? _ _ k188)).trans k188
        clear k188
        have k208 := (hx.cell (World.block_lt_of_cell? _ _ k189)).trans k189
        clear k189
        have k209 := (hx.cell (World.block_lt_of_cell? _ _ k190)).trans k190
        clear k190
        have k210 := (hx.cell (World.block_lt_of_cell? _ _ k191)).trans k191
        clear k191
        have k211 := (hx.cell (World.block_lt_of_cell? _ _ k192)).trans k192
        clear k192
        have k212 := (hx.cell (World.block_lt_of_cell? _ _ k193)).trans k193
        clear k193
        have k213 := (hx.cell (World.block_lt_of_cell? _ _ k194)).trans k194
        clear k194
        have k214 := (hx.cell (World.block_lt_of_cell? _ _ k195)).trans k195
        clear k195
        have k215 := (hx.cell (World.block_lt_of_cell? _ _ k196)).trans k196
        clear k196
        have k216 := (hx.cell (World.block_lt_of_cell? _ _ k197)).trans k197
        clear k197
        have k217 := (hx.cell (World.block_lt_of_cell? _ _ k198)).trans k198
        clear k198
        have k218 := (hx.cell (World.block_lt_of_cell? _ _ k199)).trans k199
        clear k199
        have O219 := Lib.hid (O200.out.same hx.block)
        clear O200
        have O220 := Lib.hid (O201.out.same hx.block)
        clear O201
        have O221 := Lib.hid (O202.out.same hx.block)
        clear O202
        have B222 := Lib.hid (B203.out.trans (hx.mono B203.out.size))
        clear B203
        have B223 := Lib.hid (B204.out.trans (hx.mono B204.out.size))
        clear B204
        clear hx
        go_wp2_with fail
        refine (markModule_c (.slice q45 q46 q47) (.slice q48 q49 q50) u43 y1 t1 1 W23.heap.size W205 O219.out (by have := Z5.out; have := Z7.out; have := Z14.out; have := Z32.out; have := Z33.out; have := Z34.out; have := Z53.out; have := Z66.out; have := Z67.out; have := Z89.out; have := Z105.out; have := Z106.out; have := Z131.out; have := Z150.out; have := Z151.out; have := Z168.out; have := Z187.out; have := Z206.out; omega) (by omega) (by have := HXL.out; have := HSZ1.out; have := HSZ2.out; omega)).mono ?_
        rintro e W224 ⟨rfl, hm, hlow, hfr⟩
        have RRR := R52.out
        have hhi : ∀ b, W44.heap.size ≤ b → b < W205.heap.size → W224.heap[b]? = W205.heap[b]? := fun b h1 h2 => hfr b h2 (fun e => by have := RRR.1 b e; omega) (fun u hu e => by have := RRR.2 u hu b e; omega)
        clear RRR
        have O225 := Lib.hid hm
        clear hm
        have Z226 := Lib.hid (hlow.size)
        have k227 := (hlow.cell (p := ⟨w.heap.size, 0, none⟩) (by show w.heap.size < W23.heap.size; exact (by have := Z5.out; have := Z7.out; have := Z14.out; have := Z32.out; have := Z33.out; have := Z34.out; have := Z53.out; have := Z66.out; have := Z67.out; have := Z89.out; have := Z105.out; have := Z106.out; have := Z131.out; have := Z150.out; have := Z151.out; have := Z168.out; have := Z187.out; have := Z206.out; have := Z226.out; omega))).trans k207
        clear k207
        have k228 := (hlow.cell (p := ⟨w.heap.size, 1, none⟩) (by show w.heap.size < W23.heap.size; exact (by have := Z5.out; have := Z7.out; have := Z14.out; have := Z32.out; have := Z33.out; have := Z34.out; have := Z53.out; have := Z66.out; have := Z67.out; have := Z89.out; have := Z105.out; have := Z106.out; have := Z131.out; have := Z150.out; have := Z151.out; have := Z168.out; have := Z187.out; have := Z206.out; have := Z226.out; omega))).trans k208
        clear k208
        have k229 := (hlow.cell (p := ⟨w.heap.size + 1, 0, none⟩) (by show w.heap.size + 1 < W23.heap.size; exact (by have := Z5.out; have := Z7.out; have := Z14.out; have := Z32.out; have := Z33.out; have := Z34.out; have := Z53.out; have := Z66.out; have := Z67.out; have := Z89.out; have := Z105.out; have := Z106.out; have := Z131.out; have := Z150.out; have := Z151.out; have := Z168.out; have := Z187.out; have := Z206.out; have := Z226.out; omega))).trans k209
        clear k209
        have k230 := (hlow.cell (p := ⟨w.heap.size + 1, 1, none⟩) (by show w.heap.size + 1 < W23.heap.size; exact (by have := Z5.out; have := Z7.out; have := Z14.out; have := Z32.out; have := Z33.out; have := Z34.out; have := Z53.out; have := Z66.out; have := Z67.out; have := Z89.out; have := Z105.out; have := Z106.out; have := Z131.out; have := Z150.out; have := Z151.out; have := Z168.out; have := Z187.out; have := Z206.out; have := Z226.out; omega))).trans k210
        clear k210
        have k231 := (hlow.cell (p := ⟨g20, 0, none⟩) (by show g20 < W23.heap.size; exact (by have := Z5.out; have := Z7.out; have := Z14.out; have := Z32.out; have := Z33.out; have := Z34.out; have := Z53.out; have := Z66.out; have := Z67.out; have := Z89.out; have := Z105.out; have := Z106.out; have := Z131.out; have := Z150.out; have := Z151.out; have := Z168.out; have := Z187.out; have := Z206.out; have := Z226.out; omega))).trans k211
        clear k211
        have k232 := (hlow.cell (p := ⟨g20, 1, none⟩) (by show g20 < W23.heap.size; exact (by have := Z5.out; have := Z7.out; have := Z14.out; have := Z32.out; have := Z33.out; have := Z34.out; have := Z53.out; have := Z66.out; have := Z67.out; have := Z89.out; have := Z105.out; have := Z106.out; have := Z131.out; have := Z150.out; have := Z151.out; have := Z168.out; have := Z187.out; have := Z206.out; have := Z226.out; omega))).trans k212
        clear k212
        have k233 := (World.cell?_of_block (hhi W44.heap.size (by have := Z5.out; have := Z7.out; have := Z14.out; have := Z32.out; have := Z33.out; have := Z34.out; have := Z53.out; have := Z66.out; have := Z67.out; have := Z89.out; have := Z105.out; have := Z106.out; have := Z131.out; have := Z150.out; have := Z151.out; have := Z168.out; have := Z187.out; have := Z206.out; have := Z226.out; omega) (World.block_lt_of_cell? _ _ k213))).trans k213
        clear k213
        have k234 := (World.cell?_of_block (hhi W44.heap.size (by have := Z5.out; have := Z7.out; have := Z14.out; have := Z32.out; have := Z33.out; have := Z34.out; have := Z53.out; have := Z66.out; have := Z67.out; have := Z89.out; have := Z105.out; have := Z106.out; have := Z131.out; have := Z150.out; have := Z151.out; have := Z168.out; have := Z187.out; have := Z206.out; have := Z226.out; omega) (World.block_lt_of_cell? _ _ k214))).trans k214
        clear k214
        have k235 := (World.cell?_of_block (hhi W80.heap.size (by have := Z5.out; have := Z7.out; have := Z14.out; have := Z32.out; have := Z33.out; have := Z34.out; have := Z53.out; have := Z66.out; have := Z67.out; have := Z89.out; have := Z105.out; have := Z106.out; have := Z131.out; have := Z150.out; have := Z151.out; have := Z168.out; have := Z187.out; have := Z206.out; have := Z226.out; omega) (World.block_lt_of_cell? _ _ k215))).trans k215
        clear k215
        have k236 := (World.cell?_of_block (hhi W80.heap.size (by have := Z5.out; have := Z7.out; have := Z14.out; have := Z32.out; have := Z33.out; have := Z34.out; have := Z53.out; have := Z66.out; have := Z67.out; have := Z89.out; have := Z105.out; have := Z106.out; have := Z131.out; have := Z150.out; have := Z151.out; have := Z168.out; have := Z187.out; have := Z206.out; have := Z226.out; omega) (World.block_lt_of_cell? _ _ k216))).trans k216
        clear k216
        have k237 := (World.cell?_of_block (hhi W122.heap.size (by have := Z5.out; have := Z7.out; have := Z14.out; have := Z32.out; have := Z33.out; have := Z34.out; have := Z53.out; have := Z66.out; have := Z67.out; have := Z89.out; have := Z105.out; have := Z106.out; have := Z131.out; have := Z150.out; have := Z151.out; have := Z168.out; have := Z187.out; have := Z206.out; have := Z226.out; omega) (World.block_lt_of_cell? _ _ k217))).trans k217
        clear k217
        have k238 := (World.cell?_of_block (hhi W122.heap.size (by have := Z5.out; have := Z7.out; have := Z14.out; have := Z32.out; have := Z33.out; have := Z34.out; have := Z53.out; have := Z66.out; have := Z67.out; have := Z89.out; have := Z105.out; have := Z106.out; have := Z131.out; have := Z150.out; have := Z151.out; have := Z168.out; have := Z187.out; have := Z206.out; have := Z226.out; omega) (World.block_lt_of_cell? _ _ k218))).trans k218
        clear k218
        have O239 := Lib.hid (O220.out.far fun b h1 h2 => hhi b (Nat.le_trans (by have := Z5.out; have := Z7.out; have := Z14.out; have := Z32.out; have := Z33.out; have := Z34.out; have := Z53.out; have := Z66.out; have := Z67.out; have := Z89.out; have := Z105.out; have := Z106.out; have := Z131.out; have := Z150.out; have := Z151.out; have := Z168.out; have := Z187.out; have := Z206.out; have := Z226.out; omega) h1) h2)
        clear O220
        have O240 := Lib.hid (O221.out.far fun b h1 h2 => hhi b (Nat.le_trans (by have := Z5.out; have := Z7.out; have := Z14.out; have := Z32.out; have := Z33.out; have := Z34.out; have := Z53.out; have := Z66.out; have := Z67.out; have := Z89.out; have := Z105.out; have := Z106.out; have := Z131.out; have := Z150.out; have := Z151.out; have := Z168.out; have := Z187.out; have := Z206.out; have := Z226.out; omega) h1) h2)
        clear O221
        have B241 := Lib.hid (B222.out.trans (hlow.mono (by have := Z5.out; have := Z7.out; have := Z14.out; have := Z32.out; have := Z33.out; have := Z34.out; have := Z53.out; have := Z66.out; have := Z67.out; have := Z89.out; have := Z105.out; have := Z106.out; have := Z131.out; have := Z150.out; have := Z151.out; have := Z168.out; have := Z187.out; have := Z206.out; have := Z226.out; omega)))
        clear B222
        have B242 := Lib.hid (B223.out.trans (hlow.mono (by have := Z5.out; have := Z7.out; have := Z14.out; have := Z32.out; have := Z33.out; have := Z34.out; have := Z53.out; have := Z66.out; have := Z67.out; have := Z89.out; have := Z105.out; have := Z106.out; have := Z131.out; have := Z150.out; have := Z151.out; have := Z168.out; have := Z187.out; have := Z206.out; have := Z226.out; omega)))
        clear B223
        clear hlow hhi hfr
        go_wp2_with fail
        refine (markModule_c (.slice q81 q82 q83) (.slice q84 q85 q86) u79 y2 t2 (1 + (y1.length : Int) + (cnt t1 : Int)) W62.heap.size W224 O239.out (by have := Z5.out; have := Z7.out; have := Z14.out; have := Z32.out; have := Z33.out; have := Z34.out; have := Z53.out; have := Z66.out; have := Z67.out; have := Z89.out; have := Z105.out; have := Z106.out; have := Z131.out; have := Z150.out; have := Z151.out; have := Z168.out; have := Z187.out; have := Z206.out; have := Z226.out; omega) (by omega) (by have := HXL.out; have := HSZ1.out; have := HSZ2.out; omega)).mono ?_
        rintro e W243 ⟨rfl, hm, hlow, hfr⟩
        have RRR := R88.out
        have hhi : ∀ b, W80.heap.size ≤ b → b < W224.heap.size → W243.heap[b]? = W224.heap[b]? := fun b h1 h2 => hfr b h2 (fun e => by have := RRR.1 b e; omega) (fun u hu e => by have := RRR.2 u hu b e; omega)
        clear RRR
        have O244 := Lib.hid hm
        clear hm
        have Z245 := Lib.hid (hlow.size)
        have k246 := (hlow.cell (p := ⟨w.heap.size, 0, none⟩) (by show w.heap.size < W62.heap.size; exact (by have := Z5.out; have := Z7.out; have := Z14.out; have := Z32.out; have := Z33.out; have := Z34.out; have := Z53.out; have := Z66.out; have := Z67.out; have := Z89.out; have := Z105.out; have := Z106.out; have := Z131.out; have := Z150.out; have := Z151.out; have := Z168.out; have := Z187.out; have := Z206.out; have := Z226.out; have := Z245.out; omega))).trans k227
        clear k227
        have k247 := (hlow.cell (p := ⟨w.heap.size, 1, none⟩) (by show w.heap.size < W62.heap.size; exact (by have := Z5.out; have := Z7.out; have := Z14.out; have := Z32.out; have := Z33.out; have := Z34.out; have := Z53.out; have := Z66.out; have := Z67.out; have := Z89.out; have := Z105.out; have := Z106.out; have := Z131.out; have := Z150.out; have := Z151.out; have := Z168.out; have := Z187.out; have := Z206.out; have := Z226.out; have := Z245.out; omega))).trans k228
        clear k228
        have k248 := (hlow.cell (p := ⟨w.heap.size + 1, 0, none⟩) (by show w.heap.size + 1 < W62.heap.size; exact (by have := Z5.out; have := Z7.out; have := Z14.out; have := Z32.out; have := Z33.out; have := Z34.out; have := Z53.out; have := Z66.out; have := Z67.out; have := Z89.out; have := Z105.out; have := Z106.out; have := Z131.out; have := Z150.out; have := Z151.out; have := Z168.out; have := Z187.out; have := Z206.out; have := Z226.out; have := Z245.out; omega))).trans k229
        clear k229
        have k249 := (hlow.cell (p := ⟨w.heap.size + 1, 1, none⟩) (by show w.heap.size + 1 < W62.heap.size; exact (by have := Z5.out; have := Z7.out; have := Z14.out; have := Z32.out; have := Z33.out; have := Z34.out; have := Z53.out; have := Z66.out; have := Z67.out; have := Z89.out; have := Z105.out; have := Z106.out; have := Z131.out; have := Z150.out; have := Z151.out; have := Z168.out; have := Z187.out; have := Z206.out; have := Z226.out; have := Z245.out; omega))).trans k230
        clear k230
        have k250 := (hlow.cell (p := ⟨g20, 0, none⟩) (by show g20 < W62.heap.size; exact (by have := Z5.out; have := Z7.out; have := Z14.out; have := Z32.out; have := Z33.out; have := Z34.out; have := Z53.out; have := Z66.out; have := Z67.out; have := Z89.out; have := Z105.out; have := Z106.out; have := Z131.out; have := Z150.out; have := Z151.out; have := Z168.out; have := Z187.out; have := Z206.out; have := Z226.out; have := Z245.out; omega))).trans k231
        clear k231
        have k251 := (hlow.cell (p := ⟨g20, 1, none⟩) (by show g20 < W62.heap.size; exact (by have := Z5.out; have := Z7.out; have := Z14.out; have := Z32.out; have := Z33.out; have := Z34.out; have := Z53.out; have := Z66.out; have := Z67.out; have := Z89.out; have := Z105.out; have := Z106.out; have := Z131.out; have := Z150.out; have := Z151.out; have := Z168.out; have := Z187.out; have := Z206.out; have := Z226.out; have := Z245.out; omega))).trans k232
        clear k232
        clear k233
        clear k234
        have k254 := (World.cell?_of_block (hhi W80.heap.size (by have := Z5.out; have := Z7.out; have := Z14.out; have := Z32.out; have := Z33.out; have := Z34.out; have := Z53.out; have := Z66.out; have := Z67.out; have := Z89.out; have := Z105.out; have := Z106.out; have := Z131.out; have := Z150.out; have := Z151.out; have := Z168.out; have := Z187.out; have := Z206.out; have := Z226.out; have := Z245.out; omega) (World.block_lt_of_cell? _ _ k235))).trans k235
        clear k235
        have k255 := (World.cell?_of_block (hhi W80.heap.size (by have := Z5.out; have := Z7.out; have := Z14.out; have := Z32.out; have := Z33.out; have := Z34.out; have := Z53.out; have := Z66.out; have := Z67.out; have := Z89.out; have := Z105.out; have := Z106.out; have := Z131.out; have := Z150.out; have := Z151.out; have := Z168.out; have := Z187.out; have := Z206.out; have := Z226.out; have := Z245.out; omega) (World.block_lt_of_cell? _ _ k236))).trans k236
        clear k236
        have k256 := (World.cell?_of_block (hhi W122.heap.size (by have := Z5.out; have := Z7.out; have := Z14.out; have := Z32.out; have := Z33.out; have := Z34.out; have := Z53.out; have := Z66.out; have := Z67.out; have := Z89.out; have := Z105.out; have := Z106.out; have := Z131.out; have := Z150.out; have := Z151.out; have := Z168.out; have := Z187.out; have := Z206.out; have := Z226.out; have := Z245.out; omega) (World.block_lt_of_cell? _ _ k237))).trans k237
        clear k237
        have k257 := (World.cell?_of_block (hhi W122.heap.size (by have := Z5.out; have := Z7.out; have := Z14.out; have := Z32.out; have := Z33.out; have := Z34.out; have := Z53.out; have := Z66.out; have := Z67.out; have := Z89.out; have := Z105.out; have := Z106.out; have := Z131.out; have := Z150.out; have := Z151.out; have := Z168.out; have := Z187.out; have := Z206.out; have := Z226.out; have := Z245.out; omega) (World.block_lt_of_cell? _ _ k238))).trans k238
        clear k238
        have O258 := Lib.hid (O240.out.far fun b h1 h2 => hhi b (Nat.le_trans (by have := Z5.out; have := Z7.out; have := Z14.out; have := Z32.out; have := Z33.out; have := Z34.out; have := Z53.out; have := Z66.out; have := Z67.out; have := Z89.out; have := Z105.out; have := Z106.out; have := Z131.out; have := Z150.out; have := Z151.out; have := Z168.out; have := Z187.out; have := Z206.out; have := Z226.out; have := Z245.out; omega) h1) h2)
        clear O240
        clear O225
        have B260 := Lib.hid (B241.out.trans (hlow.mono (by have := Z5.out; have := Z7.out; have := Z14.out; have := Z32.out; have := Z33.out; have := Z34.out; have := Z53.out; have := Z66.out; have := Z67.out; have := Z89.out; have := Z105.out; have := Z106.out; have := Z131.out; have := Z150.out; have := Z151.out; have := Z168.out; have := Z187.out; have := Z206.out; have := Z226.out; have := Z245.out; omega)))
        clear B241
        have B261 := Lib.hid (B242.out.trans (hlow.mono (by have := Z5.out; have := Z7.out; have := Z14.out; have := Z32.out; have := Z33.out; have := Z34.out; have := Z53.out; have := Z66.out; have := Z67.out; have := Z89.out; have := Z105.out; have := Z106.out; have := Z131.out; have := Z150.out; have := Z151.out; have := Z168.out; have := Z187.out; have := Z206.out; have := Z226.out; have := Z245.out; omega)))
        clear B242
        clear hlow hhi hfr
        have t9 : decide (((1 + (y1.length : Int) + (cnt t1 : Int)) + (y2.length : Int) + (cnt t2 : Int)) < 0) = false := by simp; omega
        clear O244
        clear k254
        clear k255
        go_wp2_with fail
        refine (eqModule_same _ _ _ _ rd ra _ O258.out.ints (R27.out.same B261.out.block)).mono ?_
        rintro e W262 ⟨rfl, hx⟩
        have Z263 := Lib.hid (hx.size)
        have k264 := (hx.cell (World.block_lt_of_cell? _ _ k246)).trans k246
        clear k246
        have k265 := (hx.cell (World.block_lt_of_cell? _ _ k247)).trans k247
        clear k247
        have k266 := (hx.cell (World.block_lt_of_cell? _ _ k248)).trans k248
        clear k248
        have k267 := (hx.cell (World.block_lt_of_cell? _ _ k249)).trans k249
        clear k249
        have k268 := (hx.cell (World.block_lt_of_cell? _ _ k250)).trans k250
        clear k250
        have k269 := (hx.cell (World.block_lt_of_cell? _ _ k251)).trans k251
        clear k251
        have k270 := (hx.cell (World.block_lt_of_cell? _ _ k256)).trans k256
        clear k256
        have k271 := (hx.cell (World.block_lt_of_cell? _ _ k257)).trans k257
        clear k257
        have O272 := Lib.hid (O258.out.same hx.block)
        clear O258
        have B273 := Lib.hid (B260.out.trans (hx.mono B260.out.size))
        clear B260
        have B274 := Lib.hid (B261.out.trans (hx.mono B261.out.size))
        clear B261
        clear hx
        go_wp2_with fail
        refine (markModule_c (.slice q123 q124 q125) (.slice q126 q127 q128) u121 rd ra 1 W101.heap.size W262 O272.out (by have := Z5.out; have := Z7.out; have := Z14.out; have := Z32.out; have := Z33.out; have := Z34.out; have := Z53.out; have := Z66.out; have := Z67.out; have := Z89.out; have := Z105.out; have := Z106.out; have := Z131.out; have := Z150.out; have := Z151.out; have := Z168.out; have := Z187.out; have := Z206.out; have := Z226.out; have := Z245.out; have := Z263.out; omega) (by omega) (by have := HXL.out; have := HSZ1.out; have := HSZ2.out; omega)).mono ?_
        rintro e W275 ⟨rfl, hm, hlow, hfr⟩
        have RRR := R130.out
        have hhi : ∀ b, W122.heap.size ≤ b → b < W262.heap.size → W275.heap[b]? = W262.heap[b]? := fun b h1 h2 => hfr b h2 (fun e => by have := RRR.1 b e; omega) (fun u hu e => by have := RRR.2 u hu b e; omega)
        clear RRR
        have O276 := Lib.hid hm
        clear hm
        have Z277 := Lib.hid (hlow.size)
        have k278 := (hlow.cell (p := ⟨w.heap.size, 0, none⟩) (by show w.heap.size < W101.heap.size; exact (by have := Z5.out; have := Z7.out; have := Z14.out; have := Z32.out; have := Z33.out; have := Z34.out; have := Z53.out; have := Z66.out; have := Z67.out; have := Z89.out; have := Z105.out; have := Z106.out; have := Z131.out; have := Z150.out; have := Z151.out; have := Z168.out; have := Z187.out; have := Z206.out; have := Z226.out; have := Z245.out; have := Z263.out; have := Z277.out; omega))).trans k264
        clear k264
        have k279 := (hlow.cell (p := ⟨w.heap.size, 1, none⟩) (by show w.heap.size < W101.heap.size; exact (by have := Z5.out; have := Z7.out; have := Z14.out; have := Z32.out; have := Z33.out; have := Z34.out; have := Z53.out; have := Z66.out; have := Z67.out; have := Z89.out; have := Z105.out; have := Z106.out; have := Z131.out; have := Z150.out; have := Z151.out; have := Z168.out; have := Z187.out; have := Z206.out; have := Z226.out; have := Z245.out; have := Z263.out; have := Z277.out; omega))).trans k265
        clear k265
        have k280 := (hlow.cell (p := ⟨w.heap.size + 1, 0, none⟩) (by show w.heap.size + 1 < W101.heap.size; exact (by have := Z5.out; have := Z7.out; have := Z14.out; have := Z32.out; have := Z33.out; have := Z34.out; have := Z53.out; have := Z66.out; have := Z67.out; have := Z89.out; have := Z105.out; have := Z106.out; have := Z131.out; have := Z150.out; have := Z151.out; have := Z168.out; have := Z187.out; have := Z206.out; have := Z226.out; have := Z245.out; have := Z263.out; have := Z277.out; omega))).trans k266
        clear k266
        have k281 := (hlow.cell (p := ⟨w.heap.size + 1, 1, none⟩) (by show w.heap.size + 1 < W101.heap.size; exact (by have := Z5.out; have := Z7.out; have := Z14.out; have := Z32.out; have := Z33.out; have := Z34.out; have := Z53.out; have := Z66.out; have := Z67.out; have := Z89.out; have := Z105.out; have := Z106.out; have := Z131.out; have := Z150.out; have := Z151.out; have := Z168.out; have := Z187.out; have := Z206.out; have := Z226.out; have := Z245.out; have := Z263.out; have := Z277.out; omega))).trans k267
        clear k267
        have k282 := (hlow.cell (p := ⟨g20, 0, none⟩) (by show g20 < W101.heap.size; exact (by have := Z5.out; have := Z7.out; have := Z14.out; have := Z32.out; have := Z33.out; have := Z34.out; have := Z53.out; have := Z66.out; have := Z67.out; have := Z89.out; have := Z105.out; have := Z106.out; have := Z131.out; have := Z150.out; have := Z151.out; have := Z168.out; have := Z187.out; have := Z206.out; have := Z226.out; have := Z245.out; have := Z263.out; have := Z277.out; omega))).trans k268
        clear k268
        have k283 := (hlow.cell (p := ⟨g20, 1, none⟩) (by show g20 < W101.heap.size; exact (by have := Z5.out; have := Z7.out; have := Z14.out; have := Z32.out; have := Z33.out; have := Z34.out; have := Z53.out; have := Z66.out; have := Z67.out; have := Z89.out; have := Z105.out; have := Z106.out; have := Z131.out; have := Z150.out; have := Z151.out; have := Z168.out; have := Z187.out; have := Z206.out; have := Z226.out; have := Z245.out; have := Z263.out; have := Z277.out; omega))).trans k269
        clear k269
        have k284 := (World.cell?_of_block (hhi W122.heap.size (by have := Z5.out; have := Z7.out; have := Z14.out; have := Z32.out; have := Z33.out; have := Z34.out; have := Z53.out; have := Z66.out; have := Z67.out; have := Z89.out; have := Z105.out; have := Z106.out; have := Z131.out; have := Z150.out; have := Z151.out; have := Z168.out; have := Z187.out; have := Z206.out; have := Z226.out; have := Z245.out; have := Z263.out; have := Z277.out; omega) (World.block_lt_of_cell? _ _ k270))).trans k270
        clear k270
        have k285 := (World.cell?_of_block (hhi W122.heap.size (by have := Z5.out; have := Z7.out; have := Z14.out; have := Z32.out; have := Z33.out; have := Z34.out; have := Z53.out; have := Z66.out; have := Z67.out; have := Z89.out; have := Z105.out; have := Z106.out; have := Z131.out; have := Z150.out; have := Z151.out; have := Z168.out; have := Z187.out; have := Z206.out; have := Z226.out; have := Z245.out; have := Z263.out; have := Z277.out; omega) (World.block_lt_of_cell? _ _ k271))).trans k271
        clear k271
        have B286 := Lib.hid (B273.out.trans (hlow.mono (by have := Z5.out; have := Z7.out; have := Z14.out; have := Z32.out; have := Z33.out; have := Z34.out; have := Z53.out; have := Z66.out; have := Z67.out; have := Z89.out; have := Z105.out; have := Z106.out; have := Z131.out; have := Z150.out; have := Z151.out; have := Z168.out; have := Z187.out; have := Z206.out; have := Z226.out; have := Z245.out; have := Z263.out; have := Z277.out; omega)))
        clear B273
        have B287 := Lib.hid (B274.out.trans (hlow.mono (by have := Z5.out; have := Z7.out; have := Z14.out; have := Z32.out; have := Z33.out; have := Z34.out; have := Z53.out; have := Z66.out; have := Z67.out; have := Z89.out; have := Z105.out; have := Z106.out; have := Z131.out; have := Z150.out; have := Z151.out; have := Z168.out; have := Z187.out; have := Z206.out; have := Z226.out; have := Z245.out; have := Z263.out; have := Z277.out; omega)))
        clear B274
        clear hlow hhi hfr
        go_wp2_with fail
        refine (heldModule_c (.slice q123 q124 q125) (.slice q126 q127 q128) rd ra 1 _ O276.out.ints (by omega) (by have := HXL.out; have := HSZ1.out; have := HSZ2.out; omega)).mono ?_
        rintro e W288 ⟨rfl, hx⟩
        have Z289 := Lib.hid (hx.size)
        have k290 := (hx.cell (World.block_lt_of_cell? _ _ k278)).trans k278
        clear k278
        have k291 := (hx.cell (World.block_lt_of_cell? _ _ k279)).trans k279
        clear k279
        have k292 := (hx.cell (World.block_lt_of_cell? _ _ k280)).trans k280
        clear k280
        have k293 := (hx.cell (World.block_lt_of_cell? _ _ k281)).trans k281
        clear k281
        have k294 := (hx.cell (World.block_lt_of_cell? _ _ k282)).trans k282
        clear k282
        have k295 := (hx.cell (World.block_lt_of_cell? _ _ k283)).trans k283
        clear k283
        have k296 := (hx.cell (World.block_lt_of_cell? _ _ k284)).trans k284
        clear k284
        have k297 := (hx.cell (World.block_lt_of_cell? _ _ k285)).trans k285
        clear k285
        have O298 := Lib.hid (O276.out.same hx.block)
        clear O276
        have B299 := Lib.hid (B286.out.trans (hx.mono B286.out.size))
        clear B286
        have B300 := Lib.hid (B287.out.trans (hx.mono B287.out.size))
        clear B287
        clear hx
        go_upto_region 31 with fail
        go_cut [15, 16] (fun s6 s7 W304 => ∃ (W : World) (g : Nat) (r1 r2 : Value), W = W304 ∧ s6 = .pointer (some ⟨g, 0, none⟩) ∧ s7 = .int .i64 pc ∧ W304.cell? ⟨g, 0, none⟩ = some r1 ∧ W304.cell? ⟨g, 1, none⟩ = some r2 ∧ ModS W304.heap r1 r2 rd ra ∧ Below W288.heap.size W288 W304 ∧ W288.heap.size ≤ g)
        case first =>
          have KK305 := Lib.hid (And.intro k290 (And.intro k291 (And.intro k292 k293)))
          go_region_held3 (fun W => W.cell? ⟨w.heap.size, 0, none⟩ = some (.slice a1 l1 p1) ∧ W.cell? ⟨w.heap.size, 1, none⟩ = some (.slice a1q l1q p1q) ∧ W.cell? ⟨w.heap.size + 1, 0, none⟩ = some (.slice a2 l2 p2) ∧ W.cell? ⟨w.heap.size + 1, 1, none⟩ = some (.slice a2q l2q p2q) ∧ Below W288.heap.size W288 W)
            (first | assumption | exact ⟨k290, k291, k292, k293, (Below.refl _ _).drew⟩ | exact heldC4 (by assumption) hx8 | exact heldC4 (by assumption) hx9 | exact heldC4 (by assumption) hx7 | exact heldM4A (by assumption) _ | exact heldM4S KK305.out hs18 (by first | exact hs17.2.2.2.2.size | exact hs16.2.2.2.2.size | exact Nat.le_refl _) _ _ _ _ | fail)
            (first | (go_at_call 46; (with_reducible refine Calls.mono (TM1.out _ ?_) ?_); (exact heldC4B B299.out (by assumption) B299.out.size); (rintro e W16 ⟨md1, mv1, mu1, rfl, hm1, hx9⟩); (obtain ⟨ea1, eb1, ec1, rfl⟩ := own_shape hm1.deg); (obtain ⟨fa1, fb1, fc1, rfl⟩ := own_shape hm1.act.row); (have hs16 := heldC4 (by assumption) hx9); (first | have n16 := var_below hx9 | have n16 := var_below_d hx9 | skip)) | (go_at_call 46; (with_reducible refine Calls.mono (TM2.out _ ?_) ?_); (exact heldC4B B299.out (by assumption) B299.out.size); (rintro e W17 ⟨md2, mv2, mu2, rfl, hm2, hx8⟩); (obtain ⟨ea2, eb2, ec2, rfl⟩ := own_shape hm2.deg); (obtain ⟨fa2, fb2, fc2, rfl⟩ := own_shape hm2.act.row); (have hs17 := heldC4 (by assumption) hx8); (first | have n17 := n16.kept hx8.block | have n17 := var_below hx8 | skip)) | (go_at_call 54; (first | refine (I.out _ _ _ _ _ (hm1.ints.same hx8.block) hm2.ints).mono ?_ | refine (I.out _ _ _ _ _ ((hm1.ints.same (alloc_old _ _)).same hx8.block) hm2.ints).mono ?_ | refine (I.out _ _ _ _ _ ((hm1.ints.same hx8.block).same (alloc_old _ _)) (hm2.ints.same (alloc_old _ _))).mono ?_); (rintro e W18 ⟨r1, r2, us7, rfl, hm7, hx7⟩); (have hR := hm7.ints); (obtain ⟨j1, j2, rfl, -⟩ := hR.1.len); (obtain ⟨j3, j4, rfl, -⟩ := hR.2.len); (have hs18 := heldC4 (by assumption) hx7); first | (have n18 := n17.kept hx7.block; have nc0 := n18.c0; have nc1 := n18.c1; have nf0 := n18.free 0; have nf1 := n18.free 1) | (have n18 := var_below hx7; have nc0 := n18.c0; have nc1 := n18.c1; have nf0 := n18.free 0; have nf1 := n18.free 1) | skip) | fail)
          all_goals
            first | go_meet | (go_wp2_with fail; go_meet)
            first | exact ⟨_, _, _, _, rfl, rfl, rfl, (two_new W18 _ _ 60).1, (two_new W18 _ _ 60).2, hR.same (alloc_old _ _), hs18.2.2.2.2.alloc hs18.2.2.2.2.size _, hs18.2.2.2.2.size⟩ | exact ⟨_, _, _, _, rfl, rfl, rfl, ((n18.set0 _).set1 _).c0, ((n18.set0 _).set1 _).c1, hR.otherV n18, (heldM4S KK305.out hs18 (by first | exact hs17.2.2.2.2.size | exact hs16.2.2.2.2.size | exact Nat.le_refl _) _ _ _ _).2.2.2.2, (by first | exact hs17.2.2.2.2.size | exact hs16.2.2.2.2.size | exact Nat.le_refl _)⟩
        case rest =>
          obtain ⟨W304, g301, v302, v303, hWe, rfl, rfl, k306, k307, hm, hx, hge⟩ := hcut
          subst hWe
          obtain ⟨⟨q309, q310, rfl, -⟩, ⟨q311, q312, rfl, -⟩⟩ := And.intro hm.1.len hm.2.len
          have R308 := Lib.hid hm
          clear hm
          have Z313 := Lib.hid (World.block_lt_of_cell? _ _ k306)
          simp only at Z313
          have Z314 := Lib.hid (hge)
          clear hge
          have Z315 := Lib.hid (hx.size)
          have k316 := (hx.cell (World.block_lt_of_cell? _ _ k290)).trans k290
          clear k290
          have k317 := (hx.cell (World.block_lt_of_cell? _ _ k291)).trans k291
          clear k291
          have k318 := (hx.cell (World.block_lt_of_cell? _ _ k292)).trans k292
          clear k292
          have k319 := (hx.cell (World.block_lt_of_cell? _ _ k293)).trans k293
          clear k293
          have k320 := (hx.cell (World.block_lt_of_cell? _ _ k294)).trans k294
          clear k294
          have k321 := (hx.cell (World.block_lt_of_cell? _ _ k295)).trans k295
          clear k295
          have k322 := (hx.cell (World.block_lt_of_cell? _ _ k296)).trans k296
          clear k296
          have k323 := (hx.cell (World.block_lt_of_cell? _ _ k297)).trans k297
          clear k297
          have O324 := Lib.hid (O298.out.same hx.block)
          clear O298
          have B325 := Lib.hid (B299.out.trans (hx.mono B299.out.size))
          clear B299
          have B326 := Lib.hid (B300.out.trans (hx.mono B300.out.size))
          clear B300
          clear hx
          go_wp2_with fail
          refine (eqModule_same _ _ _ _ rd ra _ R308.out (R27.out.same B326.out.block)).mono ?_
          rintro e W327 ⟨rfl, hx⟩
          have Z328 := Lib.hid (hx.size)
          have k329 := (hx.cell (World.block_lt_of_cell? _ _ k316)).trans k316
          clear k316
          have k330 := (hx.cell (World.block_lt_of_cell? _ _ k317)).trans k317
          clear k317
          have k331 := (hx.cell (World.block_lt_of_cell? _ _ k318)).trans k318
          clear k318
          have k332 := (hx.cell (World.block_lt_of_cell? _ _ k319)).trans k319
          clear k319
          have k333 := (hx.cell (World.block_lt_of_cell? _ _ k320)).trans k320
          clear k320
          have k334 := (hx.cell (World.block_lt_of_cell? _ _ k321)).trans k321
          clear k321
          have k335 := (hx.cell (World.block_lt_of_cell? _ _ k322)).trans k322
          clear k322
          have k336 := (hx.cell (World.block_lt_of_cell? _ _ k323)).trans k323
          clear k323
          have k337 := (hx.cell (World.block_lt_of_cell? _ _ k306)).trans k306
          clear k306
          have k338 := (hx.cell (World.block_lt_of_cell? _ _ k307)).trans k307
          clear k307
          have O339 := Lib.hid (O324.out.same hx.block)
          clear O324
          have B340 := Lib.hid (B325.out.trans (hx.mono B325.out.size))
          clear B325
          have B341 := Lib.hid (B326.out.trans (hx.mono B326.out.size))
          clear B326
          clear hx
          go_wp2_with fail
          refine (heldModule_c (.slice q123 q124 q125) (.slice q126 q127 q128) rd ra 1 _ O339.out.ints (by omega) (by have := HXL.out; have := HSZ1.out; have := HSZ2.out; omega)).mono ?_
          rintro e W342 ⟨rfl, hx⟩
          have Z343 := Lib.hid (hx.size)
          have k344 := (hx.cell (World.block_lt_of_cell? _ _ k329)).trans k329
          clear k329
          have k345 := (hx.cell (World.block_lt_of_cell? _ _ k330)).trans k330
          clear k330
          have k346 := (hx.cell (World.block_lt_of_cell? _ _ k331)).trans k331
          clear k331
          have k347 := (hx.cell (World.block_lt_of_cell? _ _ k332)).trans k332
          clear k332
          have k348 := (hx.cell (World.block_lt_of_cell? _ _ k333)).trans k333
          clear k333
          have k349 := (hx.cell (World.block_lt_of_cell? _ _ k334)).trans k334
          clear k334
          have k350 := (hx.cell (World.block_lt_of_cell? _ _ k335)).trans k335
          clear k335
          have k351 := (hx.cell (World.block_lt_of_cell? _ _ k336)).trans k336
          clear k336
          have k352 := (hx.cell (World.block_lt_of_cell? _ _ k337)).trans k337
          clear k337
          have k353 := (hx.cell (World.block_lt_of_cell? _ _ k338)).trans k338
          clear k338
          have O354 := Lib.hid (O339.out.same hx.block)
          clear O339
          have B355 := Lib.hid (B340.out.trans (hx.mono B340.out.size))
          clear B340
          have B356 := Lib.hid (B341.out.trans (hx.mono B341.out.size))
          clear B341
          clear hx
          go_wp2_with fail
          go_ret
          exact ⟨rfl, B355.out⟩

namespace fnExactTensorOfModules_row
theorem own : ownKnob Try.prog.godebug = none := by kernel_rfl
theorem laidOut : laidOutB Try.prog = true := by kernel_rfl
set_option linter.unusedVariables false in
set_option maxRecDepth 100000 in
theorem lifted (os : Os) (started : os.Started) (H : Type) (enc : TypeId × Value → H) :
    ReturnsInHanded {} Try.checked os 7 .any (Rows.fnExactTensorOfModulesSpec.pre6 enc Try.prog Try.f7 Rows.fnExactTensorOfModulesRow.domain false) (Rows.fnExactTensorOfModulesSpec.post enc Try.prog Try.f7 false true false false) := by
  refine returnsInHanded_of_change (C := Try.checked) own started (by kernel_rfl) Try.func7
    (ChangeSpec.witness6 (enc := enc) (C := Try.checked) false ⟨#[], #[.agg #[.slice none 0 0, .slice none 0 0], .agg #[.slice none 0 0, .slice none 0 0]], []⟩ 8 (by kernel_rfl) (by kernel_rfl) (by kernel_rfl) (by kernel_rfl)) ?_
  intro W base args ds gs before hval0 hW hcnd _
  have hval : ∀ (j : Nat) t v, Try.f7.params[j]? = some t → args[j]? = some v → Value.okWide Try.prog W .any base t v := hval0
  have hW' := hW
  obtain ⟨p, q, hA0, hV, rfl, hfz, hnd⟩ := hW
  have hA : DataW.TrodAll enc Try.prog W 0 (fun _ => true) true Try.f7.params.toList args.toList ds p := hA0
  rw [Try.params7] at hA hval
  obtain ⟨v0, vs0, d0, ds0, p0, q0, hargs, rfl, rfl, h0, r0⟩ := trodAll_cons hA
  obtain ⟨v1, vs1, d1, ds1, p1, q1, rfl, rfl, rfl, h1, r1⟩ := trodAll_cons r0
  obtain ⟨rfl, rfl, rfl⟩ := trodAll_nil r1
  obtain rfl : args = #[v0, v1] := by cases args; simp_all
  obtain ⟨rfl, rfl⟩ := trodVars_none hV
  have k0 := h0
  have lt0 : ∀ x ∈ p0, x.block < W.heap.size := by obtain ⟨m, hm⟩ := k0; exact DataW.trod_lt m _ _ _ hm
  obtain ⟨x0, x0q, y0, y0q, n0, rfl, -, -, f0, g0⟩ := Go.Joins.open_agg2 Try.underlying58 (by kernel_rfl) (by kernel_rfl) (hval 0 58 v0 rfl rfl) h0
  obtain ⟨a0, len0, cap0, z0, e0, w0⟩ := isRow_of Try.underlying27 Try.underlying2 (by kernel_rfl) f0
  obtain rfl : x0 = .slice a0 len0 cap0 := by simpa using e0
  obtain ⟨a0q, len0q, cap0q, z0q, e0q, w0q⟩ := isRows_of Try.underlying36 Try.underlying27 Try.underlying2 (by kernel_rfl) (by kernel_rfl) g0
  obtain rfl : x0q = .slice a0q len0q cap0q := by simpa using e0q
  have k1 := h1
  have lt1 : ∀ x ∈ p1, x.block < W.heap.size := by obtain ⟨m, hm⟩ := k1; exact DataW.trod_lt m _ _ _ hm
  obtain ⟨x1, x1q, y1, y1q, n1, rfl, -, -, f1, g1⟩ := Go.Joins.open_agg2 Try.underlying58 (by kernel_rfl) (by kernel_rfl) (hval 1 58 v1 rfl rfl) h1
  obtain ⟨a1, len1, cap1, z1, e1, w1⟩ := isRow_of Try.underlying27 Try.underlying2 (by kernel_rfl) f1
  obtain rfl : x1 = .slice a1 len1 cap1 := by simpa using e1
  obtain ⟨a1q, len1q, cap1q, z1q, e1q, w1q⟩ := isRows_of Try.underlying36 Try.underlying27 Try.underlying2 (by kernel_rfl) (by kernel_rfl) g1
  obtain rfl : x1q = .slice a1q len1q cap1q := by simpa using e1q
  clear hA0 hval0
  refine (fnExactTensorOfModules_walk W a0 len0 cap0 z0 w0 a0q len0q cap0q z0q w0q a1 len1 cap1 z1 w1 a1q len1q cap1q z1q w1q).mono fun e W' ⟨he, bel⟩ => ?_
  subst he
  exact ⟨_, rfl, _, _, _, [], _, [], hW', trodAll_mk1 (shut_bool Try.underlying4 _), (trodAll_cons_mk (Below.trod laidOut (by kernel_rfl) (of_decide_eq_true (by kernel_rfl)) k0 bel lt0) (trodAll_cons_mk (Below.trod laidOut (by kernel_rfl) (of_decide_eq_true (by kernel_rfl)) k1 bel lt1) trodAll_mk0)), rfl, bel.frame _, fun h => by cases h⟩
theorem over : Rows.fnExactTensorOfModulesRow.holds Try.pinned (OpenSpec.ofChange Rows.fnExactTensorOfModulesSpec) :=
  OpenClaim.holds_of_wide 7 Try.f7 rfl rfl rfl rfl rfl rfl rfl ⟨rfl, rfl, rfl, rfl, rfl⟩ rfl rfl rfl rfl rfl (by kernel_rfl) Try.func7 (by kernel_rfl)
    (of_decide_eq_true (by kernel_rfl)) (by unfold Func.isWrapper; first | (rw [if_pos (by decide +kernel)]; kernel_rfl) | (rw [if_neg (by decide +kernel)]; exact ⟨rfl, rfl⟩))
    (fun os started H enc _ => lifted os started H enc)
end fnExactTensorOfModules_row
/-- The statement. -/
theorem fnExactTensorOfModules_proved : Rows.FnExactTensorOfModulesSaid := fnExactTensorOfModules_row.over
#print axioms fnExactTensorOfModules_proved
end Go.Proofs.Ytljfpkhgijangaa

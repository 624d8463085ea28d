/- What is proved: for every input the law FnExactKamekoDown returns true and its arguments read behind the call as before: the program's KamekoDown and the reference's agree, and the result is the call's own. No condition. -/
import Derived.Test.YtljfpkhgijangaaRows
import Derived.Test.YtljfpkhgijangaaLKamS
import Derived.Test.YtljfpkhgijangaaLPolArg
import Derived.Test.YtljfpkhgijangaaLGen
import Derived.OpenShut
import Derived.ShutString
import Derived.ChangeOld
namespace Go.Proofs.Ytljfpkhgijangaa
open Go.ChangeShapes Go.WideShapes Go.ChangeAt Go.RowKit
open Go.ChangeMaps (open_string shut_string)

set_option maxRecDepth 100000 in
set_option maxHeartbeats 4000000 in
theorem fnExactKamekoDown_walk (w : World) (n1 : Int) (_hn : (Lit.int .i64 n1).wf = true) (a1 : Option Addr) (l1 p1 : Nat) (t1 : List (List Int)) (h1 : IsRows w a1 l1 t1) :
    Calls Try.prog 9 #[.agg #[.int .i64 n1, .slice a1 l1 p1]] w fun e w' => e = .returned (.bool true) ∧ Below w.heap.size w w' := by
  have S := Lib.hid (fun (v : Value) (W : World) (h : IntSS W.heap v t1) => specKamekoDown_c n1 v t1 W h)
  have I := Lib.hid (fun (v : Value) (W : World) (h : IntSS W.heap v t1) => implKamekoDown_c n1 v t1 W h)
  have HXL := Lib.hid (kam_cnt n1 t1)
  generalize kamK n1 t1 = pn at *
  generalize kamT n1 t1 = rx at *
  generalize kamC n1 t1 = pc at *
  have u1 : (pc != pc) = false := by simp
  obtain ⟨W0, hW0⟩ : ∃ W, W = (w.alloc (.cells #[.int .i64 n1, .slice a1 l1 p1] 80)) := ⟨_, rfl⟩
  have hx : Below w.heap.size w W0 := by rw [hW0]; exact ((Below.refl _ _).alloc (by exact Nat.le_refl _) _)
  have hsz : w.heap.size + 1 ≤ W0.heap.size := by rw [hW0]; simp
  have k1 := (two_new w (.int .i64 n1) (.slice a1 l1 p1) 80).1
  rw [← hW0] at k1
  have k2 := (two_new w (.int .i64 n1) (.slice a1 l1 p1) 80).2
  rw [← hW0] at k2
  have BW0 := Lib.hid hx
  have Z3 := Lib.hid (hsz)
  have HW0 := Lib.hid hW0
  clear hW0 hx hsz
  have SM1 := Lib.hid (fun (left : Nat) (hl : left ≤ 1048576) (W : World) (hb : Below w.heap.size w W) => szPoly_c (n := n1) a1 l1 p1 t1 left W (h1.same hb.block hb.size) hl)
  have TM10 := fun (W : World) (hb : Below w.heap.size w W) => toPoly_c (n := n1) a1 l1 p1 t1 W (h1.same hb.block hb.size)
  clear h1
  go_enter Try.func9, Try.ntmps9
  go_wp2_with fail
  rw [← HW0.out]
  clear HW0
  have S0 := SM1.out 1048576 (Nat.le_refl _) _ BW0.out
  by_cases hz1 : t1.length + cnt t1 ≤ 1048576
  rotate_left
  · have e9 : szR t1 1048576 = -1 := by unfold szR; rw [if_neg hz1]
    rw [e9] at S0
    have S1 := Lib.hid S0
    clear S0 e9
    refine (S1.out).mono ?_
    rintro e W ⟨rfl, hx⟩
    have BE := Lib.hid (BW0.out.trans (hx.mono BW0.out.size))
    clear hx
    go_wp2_with fail
    go_ret
    exact ⟨rfl, BE.out⟩
  obtain ⟨left1, hl9⟩ : ∃ left : Nat, szR t1 1048576 = left := ⟨1048576 - (t1.length + cnt t1), by unfold szR; rw [if_pos hz1]; omega⟩
  have HLN : Hid (left1 ≤ 1048576) := by show _ ≤ _; unfold szR at hl9; rw [if_pos hz1] at hl9; have := Nat.le_refl 1048576; omega
  rw [hl9] at S0
  have S1 := Lib.hid S0
  clear S0 hl9
  have TM1 := Lib.hid (fun (W : World) (hb : Below w.heap.size w W) => TM10 W hb (by have := Nat.le_refl 1048576; omega))
  have HSZ1 : Hid (cnt t1 ≤ 1048576) := by show _ ≤ _; have := Nat.le_refl 1048576; omega
  clear TM10 hz1 SM1
  have HLF := HLN
  clear HLN
  refine (S1.out).mono ?_
  rintro e W4 ⟨rfl, hx⟩
  clear S1
  have Z5 := Lib.hid (hx.size)
  have k6 := (hx.cell (World.block_lt_of_cell? _ _ k1)).trans k1
  clear k1
  have k7 := (hx.cell (World.block_lt_of_cell? _ _ k2)).trans k2
  clear k2
  have B8 := Lib.hid (BW0.out.trans (hx.mono BW0.out.size))
  clear BW0
  clear hx
  go_wp2_with fail
  refine (TM1.out _ B8.out).mono ?_
  rintro e W11 ⟨v9, rfl, ⟨u10, hm⟩, hx⟩
  obtain ⟨q12, q13, q14, rfl⟩ := own_shape hm.row
  have O15 := Lib.hid hm
  have R16 := Lib.hid hm.range
  clear hm
  have Z17 := Lib.hid (hx.size)
  have k18 := (hx.cell (World.block_lt_of_cell? _ _ k6)).trans k6
  clear k6
  have k19 := (hx.cell (World.block_lt_of_cell? _ _ k7)).trans k7
  clear k7
  have B20 := Lib.hid (B8.out.trans (hx.mono B8.out.size))
  clear B8
  clear hx
  go_wp2_with fail
  refine (S.out (.slice q12 q13 q14) _ O15.out.ints).mono ?_
  rintro e W21 ⟨r1, rfl, hm, hx⟩
  obtain ⟨j1, j2, rfl, -⟩ := hm.len
  have RW := Lib.hid hm
  clear hm
  have Z22 := Lib.hid (hx.size)
  have k23 := (hx.cell (World.block_lt_of_cell? _ _ k18)).trans k18
  clear k18
  have k24 := (hx.cell (World.block_lt_of_cell? _ _ k19)).trans k19
  clear k19
  have O25 := Lib.hid (O15.out.same hx.block)
  clear O15
  have B26 := Lib.hid (B20.out.trans (hx.mono B20.out.size))
  clear B20
  clear hx
  have B27 := Lib.hid (Below.refl W21.heap.size W21)
  obtain ⟨W28, E290⟩ : ∃ W, W = W21.alloc (.cells #[.int .i64 pn, .slice j1 rx.length j2] 82) := ⟨_, rfl⟩
  have hx : Below W21.heap.size W21 W28 := by rw [E290]; exact (Below.refl _ _).alloc (Nat.le_refl _) _
  have k30 : W28.cell? ⟨W21.heap.size, 0, none⟩ = some (.int .i64 pn) := by rw [E290, World.cell?]; simp only [heap_alloc_new]; rfl
  have k31 : W28.cell? ⟨W21.heap.size, 1, none⟩ = some (.slice j1 rx.length j2) := by rw [E290, World.cell?]; simp only [heap_alloc_new]; rfl
  have kx0 := Go.Lib.cell?_alloc_some (.cells #[.int .i64 pn, .slice j1 rx.length j2] 82) k23
  have kx1 := Go.Lib.cell?_alloc_some (.cells #[.int .i64 pn, .slice j1 rx.length j2] 82) k24
  have Z32 := Lib.hid (World.block_lt_of_cell? _ _ k30)
  simp only at Z32
  have Z33 := Lib.hid (hx.size)
  have k34 := (hx.cell (World.block_lt_of_cell? _ _ k23)).trans k23
  clear k23
  have k35 := (hx.cell (World.block_lt_of_cell? _ _ k24)).trans k24
  clear k24
  have O36 := Lib.hid (O25.out.same hx.block)
  clear O25
  have B37 := Lib.hid (B26.out.trans (hx.mono B26.out.size))
  clear B26
  have B38 := Lib.hid (B27.out.trans (hx.mono B27.out.size))
  clear B27
  clear hx
  have E29 := Lib.hid E290
  clear E290
  go_wp2_with fail
  rw [← E29.out]
  clear E29 kx0 kx1
  clear O36
  go_wp2_with fail
  refine (TM1.out _ B37.out).mono ?_
  rintro e W41 ⟨v39, rfl, ⟨u40, hm⟩, hx⟩
  obtain ⟨q42, q43, q44, rfl⟩ := own_shape hm.row
  have O45 := Lib.hid hm
  have R46 := Lib.hid hm.range
  clear hm
  have Z47 := Lib.hid (hx.size)
  have k48 := (hx.cell (World.block_lt_of_cell? _ _ k34)).trans k34
  clear k34
  have k49 := (hx.cell (World.block_lt_of_cell? _ _ k35)).trans k35
  clear k35
  have k50 := (hx.cell (World.block_lt_of_cell? _ _ k30)).trans k30
  clear k30
  have k51 := (hx.cell (World.block_lt_of_cell? _ _ k31)).trans k31
  clear k31
  have B52 := Lib.hid (B37.out.trans (hx.mono B37.out.size))
  clear B37
  have B53 := Lib.hid (B38.out.trans (hx.mono B38.out.size))
  clear B38
  clear hx
  obtain ⟨W54, E550⟩ : ∃ W, W = W41.alloc (.cells #[.int .i64 n1, .slice q42 q43 q44] 82) := ⟨_, rfl⟩
  have hx : Below W41.heap.size W41 W54 := by rw [E550]; exact (Below.refl _ _).alloc (Nat.le_refl _) _
  have k56 : W54.cell? ⟨W41.heap.size, 0, none⟩ = some (.int .i64 n1) := by rw [E550, World.cell?]; simp only [heap_alloc_new]; rfl
  have k57 : W54.cell? ⟨W41.heap.size, 1, none⟩ = some (.slice q42 q43 q44) := by rw [E550, World.cell?]; simp only [heap_alloc_new]; rfl
  have kx0 := Go.Lib.cell?_alloc_some (.cells #[.int .i64 n1, .slice q42 q43 q44] 82) k48
  have kx1 := Go.Lib.cell?_alloc_some (.cells #[.int .i64 n1, .slice q42 q43 q44] 82) k49
  have kx2 := Go.Lib.cell?_alloc_some (.cells #[.int .i64 n1, .slice q42 q43 q44] 82) k50
  have kx3 := Go.Lib.cell?_alloc_some (.cells #[.int .i64 n1, .slice q42 q43 q44] 82) k51
  have Z58 := Lib.hid (World.block_lt_of_cell? _ _ k56)
  simp only at Z58
  have Z59 := Lib.hid (hx.size)
  have k60 := (hx.cell (World.block_lt_of_cell? _ _ k48)).trans k48
  clear k48
  have k61 := (hx.cell (World.block_lt_of_cell? _ _ k49)).trans k49
  clear k49
  have k62 := (hx.cell (World.block_lt_of_cell? _ _ k50)).trans k50
  clear k50
  have k63 := (hx.cell (World.block_lt_of_cell? _ _ k51)).trans k51
  clear k51
  have O64 := Lib.hid (O45.out.same hx.block)
  clear O45
  have B65 := Lib.hid (B52.out.trans (hx.mono B52.out.size))
  clear B52
  have B66 := Lib.hid (B53.out.trans (hx.mono B53.out.size))
  clear B53
  clear hx
  have E55 := Lib.hid E550
  clear E550
  go_wp2_with fail
  rw [← E55.out]
  clear E55 kx0 kx1 kx2 kx3
  go_wp2_with fail
  refine (I.out (.slice q42 q43 q44) _ O64.out.ints).mono ?_
  rintro e W69 ⟨v67, u68, rfl, hm, hx⟩
  obtain ⟨q70, q71, q72, rfl⟩ := own_shape hm.row
  have O73 := Lib.hid hm
  have R74 := Lib.hid hm.range
  clear hm
  have Z75 := Lib.hid (hx.size)
  have k76 := (hx.cell (World.block_lt_of_cell? _ _ k60)).trans k60
  clear k60
  have k77 := (hx.cell (World.block_lt_of_cell? _ _ k61)).trans k61
  clear k61
  have k78 := (hx.cell (World.block_lt_of_cell? _ _ k62)).trans k62
  clear k62
  have k79 := (hx.cell (World.block_lt_of_cell? _ _ k63)).trans k63
  clear k63
  have k80 := (hx.cell (World.block_lt_of_cell? _ _ k56)).trans k56
  clear k56
  have k81 := (hx.cell (World.block_lt_of_cell? _ _ k57)).trans k57
  clear k57
  have O82 := Lib.hid (O64.out.same hx.block)
  clear O64
  have B83 := Lib.hid (B65.out.trans (hx.mono B65.out.size))
  clear B65
  have B84 := Lib.hid (B66.out.trans (hx.mono B66.out.size))
  clear B66
  clear hx
  obtain ⟨W85, E860⟩ : ∃ W, W = W69.alloc (.cells #[.int .i64 pn, .slice q70 q71 q72] 82) := ⟨_, rfl⟩
  have hx : Below W69.heap.size W69 W85 := by rw [E860]; exact (Below.refl _ _).alloc (Nat.le_refl _) _
  have k87 : W85.cell? ⟨W69.heap.size, 0, none⟩ = some (.int .i64 pn) := by rw [E860, World.cell?]; simp only [heap_alloc_new]; rfl
  have k88 : W85.cell? ⟨W69.heap.size, 1, none⟩ = some (.slice q70 q71 q72) := by rw [E860, World.cell?]; simp only [heap_alloc_new]; rfl
  have kx0 := Go.Lib.cell?_alloc_some (.cells #[.int .i64 pn, .slice q70 q71 q72] 82) k76
  have kx1 := Go.Lib.cell?_alloc_some (.cells #[.int .i64 pn, .slice q70 q71 q72] 82) k77
  have kx2 := Go.Lib.cell?_alloc_some (.cells #[.int .i64 pn, .slice q70 q71 q72] 82) k78
  have kx3 := Go.Lib.cell?_alloc_some (.cells #[.int .i64 pn, .slice q70 q71 q72] 82) k79
  have kx4 := Go.Lib.cell?_alloc_some (.cells #[.int .i64 pn, .slice q70 q71 q72] 82) k80
  have kx5 := Go.Lib.cell?_alloc_some (.cells #[.int .i64 pn, .slice q70 q71 q72] 82) k81
  have Z89 := Lib.hid (World.block_lt_of_cell? _ _ k87)
  simp only at Z89
  have Z90 := Lib.hid (hx.size)
  have k91 := (hx.cell (World.block_lt_of_cell? _ _ k76)).trans k76
  clear k76
  have k92 := (hx.cell (World.block_lt_of_cell? _ _ k77)).trans k77
  clear k77
  have k93 := (hx.cell (World.block_lt_of_cell? _ _ k78)).trans k78
  clear k78
  have k94 := (hx.cell (World.block_lt_of_cell? _ _ k79)).trans k79
  clear k79
  have k95 := (hx.cell (World.block_lt_of_cell? _ _ k80)).trans k80
  clear k80
  have k96 := (hx.cell (World.block_lt_of_cell? _ _ k81)).trans k81
  clear k81
  have O97 := Lib.hid (O82.out.same hx.block)
  clear O82
  have O98 := Lib.hid (O73.out.same hx.block)
  clear O73
  have B99 := Lib.hid (B83.out.trans (hx.mono B83.out.size))
  clear B83
  have B100 := Lib.hid (B84.out.trans (hx.mono B84.out.size))
  clear B84
  clear hx
  have E86 := Lib.hid E860
  clear E860
  go_wp2_with fail
  rw [← E86.out]
  clear E86 kx0 kx1 kx2 kx3 kx4 kx5
  go_wp2_with fail
  refine (eqPoly_same _ _ rx _ O98.out.ints (RW.out.same B100.out.block)).mono ?_
  rintro e W101 ⟨rfl, hx⟩
  have Z102 := Lib.hid (hx.size)
  have k103 := (hx.cell (World.block_lt_of_cell? _ _ k91)).trans k91
  clear k91
  have k104 := (hx.cell (World.block_lt_of_cell? _ _ k92)).trans k92
  clear k92
  have k105 := (hx.cell (World.block_lt_of_cell? _ _ k93)).trans k93
  clear k93
  have k106 := (hx.cell (World.block_lt_of_cell? _ _ k94)).trans k94
  clear k94
  have k107 := (hx.cell (World.block_lt_of_cell? _ _ k95)).trans k95
  clear k95
  have k108 := (hx.cell (World.block_lt_of_cell? _ _ k96)).trans k96
  clear k96
  have k109 := (hx.cell (World.block_lt_of_cell? _ _ k87)).trans k87
  clear k87
  have k110 := (hx.cell (World.block_lt_of_cell? _ _ k88)).trans k88
  clear k88
  have O111 := Lib.hid (O97.out.same hx.block)
  clear O97
  have O112 := Lib.hid (O98.out.same hx.block)
  clear O98
  have B113 := Lib.hid (B99.out.trans (hx.mono B99.out.size))
  clear B99
  have B114 := Lib.hid (B100.out.trans (hx.mono B100.out.size))
  clear B100
  clear hx
  go_wp2_with fail
  go_region_held3 (fun W => W.cell? ⟨W41.heap.size, 0, none⟩ = some (.int .i64 n1) ∧ W.cell? ⟨W41.heap.size, 1, none⟩ = some (.slice q42 q43 q44) ∧ W.cell? ⟨w.heap.size, 0, none⟩ = some (.int .i64 n1) ∧ W.cell? ⟨w.heap.size, 1, none⟩ = some (.slice a1 l1 p1) ∧ Below W101.heap.size W101 W)
    (first | exact ⟨k107, k108, k103, k104, (Below.refl _ _).drew⟩ | exact heldC4 (by assumption) hx8 | exact heldC4 (by assumption) hx9)
    (first | (go_at_call 67; refine (TM1.out _ (heldC4B B113.out (by assumption) B113.out.size)).mono ?_; rintro e W9 ⟨v9, rfl, ⟨u9, hm9⟩, hx9⟩; obtain ⟨e1, e2, e3, rfl⟩ := own_shape hm9.row) | (go_at_call 69; refine (eqPoly_same _ _ t1 _ (O111.out.ints.same (heldC4X (by assumption)).block) hm9.ints).mono ?_; rintro e W8 ⟨rfl, hx8⟩))
  all_goals
    rename_i hh
    obtain ⟨W115, hWe⟩ : ∃ W, W = W8 := ⟨_, rfl⟩
    have hx : Below W101.heap.size W101 W115 := by rw [hWe]; exact heldC4X hh
    rw [← hWe]
    clear hWe hh hx8 hx9 hm9
    have Z116 := Lib.hid (hx.size)
    have k117 := (hx.cell (World.block_lt_of_cell? _ _ k103)).trans k103
    clear k103
    have k118 := (hx.cell (World.block_lt_of_cell? _ _ k104)).trans k104
    clear k104
    have k119 := (hx.cell (World.block_lt_of_cell? _ _ k105)).trans k105
    clear k105
    have k120 := (hx.cell (World.block_lt_of_cell? _ _ k106)).trans k106
    clear k106
    have k121 := (hx.cell (World.block_lt_of_cell? _ _ k107)).trans k107
    clear k107
    have k122 := (hx.cell (World.block_lt_of_cell? _ _ k108)).trans k108
    clear k108
    have k123 := (hx.cell (World.block_lt_of_cell? _ _ k109)).trans k109
    clear k109
    have k124 := (hx.cell (World.block_lt_of_cell? _ _ k110)).trans k110
    clear k110
    have O125 := Lib.hid (O111.out.same hx.block)
    clear O111
    have O126 := Lib.hid (O112.out.same hx.block)
    clear O112
    have B127 := Lib.hid (B113.out.trans (hx.mono B113.out.size))
    clear B113
    have B128 := Lib.hid (B114.out.trans (hx.mono B114.out.size))
    clear B114
    clear hx
    go_wp2_with fail
    refine (markPoly_c (.slice q42 q43 q44) u40 t1 1 W28.heap.size W115 O125.out (by have := Z3.out; have := Z5.out; have := Z17.out; have := Z22.out; have := Z32.out; have := Z33.out; have := Z47.out; have := Z58.out; have := Z59.out; have := Z75.out; have := Z89.out; have := Z90.out; have := Z102.out; have := Z116.out; omega) (by omega) (by have := HXL.out; have := HSZ1.out; omega)).mono ?_
    rintro e W129 ⟨rfl, hm, hlow, hfr⟩
    have RRR := R46.out
    have hhi : ∀ b, W41.heap.size ≤ b → b < W115.heap.size → W129.heap[b]? = W115.heap[b]? := fun b h1 h2 => hfr b h2 (fun u hu e => by have := RRR.2 u hu b e; omega)
    clear RRR
    have O130 := Lib.hid hm
    clear hm
    have Z131 := Lib.hid (hlow.size)
    have k132 := (hlow.cell (p := ⟨w.heap.size, 0, none⟩) (by show w.heap.size < W28.heap.size; exact (by have := Z3.out; have := Z5.out; have := Z17.out; have := Z22.out; have := Z32.out; have := Z33.out; have := Z47.out; have := Z58.out; have := Z59.out; have := Z75.out; have := Z89.out; have := Z90.out; have := Z102.out; have := Z116.out; have := Z131.out; omega))).trans k117
    clear k117
    have k133 := (hlow.cell (p := ⟨w.heap.size, 1, none⟩) (by show w.heap.size < W28.heap.size; exact (by have := Z3.out; have := Z5.out; have := Z17.out; have := Z22.out; have := Z32.out; have := Z33.out; have := Z47.out; have := Z58.out; have := Z59.out; have := Z75.out; have := Z89.out; have := Z90.out; have := Z102.out; have := Z116.out; have := Z131.out; omega))).trans k118
    clear k118
    have k134 := (hlow.cell (p := ⟨W21.heap.size, 0, none⟩) (by show W21.heap.size < W28.heap.size; exact (by have := Z3.out; have := Z5.out; have := Z17.out; have := Z22.out; have := Z32.out; have := Z33.out; have := Z47.out; have := Z58.out; have := Z59.out; have := Z75.out; have := Z89.out; have := Z90.out; have := Z102.out; have := Z116.out; have := Z131.out; omega))).trans k119
    clear k119
    have k135 := (hlow.cell (p := ⟨W21.heap.size, 1, none⟩) (by show W21.heap.size < W28.heap.size; exact (by have := Z3.out; have := Z5.out; have := Z17.out; have := Z22.out; have := Z32.out; have := Z33.out; have := Z47.out; have := Z58.out; have := Z59.out; have := Z75.out; have := Z89.out; have := Z90.out; have := Z102.out; have := Z116.out; have := Z131.out; omega))).trans k120
    clear k120
    have k136 := (World.cell?_of_block (hhi W41.heap.size (by have := Z3.out; have := Z5.out; have := Z17.out; have := Z22.out; have := Z32.out; have := Z33.out; have := Z47.out; have := Z58.out; have := Z59.out; have := Z75.out; have := Z89.out; have := Z90.out; have := Z102.out; have := Z116.out; have := Z131.out; omega) (World.block_lt_of_cell? _ _ k121))).trans k121
    clear k121
    have k137 := (World.cell?_of_block (hhi W41.heap.size (by have := Z3.out; have := Z5.out; have := Z17.out; have := Z22.out; have := Z32.out; have := Z33.out; have := Z47.out; have := Z58.out; have := Z59.out; have := Z75.out; have := Z89.out; have := Z90.out; have := Z102.out; have := Z116.out; have := Z131.out; omega) (World.block_lt_of_cell? _ _ k122))).trans k122
    clear k122
    have k138 := (World.cell?_of_block (hhi W69.heap.size (by have := Z3.out; have := Z5.out; have := Z17.out; have := Z22.out; have := Z32.out; have := Z33.out; have := Z47.out; have := Z58.out; have := Z59.out; have := Z75.out; have := Z89.out; have := Z90.out; have := Z102.out; have := Z116.out; have := Z131.out; omega) (World.block_lt_of_cell? _ _ k123))).trans k123
    clear k123
    have k139 := (World.cell?_of_block (hhi W69.heap.size (by have := Z3.out; have := Z5.out; have := Z17.out; have := Z22.out; have := Z32.out; have := Z33.out; have := Z47.out; have := Z58.out; have := Z59.out; have := Z75.out; have := Z89.out; have := Z90.out; have := Z102.out; have := Z116.out; have := Z131.out; omega) (World.block_lt_of_cell? _ _ k124))).trans k124
    clear k124
    have O140 := Lib.hid (O126.out.far fun b h1 h2 => hhi b (Nat.le_trans (by have := Z3.out; have := Z5.out; have := Z17.out; have := Z22.out; have := Z32.out; have := Z33.out; have := Z47.out; have := Z58.out; have := Z59.out; have := Z75.out; have := Z89.out; have := Z90.out; have := Z102.out; have := Z116.out; have := Z131.out; omega) h1) h2)
    clear O126
    have B141 := Lib.hid (B127.out.trans (hlow.mono (by have := Z3.out; have := Z5.out; have := Z17.out; have := Z22.out; have := Z32.out; have := Z33.out; have := Z47.out; have := Z58.out; have := Z59.out; have := Z75.out; have := Z89.out; have := Z90.out; have := Z102.out; have := Z116.out; have := Z131.out; omega)))
    clear B127
    have B142 := Lib.hid (B128.out.trans (hlow.mono (by have := Z3.out; have := Z5.out; have := Z17.out; have := Z22.out; have := Z32.out; have := Z33.out; have := Z47.out; have := Z58.out; have := Z59.out; have := Z75.out; have := Z89.out; have := Z90.out; have := Z102.out; have := Z116.out; have := Z131.out; omega)))
    clear B128
    clear hlow hhi hfr
    have t9 : decide ((1 + (cnt t1 : Int)) < 0) = false := by simp; omega
    clear O130
    clear k136
    clear k137
    go_wp2_with fail
    refine (eqPoly_same _ _ rx _ O140.out.ints (RW.out.same B142.out.block)).mono ?_
    rintro e W143 ⟨rfl, hx⟩
    have Z144 := Lib.hid (hx.size)
    have k145 := (hx.cell (World.block_lt_of_cell? _ _ k132)).trans k132
    clear k132
    have k146 := (hx.cell (World.block_lt_of_cell? _ _ k133)).trans k133
    clear k133
    have k147 := (hx.cell (World.block_lt_of_cell? _ _ k134)).trans k134
    clear k134
    have k148 := (hx.cell (World.block_lt_of_cell? _ _ k135)).trans k135
    clear k135
    have k149 := (hx.cell (World.block_lt_of_cell? _ _ k138)).trans k138
    clear k138
    have k150 := (hx.cell (World.block_lt_of_cell? _ _ k139)).trans k139
    clear k139
    have O151 := Lib.hid (O140.out.same hx.block)
    clear O140
    have B152 := Lib.hid (B141.out.trans (hx.mono B141.out.size))
    clear B141
    have B153 := Lib.hid (B142.out.trans (hx.mono B142.out.size))
    clear B142
    clear hx
    go_wp2_with fail
    refine (markPoly_c (.slice q70 q71 q72) u68 rx 1 W54.heap.size W143 O151.out (by have := Z3.out; have := Z5.out; have := Z17.out; have := Z22.out; have := Z32.out; have := Z33.out; have := Z47.out; have := Z58.out; have := Z59.out; have := Z75.out; have := Z89.out; have := Z90.out; have := Z102.out; have := Z116.out; have := Z131.out; have := Z144.out; omega) (by omega) (by have := HXL.out; have := HSZ1.out; omega)).mono ?_
    rintro e W154 ⟨rfl, hm, hlow, hfr⟩
    have RRR := R74.out
    have hhi : ∀ b, W69.heap.size ≤ b → b < W143.heap.size → W154.heap[b]? = W143.heap[b]? := fun b h1 h2 => hfr b h2 (fun u hu e => by have := RRR.2 u hu b e; omega)
    clear RRR
    have O155 := Lib.hid hm
    clear hm
    have Z156 := Lib.hid (hlow.size)
    have k157 := (hlow.cell (p := ⟨w.heap.size, 0, none⟩) (by show w.heap.size < W54.heap.size; exact (by have := Z3.out; have := Z5.out; have := Z17.out; have := Z22.out; have := Z32.out; have := Z33.out; have := Z47.out; have := Z58.out; have := Z59.out; have := Z75.out; have := Z89.out; have := Z90.out; have := Z102.out; have := Z116.out; have := Z131.out; have := Z144.out; have := Z156.out; omega))).trans k145
    clear k145
    have k158 := (hlow.cell (p := ⟨w.heap.size, 1, none⟩) (by show w.heap.size < W54.heap.size; exact (by have := Z3.out; have := Z5.out; have := Z17.out; have := Z22.out; have := Z32.out; have := Z33.out; have := Z47.out; have := Z58.out; have := Z59.out; have := Z75.out; have := Z89.out; have := Z90.out; have := Z102.out; have := Z116.out; have := Z131.out; have := Z144.out; have := Z156.out; omega))).trans k146
    clear k146
    have k159 := (hlow.cell (p := ⟨W21.heap.size, 0, none⟩) (by show W21.heap.size < W54.heap.size; exact (by have := Z3.out; have := Z5.out; have := Z17.out; have := Z22.out; have := Z32.out; have := Z33.out; have := Z47.out; have := Z58.out; have := Z59.out; have := Z75.out; have := Z89.out; have := Z90.out; have := Z102.out; have := Z116.out; have := Z131.out; have := Z144.out; have := Z156.out; omega))).trans k147
    clear k147
    have k160 := (hlow.cell (p := ⟨W21.heap.size, 1, none⟩) (by show W21.heap.size < W54.heap.size; exact (by have := Z3.out; have := Z5.out; have := Z17.out; have := Z22.out; have := Z32.out; have := Z33.out; have := Z47.out; have := Z58.out; have := Z59.out; have := Z75.out; have := Z89.out; have := Z90.out; have := Z102.out; have := Z116.out; have := Z131.out; have := Z144.out; have := Z156.out; omega))).trans k148
    clear k148
    have k161 := (World.cell?_of_block (hhi W69.heap.size (by have := Z3.out; have := Z5.out; have := Z17.out; have := Z22.out; have := Z32.out; have := Z33.out; have := Z47.out; have := Z58.out; have := Z59.out; have := Z75.out; have := Z89.out; have := Z90.out; have := Z102.out; have := Z116.out; have := Z131.out; have := Z144.out; have := Z156.out; omega) (World.block_lt_of_cell? _ _ k149))).trans k149
    clear k149
    have k162 := (World.cell?_of_block (hhi W69.heap.size (by have := Z3.out; have := Z5.out; have := Z17.out; have := Z22.out; have := Z32.out; have := Z33.out; have := Z47.out; have := Z58.out; have := Z59.out; have := Z75.out; have := Z89.out; have := Z90.out; have := Z102.out; have := Z116.out; have := Z131.out; have := Z144.out; have := Z156.out; omega) (World.block_lt_of_cell? _ _ k150))).trans k150
    clear k150
    have B163 := Lib.hid (B152.out.trans (hlow.mono (by have := Z3.out; have := Z5.out; have := Z17.out; have := Z22.out; have := Z32.out; have := Z33.out; have := Z47.out; have := Z58.out; have := Z59.out; have := Z75.out; have := Z89.out; have := Z90.out; have := Z102.out; have := Z116.out; have := Z131.out; have := Z144.out; have := Z156.out; omega)))
    clear B152
    have B164 := Lib.hid (B153.out.trans (hlow.mono (by have := Z3.out; have := Z5.out; have := Z17.out; have := Z22.out; have := Z32.out; have := Z33.out; have := Z47.out; have := Z58.out; have := Z59.out; have := Z75.out; have := Z89.out; have := Z90.out; have := Z102.out; have := Z116.out; have := Z131.out; have := Z144.out; have := Z156.out; omega)))
    clear B153
    clear hlow hhi hfr
    go_wp2_with fail
    refine (heldPoly_c (.slice q70 q71 q72) rx 1 _ O155.out.ints (by omega) (by have := HXL.out; have := HSZ1.out; omega)).mono ?_
    rintro e W165 ⟨rfl, hx⟩
    have Z166 := Lib.hid (hx.size)
    have k167 := (hx.cell (World.block_lt_of_cell? _ _ k157)).trans k157
    clear k157
    have k168 := (hx.cell (World.block_lt_of_cell? _ _ k158)).trans k158
    clear k158
    have k169 := (hx.cell (World.block_lt_of_cell? _ _ k159)).trans k159
    clear k159
    have k170 := (hx.cell (World.block_lt_of_cell? _ _ k160)).trans k160
    clear k160
    have k171 := (hx.cell (World.block_lt_of_cell? _ _ k161)).trans k161
    clear k161
    have k172 := (hx.cell (World.block_lt_of_cell? _ _ k162)).trans k162
    clear k162
    have O173 := Lib.hid (O155.out.same hx.block)
    clear O155
    have B174 := Lib.hid (B163.out.trans (hx.mono B163.out.size))
    clear B163
    have B175 := Lib.hid (B164.out.trans (hx.mono B164.out.size))
    clear B164
    clear hx
    go_wp2_with fail
    refine (TM1.out _ B174.out).mono ?_
    rintro e W178 ⟨v176, rfl, ⟨u177, hm⟩, hx⟩
    obtain ⟨q179, q180, q181, rfl⟩ := own_shape hm.row
    have O182 := Lib.hid hm
    have R183 := Lib.hid hm.range
    clear hm
    have Z184 := Lib.hid (hx.size)
    have k185 := (hx.cell (World.block_lt_of_cell? _ _ k167)).trans k167
    clear k167
    have k186 := (hx.cell (World.block_lt_of_cell? _ _ k168)).trans k168
    clear k168
    have k187 := (hx.cell (World.block_lt_of_cell? _ _ k169)).trans k169
    clear k169
    have k188 := (hx.cell (World.block_lt_of_cell? _ _ k170)).trans k170
    clear k170
    have k189 := (hx.cell (World.block_lt_of_cell? _ _ k171)).trans k171
    clear k171
    have k190 := (hx.cell (World.block_lt_of_cell? _ _ k172)).trans k172
    clear k172
    have O191 := Lib.hid (O173.out.same hx.block)
    clear O173
    have B192 := Lib.hid (B174.out.trans (hx.mono B174.out.size))
    clear B174
    have B193 := Lib.hid (B175.out.trans (hx.mono B175.out.size))
    clear B175
    clear hx
    go_wp2_with fail
    refine (I.out (.slice q179 q180 q181) _ O182.out.ints).mono ?_
    rintro e W196 ⟨v194, u195, rfl, hm, hx⟩
    obtain ⟨q197, q198, q199, rfl⟩ := own_shape hm.row
    have O200 := Lib.hid hm
    have R201 := Lib.hid hm.range
    clear hm
    have Z202 := Lib.hid (hx.size)
    have k203 := (hx.cell (World.block_lt_of_cell? _ _ k185)).trans k185
    clear k185
    have k204 := (hx.cell (World.block_lt_of_cell? _ _ k186)).trans k186
    clear k186
    have k205 := (hx.cell (World.block_lt_of_cell? _ _ k187)).trans k187
    clear k187
    have k206 := (hx.cell (World.block_lt_of_cell? _ _ k188)).trans k188
    clear k188
    have k207 := (hx.cell (World.block_lt_of_cell? _ _ k189)).trans k189
    clear k189
    have k208 := (hx.cell (World.block_lt_of_cell? _ _ k190)).trans k190
    clear k190
    have O209 := Lib.hid (O191.out.same hx.block)
    clear O191
    have O210 := Lib.hid (O182.out.same hx.block)
    clear O182
    have B211 := Lib.hid (B192.out.trans (hx.mono B192.out.size))
    clear B192
    have B212 := Lib.hid (B193.out.trans (hx.mono B193.out.size))
    clear B193
    clear hx
    obtain ⟨W213, E2140⟩ : ∃ W, W = W196.alloc (.cells #[.int .i64 pn, .slice q197 q198 q199] 82) := ⟨_, rfl⟩
    have hx : Below W196.heap.size W196 W213 := by rw [E2140]; exact (Below.refl _ _).alloc (Nat.le_refl _) _
    have k215 : W213.cell? ⟨W196.heap.size, 0, none⟩ = some (.int .i64 pn) := by rw [E2140, World.cell?]; simp only [heap_alloc_new]; rfl
    have k216 : W213.cell? ⟨W196.heap.size, 1, none⟩ = some (.slice q197 q198 q199) := by rw [E2140, World.cell?]; simp only [heap_alloc_new]; rfl
    have kx0 := Go.Lib.cell?_alloc_some (.cells #[.int .i64 pn, .slice q197 q198 q199] 82) k203
    have kx1 := Go.Lib.cell?_alloc_some (.cells #[.int .i64 pn, .slice q197 q198 q199] 82) k204
    have kx2 := Go.Lib.cell?_alloc_some (.cells #[.int .i64 pn, .slice q197 q198 q199] 82) k205
    have kx3 := Go.Lib.cell?_alloc_some (.cells #[.int .i64 pn, .slice q197 q198 q199] 82) k206
    have kx4 := Go.Lib.cell?_alloc_some (.cells #[.int .i64 pn, .slice q197 q198 q199] 82) k207
    have kx5 := Go.Lib.cell?_alloc_some (.cells #[.int .i64 pn, .slice q197 q198 q199] 82) k208
    have Z217 := Lib.hid (World.block_lt_of_cell? _ _ k215)
    simp only at Z217
    have Z218 := Lib.hid (hx.size)
    have k219 := (hx.cell (World.block_lt_of_cell? _ _ k203)).trans k203
    clear k203
    have k220 := (hx.cell (World.block_lt_of_cell? _ _ k204)).trans k204
    clear k204
    have k221 := (hx.cell (World.block_lt_of_cell? _ _ k205)).trans k205
    clear k205
    have k222 := (hx.cell (World.block_lt_of_cell? _ _ k206)).trans k206
    clear k206
    have k223 := (hx.cell (World.block_lt_of_cell? _ _ k207)).trans k207
    clear k207
    have k224 := (hx.cell (World.block_lt_of_cell? _ _ k208)).trans k208
    clear k208
    have O225 := Lib.hid (O209.out.same hx.block)
    clear O209
    have O226 := Lib.hid (O210.out.same hx.block)
    clear O210
    have O227 := Lib.hid (O200.out.same hx.block)
    clear O200
    have B228 := Lib.hid (B211.out.trans (hx.mono B211.out.size))
    clear B211
    have B229 := Lib.hid (B212.out.trans (hx.mono B212.out.size))
    clear B212
    clear hx
    have E214 := Lib.hid E2140
    clear E2140
    go_wp2_with fail
    rw [← E214.out]
    clear E214 kx0 kx1 kx2 kx3 kx4 kx5
    clear O226
    go_wp2_with fail
    refine (eqPoly_same _ _ rx _ O227.out.ints (RW.out.same B229.out.block)).mono ?_
    rintro e W230 ⟨rfl, hx⟩
    have Z231 := Lib.hid (hx.size)
    have k232 := (hx.cell (World.block_lt_of_cell? _ _ k219)).trans k219
    clear k219
    have k233 := (hx.cell (World.block_lt_of_cell? _ _ k220)).trans k220
    clear k220
    have k234 := (hx.cell (World.block_lt_of_cell? _ _ k221)).trans k221
    clear k221
    have k235 := (hx.cell (World.block_lt_of_cell? _ _ k222)).trans k222
    clear k222
    have k236 := (hx.cell (World.block_lt_of_cell? _ _ k223)).trans k223
    clear k223
    have k237 := (hx.cell (World.block_lt_of_cell? _ _ k224)).trans k224
    clear k224
    have k238 := (hx.cell (World.block_lt_of_cell? _ _ k215)).trans k215
    clear k215
    have k239 := (hx.cell (World.block_lt_of_cell? _ _ k216)).trans k216
    clear k216
    have O240 := Lib.hid (O225.out.same hx.block)
    clear O225
    have O241 := Lib.hid (O227.out.same hx.block)
    clear O227
    have B242 := Lib.hid (B228.out.trans (hx.mono B228.out.size))
    clear B228
    have B243 := Lib.hid (B229.out.trans (hx.mono B229.out.size))
    clear B229
    clear hx
    go_wp2_with fail
    refine (heldPoly_c (.slice q70 q71 q72) rx 1 _ O240.out.ints (by omega) (by have := HXL.out; have := HSZ1.out; omega)).mono ?_
    rintro e W244 ⟨rfl, hx⟩
    have Z245 := Lib.hid (hx.size)
    have k246 := (hx.cell (World.block_lt_of_cell? _ _ k232)).trans k232
    clear k232
    have k247 := (hx.cell (World.block_lt_of_cell? _ _ k233)).trans k233
    clear k233
    have k248 := (hx.cell (World.block_lt_of_cell? _ _ k234)).trans k234
    clear k234
    have k249 := (hx.cell (World.block_lt_of_cell? _ _ k235)).trans k235
    clear k235
    have k250 := (hx.cell (World.block_lt_of_cell? _ _ k236)).trans k236
    clear k236
    have k251 := (hx.cell (World.block_lt_of_cell? _ _ k237)).trans k237
    clear k237
    have k252 := (hx.cell (World.block_lt_of_cell? _ _ k238)).trans k238
    clear k238
    have k253 := (hx.cell (World.block_lt_of_cell? _ _ k239)).trans k239
    clear k239
    have O254 := Lib.hid (O240.out.same hx.block)
    clear O240
    have O255 := Lib.hid (O241.out.same hx.block)
    clear O241
    have B256 := Lib.hid (B242.out.trans (hx.mono B242.out.size))
    clear B242
    have B257 := Lib.hid (B243.out.trans (hx.mono B243.out.size))
    clear B243
    clear hx
    go_wp2_with fail
    go_ret
    exact ⟨rfl, B256.out⟩

namespace fnExactKamekoDown_row
theorem own : ownKnob Try.prog.godebug = none := by kernel_rfl
theorem laidOut : laidOutB Try.prog = true := by kernel_rfl
set_option linter.unusedVariables false in
set_option maxRecDepth 100000 in
theorem lifted (os : Os) (started : os.Started) (H : Type) (enc : TypeId × Value → H) :
    ReturnsInHanded {} Try.checked os 9 .any (Rows.fnExactKamekoDownSpec.pre6 enc Try.prog Try.f9 Rows.fnExactKamekoDownRow.domain false) (Rows.fnExactKamekoDownSpec.post enc Try.prog Try.f9 false true false false) := by
  refine returnsInHanded_of_change (C := Try.checked) own started (by kernel_rfl) Try.func9
    (ChangeSpec.witness6 (enc := enc) (C := Try.checked) false ⟨#[], #[.agg #[.int .i64 0, .slice none 0 0]], []⟩ 8 (by kernel_rfl) (by kernel_rfl) (by kernel_rfl) (by kernel_rfl)) ?_
  intro W base args ds gs before hval0 hW hcnd _
  have hval : ∀ (j : Nat) t v, Try.f9.params[j]? = some t → args[j]? = some v → Value.okWide Try.prog W .any base t v := hval0
  have hW' := hW
  obtain ⟨p, q, hA0, hV, rfl, hfz, hnd⟩ := hW
  have hA : DataW.TrodAll enc Try.prog W 0 (fun _ => true) true Try.f9.params.toList args.toList ds p := hA0
  rw [Try.params9] at hA hval
  obtain ⟨v0, vs0, d0, ds0, p0, q0, hargs, rfl, rfl, h0, r0⟩ := trodAll_cons hA
  obtain ⟨rfl, rfl, rfl⟩ := trodAll_nil r0
  obtain rfl : args = #[v0] := by cases args; simp_all
  obtain ⟨rfl, rfl⟩ := trodVars_none hV
  have k0 := h0
  have lt0 : ∀ x ∈ p0, x.block < W.heap.size := by obtain ⟨m, hm⟩ := k0; exact DataW.trod_lt m _ _ _ hm
  obtain ⟨x0, x0q, y0, y0q, n0, rfl, -, -, f0, g0⟩ := Go.Joins.open_agg2 Try.underlying80 (by kernel_rfl) (by kernel_rfl) (hval 0 80 v0 rfl rfl) h0
  obtain ⟨z0, e0, w0⟩ := isInt_of Try.underlying2 f0
  obtain rfl : x0 = .int .i64 z0 := by simpa using e0
  obtain ⟨a0q, len0q, cap0q, z0q, e0q, w0q⟩ := isRows_of Try.underlying36 Try.underlying27 Try.underlying2 (by kernel_rfl) (by kernel_rfl) g0
  obtain rfl : x0q = .slice a0q len0q cap0q := by simpa using e0q
  clear hA0 hval0
  refine (fnExactKamekoDown_walk W z0 w0 a0q len0q cap0q z0q w0q).mono fun e W' ⟨he, bel⟩ => ?_
  subst he
  exact ⟨_, rfl, _, _, _, [], _, [], hW', trodAll_mk1 (shut_bool Try.underlying4 _), (trodAll_cons_mk (Below.trod laidOut (by kernel_rfl) (of_decide_eq_true (by kernel_rfl)) k0 bel lt0) trodAll_mk0), rfl, bel.frame _, fun h => by cases h⟩
theorem over : Rows.fnExactKamekoDownRow.holds Try.pinned (OpenSpec.ofChange Rows.fnExactKamekoDownSpec) :=
  OpenClaim.holds_of_wide 9 Try.f9 rfl rfl rfl rfl rfl rfl rfl ⟨rfl, rfl, rfl, rfl, rfl⟩ rfl rfl rfl rfl rfl (by kernel_rfl) Try.func9 (by kernel_rfl)
    (of_decide_eq_true (by kernel_rfl)) (by unfold Func.isWrapper; first | (rw [if_pos (by decide +kernel)]; kernel_rfl) | (rw [if_neg (by decide +kernel)]; exact ⟨rfl, rfl⟩))
    (fun os started H enc _ => lifted os started H enc)
end fnExactKamekoDown_row
/-- The statement. -/
theorem fnExactKamekoDown_proved : Rows.FnExactKamekoDownSaid := fnExactKamekoDown_row.over
#print axioms fnExactKamekoDown_proved
end Go.Proofs.Ytljfpkhgijangaa

/- What is proved: for every text the law FnExactParseModule returns true: the program's ParseModule and the reference's agree, and the result is the call's own. The row lists variables of the library, which the card ties to the program's text. -/
import Derived.Test.YtalbbjhonkcbgaaGreatDoorRows
import Derived.Test.YtalbbjhonkcbgaaGreatDoorCards
import Derived.Test.YtalbbjhonkcbgaaGreatDoorTie
import Derived.Test.YtalbbjhonkcbgaaGreatDoorLGen
import Derived.SevenTiedAt
import Derived.LaidMore
import Derived.ProofKit
import Derived.OpenShut
import Derived.ShutString
import Derived.ChangeOld
import Derived.Test.YtalbbjhonkcbgaaGreatDoorBParseModule
namespace Go.Proofs.YtalbbjhonkcbgaaGreatDoor
open Go.ChangeShapes Go.WideShapes Go.ChangeAt Go.RowKit
open Go.ChangeMaps (open_string shut_string)

theorem cnt_leP {l : List (List Int)} {k : Nat} (h : ∀ r ∈ l, r.length ≤ k) : cnt l ≤ l.length * k := by
  induction l with
  | nil => simp [cnt]
  | cons x l ih =>
    have h1 := ih fun r hr => h r (List.mem_cons_of_mem _ hr)
    have h2 := h x (List.mem_cons_self ..)
    simp only [cnt, List.map_cons, List.sum_cons, List.length_cons, Nat.add_mul, Nat.one_mul] at h1 ⊢
    omega
theorem pmo_bounds (t : List UInt8) : (pmoD t).length + cnt (pmoA t) ≤ 100000 := by
  unfold pmoD pmoA
  split
  · rename_i h
    unfold pmoB at h
    simp only [Bool.and_eq_true] at h
    have hT := isMod_T0 h.2
    have h1 := modT_len hT
    have h2 := modT_actlen hT
    have h3 : cnt (aR ((spl 124 t).getD 1 [])) ≤ (aR ((spl 124 t).getD 1 [])).length * 3 := cnt_leP fun r hr => by have := (modT_row2 hT r hr).2; omega
    omega
  · simp [cnt]
set_option maxRecDepth 100000 in
set_option maxHeartbeats 20000000 in
theorem fnExactParseModule_walk (w : World) (hG : Glob w) (t1 : List UInt8) :
    Calls Tryz.prog 4 #[.string (bs t1)] w fun e w' => e = .returned (.bool true) ∧ Below w.heap.size w w' := by
  have hz := bs_size t1
  by_cases hl : t1.length ≤ 1048576
  · have u9 : decide ((1048576 : Int) < (t1.length : Int)) = false := by simp; omega
    have S := Lib.hid (fun (W : World) (hb : Below w.heap.size w W) => specParseModule_c t1 hl W)
    have I := Lib.hid (fun (W : World) (hb : Below w.heap.size w W) => implParseModule_c t1 hl W (hG.below hb))
    have HXL := Lib.hid (pmo_bounds t1)
    clear hG hl
    generalize bs t1 = s1 at *
    generalize t1.length = n1 at *
    generalize pmoD t1 = rd at *
    generalize pmoA t1 = ra at *
    generalize pmoC t1 = pc at *
    have u1 : (pc != pc) = false := by simp
    have BW0 := Lib.hid (Below.refl w.heap.size w)
    go_enter Tryz.func4, Tryz.ntmps4
    go_wp2_with fail
    refine (S.out _ BW0.out).mono ?_
    rintro e W1 ⟨r1, r2, rfl, hm, hx⟩
    obtain ⟨⟨j1, j2, rfl, -⟩, ⟨j3, j4, rfl, -⟩⟩ := And.intro hm.1.len hm.2.len
    have RW := Lib.hid hm
    clear hm
    have Z2 := Lib.hid (hx.size)
    have B3 := Lib.hid (BW0.out.trans (hx.mono BW0.out.size))
    clear BW0
    clear hx
    have B4 := Lib.hid (Below.refl W1.heap.size W1)
    obtain ⟨W5, E60⟩ : ∃ W, W = W1.alloc (.cells #[.slice j1 rd.length j2, .slice j3 ra.length j4] 32) := ⟨_, rfl⟩
    have hx : Below W1.heap.size W1 W5 := by rw [E60]; exact (Below.refl _ _).alloc (Nat.le_refl _) _
    have k7 : W5.cell? ⟨W1.heap.size, 0, none⟩ = some (.slice j1 rd.length j2) := by rw [E60, World.cell?]; simp only [heap_alloc_new]; rfl
    have k8 : W5.cell? ⟨W1.heap.size, 1, none⟩ = some (.slice j3 ra.length j4) := by rw [E60, World.cell?]; simp only [heap_alloc_new]; rfl
    have Z9 := Lib.hid (World.block_lt_of_cell? _ _ k7)
    simp only at Z9
    have Z10 := Lib.hid (hx.size)
    have B11 := Lib.hid (B3.out.trans (hx.mono B3.out.size))
    clear B3
    have B12 := Lib.hid (B4.out.trans (hx.mono B4.out.size))
    clear B4
    clear hx
    have E6 := Lib.hid E60
    clear E60
    go_wp2_with fail
    rw [← E6.out]
    clear E6
    go_wp2_with fail
    refine (I.out _ B11.out).mono ?_
    rintro e W16 ⟨d13, v14, u15, rfl, hm, hx⟩
    obtain ⟨q17, q18, q19, rfl⟩ := own_shape hm.deg
    obtain ⟨q20, q21, q22, rfl⟩ := own_shape hm.act.row
    have O23 := Lib.hid hm
    have R24 := Lib.hid hm.range
    clear hm
    have Z25 := Lib.hid (hx.size)
    have k26 := (hx.cell (World.block_lt_of_cell? _ _ k7)).trans k7
    clear k7
    have k27 := (hx.cell (World.block_lt_of_cell? _ _ k8)).trans k8
    clear k8
    have B28 := Lib.hid (B11.out.trans (hx.mono B11.out.size))
    clear B11
    have B29 := Lib.hid (B12.out.trans (hx.mono B12.out.size))
    clear B12
    clear hx
    obtain ⟨W30, E310⟩ : ∃ W, W = W16.alloc (.cells #[.slice q17 q18 q19, .slice q20 q21 q22] 32) := ⟨_, rfl⟩
    have hx : Below W16.heap.size W16 W30 := by rw [E310]; exact (Below.refl _ _).alloc (Nat.le_refl _) _
    have k32 : W30.cell? ⟨W16.heap.size, 0, none⟩ = some (.slice q17 q18 q19) := by rw [E310, World.cell?]; simp only [heap_alloc_new]; rfl
    have k33 : W30.cell? ⟨W16.heap.size, 1, none⟩ = some (.slice q20 q21 q22) := by rw [E310, World.cell?]; simp only [heap_alloc_new]; rfl
    have kx0 := Go.Lib.cell?_alloc_some (.cells #[.slice q17 q18 q19, .slice q20 q21 q22] 32) k26
    have kx1 := Go.Lib.cell?_alloc_some (.cells #[.slice q17 q18 q19, .slice q20 q21 q22] 32) k27
    have Z34 := Lib.hid (World.block_lt_of_cell? _ _ k32)
    simp only at Z34
    have Z35 := Lib.hid (hx.size)
    have k36 := (hx.cell (World.block_lt_of_cell? _ _ k26)).trans k26
    clear k26
    have k37 := (hx.cell (World.block_lt_of_cell? _ _ k27)).trans k27
    clear k27
    have O38 := Lib.hid (O23.out.same hx.block)
    clear O23
    have B39 := Lib.hid (B28.out.trans (hx.mono B28.out.size))
    clear B28
    have B40 := Lib.hid (B29.out.trans (hx.mono B29.out.size))
    clear B29
    clear hx
    have E31 := Lib.hid E310
    clear E310
    go_wp2_with fail
    rw [← E31.out]
    clear E31 kx0 kx1
    go_wp2_with fail
    refine (eqModule_same _ _ _ _ rd ra _ O38.out.ints (RW.out.same B40.out.block)).mono ?_
    rintro e W41 ⟨rfl, hx⟩
    have Z42 := Lib.hid (hx.size)
    have k43 := (hx.cell (World.block_lt_of_cell? _ _ k36)).trans k36
    clear k36
    have k44 := (hx.cell (World.block_lt_of_cell? _ _ k37)).trans k37
    clear k37
    have k45 := (hx.cell (World.block_lt_of_cell? _ _ k32)).trans k32
    clear k32
    have k46 := (hx.cell (World.block_lt_of_cell? _ _ k33)).trans k33
    clear k33
    have O47 := Lib.hid (O38.out.same hx.block)
    clear O38
    have B48 := Lib.hid (B39.out.trans (hx.mono B39.out.size))
    clear B39
    have B49 := Lib.hid (B40.out.trans (hx.mono B40.out.size))
    clear B40
    clear hx
    go_wp2_with fail
    refine (markModule_c (.slice q17 q18 q19) (.slice q20 q21 q22) u15 rd ra 1 W5.heap.size W41 O47.out (by have := Z2.out; have := Z9.out; have := Z10.out; have := Z25.out; have := Z34.out; have := Z35.out; have := Z42.out; omega) (by omega) (by have := HXL.out; omega)).mono ?_
    rintro e W50 ⟨rfl, hm, hlow, hfr⟩
    have RRR := R24.out
    have hhi : ∀ b, W16.heap.size ≤ b → b < W41.heap.size → W50.heap[b]? = W41.heap[b]? := fun b h1 h2 => hfr b h2 (fun e => by have := RRR.1 b e; omega) (fun u hu e => by have := RRR.2 u hu b e; omega)
    clear RRR
    have O51 := Lib.hid hm
    clear hm
    have Z52 := Lib.hid (hlow.size)
    have k53 := (hlow.cell (p := ⟨W1.heap.size, 0, none⟩) (by show W1.heap.size < W5.heap.size; exact (by have := Z2.out; have := Z9.out; have := Z10.out; have := Z25.out; have := Z34.out; have := Z35.out; have := Z42.out; have := Z52.out; omega))).trans k43
    clear k43
    have k54 := (hlow.cell (p := ⟨W1.heap.size, 1, none⟩) (by show W1.heap.size < W5.heap.size; exact (by have := Z2.out; have := Z9.out; have := Z10.out; have := Z25.out; have := Z34.out; have := Z35.out; have := Z42.out; have := Z52.out; omega))).trans k44
    clear k44
    have k55 := (World.cell?_of_block (hhi W16.heap.size (by have := Z2.out; have := Z9.out; have := Z10.out; have := Z25.out; have := Z34.out; have := Z35.out; have := Z42.out; have := Z52.out; omega) (World.block_lt_of_cell? _ _ k45))).trans k45
    clear k45
    have k56 := (World.cell?_of_block (hhi W16.heap.size (by have := Z2.out; have := Z9.out; have := Z10.out; have := Z25.out; have := Z34.out; have := Z35.out; have := Z42.out; have := Z52.out; omega) (World.block_lt_of_cell? _ _ k46))).trans k46
    clear k46
    have B57 := Lib.hid (B48.out.trans (hlow.mono (by have := Z2.out; have := Z9.out; have := Z10.out; have := Z25.out; have := Z34.out; have := Z35.out; have := Z42.out; have := Z52.out; omega)))
    clear B48
    have B58 := Lib.hid (B49.out.trans (hlow.mono (by have := Z2.out; have := Z9.out; have := Z10.out; have := Z25.out; have := Z34.out; have := Z35.out; have := Z42.out; have := Z52.out; omega)))
    clear B49
    clear hlow hhi hfr
    go_wp2_with fail
    refine (heldModule_c (.slice q17 q18 q19) (.slice q20 q21 q22) rd ra 1 _ O51.out.ints (by omega) (by have := HXL.out; omega)).mono ?_
    rintro e W59 ⟨rfl, hx⟩
    have Z60 := Lib.hid (hx.size)
    have k61 := (hx.cell (World.block_lt_of_cell? _ _ k53)).trans k53
    clear k53
    have k62 := (hx.cell (World.block_lt_of_cell? _ _ k54)).trans k54
    clear k54
    have k63 := (hx.cell (World.block_lt_of_cell? _ _ k55)).trans k55
    clear k55
    have k64 := (hx.cell (World.block_lt_of_cell? _ _ k56)).trans k56
    clear k56
    have O65 := Lib.hid (O51.out.same hx.block)
    clear O51
    have B66 := Lib.hid (B57.out.trans (hx.mono B57.out.size))
    clear B57
    have B67 := Lib.hid (B58.out.trans (hx.mono B58.out.size))
    clear B58
    clear hx
    go_wp2_with fail
    refine (I.out _ B66.out).mono ?_
    rintro e W71 ⟨d68, v69, u70, rfl, hm, hx⟩
    obtain ⟨q72, q73, q74, rfl⟩ := own_shape hm.deg
    obtain ⟨q75, q76, q77, rfl⟩ := own_shape hm.act.row
    have O78 := Lib.hid hm
    have R79 := Lib.hid hm.range
    clear hm
    have Z80 := Lib.hid (hx.size)
    have k81 := (hx.cell (World.block_lt_of_cell? _ _ k61)).trans k61
    clear k61
    have k82 := (hx.cell (World.block_lt_of_cell? _ _ k62)).trans k62
    clear k62
    have k83 := (hx.cell (World.block_lt_of_cell? _ _ k63)).trans k63
    clear k63
    have k84 := (hx.cell (World.block_lt_of_cell? _ _ k64)).trans k64
    clear k64
    have O85 := Lib.hid (O65.out.same hx.block)
    clear O65
    have B86 := Lib.hid (B66.out.trans (hx.mono B66.out.size))
    clear B66
    have B87 := Lib.hid (B67.out.trans (hx.mono B67.out.size))
    clear B67
    clear hx
    obtain ⟨W88, E890⟩ : ∃ W, W = W71.alloc (.cells #[.slice q72 q73 q74, .slice q75 q76 q77] 32) := ⟨_, rfl⟩
    have hx : Below W71.heap.size W71 W88 := by rw [E890]; exact (Below.refl _ _).alloc (Nat.le_refl _) _
    have k90 : W88.cell? ⟨W71.heap.size, 0, none⟩ = some (.slice q72 q73 q74) := by rw [E890, World.cell?]; simp only [heap_alloc_new]; rfl
    have k91 : W88.cell? ⟨W71.heap.size, 1, none⟩ = some (.slice q75 q76 q77) := by rw [E890, World.cell?]; simp only [heap_alloc_new]; rfl
    have kx0 := Go.Lib.cell?_alloc_some (.cells #[.slice q72 q73 q74, .slice q75 q76 q77] 32) k81
    have kx1 := Go.Lib.cell?_alloc_some (.cells #[.slice q72 q73 q74, .slice q75 q76 q77] 32) k82
    have kx2 := Go.Lib.cell?_alloc_some (.cells #[.slice q72 q73 q74, .slice q75 q76 q77] 32) k83
    have kx3 := Go.Lib.cell?_alloc_some (.cells #[.slice q72 q73 q74, .slice q75 q76 q77] 32) k84
    have Z92 := Lib.hid (World.block_lt_of_cell? _ _ k90)
    simp only at Z92
    have Z93 := Lib.hid (hx.size)
    have k94 := (hx.cell (World.block_lt_of_cell? _ _ k81)).trans k81
    clear k81
    have k95 := (hx.cell (World.block_lt_of_cell? _ _ k82)).trans k82
    clear k82
    have k96 := (hx.cell (World.block_lt_of_cell? _ _ k83)).trans k83
    clear k83
    have k97 := (hx.cell (World.block_lt_of_cell? _ _ k84)).trans k84
    clear k84
    have O98 := Lib.hid (O85.out.same hx.block)
    clear O85
    have O99 := Lib.hid (O78.out.same hx.block)
    clear O78
    have B100 := Lib.hid (B86.out.trans (hx.mono B86.out.size))
    clear B86
    have B101 := Lib.hid (B87.out.trans (hx.mono B87.out.size))
    clear B87
    clear hx
    have E89 := Lib.hid E890
    clear E890
    go_wp2_with fail
    rw [← E89.out]
    clear E89 kx0 kx1 kx2 kx3
    go_wp2_with fail
    refine (eqModule_same _ _ _ _ rd ra _ O99.out.ints (RW.out.same B101.out.block)).mono ?_
    rintro e W102 ⟨rfl, hx⟩
    have Z103 := Lib.hid (hx.size)
    have k104 := (hx.cell (World.block_lt_of_cell? _ _ k94)).trans k94
    clear k94
    have k105 := (hx.cell (World.block_lt_of_cell? _ _ k95)).trans k95
    clear k95
    have k106 := (hx.cell (World.block_lt_of_cell? _ _ k96)).trans k96
    clear k96
    have k107 := (hx.cell (World.block_lt_of_cell? _ _ k97)).trans k97
    clear k97
    have k108 := (hx.cell (World.block_lt_of_cell? _ _ k90)).trans k90
    clear k90
    have k109 := (hx.cell (World.block_lt_of_cell? _ _ k91)).trans k91
    clear k91
    have O110 := Lib.hid (O98.out.same hx.block)
    clear O98
    have O111 := Lib.hid (O99.out.same hx.block)
    clear O99
    have B112 := Lib.hid (B100.out.trans (hx.mono B100.out.size))
    clear B100
    have B113 := Lib.hid (B101.out.trans (hx.mono B101.out.size))
    clear B101
    clear hx
    go_wp2_with fail
    refine (heldModule_c (.slice q17 q18 q19) (.slice q20 q21 q22) rd ra 1 _ O110.out.ints (by omega) (by have := HXL.out; omega)).mono ?_
    rintro e W114 ⟨rfl, hx⟩
    have Z115 := Lib.hid (hx.size)
    have k116 := (hx.cell (World.block_lt_of_cell? _ _ k104)).trans k104
    clear k104
    have k117 := (hx.cell (World.block_lt_of_cell? _ _ k105)).trans k105
    clear k105
    have k118 := (hx.cell (World.block_lt_of_cell? _ _ k106)).trans k106
    clear k106
    have k119 := (hx.cell (World.block_lt_of_cell? _ _ k107)).trans k107
    clear k107
    have k120 := (hx.cell (World.block_lt_of_cell? _ _ k108)).trans k108
    clear k108
    have k121 := (hx.cell (World.block_lt_of_cell? _ _ k109)).trans k109
    clear k109
    have O122 := Lib.hid (O110.out.same hx.block)
    clear O110
    have O123 := Lib.hid (O111.out.same hx.block)
    clear O111
    have B124 := Lib.hid (B112.out.trans (hx.mono B112.out.size))
    clear B112
    have B125 := Lib.hid (B113.out.trans (hx.mono B113.out.size))
    clear B113
    clear hx
    go_wp2_with fail
    go_ret
    exact ⟨rfl, B124.out⟩
  · have u9 : decide ((1048576 : Int) < (t1.length : Int)) = true := by simp; omega
    generalize bs t1 = s1 at *
    generalize t1.length = n1 at *
    go_enter Tryz.func4, Tryz.ntmps4
    go_wp2_with fail
    go_ret
    exact ⟨rfl, Below.refl _ _⟩

namespace fnExactParseModule_row
theorem own : ownKnob Tryz.prog.godebug = none := by kernel_rfl
set_option linter.unusedVariables false in
set_option maxRecDepth 100000 in
theorem lifted (os : Os) (started : os.Started) (H : Type) (enc : TypeId × Value → H) :
    ReturnsInHanded {} Tryz.checked os 4 .any (fun w args => (Rows.fnExactParseModuleSpec.pre enc Tryz.prog Tryz.f4 [] false w args ∧ laidMetH Tryz.prog Rows.fnExactParseModuleRow.laid w) ∧ sizedMet enc Tryz.prog Tryz.f4 (OpenSpec.ofChange Rows.fnExactParseModuleSpec) false w args)
      (Rows.fnExactParseModuleSpec.post enc Tryz.prog Tryz.f4 false true false false) := by
  refine of_change_and_shaped (C := Tryz.checked) (X := fun w _ => laidMetH Tryz.prog Rows.fnExactParseModuleRow.laid w) (fun _ _ _ hh h => h.of_heap hh) own started (by kernel_rfl) Tryz.func4
    (ChangeSpec.witness_shaped (enc := enc) (C := Tryz.checked) (os := os) (X := fun w _ => laidMetH Tryz.prog Rows.fnExactParseModuleRow.laid w) false (World.laidAll Tryz.prog os Rows.fnExactParseModuleRow.laid) #[.string ⟨#[]⟩] 8 (World.laidAll_os _ _ _)
      (World.shaped_of_ZipB (by kernel_rfl) (by kernel_rfl)) (by kernel_rfl) (by kernel_rfl) (by kernel_rfl)
      (by rw [MakeChecks.laidMetH_plain _ _ _ (by kernel_rfl)]; exact laidMet_laidAll _ (by kernel_rfl) (by kernel_rfl))) ?_
  intro W base args ds gs before hval0 hW hL hsh
  have hG := glob_of (t1 := [105, 110, 118, 97, 108, 105, 100, 32, 115, 121, 110, 116, 97, 120]) (t2 := [118, 97, 108, 117, 101, 32, 111, 117, 116, 32, 111, 102, 32, 114, 97, 110, 103, 101]) hsh hL (by kernel_rfl) (by kernel_rfl) (by kernel_rfl)
  have hval : ∀ (j : Nat) t v, Tryz.f4.params[j]? = some t → args[j]? = some v → Value.okWide Tryz.prog W .any base t v := hval0
  have hW' := hW
  obtain ⟨p, q, hA0, hV, rfl, hfz, hnd⟩ := hW
  have hA : DataW.TrodAll enc Tryz.prog W 0 (fun _ => true) true Tryz.f4.params.toList args.toList ds p := hA0
  rw [Tryz.params4] at hA hval
  obtain ⟨v0, vs0, d0, ds0, p0, q0, hargs, rfl, rfl, h0, r0⟩ := trodAll_cons hA
  obtain ⟨rfl, rfl, rfl⟩ := trodAll_nil r0
  obtain rfl : args = #[v0] := by cases args; simp_all
  obtain ⟨rfl, rfl⟩ := trodVars_none hV
  obtain ⟨s0, rfl, rfl, rfl, w0⟩ := open_string Tryz.underlying9 (hval 0 9 v0 rfl rfl) h0
  obtain ⟨a0, rfl⟩ : ∃ l, s0 = bs l := ⟨s0.data.toList, (Go.Lib.mk_data s0).symm⟩
  clear hA0 hval0
  refine (fnExactParseModule_walk W hG a0).mono fun e W' ⟨he, bel⟩ => ?_
  subst he
  exact ⟨_, rfl, _, _, _, [], _, [], hW', trodAll_mk1 (shut_bool Tryz.underlying4 _), (trodAll_cons_mk (shut_string Tryz.underlying9 w0) trodAll_mk0), rfl, bel.frame _, fun h => by cases h⟩
theorem over : Rows.FnExactParseModuleSaid :=
  OpenClaim.holds_of_wide 4 Tryz.f4 rfl rfl rfl rfl rfl rfl rfl ⟨rfl, rfl, rfl, rfl, rfl⟩ rfl rfl rfl rfl rfl (by kernel_rfl) Tryz.func4 (by kernel_rfl)
    (of_decide_eq_true (by kernel_rfl)) (by unfold Func.isWrapper; first | (rw [if_pos (by decide +kernel)]; kernel_rfl) | (rw [if_neg (by decide +kernel)]; exact ⟨rfl, rfl⟩))
    (fun os started H enc _ => lifted os started H enc)
end fnExactParseModule_row
/-- The statement: the tied card. -/
theorem fnExactParseModule_proved : Rows.FnExactParseModuleCardSaid :=
  Claim7.holds_tied_plain_at .later [] [.data, .data, .data, .data, .sentinel, .sentinel, .pinned] true (true, "ac528562c7411d1b6f91ca58f775cc6bb5a90b9d6246858650a54343f629d1f7") true
    fnExactParseModule_row.over (fun _ h => by cases h) (by kernel_rfl) (fun _ h => by cases h) fnExactParseModule_row_tie rfl ⟨rfl, rfl⟩ (by kernel_rfl) rfl
    (fun f fn hf hfn => by
      obtain rfl : f = 4 := Option.some.inj ((show Tryz.prog.funcNamed "loop.example/g01154/laws.FnExactParseModule" = some 4 by kernel_rfl).symm.trans hf) |>.symm
      obtain rfl : fn = Tryz.f4 := (Option.some.inj (Tryz.func4.symm.trans hfn)).symm
      exact ⟨by kernel_rfl, fun j t ht => by
        rw [Tryz.params4] at ht
        have hm : t ∈ [9] := by simpa using Array.mem_of_getElem? ht
        have hall : ([9].all fun u => !Tryz.prog.wantsStandIn u) = true := by kernel_rfl
        exact (show Tryz.prog.wantsStandIn t = false by simpa using List.all_eq_true.1 hall t hm)⟩)
    (by kernel_rfl)
#print axioms fnExactParseModule_proved
end Go.Proofs.YtalbbjhonkcbgaaGreatDoor

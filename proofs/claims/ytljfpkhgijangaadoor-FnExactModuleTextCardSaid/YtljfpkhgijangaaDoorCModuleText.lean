/- What is proved: for every input the law FnExactModuleText returns true and its argument reads behind the call as before: the program's ModuleText and the reference's agree. The row lists tables of the library, which the card ties to the program's text; the proof reads none of them. -/
import Derived.Test.YtljfpkhgijangaaDoorRows
import Derived.Test.YtljfpkhgijangaaDoorCards
import Derived.Test.YtljfpkhgijangaaDoorTie
import Derived.Test.YtljfpkhgijangaaDoorLTxM
import Derived.Test.YtljfpkhgijangaaDoorLGen
import Derived.SevenTiedAt
import Derived.LaidMore
import Derived.ProofKit
import Derived.OpenShut
import Derived.ShutString
import Derived.ChangeOld
namespace Go.Proofs.YtljfpkhgijangaaDoor
open Go.ChangeShapes Go.WideShapes Go.ChangeAt Go.RowKit
open Go.ChangeMaps (open_string shut_string)

set_option maxRecDepth 100000 in
set_option maxHeartbeats 4000000 in
theorem fnExactModuleText_walk (w : World) (a1 : Option Addr) (l1 p1 : Nat) (z1 : List Int) (h1 : IsRow .i64 w a1 l1 p1 z1) (a1q : Option Addr) (l1q p1q : Nat) (t1 : List (List Int)) (h1q : IsRows w a1q l1q t1) :
    Calls Tryd.prog 5 #[.agg #[.slice a1 l1 p1, .slice a1q l1q p1q]] w fun e w' => e = .returned (.bool true) ∧ Below w.heap.size w w' := by
  have S := Lib.hid (fun (d a : Value) (W : World) (h : ModS W.heap d a (z1.take l1) t1) => specModuleText_c d a (z1.take l1) t1 W h)
  have I := Lib.hid (fun (d a : Value) (W : World) (h : ModS W.heap d a (z1.take l1) t1) => implModuleText_c d a (z1.take l1) t1 W h)
  generalize bs (mtxW (z1.take l1) t1) = rt at *
  generalize mtxC (z1.take l1) t1 = pc at *
  have u1 : (pc != pc) = false := by simp
  obtain ⟨W0, hW0⟩ : ∃ W, W = (w.alloc (.cells #[.slice a1 l1 p1, .slice a1q l1q p1q] 41)) := ⟨_, rfl⟩
  have hx : Below w.heap.size w W0 := by rw [hW0]; exact ((Below.refl _ _).alloc (by exact Nat.le_refl _) _)
  have hsz : w.heap.size + 1 ≤ W0.heap.size := by rw [hW0]; simp
  have k1 := (two_new w (.slice a1 l1 p1) (.slice a1q l1q p1q) 41).1
  rw [← hW0] at k1
  have k2 := (two_new w (.slice a1 l1 p1) (.slice a1q l1q p1q) 41).2
  rw [← hW0] at k2
  have BW0 := Lib.hid hx
  have Z3 := Lib.hid (hsz)
  have HW0 := Lib.hid hW0
  clear hW0 hx hsz
  have SM1 := Lib.hid (fun (left : Nat) (hl : left ≤ 1048576) (W : World) (hb : Below w.heap.size w W) => szModule_c a1 l1 p1 a1q l1q p1q t1 left W h1.le (h1q.same hb.block hb.size) hl)
  have TM10 := fun (W : World) (hb : Below w.heap.size w W) => toModule_c a1 l1 p1 z1 a1q l1q p1q t1 W (h1.same hb.block) (h1q.same hb.block hb.size)
  have hl1 : (z1.take l1).length = l1 := h1.takeLen
  have HL1 := Lib.hid hl1
  clear hl1
  clear h1 h1q
  generalize z1.take l1 = y1 at *
  go_enter Tryd.func5, Tryd.ntmps5
  go_wp2_with fail
  rw [← HW0.out]
  clear HW0
  have S0 := SM1.out 1048576 (Nat.le_refl _) _ BW0.out
  by_cases hz1 : l1 + (t1.length + cnt t1) ≤ 1048576
  rotate_left
  · have e9 : szM l1 t1 1048576 = -1 := by unfold szM; rw [if_neg hz1]
    rw [e9] at S0
    have S1 := Lib.hid S0
    clear S0 e9
    refine (S1.out).mono ?_
    rintro e W ⟨rfl, hx⟩
    have BE := Lib.hid (BW0.out.trans (hx.mono BW0.out.size))
    clear hx
    go_wp2_with fail
    go_ret
    exact ⟨rfl, BE.out⟩
  obtain ⟨left1, hl9⟩ : ∃ left : Nat, szM l1 t1 1048576 = left := ⟨1048576 - (l1 + (t1.length + cnt t1)), by unfold szM; rw [if_pos hz1]; omega⟩
  have HLN : Hid (left1 ≤ 1048576) := by show _ ≤ _; unfold szM at hl9; rw [if_pos hz1] at hl9; have := Nat.le_refl 1048576; omega
  rw [hl9] at S0
  have S1 := Lib.hid S0
  clear S0 hl9
  have TM1 := Lib.hid (fun (W : World) (hb : Below w.heap.size w W) => TM10 W hb (by have := Nat.le_refl 1048576; omega) (by have := Nat.le_refl 1048576; omega))
  have HSZ1 : Hid (y1.length + cnt t1 ≤ 1048576) := by show _ ≤ _; rw [HL1.out]; have := Nat.le_refl 1048576; omega
  clear TM10 hz1 SM1
  have HLF := HLN
  clear HLN
  refine (S1.out).mono ?_
  rintro e W4 ⟨rfl, hx⟩
  clear S1
  have Z5 := Lib.hid (hx.size)
  have k6 := (hx.cell (World.block_lt_of_cell? _ _ k1)).trans k1
  clear k1
  have k7 := (hx.cell (World.block_lt_of_cell? _ _ k2)).trans k2
  clear k2
  have B8 := Lib.hid (BW0.out.trans (hx.mono BW0.out.size))
  clear BW0
  clear hx
  go_wp2_with fail
  refine (TM1.out _ B8.out).mono ?_
  rintro e W12 ⟨d9, v10, u11, rfl, hm, hx⟩
  obtain ⟨q13, q14, q15, rfl⟩ := own_shape hm.deg
  obtain ⟨q16, q17, q18, rfl⟩ := own_shape hm.act.row
  have O19 := Lib.hid hm
  have R20 := Lib.hid hm.range
  clear hm
  have Z21 := Lib.hid (hx.size)
  have k22 := (hx.cell (World.block_lt_of_cell? _ _ k6)).trans k6
  clear k6
  have k23 := (hx.cell (World.block_lt_of_cell? _ _ k7)).trans k7
  clear k7
  have B24 := Lib.hid (B8.out.trans (hx.mono B8.out.size))
  clear B8
  clear hx
  go_wp2_with fail
  refine (S.out (.slice q13 q14 q15) (.slice q16 q17 q18) _ O19.out.ints).mono ?_
  rintro e W25 ⟨rfl, hx⟩
  have Z26 := Lib.hid (hx.size)
  have k27 := (hx.cell (World.block_lt_of_cell? _ _ k22)).trans k22
  clear k22
  have k28 := (hx.cell (World.block_lt_of_cell? _ _ k23)).trans k23
  clear k23
  have O29 := Lib.hid (O19.out.same hx.block)
  clear O19
  have B30 := Lib.hid (B24.out.trans (hx.mono B24.out.size))
  clear B24
  clear hx
  clear O29
  go_wp2_with fail
  refine (TM1.out _ B30.out).mono ?_
  rintro e W34 ⟨d31, v32, u33, rfl, hm, hx⟩
  obtain ⟨q35, q36, q37, rfl⟩ := own_shape hm.deg
  obtain ⟨q38, q39, q40, rfl⟩ := own_shape hm.act.row
  have O41 := Lib.hid hm
  have R42 := Lib.hid hm.range
  clear hm
  have Z43 := Lib.hid (hx.size)
  have k44 := (hx.cell (World.block_lt_of_cell? _ _ k27)).trans k27
  clear k27
  have k45 := (hx.cell (World.block_lt_of_cell? _ _ k28)).trans k28
  clear k28
  have B46 := Lib.hid (B30.out.trans (hx.mono B30.out.size))
  clear B30
  clear hx
  obtain ⟨W47, E480⟩ : ∃ W, W = W34.alloc (.cells #[.slice q35 q36 q37, .slice q38 q39 q40] 44) := ⟨_, rfl⟩
  have hx : Below W34.heap.size W34 W47 := by rw [E480]; exact (Below.refl _ _).alloc (Nat.le_refl _) _
  have k49 : W47.cell? ⟨W34.heap.size, 0, none⟩ = some (.slice q35 q36 q37) := by rw [E480, World.cell?]; simp only [heap_alloc_new]; rfl
  have k50 : W47.cell? ⟨W34.heap.size, 1, none⟩ = some (.slice q38 q39 q40) := by rw [E480, World.cell?]; simp only [heap_alloc_new]; rfl
  have kx0 := Go.Lib.cell?_alloc_some (.cells #[.slice q35 q36 q37, .slice q38 q39 q40] 44) k44
  have kx1 := Go.Lib.cell?_alloc_some (.cells #[.slice q35 q36 q37, .slice q38 q39 q40] 44) k45
  have Z51 := Lib.hid (World.block_lt_of_cell? _ _ k49)
  simp only at Z51
  have Z52 := Lib.hid (hx.size)
  have k53 := (hx.cell (World.block_lt_of_cell? _ _ k44)).trans k44
  clear k44
  have k54 := (hx.cell (World.block_lt_of_cell? _ _ k45)).trans k45
  clear k45
  have O55 := Lib.hid (O41.out.same hx.block)
  clear O41
  have B56 := Lib.hid (B46.out.trans (hx.mono B46.out.size))
  clear B46
  clear hx
  have E48 := Lib.hid E480
  clear E480
  go_wp2_with fail
  rw [← E48.out]
  clear E48 kx0 kx1
  go_wp2_with fail
  refine (I.out (.slice q35 q36 q37) (.slice q38 q39 q40) _ O55.out.ints).mono ?_
  rintro e W57 ⟨rfl, hx⟩
  have Z58 := Lib.hid (hx.size)
  have k59 := (hx.cell (World.block_lt_of_cell? _ _ k53)).trans k53
  clear k53
  have k60 := (hx.cell (World.block_lt_of_cell? _ _ k54)).trans k54
  clear k54
  have k61 := (hx.cell (World.block_lt_of_cell? _ _ k49)).trans k49
  clear k49
  have k62 := (hx.cell (World.block_lt_of_cell? _ _ k50)).trans k50
  clear k50
  have O63 := Lib.hid (O55.out.same hx.block)
  clear O55
  have B64 := Lib.hid (B56.out.trans (hx.mono B56.out.size))
  clear B56
  clear hx
  go_wp2_with fail
  go_region_held3 (fun W => W.cell? ⟨W34.heap.size, 0, none⟩ = some (.slice q35 q36 q37) ∧ W.cell? ⟨W34.heap.size, 1, none⟩ = some (.slice q38 q39 q40) ∧ W.cell? ⟨w.heap.size, 0, none⟩ = some (.slice a1 l1 p1) ∧ W.cell? ⟨w.heap.size, 1, none⟩ = some (.slice a1q l1q p1q) ∧ Below W57.heap.size W57 W)
    (first | exact ⟨k61, k62, k59, k60, (Below.refl _ _).drew⟩ | exact heldC4 (by assumption) hx8 | exact heldC4 (by assumption) hx9)
    (first | (go_at_call 18; refine (TM1.out _ (heldC4B B64.out (by assumption) B64.out.size)).mono ?_; rintro e W9 ⟨d9, v9, u9, rfl, hm9, hx9⟩; obtain ⟨e1, e2, e3, rfl⟩ := own_shape hm9.deg; obtain ⟨f1, f2, f3, rfl⟩ := own_shape hm9.act.row) | (go_at_call 20; refine (eqModule_same _ _ _ _ y1 t1 _ (O63.out.ints.same (heldC4X (by assumption)).block) hm9.ints).mono ?_; rintro e W8 ⟨rfl, hx8⟩))
  all_goals
    rename_i hh
    obtain ⟨W65, hWe⟩ : ∃ W, W = W8 := ⟨_, rfl⟩
    have hx : Below W57.heap.size W57 W65 := by rw [hWe]; exact heldC4X hh
    rw [← hWe]
    clear hWe hh hx8 hx9 hm9
    have Z66 := Lib.hid (hx.size)
    have k67 := (hx.cell (World.block_lt_of_cell? _ _ k59)).trans k59
    clear k59
    have k68 := (hx.cell (World.block_lt_of_cell? _ _ k60)).trans k60
    clear k60
    have k69 := (hx.cell (World.block_lt_of_cell? _ _ k61)).trans k61
    clear k61
    have k70 := (hx.cell (World.block_lt_of_cell? _ _ k62)).trans k62
    clear k62
    have O71 := Lib.hid (O63.out.same hx.block)
    clear O63
    have B72 := Lib.hid (B64.out.trans (hx.mono B64.out.size))
    clear B64
    clear hx
    go_wp2_with fail
    go_ret
    exact ⟨rfl, B72.out⟩

namespace fnExactModuleText_row
theorem own : ownKnob Tryd.prog.godebug = none := by kernel_rfl
theorem laidOut : laidOutB Tryd.prog = true := by kernel_rfl
theorem door_met (os : Os) (args : Array Value) : laidMetH Tryd.prog Rows.fnExactModuleTextRow.laid ((World.doorLaid Tryd.prog 24 os).forCall (fun _ _ => 0) ⟨#[], args, []⟩).memory :=
  laidMetH_of_parts3 (fuel := 8) (laidMet_of_run' 8 (by kernel_rfl) (by kernel_rfl)) (by kernel_rfl) (by kernel_rfl)
set_option linter.unusedVariables false in
set_option maxRecDepth 100000 in
theorem lifted (os : Os) (started : os.Started) (H : Type) (enc : TypeId × Value → H) :
    ReturnsInHanded {} Tryd.checked os 5 .any (fun w args => (Rows.fnExactModuleTextSpec.pre enc Tryd.prog Tryd.f5 [] false w args ∧ laidMetH Tryd.prog Rows.fnExactModuleTextRow.laid w) ∧ sizedMet enc Tryd.prog Tryd.f5 (OpenSpec.ofChange Rows.fnExactModuleTextSpec) false w args)
      (Rows.fnExactModuleTextSpec.post enc Tryd.prog Tryd.f5 false true false false) := by
  refine returnsInHanded_of_change_and (C := Tryd.checked) (X := fun w _ => laidMetH Tryd.prog Rows.fnExactModuleTextRow.laid w) (fun _ _ _ hh h => h.of_heap hh) own started (by kernel_rfl) Tryd.func5
    (ChangeSpec.witness_shaped (enc := enc) (C := Tryd.checked) (os := os) (X := fun w _ => laidMetH Tryd.prog Rows.fnExactModuleTextRow.laid w) false (World.doorLaid Tryd.prog 24 os) #[.agg #[.slice none 0 0, .slice none 0 0]] 8 rfl (World.shaped_of_RefB (by kernel_rfl) (by kernel_rfl)) (by kernel_rfl) (by kernel_rfl) (by kernel_rfl) (door_met os _)) ?_
  intro W base args ds gs before hval0 hW _ _ hL _
  have hval : ∀ (j : Nat) t v, Tryd.f5.params[j]? = some t → args[j]? = some v → Value.okWide Tryd.prog W .any base t v := hval0
  have hW' := hW
  obtain ⟨p, q, hA0, hV, rfl, hfz, hnd⟩ := hW
  have hA : DataW.TrodAll enc Tryd.prog W 0 (fun _ => true) true Tryd.f5.params.toList args.toList ds p := hA0
  rw [Tryd.params5] at hA hval
  obtain ⟨v0, vs0, d0, ds0, p0, q0, hargs, rfl, rfl, h0, r0⟩ := trodAll_cons hA
  obtain ⟨rfl, rfl, rfl⟩ := trodAll_nil r0
  obtain rfl : args = #[v0] := by cases args; simp_all
  obtain ⟨rfl, rfl⟩ := trodVars_none hV
  have k0 := h0
  have lt0 : ∀ x ∈ p0, x.block < W.heap.size := by obtain ⟨m, hm⟩ := k0; exact DataW.trod_lt m _ _ _ hm
  obtain ⟨x0, x0q, y0, y0q, n0, rfl, -, -, f0, g0⟩ := Go.Joins.open_agg2 Tryd.underlying41 (by kernel_rfl) (by kernel_rfl) (hval 0 41 v0 rfl rfl) h0
  obtain ⟨a0, len0, cap0, z0, e0, w0⟩ := isRow_of Tryd.underlying39 Tryd.underlying2 (by kernel_rfl) f0
  obtain rfl : x0 = .slice a0 len0 cap0 := by simpa using e0
  obtain ⟨a0q, len0q, cap0q, z0q, e0q, w0q⟩ := isRows_of Tryd.underlying22 Tryd.underlying39 Tryd.underlying2 (by kernel_rfl) (by kernel_rfl) g0
  obtain rfl : x0q = .slice a0q len0q cap0q := by simpa using e0q
  clear hA0 hval0
  refine (fnExactModuleText_walk W a0 len0 cap0 z0 w0 a0q len0q cap0q z0q w0q).mono fun e W' ⟨he, bel⟩ => ?_
  subst he
  exact ⟨_, rfl, _, _, _, [], _, [], hW', trodAll_mk1 (shut_bool Tryd.underlying4 _), (trodAll_cons_mk (Below.trod laidOut (by kernel_rfl) (of_decide_eq_true (by kernel_rfl)) k0 bel lt0) trodAll_mk0), rfl, bel.frame _, fun h => by cases h⟩
theorem over : Rows.FnExactModuleTextSaid :=
  OpenClaim.holds_of_wide 5 Tryd.f5 rfl rfl rfl rfl rfl rfl rfl ⟨rfl, rfl, rfl, rfl, rfl⟩ rfl rfl rfl rfl rfl (by kernel_rfl) Tryd.func5 (by kernel_rfl)
    (of_decide_eq_true (by kernel_rfl)) (by unfold Func.isWrapper; first | (rw [if_pos (by decide +kernel)]; kernel_rfl) | (rw [if_neg (by decide +kernel)]; exact ⟨rfl, rfl⟩))
    (fun os started H enc _ => lifted os started H enc)
end fnExactModuleText_row
/-- The statement: the tied card. -/
theorem fnExactModuleText_proved : Rows.FnExactModuleTextCardSaid :=
  Claim7.holds_tied_plain_at .later [] [.data, .data, .data] true (true, "b7a0901ec1e5a0535e113cb23dee71e232a6b081c0e3a8f7295ae46da952f3a7") false
    fnExactModuleText_row.over (fun _ h => by cases h) (by kernel_rfl) (fun _ h => by cases h) fnExactModuleText_row_tie rfl ⟨rfl, rfl⟩ (by kernel_rfl) rfl
    (fun f fn hf hfn => by
      obtain rfl : f = 5 := Option.some.inj ((show Tryd.prog.funcNamed "loop.example/g01154/laws.FnExactModuleText" = some 5 by kernel_rfl).symm.trans hf) |>.symm
      obtain rfl : fn = Tryd.f5 := (Option.some.inj (Tryd.func5.symm.trans hfn)).symm
      exact ⟨by kernel_rfl, fun j t ht => by
        rw [Tryd.params5] at ht
        have hm : t ∈ [41] := by simpa using Array.mem_of_getElem? ht
        have hall : ([41].all fun u => !Tryd.prog.wantsStandIn u) = true := by kernel_rfl
        exact (show Tryd.prog.wantsStandIn t = false by simpa using List.all_eq_true.1 hall t hm)⟩)
    (by kernel_rfl)
#print axioms fnExactModuleText_proved
end Go.Proofs.YtljfpkhgijangaaDoor

/- The dual of a module: of the program. -/
import Derived.Test.YtljfpkhgijangaaLAntW
import Derived.Test.YtljfpkhgijangaaLCnt
namespace Go.Proofs.Ytljfpkhgijangaa
open Go.RowKit Go.Sort

theorem enters_dual1 : Enters Try.prog 120 := fun args w => by kernel_rfl
theorem and_bit (X s : Nat) (hX : X < 9223372036854775808) : bits BinOp.and IntKind.i64 ((X : Int) / 2 ^ s) 1 = if X.testBit s then 1 else 0 := by
  rw [show ((X : Int) / 2 ^ s) = ((X / 2 ^ s : Nat) : Int) by simp, show (1 : Int) = ((1 : Nat) : Int) from rfl, i64_and_nat _ _ (Nat.lt_of_le_of_lt (Nat.div_le_self _ _) hX) (by omega), Nat.and_one_is_mod,
    Nat.testBit_eq_decide_div_mod_eq]
  rcases Nat.mod_two_eq_zero_or_one (X / 2 ^ s) with h | h <;> rw [h] <;> rfl
set_option maxRecDepth 100000 in
set_option maxHeartbeats 1000000 in
theorem dual1_c (ds : List Int) (act : List (List Int)) (hT : modT ds act = true) (gs gx : Nat) (ua : List Value) (BA n b : Nat) (w : World) (hs : w.cell? ⟨gs, 0, none⟩ = some (.int .i64 ds.length)) (hA : ArrU w BA gx ua (anR act ds.length 21))
    (hn2 : n ≤ 20) (hb : b < ds.length) :
    Calls Try.prog 120 #[.int .i64 n, .int .i64 b, .pointer (some ⟨gs, 0, none⟩), .pointer (some ⟨gx, 0, none⟩)] w fun e w' => e = .returned (.int .i64 (duM act ds.length n b ds.length : Nat)) ∧ Below w.heap.size w w' := by
  have hl := modT_len hT
  have hr := anR_at act ds.length 21 n (by omega) (by omega)
  obtain ⟨u, hu⟩ : ∃ u, ua[n]? = some u := ⟨_, List.getElem?_eq_getElem (show n < ua.length by rw [hA.len, anR_len]; omega)⟩
  have hrow := (hA.each n u _ hu hr).ints
  have ck := hA.cell n
  rw [hu] at ck
  have HL := Lib.hid (duM_lt act ds.length n b)
  have HX := Lib.hid (fun c hc => apX_lt hT (2 ^ c) (Nat.pow_lt_pow_right (by omega) hc) n)
  have hp16 : 2 ^ ds.length ≤ 2 ^ 16 := Nat.pow_le_pow_right (by omega) hl
  have hni : (n : Int) < 21 := by omega
  obtain ⟨ra, rc, rfl, -⟩ := hrow.len
  simp only [List.length_map, List.length_range] at ck
  have HR := Lib.hid hrow
  clear hA hr hu hrow hT
  go_enter Try.func120, Try.ntmps120
  go_wp2_with fail
  go_loopw [7, 10] (fun o i wr => ∃ k q : Nat, k ≤ ds.length ∧ i = .int .i64 k ∧ o = .int .i64 (duM act ds.length n b k : Nat) ∧ wr = w.drewN q) (fun _ i _ => ds.length - (intOf i).toNat)
  case atStart => exact ⟨0, 0, Nat.zero_le _, rfl, rfl, rfl⟩
  case round =>
    obtain ⟨k, q, hk, rfl, rfl, rfl⟩ := hrel
    by_cases hlt : k < ds.length
    · obtain ⟨i, hi⟩ : ∃ i, i = ds.length - 1 - k := ⟨_, rfl⟩
      obtain ⟨sb, hsb⟩ : ∃ sb, sb = ds.length - 1 - b := ⟨_, rfl⟩
      obtain ⟨b1, o1, c1, hv1, hc1, -⟩ := HR.out.at i (by simp; omega)
      simp only [Value.slice.injEq, List.length_map, List.length_range] at hv1
      obtain ⟨rfl, -, rfl⟩ := hv1
      simp only [List.getElem_map, List.getElem_range] at hc1
      have hX := HX.out i (by omega)
      have hbit := and_bit (apX act (2 ^ i) n) sb (by omega)
      have hM := HL.out k
      have hp : 2 ^ k ≤ 2 ^ 15 := Nat.pow_le_pow_right (by omega) (by omega)
      have HS : Hid (duM act ds.length n b (k + 1) = duM act ds.length n b k ||| (if (apX act (2 ^ i) n).testBit sb then 2 ^ k else 0)) := by
        show _ = _; rw [duM, duB, hi, hsb]
      have s1 : IntKind.i64.wrap ((ds.length : Int) - 1) = (ds.length : Int) - 1 := IntWalk.i64_in _ (by omega)
      have s2 : IntKind.i64.wrap ((ds.length : Int) - 1 - k) = (i : Int) := by rw [IntWalk.i64_in _ (by omega)]; omega
      have s3 : IntKind.i64.wrap ((ds.length : Int) - 1 - b) = (sb : Int) := by rw [IntWalk.i64_in _ (by omega)]; omega
      have i1 : (i : Int) < ds.length := by omega
      have i2 : sb < 64 := by omega
      have i3 : (sb : Int) < 64 := by omega
      have hor := i64_or_nat (duM act ds.length n b k) (if (apX act (2 ^ i) n).testBit sb then 2 ^ k else 0) (by omega) (by split <;> omega)
      have hw : wrap64 ((if (apX act (2 ^ i) n).testBit sb then 1 else 0) * 2 ^ k) = (((if (apX act (2 ^ i) n).testBit sb then 2 ^ k else 0 : Nat)) : Int) := by
        split
        · rw [Int.one_mul, wrap64_pow k (by omega)]; simp
        · simp [wrap64]
      clear hi hsb hX hp hM
      generalize (if (apX act (2 ^ i) n).testBit sb then 2 ^ k else 0 : Nat) = Z at *
      generalize (if (apX act (2 ^ i) n).testBit sb then (1 : Int) else 0) = y at *
      generalize apX act (2 ^ i) n = X at *
      generalize duM act ds.length n b k = t at *
      go_wp2_with fail
      go_quiet (fail)
      go_wp2_with fail
      go_roundw
      case rel => exact ⟨k + 1, _, by omega, by go_num, by rw [HS.out], rfl⟩
      case measure => simp [intOf]; omega
    · obtain rfl : k = ds.length := by omega
      go_wp2_with fail
      go_ret
      exact ⟨rfl, below_drewN _ (Below.refl _ _)⟩
section
variable {P : Program} {ops : Array Oper} {rest : List Oper} {o : Oper} {a : Act} {Q : Exit → Act → World → Prop}
theorem step_store_at {w : World} (hg : o.guard = none) (ty : TypeId) (x y : Operand) (ho : o.op = .store ty x y) (g : Nat) (c c' : Array Value) (hx : a.eval x = .pointer (some ⟨g, 0, none⟩)) (hgs : g = w.heap.size) (hy : a.eval y = .agg c')
    (hi : (P.info? ty).map (·.size) = some c'.size) (hc : c.size = c'.size) (h1 : c'.all (·.oneCell') = true) (h : wpList P ops Q rest (a.put o.dst undef) (w.alloc (.cells c' ty))) : wpList P ops Q (o :: rest) a (w.alloc (.cells c ty)) := by
  subst hgs
  exact step_store_new hg ty x y ho c c' hx hy hi hc h1 h
end
def dumD (ds : List Int) (act : List (List Int)) : List Int := if isMod ds act then duD ds else []
def dumA (ds : List Int) (act : List (List Int)) : List (List Int) := if isMod ds act then duA ds act else []
theorem dum_bounds (ds : List Int) (act : List (List Int)) : (dumD ds act).length ≤ 16 ∧ cnt (dumA ds act) ≤ 15360 := by
  unfold dumD dumA
  split
  · rename_i h
    have hl := modT_len (isMod_T h)
    have q := (modN_len (fun n b => (duM act ds.length n b ds.length : Nat)) ds.length 20).2
    have q2 : ds.length * ds.length ≤ 16 * 16 := Nat.mul_le_mul hl hl
    rw [duD_len]; unfold duA; omega
  · simp [cnt]
theorem duD_succ (ds : List Int) (k : Nat) (hk : k < ds.length) : (duD ds).take (k + 1) = (duD ds).take k ++ [ds.getD (ds.length - 1) 0 - ds.getD (ds.length - 1 - k) 0] := by
  rw [List.take_succ_eq_append_getElem (by rw [duD_len]; exact hk)]
  congr 1
  simp [duD]
set_option maxRecDepth 100000 in
set_option maxHeartbeats 4000000 in
theorem implDualOfModule_c (d a : Value) (ds : List Int) (act : List (List Int)) (w : World) (h : ModS w.heap d a ds act) :
    Calls Try.prog 47 #[.agg #[d, a]] w fun e w' => ∃ d a us, e = .returned (.tuple #[.agg #[d, a], .int .i64 (if isMod ds act then 0 else 1)]) ∧ OwnM w' w.heap.size d a us (dumD ds act) (dumA ds act) ∧ Below w.heap.size w w' := by
  have hb : Below w.heap.size w ((w.alloc (.cells #[d, a] 60)).alloc (.cells #[.slice none 0 0, .slice none 0 0] 60)) := ((Below.refl _ _).alloc (Nat.le_refl _) _).alloc (by simp) _
  have V := two_new w d a 60
  have k1 := Go.Lib.cell?_alloc_some (.cells #[.slice none 0 0, .slice none 0 0] 60) V.1
  have k2 := Go.Lib.cell?_alloc_some (.cells #[.slice none 0 0, .slice none 0 0] 60) V.2
  have V2 : Var2 ((w.alloc (.cells #[d, a] 60)).alloc (.cells #[.slice none 0 0, .slice none 0 0] 60)) (w.heap.size + 1) (.slice none 0 0) (.slice none 0 0) 60 := by
    have := Var2.new (w.alloc (.cells #[d, a] 60)) (.slice none 0 0) (.slice none 0 0) 60
    rwa [size_alloc_w] at this
  have I := Lib.hid (isModule_c d a ds act _ (h.same hb.block))
  obtain ⟨ao, ac, hdv, hm⟩ := h.1.len
  obtain ⟨bo, bc, hav, hm2⟩ := h.2.len
  subst hdv; subst hav
  have H0 := Lib.hid h; have HB := Lib.hid hb; have HV2 := Lib.hid V2; clear h hb V V2
  cases hT : isMod ds act
  · have e1 : dumD ds act = [] := by simp [dumD, hT]
    have e2 : dumA ds act = [] := by simp [dumA, hT]
    rw [hT] at I
    rw [e1, e2]
    clear hT e1 e2
    go_enter Try.func47, Try.ntmps47
    go_wp2_with fail
    refine I.out.mono ?_
    rintro e w1 ⟨rfl, hb1⟩
    have V3 := Lib.hid (HV2.out.kept hb1.block)
    have e0 := V3.out.c0; have e1 := V3.out.c1; have f0 := V3.out.free 0; have f1 := V3.out.free 1
    have HB1 := Lib.hid (HB.out.trans (hb1.mono HB.out.size))
    clear hb1 HV2
    go_wp2_with fail
    have g0 := (V3.out.set0 (.slice none 0 0)).c0
    have g1 := ((V3.out.set0 (.slice none 0 0)).set1 (.slice none 0 0)).c1
    exact bodyPost_ret (v := .tuple #[.agg #[.slice none 0 0, .slice none 0 0], .int .i64 1]) (by simp [results, Try.results47, go_sem, g0, g1]) rfl
      ⟨_, _, rfl, ⟨[], OwnM.nil _ _⟩, (HB1.out.setCell (by show w.heap.size ≤ w.heap.size + 1; omega) _).setCell (by show w.heap.size ≤ w.heap.size + 1; omega) _⟩
  · have HT1 := Lib.hid (isMod_T hT)
    have hl16 := modT_len HT1.out
    have T := Lib.hid (fun (W : World) (h : ModS W.heap (.slice ao ds.length ac) (.slice bo act.length bc) ds act) => tableOf_c _ _ ds act W h HT1.out)
    have X := Lib.hid (fun (g : Nat) (us : List Value) (B : Nat) (W : World) (h : TabU W B g (.slice ao ds.length ac) us (tabL ds.length act)) (hd : IntS W.heap (.slice ao ds.length ac) ds) => antipodes_c g _ us ds act B W h hd HT1.out)
    have e1 : dumD ds act = duD ds := by simp [dumD, hT]
    have e2 : dumA ds act = modN (fun n b => (duM act ds.length n b ds.length : Nat)) (duD ds).length 20 := by rw [duD_len]; simp [dumA, hT, duA]
    rw [hT] at I
    rw [e1, e2]
    clear hT e1 e2
    go_enter Try.func47, Try.ntmps47
    go_wp2_with fail
    refine I.out.mono ?_
    rintro e w1 ⟨rfl, hb1⟩
    have HV3 := Lib.hid (HV2.out.kept hb1.block)
    have k4 := (hb1.cell (World.block_lt_of_cell? _ _ k1)).trans k1
    have k5 := (hb1.cell (World.block_lt_of_cell? _ _ k2)).trans k2
    have HB1 := Lib.hid (HB.out.trans (hb1.mono HB.out.size))
    clear hb1 HV2 k1 k2 I HB
    go_upto_region 4 with fail
    have hbx : Below w1.heap.size w1 (w1.alloc (.cells #[.int .i64 ds.length] 3)) := (Below.refl _ _).alloc (Nat.le_refl _) _
    have k1 := (hbx.cell (World.block_lt_of_cell? _ _ k4)).trans k4
    have k2 := (hbx.cell (World.block_lt_of_cell? _ _ k5)).trans k5
    have k3 : (w1.alloc (.cells #[.int .i64 ds.length] 3)).cell? ⟨w1.heap.size, 0, none⟩ = some (.int .i64 ds.length) := by rw [World.cell?]; simp only [heap_alloc_new]; rfl
    have HV4 := Lib.hid (HV3.out.kept hbx.block)
    have HB2 := Lib.hid (HB1.out.trans (hbx.mono HB1.out.size))
    obtain ⟨w2, hw2⟩ : ∃ w2, w2 = w1.alloc (.cells #[.int .i64 ds.length] 3) := ⟨_, rfl⟩
    rw [← hw2] at k1 k2 k3 HV4 HB2
    rw [← hw2]
    have hgs : w.heap.size + 2 ≤ w1.heap.size := by have := HV3.out.lt; omega
    clear hw2 hbx HV3 HB1 k4 k5
    go_wp2_with fail
    refine (T.out _ (H0.out.same HB2.out.block)).mono ?_
    rintro e w3 ⟨g, us, rfl, htu, hb3⟩
    have HTU := Lib.hid htu
    have k4 := (hb3.cell (World.block_lt_of_cell? _ _ k1)).trans k1
    have k6 := (hb3.cell (World.block_lt_of_cell? _ _ k3)).trans k3
    have HV3 := Lib.hid (HV4.out.kept hb3.block)
    have HB3 := Lib.hid (HB2.out.trans (hb3.mono HB2.out.size))
    have HZ3 := Lib.hid (Nat.le_trans (Nat.le_of_lt (World.block_lt_of_cell? _ _ k3)) hb3.size)
    clear htu hb3 k1 k2 k3 HV4 HB2 T
    go_wp2_with fail
    refine (X.out g us _ _ HTU.out (H0.out.1.same HB3.out.block)).mono ?_
    rintro e w4 ⟨ga, ua, rfl, hAU, hb4⟩
    have hul : ua.length = 21 := by rw [hAU.len, anR_len]
    have hin : (Try.prog.info? 116).map (·.size) = some ua.toArray.size := by rw [List.size_toArray, hul]; exact info_arr (.slice none 0 0)
    have hone : ua.toArray.all (·.oneCell') = true := by
      rw [Array.all_eq_true_iff_forall_mem]
      intro u hu
      obtain ⟨i, hi, rfl⟩ := List.getElem_of_mem (show u ∈ ua by simpa using hu)
      exact own_oneCell (hAU.each i _ _ (List.getElem?_eq_getElem hi) (List.getElem?_eq_getElem (by rw [anR_len]; omega)))
    have hsz : 21 = ua.toArray.size := by rw [List.size_toArray, hul]
    have HAU := Lib.hid hAU
    have k1 := (hb4.cell (World.block_lt_of_cell? _ _ k4)).trans k4
    have k3 := (hb4.cell (World.block_lt_of_cell? _ _ k6)).trans k6
    have HV4 := Lib.hid (HV3.out.kept hb4.block)
    have HB4 := Lib.hid (HB3.out.trans (hb4.mono HB3.out.size))
    have HZ4 := Lib.hid (Nat.le_trans HZ3.out hb4.size)
    clear hAU hb4 k4 k6 HV3 HB3 X HTU HZ3
    have A1 := Lib.hid k1; have A3 := Lib.hid k3
    have k1 := Go.Lib.cell?_alloc_some (.cells ua.toArray 116) (Go.Lib.cell?_alloc_some (.cells #[] 2) k1)
    have k3 := Go.Lib.cell?_alloc_some (.cells ua.toArray 116) (Go.Lib.cell?_alloc_some (.cells #[] 2) k3)
    have HH := Lib.hid (And.intro hin (And.intro hone hsz))
    clear hin hone hsz hul
    go_wp2_with (refine step_store_at rfl _ _ _ rfl (w4.heap.size + 1) _ ua.toArray rfl (by rw [size_alloc_w]) rfl HH.out.1 HH.out.2.2 HH.out.2.1 ?_)
    have HLN := Lib.hid (fun k hk => duD_succ ds k hk)
    have HB4b := Lib.hid (Below.refl w4.heap.size w4)
    go_loopw [6, 20] (fun o i wr => ∃ k : Nat, k ≤ ds.length ∧ i = .int .i64 k ∧ OwnI wr w4.heap.size o ((duD ds).take k) ∧ Below w4.heap.size w4 wr ∧ wr.heap[w4.heap.size + 1]? = some (.cells ua.toArray 116 (0, 0))) (fun _ i _ => ds.length - (intOf i).toNat)
    case atStart =>
      refine ⟨0, Nat.zero_le _, rfl, ?_, ((Below.refl _ _).alloc (Nat.le_refl _) _).alloc (by simp) _, ?_⟩
      · exact (ownI_empty (Nat.le_refl _)).same (alloc_old _ _)
      · have := heap_alloc_new (w4.alloc (.cells #[] 2)) (.cells ua.toArray 116)
        rw [size_alloc_w] at this
        exact this
    case round =>
      obtain ⟨k, hk, rfl, hO, hbl, hX⟩ := hrel
      obtain ⟨va, vn, vc, rfl⟩ := own_shape hO
      have hsz := hbl.size
      have HO := Lib.hid hO; have HBL := Lib.hid hbl; have HX := Lib.hid hX
      clear hO hbl hX
      by_cases hlt : k < ds.length
      · have HD := Lib.hid (H0.out.1.same HB4.out.block)
        obtain ⟨b1, o1, c1', hv1, hd1, -⟩ := HD.out.at (w := w4) (ds.length - 1) (by omega)
        obtain ⟨b2, o2, c2', hv2, hd2, -⟩ := HD.out.at (w := w4) (ds.length - 1 - k) (by omega)
        simp only [Value.slice.injEq, true_and] at hv1 hv2
        obtain ⟨rfl, rfl⟩ := hv1
        obtain ⟨hv2, -⟩ := hv2
        simp only [Option.some.injEq, Addr.mk.injEq, and_true] at hv2
        obtain ⟨rfl, rfl⟩ := hv2
        rw [← getD_at'] at hd1 hd2
        have HS := Lib.hid (HLN.out k hlt)
        have st1 := modT_stem HT1.out (ds.length - 1)
        have st2 := modT_stem HT1.out (ds.length - 1 - k)
        have s1 : IntKind.i64.wrap ((ds.length : Int) - 1) = ((ds.length - 1 : Nat) : Int) := by rw [IntWalk.i64_in _ (by omega)]; omega
        have s2 : IntKind.i64.wrap (((ds.length - 1 : Nat) : Int) - k) = ((ds.length - 1 - k : Nat) : Int) := by rw [IntWalk.i64_in _ (by omega)]; omega
        have i1 : ((ds.length - 1 : Nat) : Int) < ds.length := by omega
        have i2 : ((ds.length - 1 - k : Nat) : Int) < ds.length := by omega
        have hln : ((duD ds).take k).length < 4398046511104 := by rw [List.length_take, duD_len]; omega
        have s3 : IntKind.i64.wrap (ds.getD (ds.length - 1) 0 - ds.getD (ds.length - 1 - k) 0) = ds.getD (ds.length - 1) 0 - ds.getD (ds.length - 1 - k) 0 := IntWalk.i64_in _ (by omega)
        obtain ⟨y, hy⟩ : ∃ y, y = ds.getD (ds.length - 1) 0 - ds.getD (ds.length - 1 - k) 0 := ⟨_, rfl⟩
        rw [← hy] at HS
        replace s3 : IntKind.i64.wrap (ds.getD (ds.length - 1) 0 - ds.getD (ds.length - 1 - k) 0) = y := by rw [s3, hy]
        clear hy st1 st2
        generalize ds.getD (ds.length - 1) 0 = y1 at *
        generalize ds.getD (ds.length - 1 - k) 0 = y2 at *
        generalize ds.length - 1 - k = q2 at *
        generalize ds.length - 1 = q1 at *
        have F := Lib.hid (fun (W : World) (hb : Below w4.heap.size w4 W) => And.intro ((hb.cell (World.block_lt_of_cell? _ _ A1.out)).trans A1.out) (And.intro ((hb.cell (World.block_lt_of_cell? _ _ A3.out)).trans A3.out) (And.intro ((hb.cell (World.block_lt_of_cell? _ _ hd1)).trans hd1) ((hb.cell (World.block_lt_of_cell? _ _ hd2)).trans hd2))))
        clear hd1 hd2
        obtain ⟨m1, m2, m3, m4⟩ := F.out _ HBL.out
        have KX : Hid (∀ (v' : Value) (W W' : World), W.heap[w4.heap.size + 1]? = some (.cells ua.toArray 116 (0, 0)) → (∀ b, b < W.heap.size → some b ≠ (Value.slice va vn vc).ownBlock → W'.heap[b]? = W.heap[b]?) → OwnI W w4.heap.size (.slice va vn vc) ((duD ds).take k) → W'.heap[w4.heap.size + 1]? = some (.cells ua.toArray 116 (0, 0))) := fun v' W W' hX hk hO => by
          refine (hk _ (Array.getElem?_eq_some_iff.1 hX).1 fun e => ?_).trans hX
          rcases hO.2 with ⟨h1, _⟩ | ⟨g1, cap, cur, h1, _, hg1, _⟩
          · rw [h1] at e; simp [Value.ownBlock] at e
          · rw [h1] at e
            simp only [Value.ownBlock, Option.some.injEq] at e
            rw [← e, hX] at hg1
            simp only [Option.some.injEq, Obj.cells.injEq] at hg1
            exact absurd hg1.2.1 (by decide)
        go_wp2_with fail
        go_region_held3 (fun W => W.cell? ⟨w.heap.size, 0, none⟩ = some (.slice (some ⟨b1, o1, none⟩) ds.length ac) ∧ W.cell? ⟨w1.heap.size, 0, none⟩ = some (.int .i64 ds.length) ∧ W.cell? ⟨b1, o1 + q1, none⟩ = some (.int .i64 y1) ∧ W.cell? ⟨b1, o1 + q2, none⟩ = some (.int .i64 y2))
          (first | exact F.out _ (below_drewN 1 HBL.out) | exact F.out _ (below_drewN 1 (HBL.out.alloc hsz _)) | exact F.out _ hbl' | fail)
          (first | (refine step_append_int (by rfl) _ _ (by rfl) w4.heap.size _ _ (by exact HO.out.same (alloc_old wr (.cells #[.int .i64 y] 2))) (by rfl) wr.heap.size y (by rfl) (by exact heap_alloc_new wr _) (by exact below_drewN 1 (HBL.out.alloc hsz _)) (by simp; omega) hln ?_; intro v' w' hown' hbl' _ hk'; obtain ⟨pv, nv, cv, rfl⟩ := own_shape hown'))
        rename_i hh
        have HX2 := Lib.hid (KX.out (.slice pv nv cv) ((wr.alloc (.cells #[.int .i64 y] 2)).drew) w' (by have := Lib.hid HX.out; show (wr.alloc (.cells #[.int .i64 y] 2)).heap[w4.heap.size + 1]? = _; rw [alloc_old _ _ _ (Array.getElem?_eq_some_iff.1 HX.out).1]; exact HX.out) hk' (HO.out.same (w' := (wr.alloc (.cells #[.int .i64 y] 2)).drew) (alloc_old wr _)))
        clear hh KX m1 m2 m3 m4 hk' F s3
        go_wp2_with fail
        go_roundw
        case rel => exact ⟨k + 1, by omega, by go_num, by rw [HS.out]; exact hown', hbl', HX2.out⟩
        case measure => simp [intOf]; omega
      · obtain rfl : k = ds.length := by omega
        rw [show (duD ds).take ds.length = duD ds from by rw [← duD_len ds, List.take_length]] at HO
        have AW := Lib.hid (show ArrU wr w3.heap.size (w4.heap.size + 1) ua (anR act ds.length 21) from by
          have h4 := HAU.out.same (w' := wr) (fun b hb => HBL.out.block b hb)
          exact ⟨HX.out, by have := HAU.out.lt; have := HAU.out.base; omega, h4.len, h4.each, h4.apart⟩)
        have C3 := Lib.hid ((HBL.out.cell (World.block_lt_of_cell? _ _ A3.out)).trans A3.out)
        have MO := Lib.hid (moduleOf_c (.slice va vn vc) (duD ds) 120 #[.pointer (some ⟨w1.heap.size, 0, none⟩), .pointer (some ⟨w4.heap.size + 1, 0, none⟩)] (fun n b => (duM act ds.length n b ds.length : Nat)) wr HO.out.ints (by rw [duD_len]; exact hl16) enters_dual1 (fun n b => Int.natCast_nonneg _)
          (fun W hW n b _ hn hb => dual1_c ds act HT1.out w1.heap.size (w4.heap.size + 1) ua w3.heap.size n b W ((hW.cell (World.block_lt_of_cell? _ _ C3.out)).trans C3.out) (AW.out.same hW.block) hn (by rw [duD_len] at hb; exact hb)))
        have HVR := Lib.hid (HV4.out.below HBL.out HV4.out.lt)
        have HBR := Lib.hid (HB4.out.trans (HBL.out.mono HB4.out.size))
        clear hsz HO HBL HX AW C3 HLN HB4b
        go_wp2_with fail
        refine MO.out.mono ?_
        rintro e w5 ⟨rd, rs, us5, rfl, hM, hb5⟩
        obtain ⟨pd, nd, cd, rfl⟩ := own_shape hM.deg
        obtain ⟨pa, na, ca, rfl⟩ := own_shape hM.act.row
        have V5 := HVR.out.kept hb5.block
        have f0 := V5.free 0; have f1 := V5.free 1; have e0 := V5.c0; have e1 := V5.c1
        have HM := Lib.hid hM; have HV5 := Lib.hid V5; have HB5 := Lib.hid (HBR.out.trans (hb5.mono HBR.out.size))
        have HLT := Lib.hid (show w.heap.size ≤ wr.heap.size from HBR.out.size)
        clear hM V5 hb5 MO
        go_wp2_with fail
        have W4 := HV5.out.set0 (.slice pd nd cd)
        have g0 := (W4.set1 (.slice pa na ca)).c0
        have g1 := (W4.set1 (.slice pa na ca)).c1
        exact bodyPost_ret (v := .tuple #[.agg #[.slice pd nd cd, .slice pa na ca], .int .i64 0]) (by simp [results, Try.results47, go_sem, g0, g1]) rfl
          ⟨_, _, rfl, ⟨us5, ((HM.out.base HLT.out).setVar HV5.out (by decide) (by decide) _).setVar (HV5.out.set0 _) (by decide) (by decide) _⟩, (HB5.out.setCell (by show w.heap.size ≤ w.heap.size + 1; omega) _).setCell (by show w.heap.size ≤ w.heap.size + 1; omega) _⟩
end Go.Proofs.Ytljfpkhgijangaa

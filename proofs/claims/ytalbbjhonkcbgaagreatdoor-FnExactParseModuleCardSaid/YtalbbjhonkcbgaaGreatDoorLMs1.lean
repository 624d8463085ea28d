/- Vectors of a module: of the reference. -/
import Derived.Test.YtalbbjhonkcbgaaGreatDoorLMt3
import Derived.Test.YtalbbjhonkcbgaaGreatDoorLStep
namespace Go.Proofs.YtalbbjhonkcbgaaGreatDoor
open Go.RowKit Go.Sort

theorem l11Unit_c (size v : Nat) (w : World) (hs : size ≤ 16) (hv : v < size) :
    Calls Tryz.prog 68 #[.int .i64 size, .int .i64 v] w fun e w' => ∃ r, e = .returned r ∧ OwnI w' w.heap.size r (bitsL size (2 ^ v)) ∧ Below w.heap.size w w' := by
  have hmk := fun w => make_run (P := Tryz.prog) 30 2 _ 8 info_int64 Tryz.underlying30 rfl (by omega) size (by omega) .i64 .i64 (size : Int) (size : Int) rfl rfl w
  have ho := made_own w w.heap.size 2 size (.int .i64 0) (Nat.le_refl _) (by omega)
  rw [show List.replicate size (Value.int .i64 0) = (List.replicate size (0 : Int)).map (Value.int .i64) by simp] at ho
  have h1 := own_int_at ho v hv
  have hf := World.ownsRow.frozenAt ho v
  have h2 := own_int_set ho v 1
  rw [bitsL_unit size v hv] at h2
  have hb := ((Below.refl w.heap.size w).alloc (Nat.le_refl _) (.cells (madeCells #[.int .i64 0] size) 2)).setCell (p := ⟨w.heap.size, v, none⟩) (Nat.le_refl _) (.int .i64 1)
  rw [World.setCell_alloc_at _ _ _ _ _ rfl] at h2 hb
  have H2 := Lib.hid h2; have HB := Lib.hid hb; clear h2 hb ho
  have hvi : (v : Int) < size := by omega
  rw [show (List.replicate size (0 : Int)).getD v 0 = 0 by simp [hv]] at h1
  go_enter Tryz.func68, Tryz.ntmps68
  go_wp2_with fail
  go_ret
  exact ⟨_, rfl, by unfold OwnI; rw [bitsL_length]; exact H2.out, HB.out⟩
set_option maxRecDepth 100000 in
set_option maxHeartbeats 1000000 in
theorem l11Plus_c (v u : Value) (xs ys : List Int) (w : World) (h : IntS w.heap v xs) (hu : IntS w.heap u ys) (hl : ys.length = xs.length) (h16 : xs.length ≤ 16) (hx : ∀ x ∈ xs, 0 ≤ x ∧ x ≤ 1) (hy : ∀ x ∈ ys, 0 ≤ x ∧ x ≤ 1) :
    Calls Tryz.prog 98 #[v, u] w fun e w' => ∃ r, e = .returned r ∧ OwnI w' w.heap.size r (plusL xs ys xs.length) ∧ Below w.heap.size w w' := by
  obtain ⟨ao, c, rfl, hm⟩ := h.len
  obtain ⟨bo, d, rfl, hn⟩ := hu.len
  have H := Lib.hid h; have HU := Lib.hid hu; have HX := Lib.hid hx; have HY := Lib.hid hy; have HL := Lib.hid hl
  clear h hu hx hy hl
  go_enter Tryz.func98, Tryz.ntmps98
  go_wp2_with fail
  go_loopw [5, 6] (fun o i wr => ∃ k : Nat, k ≤ xs.length ∧ i = .int .i64 k ∧ OwnI wr w.heap.size o (plusL xs ys k) ∧ Below w.heap.size w wr) (fun _ i _ => xs.length - (intOf i).toNat)
  case atStart => exact ⟨0, Nat.zero_le _, rfl, ownI_empty (Nat.le_refl _), (Below.refl _ _).alloc (Nat.le_refl _) _⟩
  case round =>
    obtain ⟨k, hk, rfl, hown, hbl⟩ := hrel
    obtain ⟨va, vn, vc, rfl⟩ := own_shape hown
    by_cases hlt : k < xs.length
    · have hlt2 : k < ys.length := by have := HL.out; omega
      obtain ⟨b1, o1, c1, hv1, hc1, -⟩ := H.out.at k hlt
      simp only [Value.slice.injEq, true_and] at hv1
      obtain ⟨rfl, rfl⟩ := hv1
      obtain ⟨b2, o2, c2, hv2, hc2, -⟩ := HU.out.at k hlt2
      simp only [Value.slice.injEq, true_and] at hv2
      obtain ⟨rfl, rfl⟩ := hv2
      have hx1 := HX.out _ (List.getElem_mem hlt)
      have hy1 := HY.out _ (List.getElem_mem hlt2)
      have g1 := (hbl.cell (World.block_lt_of_cell? _ _ hc1)).trans hc1
      have g2 := (hbl.cell (World.block_lt_of_cell? _ _ hc2)).trans hc2
      have HC1 := Lib.hid hc1; have HC2 := Lib.hid hc2
      clear hc1 hc2
      have HS := Lib.hid (plusL_succ xs ys k)
      rw [show xs.getD k 0 = xs[k] by simp [hlt], show ys.getD k 0 = ys[k] by simp [hlt2]] at HS
      have HO := Lib.hid hown; have HBL := Lib.hid hbl; have hsz := hbl.size
      have hln : (plusL xs ys k).length < 4398046511104 := by simp [plusL]; omega
      clear hown hbl
      generalize xs[k] = x at *
      generalize ys[k] = y at *
      have s1 : IntKind.i64.wrap (x + y) = x + y := IntWalk.i64_in _ (by omega)
      have s0 : 0 ≤ x + y := by omega
      have ht : (x + y).tmod 2 = (x + y) % 2 := Int.tmod_eq_emod_of_nonneg s0
      have ki : (k : Int) < xs.length := by omega
      have ki2 : (k : Int) < ys.length := by omega
      go_wp2_with fail
      go_region_held3 (fun W => W.cell? ⟨b1, o1 + k, none⟩ = some (.int .i64 x) ∧ W.cell? ⟨b2, o2 + k, none⟩ = some (.int .i64 y)) (first | exact ⟨(hbl'.cell (World.block_lt_of_cell? _ _ HC1.out)).trans HC1.out, (hbl'.cell (World.block_lt_of_cell? _ _ HC2.out)).trans HC2.out⟩ | exact ⟨g1, g2⟩ | go_keep) (first | (refine step_append_int (by rfl) _ _ (by rfl) w.heap.size _ _ (by exact HO.out.same (alloc_old wr (.cells #[.int .i64 ((x + y) % 2)] 2))) (by rfl) wr.heap.size ((x + y) % 2) (by rfl) (by exact heap_alloc_new wr _) (by exact below_drewN 1 (HBL.out.alloc hsz _)) (by simp; omega) hln ?_; intro v' w' hown' hbl' _ _; obtain ⟨va2, vn2, vc2, hv2⟩ := own_shape hown'; subst hv2))
      clear ht g1 g2
      go_wp2_with fail
      go_roundw
      case rel => exact ⟨k + 1, by omega, by go_num, by rw [HS.out]; exact hown', hbl'⟩
      case measure => simp [intOf]; omega
    · obtain rfl : k = xs.length := by omega
      go_wp2_with fail
      go_ret
      exact ⟨_, rfl, hown, hbl⟩
theorem hitM_on (n : Int) (v : Nat) (p q c : Int) (h : p = n) (b : v.testBit q.toNat = true) : hitM n v [p, q, c] = 2 ^ c.toNat := by
  rw [hitM, if_pos ⟨by simpa using h, by simpa using b⟩]; simp
theorem hitM_off (n : Int) (v : Nat) (p q c : Int) (h : p ≠ n ∨ v.testBit q.toNat = false) : hitM n v [p, q, c] = 0 := by
  rw [hitM, if_neg]
  rintro ⟨h1, h2⟩
  rcases h with h | h
  · exact h (by simpa using h1)
  · rw [show ([p, q, c] : List Int).getD 1 0 = q from rfl, h] at h2; cases h2
theorem bits01 (size m : Nat) : ∀ x ∈ bitsL size m, 0 ≤ x ∧ x ≤ 1 := by
  intro x hx
  simp only [bitsL, List.mem_map] at hx
  obtain ⟨i, _, rfl⟩ := hx
  split <;> omega
set_option maxRecDepth 100000 in
set_option maxHeartbeats 2000000 in
theorem l11Act_c (d a v : Value) (ds : List Int) (act : List (List Int)) (n : Int) (m : Nat) (w : World) (h : ModS w.heap d a ds act) (hT : modT ds act = true) (hv : IntS w.heap v (bitsL ds.length m)) :
    Calls Tryz.prog 97 #[.agg #[d, a], .int .i64 n, v] w fun e w' => ∃ r, e = .returned r ∧ OwnI w' w.heap.size r (bitsL ds.length (actZ act n m)) ∧ Below w.heap.size w w' := by
  have hb : Below w.heap.size w (w.alloc (.cells #[d, a] 32)) := (Below.refl _ _).alloc (Nat.le_refl _) _
  have V := Var2.new w d a 32
  have hM := h.same hb.block
  have hs16 := modT_len hT
  obtain ⟨ao, ac, hdv, hm⟩ := h.1.len
  obtain ⟨bo, bc, hav, hm2⟩ := h.2.len
  subst hdv; subst hav
  by_cases hn : n = 0
  · have e : actZ act n m = m := by rw [actZ, if_pos hn]
    rw [e]
    have HT := Lib.hid (l01Own_c v _ _ (hv.same hb.block) (by rw [bitsL_length]; omega))
    obtain ⟨vo, vc, hvv, -⟩ := hv.len
    subst hvv
    have t1 := (eqB hn).1
    have HB := Lib.hid hb
    clear h V hM hT hv e hn hb
    go_enter Tryz.func97, Tryz.ntmps97
    go_wp2_with (go_at_call 124; refine HT.out.mono ?_; rintro e w1 ⟨r, rfl, hr, hb1⟩; obtain ⟨ra, rn, rc, rfl⟩ := own_shape hr)
    go_ret
    exact ⟨_, rfl, own_base hr HB.out.size, HB.out.trans (hb1.mono HB.out.size)⟩
  · have e : actZ act n m = actM n m act := by rw [actZ, if_neg hn]
    rw [e]
    have t1 := (neB hn).1
    have hmk := fun w => make_run (P := Tryz.prog) 30 2 _ 8 info_int64 Tryz.underlying30 rfl (by omega) ds.length (by omega) .i64 .i64 (ds.length : Int) (ds.length : Int) rfl rfl w
    obtain ⟨vo, vc, hvv, -⟩ := hv.len
    rw [bitsL_length] at hvv
    subst hvv
    have H0 := Lib.hid h; have HV := Lib.hid hv; have HT := Lib.hid hT; have HB := Lib.hid hb; have HVR := Lib.hid V
    have k1 := HVR.out.c0; have k2 := HVR.out.c1
    clear h hM hT hv e hn hb V
    go_enter Tryz.func97, Tryz.ntmps97
    go_wp2_with fail
    go_loopw [8] (fun i wr => ∃ k : Nat, k ≤ act.length ∧ i = .int .i64 k ∧ OwnI wr (w.heap.size + 1) (.slice (some ⟨w.heap.size + 1, 0, none⟩) ds.length ds.length) (bitsL ds.length (actM n m (act.take k))) ∧ Var2 wr w.heap.size (.slice ao ds.length ac) (.slice bo act.length bc) 32 ∧ Below w.heap.size w wr) (fun i _ => act.length - (intOf i).toNat)
    case atStart =>
      refine ⟨0, Nat.zero_le _, rfl, ?_, HVR.out.kept (alloc_old _ _), HB.out.alloc (by simp) _⟩
      have ho := made_own (w.alloc (.cells #[.slice ao ds.length ac, .slice bo act.length bc] 32)) (w.heap.size + 1) 2 ds.length (.int .i64 0) (by simp) (by omega)
      rw [size_alloc_w] at ho
      unfold OwnI
      rw [bitsL_length, List.take_zero, actM, bitsL_zero]
      simpa using ho
    case round =>
      obtain ⟨k, hk, rfl, hown, hV, hbl⟩ := hrel
      have c0 := hV.c0; have c1 := hV.c1
      by_cases hlt : k < act.length
      · obtain ⟨b1, o1, c1', u, hv1, hc1, hu, -⟩ := H0.out.2.at k hlt
        simp only [Value.slice.injEq, true_and] at hv1
        obtain ⟨rfl, rfl⟩ := hv1
        have hc := (hbl.cell (World.block_lt_of_cell? _ _ hc1)).trans hc1
        clear hc1
        have hcell := modT_cell HT.out _ (List.getElem_mem hlt)
        have htk := actM_take n m act k hlt
        have hu2 := hu.same hbl.block
        generalize act[k] = x at *
        obtain ⟨p, q, s, rfl⟩ : ∃ p q s, x = [p, q, s] := by
          match x, hcell.1 with
          | [p, q, s], _ => exact ⟨p, q, s, rfl⟩
        simp only [List.getD_cons_zero, List.getD_cons_succ] at hcell
        obtain ⟨-, hp1, hq0, hq1, hs0, hs1, -⟩ := hcell
        obtain ⟨b, rfl⟩ := Int.eq_ofNat_of_zero_le hq0
        obtain ⟨c, rfl⟩ := Int.eq_ofNat_of_zero_le hs0
        have hbl1 : b < ds.length := by omega
        have hcl : c < ds.length := by omega
        obtain ⟨ua, uc, rfl, -⟩ := hu.len
        obtain ⟨b2, o2, c2, hv2, hd0, -⟩ := hu2.at 0 (by simp)
        obtain ⟨b3, o3, c3, hv3, hd1, -⟩ := hu2.at 1 (by simp)
        obtain ⟨b4, o4, c4, hv4, hd2, -⟩ := hu2.at 2 (by simp)
        simp only [Value.slice.injEq, true_and] at hv2 hv3 hv4
        obtain ⟨rfl, rfl⟩ := hv2
        obtain ⟨hv3, -⟩ := hv3
        obtain ⟨hv4, -⟩ := hv4
        simp only [Option.some.injEq, Addr.mk.injEq, and_true] at hv3 hv4
        obtain ⟨rfl, rfl⟩ := hv3
        obtain ⟨rfl, rfl⟩ := hv4
        simp only [List.getElem_cons_zero, List.getElem_cons_succ, Nat.add_zero] at hd0 hd1 hd2
        obtain ⟨b5, o5, c5, hv5, hw1, -⟩ := (HV.out.same hbl.block).at b (by rw [bitsL_length]; exact hbl1)
        rw [bitsL_length] at hv5
        simp only [Value.slice.injEq, true_and] at hv5
        obtain ⟨rfl, rfl⟩ := hv5
        rw [← getD_at', bitsL_at _ _ _ hbl1] at hw1
        have hbi : (b : Int) < ds.length := by omega
        clear hu hu2
        by_cases hpn : p = n
        · have t2 := (eqB hpn).1
          cases htb : m.testBit b
          · have HS : Hid (actM n m (act.take (k + 1)) = actM n m (act.take k)) := by
              show _ = _; rw [htk, hitM_off _ _ _ _ _ (.inr (by simpa using htb))]; simp
            rw [htb, if_neg (by simp)] at hw1
            have HO := Lib.hid hown; have HV2 := Lib.hid hV; have HBL := Lib.hid hbl
            clear htk htb hpn hown hV hbl
            go_wp2_with fail
            go_roundw
            case rel => exact ⟨k + 1, by omega, by go_num, by rw [HS.out]; exact HO.out, HV2.out, HBL.out⟩
            case measure => simp [intOf]; omega
          · have HS : Hid (actM n m (act.take (k + 1)) = actM n m (act.take k) ^^^ 2 ^ c) := by
              show _ = _; rw [htk, hitM_on _ _ _ _ _ hpn (by simpa using htb)]; simp
            rw [htb, if_pos rfl] at hw1
            have hrow : wr.ownsRow (w.heap.size + 1) 2 1 (.slice (some ⟨w.heap.size + 1, 0, none⟩) ds.length ds.length) ds.length ((bitsL ds.length (actM n m (act.take k))).map (Value.int .i64)) := by unfold OwnI at hown; rwa [bitsL_length] at hown
            have hcc := own_int_at hrow c hcl
            have hf := hrow.frozenAt c
            have hst := own_int_set hrow c (1 - (bitsL ds.length (actM n m (act.take k))).getD c 0)
            rw [bitsL_toggle _ _ _ hcl, ← HS.out] at hst
            have hy := bits01 ds.length (actM n m (act.take k)) ((bitsL ds.length (actM n m (act.take k))).getD c 0) (by rw [getD_at' _ _ (by rw [bitsL_length]; exact hcl)]; exact List.getElem_mem _)
            generalize (bitsL ds.length (actM n m (act.take k))).getD c 0 = y at *
            have sy : IntKind.i64.wrap (1 - y) = 1 - y := IntWalk.i64_in _ (by omega)
            have hst2 := hV.setFar ⟨w.heap.size + 1, c, none⟩ (by simp) (.int .i64 (1 - y))
            have hst3 := hbl.setCell (p := ⟨w.heap.size + 1, c, none⟩) (by simp) (.int .i64 (1 - y))
            have G := Lib.hid (And.intro hst (And.intro hst2 hst3))
            have hci : (c : Int) < ds.length := by omega
            clear htk htb hpn hown hV hbl hst hst2 hst3 hrow HS
            go_wp2_with fail
            go_region_law (fail)
            all_goals
              go_wp2_with fail
              go_roundw
              case rel => exact ⟨k + 1, by omega, by go_num, by unfold OwnI; rw [bitsL_length]; exact own_same G.out.1 (fun _ _ => rfl), G.out.2.1.kept (fun _ _ => rfl), below_drewN 1 G.out.2.2⟩
              case measure => simp [intOf]; omega
        · have t2 := (neB hpn).1
          have HS : Hid (actM n m (act.take (k + 1)) = actM n m (act.take k)) := by
            show _ = _; rw [htk, hitM_off _ _ _ _ _ (.inl hpn)]; simp
          have HO := Lib.hid hown; have HV2 := Lib.hid hV; have HBL := Lib.hid hbl
          clear htk hpn hown hV hbl hw1
          go_wp2_with fail
          go_roundw
          case rel => exact ⟨k + 1, by omega, by go_num, by rw [HS.out]; exact HO.out, HV2.out, HBL.out⟩
          case measure => simp [intOf]; omega
      · obtain rfl : k = act.length := by omega
        rw [List.take_length] at hown
        go_wp2_with fail
        go_ret
        exact ⟨_, rfl, own_base hown (by omega), hbl⟩
end Go.Proofs.YtalbbjhonkcbgaaGreatDoor

/- The sum of two term lists: of the reference. -/
import Derived.Test.YtalbbjhonkcbgaaGreatDoorBase4
import Derived.Test.YtalbbjhonkcbgaaGreatDoorLCmp
namespace Go.Proofs.YtalbbjhonkcbgaaGreatDoor
open Go.RowKit Go.Sort

theorem mrg_left (a b : List (List Int)) (i k : Nat) (hi : i < a.length) (h : k = b.length ∨ ∃ hk : k < b.length, ltL a[i] b[k] = true) : mrg (a.drop i) (b.drop k) = a[i] :: mrg (a.drop (i + 1)) (b.drop k) := by
  rw [List.drop_eq_getElem_cons hi]
  rcases h with h | ⟨hk2, h⟩
  · rw [List.drop_of_length_le (l := b) (by omega), mrg_nil, mrg_nil]
  · rw [List.drop_eq_getElem_cons hk2, mrg, if_pos h]
theorem mrg_right (a b : List (List Int)) (i k : Nat) (hk : k < b.length) (h : i = a.length ∨ ∃ hi : i < a.length, ltL a[i] b[k] = false ∧ ltL b[k] a[i] = true) : mrg (a.drop i) (b.drop k) = b[k] :: mrg (a.drop i) (b.drop (k + 1)) := by
  rw [List.drop_eq_getElem_cons hk]
  rcases h with h | ⟨hi2, h1, h2⟩
  · rw [List.drop_of_length_le (l := a) (by omega), mrg, mrg]
  · rw [List.drop_eq_getElem_cons hi2, mrg, if_neg (by rw [h1]; decide), if_pos h2]
theorem mrg_both (a b : List (List Int)) (i k : Nat) (hi : i < a.length) (hk : k < b.length) (h1 : ltL a[i] b[k] = false) (h2 : ltL b[k] a[i] = false) : mrg (a.drop i) (b.drop k) = mrg (a.drop (i + 1)) (b.drop (k + 1)) := by
  rw [List.drop_eq_getElem_cons hi, List.drop_eq_getElem_cons hk, mrg, if_neg (by rw [h1]; decide), if_neg (by rw [h2]; decide)]
theorem quiet_at {P : Program} {f : FuncId} {args : Array Value} {w : World} {n : Nat} {v : Value}
    (h : Calls P f args (w.drewN n) fun e w' => e = .returned v ∧ ∃ m, w' = (w.drewN n).drewN m) : Calls P f args (w.drewN n) fun e w'' => e = .returned v ∧ ∃ m, w'' = w.drewN m :=
  h.mono fun _ _ ⟨he, m, hm⟩ => ⟨he, n + m, by rw [hm, World.drewN_drewN]⟩
set_option maxHeartbeats 1000000 in
theorem l01Sum_c (v u : Value) (a b : List (List Int)) (w : World) (h : IntSS w.heap v a) (hu : IntSS w.heap u b) (hl : a.length + b.length ≤ 4398046511104) (ha : ∀ r ∈ a, r.length ≤ 4398046511104) (hb : ∀ r ∈ b, r.length ≤ 4398046511104) :
    Calls Tryz.prog 123 #[v, u] w fun e w' => ∃ r, e = .returned r ∧ OwnII w' w.heap.size r (mrg a b) ∧ Below w.heap.size w w' := by
  obtain ⟨ao, c, rfl, hm⟩ := h.len
  obtain ⟨bo, d, rfl, hn⟩ := hu.len
  have HA := Lib.hid h; have HU := Lib.hid hu
  have HRA := Lib.hid (fun (i : Nat) (hi : i < a.length) => ha _ (List.getElem_mem hi)); have HRB := Lib.hid (fun (i : Nat) (hi : i < b.length) => hb _ (List.getElem_mem hi))
  have hml := mrg_length a b
  have HML := Lib.hid hml
  clear h hu ha hb hml
  go_enter Tryz.func123, Tryz.ntmps123
  go_wp2_with fail
  go_loopw [5, 6, 7] (fun o i k wr => ∃ (x y : Nat) (us : List Value) (os : List (List Int)), x ≤ a.length ∧ y ≤ b.length ∧ i = .int .i64 x ∧ k = .int .i64 y ∧ OwnU wr w.heap.size o us os ∧ Hid (os ++ mrg (a.drop x) (b.drop y) = mrg a b) ∧ Below w.heap.size w wr) (fun _ i k _ => (a.length - (intOf i).toNat) + (b.length - (intOf k).toNat))
  case atStart => exact ⟨0, 0, [], [], Nat.zero_le _, Nat.zero_le _, rfl, rfl, (ownII_empty (Nat.le_refl _)).elim fun us h => by have e : us = [] := List.eq_nil_of_length_eq_zero (by simpa using h.len); subst e; exact h, by simp [Hid], (Below.refl _ _).alloc (Nat.le_refl _) _⟩
  case round =>
    obtain ⟨x, y, us, os, hx, hy, rfl, rfl, hown, hos, hbl⟩ := hrel
    obtain ⟨va, vn, vc, rfl⟩ := own_shape hown.row
    have hol : os.length ≤ 4398046511104 := by
      have := congrArg List.length hos.out
      rw [List.length_append] at this
      have := HML.out
      omega
    have HO := Lib.hid hown; have HBL := Lib.hid hbl; have HSZ := Lib.hid hbl.size; have HOL := Lib.hid hol
    clear hown hbl hol
    by_cases hx2 : x < a.length
    · obtain ⟨b1, o1, c1, u1, hv1, hc1, hu1, -⟩ := HA.out.at x hx2
      simp only [Value.slice.injEq, true_and] at hv1
      obtain ⟨rfl, rfl⟩ := hv1
      have hcx := (HBL.out.cell (World.block_lt_of_cell? _ _ hc1)).trans hc1
      have HU1 := Lib.hid (hu1.same HBL.out.block)
      obtain ⟨ra1, rc1, rfl, -⟩ := hu1.len
      have HLA := Lib.hid (HRA.out x hx2)
      clear hc1 hu1
      by_cases hy2 : y < b.length
      · obtain ⟨b2, o2, c2, u2, hv2, hc2, hu2, -⟩ := HU.out.at y hy2
        simp only [Value.slice.injEq, true_and] at hv2
        obtain ⟨rfl, rfl⟩ := hv2
        have hcy := (HBL.out.cell (World.block_lt_of_cell? _ _ hc2)).trans hc2
        have HU2 := Lib.hid (hu2.same HBL.out.block)
        obtain ⟨ra2, rc2, rfl, -⟩ := hu2.len
        have HLB := Lib.hid (HRB.out y hy2)
        clear hc2 hu2
        have t0 := (neB (show (y : Int) ≠ (b.length : Int) by omega)).1
        have t0' := (neB (show (x : Int) ≠ (a.length : Int) by omega)).1
        have L1 := Lib.hid (fun (W : World) (h1 : IntS W.heap (.slice ra1 a[x].length rc1) a[x]) (h2 : IntS W.heap (.slice ra2 b[y].length rc2) b[y]) => l01Less_c _ _ a[x] b[y] W h1 h2)
        have L2 := Lib.hid (fun (W : World) (h1 : IntS W.heap (.slice ra2 b[y].length rc2) b[y]) (h2 : IntS W.heap (.slice ra1 a[x].length rc1) a[x]) => l01Less_c _ _ b[y] a[x] W h1 h2)
        cases h1 : ltL a[x] b[y]
        · cases h2 : ltL b[y] a[x]
          · have HS : Hid (os ++ mrg (a.drop (x + 1)) (b.drop (y + 1)) = mrg a b) := by show _ = _; rw [← hos.out, mrg_both a b x y hx2 hy2 h1 h2]
            rw [h1] at L1; rw [h2] at L2
            clear h1 h2 hos
            generalize a[x] = xs at *
            generalize b[y] = ys at *
            go_wp2_with fail
            go_quiet ((go_at_call 86; exact quiet_at (L1.out _ (by exact HU1.out) (by exact HU2.out))))
            go_wp2_with fail
            go_quiet ((go_at_call 86; exact quiet_behind (L2.out _ (by exact HU2.out) (by exact HU1.out))))
            go_wp2_with fail
            go_roundw
            case rel => exact ⟨x + 1, y + 1, _, _, by omega, by omega, by go_num, by go_num, HO.out.drewN _, HS.out, below_drewN _ HBL.out⟩
            case measure => simp [intOf]; omega
          · have HS : Hid ((os ++ [b[y]]) ++ mrg (a.drop x) (b.drop (y + 1)) = mrg a b) := by show _ = _; rw [← hos.out, mrg_right a b x y hy2 (.inr ⟨hx2, h1, h2⟩), List.append_assoc]; rfl
            rw [h1] at L1; rw [h2] at L2
            clear h1 h2 hos
            generalize a[x] = xs at *
            generalize b[y] = ys at *
            go_wp2_with fail
            go_quiet ((go_at_call 86; exact quiet_at (L1.out _ (by exact HU1.out) (by exact HU2.out))))
            go_wp2_with fail
            go_quiet ((go_at_call 86; exact quiet_behind (L2.out _ (by exact HU2.out) (by exact HU1.out))))
            go_wp2_with (first | (go_at_call 124; refine (l01Own_c _ _ _ (by exact HU2.out) HLB.out).mono ?_; rintro e w2 ⟨rv, rfl, hR2, hb2⟩; obtain ⟨ra, rn, rc, rfl⟩ := own_shape hR2) | (at_builtin; refine append_rowU rfl _ _ rfl w.heap.size _ _ us os _ (HO.out.drewN _) rfl hR2 hb2 (below_drewN _ HBL.out) HSZ.out _ rfl rfl HOL.out ?_; intro v3 w3 hU3 hb3 _ _ _ _; obtain ⟨sa, sn, sc, rfl⟩ := own_shape hU3.row))
            go_roundw
            case rel => exact ⟨x, y + 1, _, _, hx, by omega, rfl, by go_num, hU3, HS.out, hb3⟩
            case measure => simp [intOf]; omega
        · have HS : Hid ((os ++ [a[x]]) ++ mrg (a.drop (x + 1)) (b.drop y) = mrg a b) := by show _ = _; rw [← hos.out, mrg_left a b x y hx2 (.inr ⟨hy2, h1⟩), List.append_assoc]; rfl
          rw [h1] at L1
          clear h1 hos L2
          generalize a[x] = xs at *
          generalize b[y] = ys at *
          go_wp2_with fail
          go_quiet ((go_at_call 86; exact quiet_at (L1.out _ (by exact HU1.out) (by exact HU2.out))))
          go_wp2_with (first | (go_at_call 124; refine (l01Own_c _ _ _ (by exact HU1.out) HLA.out).mono ?_; rintro e w2 ⟨rv, rfl, hR2, hb2⟩; obtain ⟨ra, rn, rc, rfl⟩ := own_shape hR2) | (at_builtin; refine append_rowU rfl _ _ rfl w.heap.size _ _ us os _ (HO.out.drewN _) rfl hR2 hb2 (below_drewN _ HBL.out) HSZ.out _ rfl rfl HOL.out ?_; intro v3 w3 hU3 hb3 _ _ _ _; obtain ⟨sa, sn, sc, rfl⟩ := own_shape hU3.row))
          go_roundw
          case rel => exact ⟨x + 1, y, _, _, by omega, hy, by go_num, rfl, hU3, HS.out, hb3⟩
          case measure => simp [intOf]; omega
      · obtain rfl : y = b.length := by omega
        have HS : Hid ((os ++ [a[x]]) ++ mrg (a.drop (x + 1)) (b.drop b.length) = mrg a b) := by show _ = _; rw [← hos.out, mrg_left a b x b.length hx2 (.inl rfl), List.append_assoc]; rfl
        have t0 : ((b.length : Int) == (b.length : Int)) = true := by simp
        clear hos
        generalize a[x] = xs at *
        go_wp2_with fail
        go_quiet (fail)
        go_wp2_with (first | (go_at_call 124; refine (l01Own_c _ _ _ (by exact HU1.out) HLA.out).mono ?_; rintro e w2 ⟨rv, rfl, hR2, hb2⟩; obtain ⟨ra, rn, rc, rfl⟩ := own_shape hR2) | (at_builtin; refine append_rowU rfl _ _ rfl w.heap.size _ _ us os _ (HO.out.drewN _) rfl hR2 hb2 (below_drewN _ HBL.out) HSZ.out _ rfl rfl HOL.out ?_; intro v3 w3 hU3 hb3 _ _ _ _; obtain ⟨sa, sn, sc, rfl⟩ := own_shape hU3.row))
        go_roundw
        case rel => exact ⟨x + 1, b.length, _, _, by omega, hy, by go_num, rfl, hU3, HS.out, hb3⟩
        case measure => simp [intOf]; omega
    · obtain rfl : x = a.length := by omega
      by_cases hy2 : y < b.length
      · obtain ⟨b2, o2, c2, u2, hv2, hc2, hu2, -⟩ := HU.out.at y hy2
        simp only [Value.slice.injEq, true_and] at hv2
        obtain ⟨rfl, rfl⟩ := hv2
        have hcy := (HBL.out.cell (World.block_lt_of_cell? _ _ hc2)).trans hc2
        have HU2 := Lib.hid (hu2.same HBL.out.block)
        obtain ⟨ra2, rc2, rfl, -⟩ := hu2.len
        have HLB := Lib.hid (HRB.out y hy2)
        clear hc2 hu2
        have HS : Hid ((os ++ [b[y]]) ++ mrg (a.drop a.length) (b.drop (y + 1)) = mrg a b) := by show _ = _; rw [← hos.out, mrg_right a b a.length y hy2 (.inl rfl), List.append_assoc]; rfl
        have t0 := (neB (show (y : Int) ≠ (b.length : Int) by omega)).1
        have t0' : ((a.length : Int) == (a.length : Int)) = true := by simp
        have t1 : decide (a.length < a.length) = false := by simp
        clear hos
        generalize b[y] = ys at *
        go_wp2_with fail
        go_quiet (fail)
        go_wp2_with fail
        go_quiet (fail)
        go_wp2_with (first | (go_at_call 124; refine (l01Own_c _ _ _ (by exact HU2.out) HLB.out).mono ?_; rintro e w2 ⟨rv, rfl, hR2, hb2⟩; obtain ⟨ra, rn, rc, rfl⟩ := own_shape hR2) | (at_builtin; refine append_rowU rfl _ _ rfl w.heap.size _ _ us os _ (HO.out.drewN _) rfl hR2 hb2 (below_drewN _ HBL.out) HSZ.out _ rfl rfl HOL.out ?_; intro v3 w3 hU3 hb3 _ _ _ _; obtain ⟨sa, sn, sc, rfl⟩ := own_shape hU3.row))
        go_roundw
        case rel => exact ⟨a.length, y + 1, _, _, hx, by omega, rfl, by go_num, hU3, HS.out, hb3⟩
        case measure => simp [intOf]; omega
      · obtain rfl : y = b.length := by omega
        have e : os = mrg a b := by have := hos.out; rw [List.drop_length, List.drop_length, mrg, List.append_nil] at this; exact this
        subst e
        have t1 : decide (a.length < a.length) = false := by simp
        have t2 : decide (b.length < b.length) = false := by simp
        go_wp2_with fail
        go_ret
        exact ⟨_, rfl, ⟨us, HO.out⟩, HBL.out⟩
end Go.Proofs.YtalbbjhonkcbgaaGreatDoor

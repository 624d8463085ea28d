/- Products of dual elements: of the program and of the reference. -/
import Derived.Test.YtmnkccjddahcjaaGreatLJoin
import Derived.Test.YtmnkccjddahcjaaGreatLOdd2
import Derived.Test.YtmnkccjddahcjaaGreatLHeld2
namespace Go.Proofs.YtmnkccjddahcjaaGreat
open Go.RowKit Go.Sort

/-- All sums of a list of a and one of b, in order. -/
def joinsL (a b : List (List Int)) : List (List Int) := a.flatMap fun r => b.map fun s => joinL r s
theorem joinsL_take (a b : List (List Int)) (i : Nat) (h : i < a.length) : joinsL (a.take (i + 1)) b = joinsL (a.take i) b ++ b.map (joinL a[i]) := by
  unfold joinsL
  rw [List.take_succ_eq_append_getElem h, List.flatMap_append]
  simp
theorem joinsL_length (a b : List (List Int)) : (joinsL a b).length = a.length * b.length := by
  unfold joinsL
  induction a with
  | nil => simp
  | cons x a ih => rw [List.flatMap_cons, List.length_append, ih, List.length_map, List.length_cons, Nat.add_mul]; omega
theorem mem_joinsL {a b : List (List Int)} {z : List Int} (h : z ∈ joinsL a b) : ∃ r ∈ a, ∃ s ∈ b, z = joinL r s := by
  simp only [joinsL, List.mem_flatMap, List.mem_map] at h
  obtain ⟨r, hr, s, hs, rfl⟩ := h
  exact ⟨r, hr, s, hs, rfl⟩
/-- Lists whose numbers are small, and that are not long. -/
def SmS (b : Int) (l : Nat) (a : List (List Int)) : Prop := ∀ r ∈ a, Sm b r ∧ r.length ≤ l
theorem SmS.joins {b c : Int} {l : Nat} {x y : List (List Int)} (h : SmS b l x) (k : SmS c l y) (hb : 0 ≤ b) (hc : 0 ≤ c) : SmS (b + c) l (joinsL x y) := by
  intro z hz
  obtain ⟨r, hr, s, hs, rfl⟩ := mem_joinsL hz
  refine ⟨(h r hr).1.join (k s hs).1 hb hc, ?_⟩
  have := (h r hr).2; have := (k s hs).2
  rw [joinL_length]; omega
theorem mem_oddL_sub {z : List Int} {l : List (List Int)} (h : z ∈ oddL l) : z ∈ l := by
  rw [mem_oddL] at h
  exact List.count_pos_iff.1 (by omega)
theorem SmS.odd {b : Int} {l : Nat} {x : List (List Int)} (h : SmS b l x) : SmS b l (oddL x) := fun z hz => h z (mem_oddL_sub hz)
theorem mrg_one (l : List (List Int)) (x : List Int) : mrg (oddL l) [x] = oddL (l ++ [x]) := by
  rw [mrg_odd (asc_oddL l) (List.pairwise_singleton ..), ← oddL_append]
theorem one_row {W : World} {u : Value} {xs : List Int} (h : IntS W.heap u xs) : IntSS (W.alloc (.cells #[u] 56)).heap (.slice (some ⟨W.heap.size, 0, none⟩) 1 1) [xs] :=
  (ref_one (B := W.heap.size) h (Nat.le_refl _)).ints (alloc_old W _)
theorem below_alloc_mono {w w' : World} {o : Obj} (h : Below (w.alloc o).heap.size (w.alloc o) w') : Below w.heap.size w w' :=
  ((Below.refl w.heap.size w).alloc (Nat.le_refl _) o).trans (h.mono (by simp))
set_option maxRecDepth 100000 in
set_option maxHeartbeats 1000000 in
theorem multiplyDual_of (SO : SortOk) (v u : Value) (a b : List (List Int)) (w : World) (h : IntSS w.heap v a) (hu : IntSS w.heap u b) (ha : SmS 1000000000000000 4398046511104 a) (hb : SmS 1000000000000000 4398046511104 b) (hl : a.length * b.length ≤ 4398046511104) :
    Calls Tryz.prog 129 #[v, u] w fun e w' => ∃ r us, e = .returned r ∧ OwnU w' w.heap.size r us (oddL (joinsL a b)) ∧ Below w.heap.size w w' := by
  have O := Lib.hid (fun (v : Value) (W : World) (h : IntSS W.heap v (joinsL a b)) => oddOnes_of SO v (joinsL a b) W h (by rw [joinsL_length]; exact hl) (fun x hx => ((ha.joins hb (by omega) (by omega)) x hx).2))
  obtain ⟨ao, c, rfl, hla⟩ := h.len
  obtain ⟨bo, d, rfl, hlb⟩ := hu.len
  have H := Lib.hid h; have HU := Lib.hid hu
  have HA := Lib.hid ha; have HB := Lib.hid hb; have HL := Lib.hid hl
  clear h hu ha hb hl SO
  go_enter Tryz.func129, Tryz.ntmps129
  go_wp2_with fail
  go_loopw [5, 13] (fun o i wr => ∃ (x : Nat) (us : List Value), x ≤ a.length ∧ i = .int .i64 x ∧ OwnU wr w.heap.size o us (joinsL (a.take x) b) ∧ Below w.heap.size w wr) (fun _ i _ => a.length - (intOf i).toNat)
  case atStart => exact ⟨0, [], Nat.zero_le _, rfl, ⟨World.ownsRow_made w #[] 0 (Nat.le_refl _) (Nat.zero_le _) rfl, fun i u xs hu => by simp at hu, fun i j u u' _ hu => by simp at hu⟩, (Below.refl _ _).alloc (Nat.le_refl _) _⟩
  case round =>
    obtain ⟨x, us, hx, rfl, hU, hbl⟩ := hrel
    obtain ⟨va, vn, vc, rfl⟩ := own_shape hU.row
    have HO := Lib.hid hU; have HBL := Lib.hid hbl
    clear hU hbl
    by_cases hxl : x < a.length
    · obtain ⟨b1, o1, c1, u1, hv1, hc1, hu1, -⟩ := H.out.at x hxl
      simp only [Value.slice.injEq, true_and] at hv1
      obtain ⟨rfl, rfl⟩ := hv1
      have hcx := (HBL.out.cell (World.block_lt_of_cell? _ _ hc1)).trans hc1
      have HU1 := Lib.hid hu1
      obtain ⟨ua, uc, rfl, -⟩ := hu1.len
      have HRX := Lib.hid (HA.out _ (List.getElem_mem hxl))
      have HSX := Lib.hid (joinsL_take a b x hxl)
      have HLX : Hid (∀ y, y < b.length → (joinsL (a.take x) b ++ (b.take y).map (joinL a[x])).length ≤ 4398046511104) := fun y hy => by
        rw [List.length_append, joinsL_length, List.length_map, List.length_take, List.length_take, Nat.min_eq_left hx, Nat.min_eq_left (by omega)]
        have h1 : (x + 1) * b.length ≤ a.length * b.length := Nat.mul_le_mul_right _ (by omega)
        rw [Nat.add_mul] at h1
        have := HL.out; omega
      clear hc1 hu1
      generalize a[x] = r at *
      go_wp2_with fail
      go_loopw [5, 19] (fun o j wk => ∃ (y : Nat) (us : List Value), y ≤ b.length ∧ j = .int .i64 y ∧ OwnU wk w.heap.size o us (joinsL (a.take x) b ++ (b.take y).map (joinL r)) ∧ Below w.heap.size w wk) (fun _ j _ => b.length - (intOf j).toNat)
      case atStart => exact ⟨0, us, Nat.zero_le _, rfl, by simpa using HO.out, HBL.out⟩
      case round =>
        obtain ⟨y, us2, hy, rfl, hU2, hbl2⟩ := hrel
        obtain ⟨ta, tn, tc, rfl⟩ := own_shape hU2.row
        have HO2 := Lib.hid hU2; have HBL2 := Lib.hid hbl2
        clear hU2 hbl2
        by_cases hyl : y < b.length
        · obtain ⟨b2, o2, c2, u2, hv2, hc2, hu2, -⟩ := HU.out.at y hyl
          simp only [Value.slice.injEq, true_and] at hv2
          obtain ⟨rfl, rfl⟩ := hv2
          have hcy := (HBL2.out.cell (World.block_lt_of_cell? _ _ hc2)).trans hc2
          have HU2 := Lib.hid hu2
          obtain ⟨ub, ud, rfl, -⟩ := hu2.len
          have HRY := Lib.hid (HB.out _ (List.getElem_mem hyl))
          have HLY := Lib.hid (HLX.out y hyl)
          have HS2 : Hid (joinsL (a.take x) b ++ (b.take (y + 1)).map (joinL r) = (joinsL (a.take x) b ++ (b.take y).map (joinL r)) ++ [joinL r b[y]]) := by
            show _ = _
            rw [List.take_succ_eq_append_getElem hyl, List.map_append, List.append_assoc]; rfl
          clear hc2 hu2
          generalize b[y] = s at *
          go_wp2_with (first | (go_at_call 203; refine (added_c _ _ r s _ (HU1.out.same HBL2.out.block) (HU2.out.same HBL2.out.block) HRX.out.1 HRY.out.1 HRX.out.2 HRY.out.2).mono ?_; rintro e w2 ⟨rv, rfl, hR2, hb2⟩; obtain ⟨ra, rn, rc, rfl⟩ := own_shape hR2) | (at_builtin; refine append_rowU rfl _ _ rfl w.heap.size _ _ us2 _ _ HO2.out rfl hR2 hb2 HBL2.out HBL2.out.size _ rfl rfl HLY.out ?_; intro v3 w3 hU3 hb3 _ _ _ _; obtain ⟨sa, sn, sc, rfl⟩ := own_shape hU3.row))
          go_roundw
          case rel => exact ⟨y + 1, _, by omega, by go_num, by rw [HS2.out]; exact hU3, hb3⟩
          case measure => simp [intOf]; omega
        · obtain rfl : y = b.length := by omega
          rw [List.take_length, ← HSX.out] at HO2
          go_wp2_with fail
          go_roundw
          case rel => exact ⟨x + 1, us2, by omega, by go_num, HO2.out, HBL2.out⟩
          case measure => simp [intOf]; omega
    · obtain rfl : x = a.length := by omega
      rw [List.take_length] at HO
      go_wp2_with (go_at_call 107; refine (O.out _ _ HO.out.ints).mono ?_; rintro e w2 ⟨r2, us2, rfl, hU2, hb2⟩; obtain ⟨sa, sn, sc, rfl⟩ := own_shape hU2.row)
      go_ret
      exact ⟨_, _, rfl, own_u_base hU2 HBL.out.size, HBL.out.trans (hb2.mono HBL.out.size)⟩
set_option maxRecDepth 100000 in
set_option maxHeartbeats 1000000 in
theorem l06Times_c (v u : Value) (a b : List (List Int)) (w : World) (h : IntSS w.heap v a) (hu : IntSS w.heap u b) (ha : SmS 1000000000000000 4398046511104 a) (hb : SmS 1000000000000000 4398046511104 b) (hl : a.length * b.length ≤ 4398046511104) :
    Calls Tryz.prog 242 #[v, u] w fun e w' => ∃ r us, e = .returned r ∧ OwnU w' w.heap.size r us (oddL (joinsL a b)) ∧ Below w.heap.size w w' := by
  obtain ⟨ao, c, rfl, hla⟩ := h.len
  obtain ⟨bo, d, rfl, hlb⟩ := hu.len
  have H := Lib.hid h; have HU := Lib.hid hu
  have HA := Lib.hid ha; have HB := Lib.hid hb; have HL := Lib.hid hl
  clear h hu ha hb hl
  go_enter Tryz.func242, Tryz.ntmps242
  go_wp2_with fail
  go_loopw [5, 6] (fun o i wr => ∃ (x : Nat) (us : List Value), x ≤ a.length ∧ i = .int .i64 x ∧ OwnU wr w.heap.size o us (oddL (joinsL (a.take x) b)) ∧ Below w.heap.size w wr) (fun _ i _ => a.length - (intOf i).toNat)
  case atStart => exact ⟨0, [], Nat.zero_le _, rfl, ⟨World.ownsRow_made w #[] 0 (Nat.le_refl _) (Nat.zero_le _) rfl, fun i u xs hu => by simp at hu, fun i j u u' _ hu => by simp at hu⟩, (Below.refl _ _).alloc (Nat.le_refl _) _⟩
  case round =>
    obtain ⟨x, us, hx, rfl, hU, hbl⟩ := hrel
    obtain ⟨va, vn, vc, rfl⟩ := own_shape hU.row
    have HO := Lib.hid hU; have HBL := Lib.hid hbl
    clear hU hbl
    by_cases hxl : x < a.length
    · obtain ⟨b1, o1, c1, u1, hv1, hc1, hu1, -⟩ := H.out.at x hxl
      simp only [Value.slice.injEq, true_and] at hv1
      obtain ⟨rfl, rfl⟩ := hv1
      have HCX := Lib.hid hc1
      have HU1 := Lib.hid hu1
      obtain ⟨ua, uc, rfl, -⟩ := hu1.len
      have HRX := Lib.hid (HA.out _ (List.getElem_mem hxl))
      have HSX := Lib.hid (joinsL_take a b x hxl)
      have HLX : Hid (∀ y, y < b.length → (joinsL (a.take x) b ++ (b.take y).map (joinL a[x])).length + 1 ≤ 4398046511104) := fun y hy => by
        rw [List.length_append, joinsL_length, List.length_map, List.length_take, List.length_take, Nat.min_eq_left hx, Nat.min_eq_left (by omega)]
        have h1 : (x + 1) * b.length ≤ a.length * b.length := Nat.mul_le_mul_right _ (by omega)
        rw [Nat.add_mul] at h1
        have := HL.out; omega
      have HTX : Hid (∀ y, SmS 2000000000000000 4398046511104 (joinsL (a.take x) b ++ (b.take y).map (joinL a[x]))) := fun y z hz => by
        refine HA.out.joins HB.out (by omega) (by omega) z ?_
        rw [List.mem_append] at hz
        rcases hz with hz | hz
        · obtain ⟨r, hr, s, hs, rfl⟩ := mem_joinsL hz
          exact List.mem_flatMap.2 ⟨r, List.mem_of_mem_take hr, List.mem_map.2 ⟨s, hs, rfl⟩⟩
        · obtain ⟨s, hs, rfl⟩ := List.mem_map.1 hz
          exact List.mem_flatMap.2 ⟨_, List.getElem_mem hxl, List.mem_map.2 ⟨s, List.mem_of_mem_take hs, rfl⟩⟩
      have hxi : (x : Int) < a.length := by omega
      clear hc1 hu1
      generalize a[x] = r at *
      go_wp2_with fail
      go_loopw [5, 7] (fun o j wk => ∃ (y : Nat) (us : List Value), y ≤ b.length ∧ j = .int .i64 y ∧ OwnU wk w.heap.size o us (oddL (joinsL (a.take x) b ++ (b.take y).map (joinL r))) ∧ Below w.heap.size w wk) (fun _ j _ => b.length - (intOf j).toNat)
      case atStart => exact ⟨0, us, Nat.zero_le _, rfl, by simpa using HO.out, HBL.out⟩
      case round =>
        obtain ⟨y, us2, hy, rfl, hU2, hbl2⟩ := hrel
        obtain ⟨ta, tn, tc, rfl⟩ := own_shape hU2.row
        have HO2 := Lib.hid hU2; have HBL2 := Lib.hid hbl2
        clear hU2 hbl2
        by_cases hyl : y < b.length
        · obtain ⟨b2, o2, c2, u2, hv2, hc2, hu2, -⟩ := HU.out.at y hyl
          simp only [Value.slice.injEq, true_and] at hv2
          obtain ⟨rfl, rfl⟩ := hv2
          have hcx := (HBL2.out.cell (World.block_lt_of_cell? _ _ HCX.out)).trans HCX.out
          have hcy := (HBL2.out.cell (World.block_lt_of_cell? _ _ hc2)).trans hc2
          have HU2 := Lib.hid hu2
          obtain ⟨ub, ud, rfl, -⟩ := hu2.len
          have HRY := Lib.hid (HB.out _ (List.getElem_mem hyl))
          have HLY := Lib.hid (HLX.out y hyl)
          have HTY := Lib.hid (HTX.out y)
          have HS2 : Hid (joinsL (a.take x) b ++ (b.take (y + 1)).map (joinL r) = (joinsL (a.take x) b ++ (b.take y).map (joinL r)) ++ [joinL r b[y]]) := by
            show _ = _
            rw [List.take_succ_eq_append_getElem hyl, List.map_append, List.append_assoc]; rfl
          have hyi : (y : Int) < b.length := by omega
          clear hc2 hu2
          generalize b[y] = s at *
          generalize joinsL (a.take x) b ++ (b.take y).map (joinL r) = os at *
          have HLZ : Hid ((oddL os).length + [joinL r s].length ≤ 4398046511104) := by show _ ≤ _; have := oddL_length os; have := HLY.out; simp; omega
          have HTZ : Hid (∀ z ∈ oddL os, z.length ≤ 4398046511104) := fun z hz => (HTY.out.odd z hz).2
          have HJZ : Hid (∀ z ∈ [joinL r s], z.length ≤ 4398046511104) := fun z hz => by rw [List.mem_singleton] at hz; rw [hz, joinL_length]; have := HRX.out.2; have := HRY.out.2; omega
          go_wp2_with fail
          go_region_held3 (fun W => W.cell? ⟨b1, o1 + x, none⟩ = some (.slice ua r.length uc) ∧ W.cell? ⟨b2, o2 + y, none⟩ = some (.slice ub s.length ud) ∧ Below wr.heap.size wr W)
            (first | exact ⟨hcx, hcy, (Below.refl _ _).drew⟩ | exact heldC2 (by assumption) hx | exact heldC2A (by assumption) _)
            (first | (go_at_call 224; refine Calls.mono (l06Join_c _ _ r s _ (HU1.out.same (HBL2.out.trans ((heldC2X (by assumption)).mono HBL2.out.size)).block) (HU2.out.same (HBL2.out.trans ((heldC2X (by assumption)).mono HBL2.out.size)).block) HRX.out.1 HRY.out.1 HRX.out.2 HRY.out.2) ?_; rintro e W3 ⟨rv, rfl, hR2, hx⟩; obtain ⟨ra, rn, rc, rfl⟩ := own_shape hR2) | (go_at_call 101; refine Calls.mono (l01Sum_c _ _ (oddL os) [joinL r s] _ (HO2.out.ints.same (heldC2X (by assumption)).block) (one_row hR2.ints) HLZ.out HTZ.out HJZ.out) ?_; rintro e W4 ⟨rw3, rfl, ⟨us3, hU3⟩, hx⟩; obtain ⟨sa, sn, sc, rfl⟩ := own_shape hU3.row))
          all_goals
            rename_i hx3 hh
            rw [mrg_one] at hU3
            have hz3 : wr.heap.size ≤ W3.heap.size := hx3.size
            have HB4 := Lib.hid (HBL2.out.trans (hh.2.2.mono HBL2.out.size))
            have HU4 := Lib.hid (own_u_base (B' := w.heap.size) hU3 (by have := HBL2.out.size; simp; omega))
            clear hh hx hU3 hR2 hcx hcy hx3 hz3
            go_wp2_with fail
            go_roundw
            case rel => exact ⟨y + 1, us3, by omega, by go_num, by rw [HS2.out]; exact HU4.out, HB4.out⟩
            case measure => simp [intOf]; omega
        · obtain rfl : y = b.length := by omega
          rw [List.take_length, ← HSX.out] at HO2
          go_wp2_with fail
          go_roundw
          case rel => exact ⟨x + 1, us2, by omega, by go_num, HO2.out, HBL2.out⟩
          case measure => simp [intOf]; omega
    · obtain rfl : x = a.length := by omega
      rw [List.take_length] at HO
      go_wp2_with fail
      go_ret
      exact ⟨_, _, rfl, HO.out, HBL.out⟩
end Go.Proofs.YtmnkccjddahcjaaGreat

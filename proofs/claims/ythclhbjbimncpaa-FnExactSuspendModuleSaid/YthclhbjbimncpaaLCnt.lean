/- CountsOfModule, of the program and of the reference. -/
import Derived.Test.YthclhbjbimncpaaLModArg
namespace Go.Proofs.Ythclhbjbimncpaa
open Go.RowKit Go.Sort

def cntD (ds : List Int) : List Int := (List.range 21).map fun (i : Nat) => (((ds.filter fun x => x == (i : Int)).length : Nat) : Int)
theorem cntD_len (ds : List Int) : (cntD ds).length = 21 := by simp [cntD]
theorem cntD_at (ds : List Int) (i : Nat) (h : i < 21) : (cntD ds).getD i 0 = (((ds.filter fun x => x == (i : Int)).length : Nat) : Int) := by simp [cntD, h]
theorem cntD_take (ds : List Int) (k i : Nat) (hk : k < ds.length) (hi : i < 21) (h : ds.getD k 0 = i) : (cntD (ds.take k)).set i ((cntD (ds.take k)).getD i 0 + 1) = cntD (ds.take (k + 1)) := by
  rw [show ds.getD k 0 = ds[k] by simp [hk]] at h
  apply List.ext_getElem?
  intro j
  by_cases hj : j < 21
  · rw [List.take_succ_eq_append_getElem hk]
    by_cases e : i = j
    · subst e
      rw [List.getElem?_set_self (by rw [cntD_len]; omega), cntD_at _ _ hi]
      simp only [cntD, List.getElem?_map, List.getElem?_range hi, Option.map_some, List.filter_append, List.length_append, h]
      simp
    · rw [List.getElem?_set_ne e]
      simp only [cntD, List.getElem?_map, List.getElem?_range hj, Option.map_some, List.filter_append, List.length_append, h]
      have : ((i : Int) == (j : Int)) = false := by simp; omega
      simp [this]
  · rw [List.getElem?_eq_none (by rw [List.length_set, cntD_len]; omega), List.getElem?_eq_none (by rw [cntD_len]; omega)]
theorem cntD_le (ds : List Int) (k i : Nat) (h : i < 21) : 0 ≤ (cntD (ds.take k)).getD i 0 ∧ (cntD (ds.take k)).getD i 0 ≤ k := by
  rw [cntD_at _ _ h]
  have := List.length_filter_le (fun x => x == (i : Int)) (ds.take k)
  rw [List.length_take] at this
  omega
theorem made_cnt (w : World) : OwnI (w.alloc (.cells (madeCells #[.int .i64 0] 21) 2)) w.heap.size (.slice (some ⟨w.heap.size, 0, none⟩) 21 21) (cntD []) := by
  have := made_own w w.heap.size 2 21 (.int .i64 0) (Nat.le_refl _) (by omega)
  unfold OwnI
  rw [cntD_len]
  simpa [cntD, List.map_const'] using this
set_option maxRecDepth 100000 in
theorem counts_c (v : Value) (ds : List Int) (w : World) (h : IntS w.heap v ds) (h1 : ∀ i, i < ds.length → 0 ≤ ds.getD i 0 ∧ ds.getD i 0 ≤ 20) (hl : ds.length ≤ 16) :
    Calls Try.prog 123 #[v] w fun e w' => ∃ r, e = .returned r ∧ OwnI w' w.heap.size r (cntD ds) ∧ Below w.heap.size w w' := by
  have hmk := fun w => make_run (P := Try.prog) 25 2 _ 8 info_int64 Try.underlying25 rfl (by omega) 21 (by omega) .i64 .i64 21 21 rfl rfl w
  obtain ⟨ao, c, rfl, -⟩ := h.len
  have H := Lib.hid h; have H1 := Lib.hid h1; clear h h1
  go_enter Try.func123, Try.ntmps123
  go_wp2_with fail
  clear hmk
  go_loopw [9] (fun i wr => ∃ k : Nat, k ≤ ds.length ∧ i = .int .i64 k ∧ OwnI wr w.heap.size (.slice (some ⟨w.heap.size, 0, none⟩) 21 21) (cntD (ds.take k)) ∧ Below w.heap.size w wr) (fun i _ => ds.length - (intOf i).toNat)
  case atStart => exact ⟨0, Nat.zero_le _, rfl, made_cnt w, (Below.refl _ _).alloc (Nat.le_refl _) _⟩
  case round =>
    obtain ⟨k, hk, rfl, hown, hbl⟩ := hrel
    by_cases hlt : k < ds.length
    · obtain ⟨b1, o1, c1, hv1, hc1, -⟩ := H.out.at k hlt
      simp only [Value.slice.injEq, true_and] at hv1
      obtain ⟨rfl, rfl⟩ := hv1
      rw [← getD_at'] at hc1
      have hx := H1.out k hlt
      obtain ⟨x, hxe⟩ : ∃ x : Nat, ds.getD k 0 = x := ⟨(ds.getD k 0).toNat, by omega⟩
      have hc := (hbl.cell (World.block_lt_of_cell? _ _ hc1)).trans hc1
      rw [hxe] at hc hx
      have hx21 : x < 21 := by omega
      have HS := Lib.hid (cntD_take ds k x hlt hx21 hxe)
      have hle := cntD_le ds k x hx21
      have hrow : wr.ownsRow w.heap.size 2 1 (.slice (some ⟨w.heap.size, 0, none⟩) 21 21) 21 ((cntD (ds.take k)).map (Value.int .i64)) := by unfold OwnI at hown; rwa [cntD_len] at hown
      have hcc := own_int_at hrow x hx21
      have hf := hrow.frozenAt x
      have hst := own_int_set hrow x ((cntD (ds.take k)).getD x 0 + 1)
      rw [HS.out] at hst
      have hbl' := hbl.setCell (p := ⟨w.heap.size, x, none⟩) (Nat.le_refl _) (.int .i64 ((cntD (ds.take k)).getD x 0 + 1))
      have G := Lib.hid (And.intro hst hbl')
      clear hst hbl' hown hbl hrow hxe hc1 HS
      generalize (cntD (ds.take k)).getD x 0 = y at *
      have hxi : (x : Int) < 21 := by omega
      go_wp2_with fail
      first | go_roundw | (go_region_law (fail); all_goals (go_wp2_with fail; go_roundw))
      case rel => exact ⟨k + 1, by omega, by go_num, by unfold OwnI; rw [cntD_len]; exact own_same G.out.1 (fun _ _ => rfl), by first | exact G.out.2 | exact below_drewN 1 G.out.2⟩
      case measure => simp [intOf]; omega
    · obtain rfl : k = ds.length := by omega
      rw [List.take_length] at hown
      go_wp2_with fail
      go_ret
      exact ⟨_, rfl, hown, hbl⟩
set_option maxRecDepth 100000 in
theorem l11Counts_c (v : Value) (ds : List Int) (w : World) (h : IntS w.heap v ds) (h1 : ∀ i, i < ds.length → 0 ≤ ds.getD i 0 ∧ ds.getD i 0 ≤ 20) (hl : ds.length ≤ 16) :
    Calls Try.prog 122 #[v] w fun e w' => ∃ r, e = .returned r ∧ OwnI w' w.heap.size r (cntD ds) ∧ Below w.heap.size w w' := by
  have hmk := fun w => make_run (P := Try.prog) 25 2 _ 8 info_int64 Try.underlying25 rfl (by omega) 21 (by omega) .i64 .i64 21 21 rfl rfl w
  obtain ⟨ao, c, rfl, -⟩ := h.len
  have H := Lib.hid h; have H1 := Lib.hid h1; clear h h1
  go_enter Try.func122, Try.ntmps122
  go_wp2_with fail
  clear hmk
  go_loopw [4] (fun i wr => ∃ k : Nat, k ≤ ds.length ∧ i = .int .i64 k ∧ OwnI wr w.heap.size (.slice (some ⟨w.heap.size, 0, none⟩) 21 21) (cntD (ds.take k)) ∧ Below w.heap.size w wr) (fun i _ => ds.length - (intOf i).toNat)
  case atStart => exact ⟨0, Nat.zero_le _, rfl, made_cnt w, (Below.refl _ _).alloc (Nat.le_refl _) _⟩
  case round =>
    obtain ⟨k, hk, rfl, hown, hbl⟩ := hrel
    by_cases hlt : k < ds.length
    · obtain ⟨b1, o1, c1, hv1, hc1, -⟩ := H.out.at k hlt
      simp only [Value.slice.injEq, true_and] at hv1
      obtain ⟨rfl, rfl⟩ := hv1
      rw [← getD_at'] at hc1
      have hx := H1.out k hlt
      obtain ⟨x, hxe⟩ : ∃ x : Nat, ds.getD k 0 = x := ⟨(ds.getD k 0).toNat, by omega⟩
      have hc := (hbl.cell (World.block_lt_of_cell? _ _ hc1)).trans hc1
      rw [hxe] at hc hx
      have hx21 : x < 21 := by omega
      have HS := Lib.hid (cntD_take ds k x hlt hx21 hxe)
      have hle := cntD_le ds k x hx21
      have hrow : wr.ownsRow w.heap.size 2 1 (.slice (some ⟨w.heap.size, 0, none⟩) 21 21) 21 ((cntD (ds.take k)).map (Value.int .i64)) := by unfold OwnI at hown; rwa [cntD_len] at hown
      have hcc := own_int_at hrow x hx21
      have hf := hrow.frozenAt x
      have hst := own_int_set hrow x ((cntD (ds.take k)).getD x 0 + 1)
      rw [HS.out] at hst
      have hbl' := hbl.setCell (p := ⟨w.heap.size, x, none⟩) (Nat.le_refl _) (.int .i64 ((cntD (ds.take k)).getD x 0 + 1))
      have G := Lib.hid (And.intro hst hbl')
      clear hst hbl' hown hbl hrow hxe hc1 HS
      generalize (cntD (ds.take k)).getD x 0 = y at *
      have hxi : (x : Int) < 21 := by omega
      go_wp2_with fail
      first | go_roundw | (go_region_law (fail); all_goals (go_wp2_with fail; go_roundw))
      case rel => exact ⟨k + 1, by omega, by go_num, by unfold OwnI; rw [cntD_len]; exact own_same G.out.1 (fun _ _ => rfl), by first | exact G.out.2 | exact below_drewN 1 G.out.2⟩
      case measure => simp [intOf]; omega
    · obtain rfl : k = ds.length := by omega
      rw [List.take_length] at hown
      go_wp2_with fail
      go_ret
      exact ⟨_, rfl, hown, hbl⟩
def cmL (ds : List Int) (act : List (List Int)) : List Int := if isMod ds act then cntD ds else []
def cmC (ds : List Int) (act : List (List Int)) : Int := if isMod ds act then 0 else 1
theorem cmL_len (ds : List Int) (act : List (List Int)) : (cmL ds act).length ≤ 21 := by
  unfold cmL; split
  · rw [cntD_len]; omega
  · simp
theorem isMod_T {ds : List Int} {act : List (List Int)} (h : isMod ds act = true) : modT ds act = true := by
  simp only [isMod, Bool.and_eq_true] at h; exact h.1
set_option maxRecDepth 100000 in
theorem implCountsOfModule_c (d a : Value) (ds : List Int) (act : List (List Int)) (w : World) (h : ModS w.heap d a ds act) :
    Calls Try.prog 64 #[.agg #[d, a]] w fun e w' => ∃ r, e = .returned (.tuple #[r, .int .i64 (cmC ds act)]) ∧ OwnI w' w.heap.size r (cmL ds act) ∧ Below w.heap.size w w' := by
  have hb : Below w.heap.size w (w.alloc (.cells #[d, a] 70)) := (Below.refl _ _).alloc (Nat.le_refl _) _
  have V := two_new w d a 70
  have I := Lib.hid (isModule_c d a ds act _ (h.same hb.block))
  have C := Lib.hid (fun (W : World) (h : IntS W.heap d ds) (hT : modT ds act = true) => counts_c d ds W h (fun i _ => modT_stem hT i) (modT_len hT))
  obtain ⟨ao, ac, hv, hm⟩ := h.1.len
  obtain ⟨bo, bc, hv2, hm2⟩ := h.2.len
  subst hv; subst hv2
  have H0 := Lib.hid h; have HB := Lib.hid hb; have HV := Lib.hid V; clear h hb V
  have k1 := HV.out.1; have k2 := HV.out.2
  cases hT : isMod ds act
  · have e1 : cmL ds act = [] := by simp [cmL, hT]
    have e2 : cmC ds act = 1 := by simp [cmC, hT]
    rw [e1, e2]
    rw [hT] at I
    clear hT e1 e2 C
    go_enter Try.func64, Try.ntmps64
    go_wp2_with (go_at_call 58; refine I.out.mono ?_; rintro e w1 ⟨rfl, hb1⟩)
    go_ret2
    exact ⟨_, rfl, OwnI.nil _ _, HB.out.trans (hb1.mono HB.out.size)⟩
  · have e1 : cmL ds act = cntD ds := by simp [cmL, hT]
    have e2 : cmC ds act = 0 := by simp [cmC, hT]
    rw [e1, e2]
    have HT := Lib.hid (isMod_T hT)
    rw [hT] at I
    clear hT e1 e2
    go_enter Try.func64, Try.ntmps64
    go_wp2_with (first | (go_at_call 58; refine I.out.mono ?_; rintro e w1 ⟨rfl, hb1⟩; have k3 := (hb1.cell (World.block_lt_of_cell? _ _ k1)).trans k1; have HB1 := Lib.hid (HB.out.trans (hb1.mono HB.out.size)); clear hb1) | (go_at_call 123; refine (C.out _ (H0.out.1.same HB1.out.block) HT.out).mono ?_; rintro e w2 ⟨r, rfl, hr, hb2⟩; obtain ⟨ra, rn, rc, rfl⟩ := own_shape hr))
    go_ret2
    exact ⟨_, rfl, own_base hr HB1.out.size, HB1.out.trans (hb2.mono HB1.out.size)⟩
set_option maxRecDepth 100000 in
theorem specCountsOfModule_c (d a : Value) (ds : List Int) (act : List (List Int)) (w : World) (h : ModS w.heap d a ds act) :
    Calls Try.prog 63 #[.agg #[d, a]] w fun e w' => ∃ r, e = .returned (.tuple #[r, .int .i64 (cmC ds act)]) ∧ OwnI w' w.heap.size r (cmL ds act) ∧ Below w.heap.size w w' := by
  have hb : Below w.heap.size w (w.alloc (.cells #[d, a] 70)) := (Below.refl _ _).alloc (Nat.le_refl _) _
  have V := two_new w d a 70
  have I := Lib.hid (l11Is_c d a ds act _ (h.same hb.block))
  have C := Lib.hid (fun (W : World) (h : IntS W.heap d ds) (hT : modT ds act = true) => l11Counts_c d ds W h (fun i _ => modT_stem hT i) (modT_len hT))
  obtain ⟨ao, ac, hv, hm⟩ := h.1.len
  obtain ⟨bo, bc, hv2, hm2⟩ := h.2.len
  subst hv; subst hv2
  have H0 := Lib.hid h; have HB := Lib.hid hb; have HV := Lib.hid V; clear h hb V
  have k1 := HV.out.1; have k2 := HV.out.2
  cases hT : isMod ds act
  · have e1 : cmL ds act = [] := by simp [cmL, hT]
    have e2 : cmC ds act = 1 := by simp [cmC, hT]
    rw [e1, e2]
    rw [hT] at I
    clear hT e1 e2 C
    go_enter Try.func63, Try.ntmps63
    go_wp2_with (go_at_call 116; refine I.out.mono ?_; rintro e w1 ⟨rfl, hb1⟩)
    go_ret2
    exact ⟨_, rfl, OwnI.nil _ _, HB.out.trans (hb1.mono HB.out.size)⟩
  · have e1 : cmL ds act = cntD ds := by simp [cmL, hT]
    have e2 : cmC ds act = 0 := by simp [cmC, hT]
    rw [e1, e2]
    have HT := Lib.hid (isMod_T hT)
    rw [hT] at I
    clear hT e1 e2
    go_enter Try.func63, Try.ntmps63
    go_wp2_with (first | (go_at_call 116; refine I.out.mono ?_; rintro e w1 ⟨rfl, hb1⟩; have k3 := (hb1.cell (World.block_lt_of_cell? _ _ k1)).trans k1; have HB1 := Lib.hid (HB.out.trans (hb1.mono HB.out.size)); clear hb1) | (go_at_call 122; refine (C.out _ (H0.out.1.same HB1.out.block) HT.out).mono ?_; rintro e w2 ⟨r, rfl, hr, hb2⟩; obtain ⟨ra, rn, rc, rfl⟩ := own_shape hr))
    go_ret2
    exact ⟨_, rfl, own_base hr HB1.out.size, HB1.out.trans (hb2.mono HB1.out.size)⟩
end Go.Proofs.Ythclhbjbimncpaa

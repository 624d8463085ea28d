/- Products of exponent lists: of the reference. -/
import Derived.Test.YtljpjoegeincoaaLFillS
import Derived.Test.YtljpjoegeincoaaLBas2
namespace Go.Proofs.Ytljpjoegeincoaa
open Go.RowKit Go.Sort

theorem fillT_len {m n : Nat} : ∀ (k : Nat) (R S : List Int) (C : List (List Int)), ∀ z ∈ fillT m n k R S C, z.length ≤ m + n := by
  intro k
  induction k with
  | zero =>
    intro R S C z hz
    rw [fillT, finL] at hz
    split at hz
    · rw [List.mem_singleton] at hz
      subst hz; exact trimF_len m n R S C
    · cases hz
  | succ k ih =>
    intro R S C z hz
    rw [fillT] at hz
    simp only [List.mem_flatMap, List.mem_range] at hz
    obtain ⟨x, -, hz⟩ := hz
    exact ih _ _ _ z hz
theorem basL_len (r s : List Int) : ∀ z ∈ basL r s, z.length ≤ r.length + s.length := fun z hz => fillT_len _ _ _ _ z hz
theorem mrg_odds (a b : List (List Int)) : mrg (oddL a) (oddL b) = oddL (a ++ b) := by
  rw [mrg_odd (asc_oddL a) (asc_oddL b), ← oddL_append', ← oddL_append]
/-- The first k + 1 rows of a table at its start. -/
def tabR (r s : List Int) (k : Nat) : List (List Int) := (0 :: s) :: (r.take k).map fun x => x :: List.replicate s.length 0
theorem tabR_succ (r s : List Int) (k : Nat) (h : k < r.length) : tabR r s (k + 1) = tabR r s k ++ [r.getD k 0 :: List.replicate s.length 0] := by
  unfold tabR
  rw [List.take_succ_eq_append_getElem h, List.map_append, List.cons_append]; simp [h]
theorem tabR_length (r s : List Int) (k : Nat) (h : k ≤ r.length) : (tabR r s k).length = k + 1 := by simp [tabR, h]
theorem tab_start (r s : List Int) : TabOf (tabR r s r.length) r s (List.replicate r.length (List.replicate s.length 0)) := by
  have hl := tabR_length r s r.length (Nat.le_refl _)
  have e0 : ∀ h, (tabR r s r.length)[0]'h = 0 :: s := fun _ => rfl
  have e1 : ∀ i h (hi : i < r.length), (tabR r s r.length)[i + 1]'h = r[i] :: List.replicate s.length 0 := fun i h hi => by simp [tabR]
  refine ⟨hl, fun i hi => ?_, fun i j hi hj => ?_⟩
  · match i with
    | 0 => rw [e0]; simp
    | i + 1 => rw [e1 i hi (by omega)]; simp
  · match i with
    | 0 =>
      rw [e0]
      match j with
      | 0 => rfl
      | j + 1 => simp [tabAt]
    | i + 1 =>
      rw [e1 i hi (by omega)]
      match j with
      | 0 => simp [tabAt, show i < r.length by omega]
      | j + 1 => simp [tabAt, show i < r.length by omega, show j < s.length by omega]
theorem ownI_lit1 {w : World} {B : Nat} (hB : B ≤ w.heap.size) (x : Int) : OwnI (w.alloc (.cells #[.int .i64 x] 2)) B (.slice (some ⟨w.heap.size, 0, none⟩) 1 1) [x] :=
  World.ownsRow_lit (e := 2) (size := 1) w #[.int .i64 x] 1 hB (by unfold maxLen; omega) rfl
theorem own_lit1 {w : World} {B : Nat} {u : Value} {xs : List Int} (hu : OwnI w B u xs) (hB : B ≤ w.heap.size) : OwnU (w.alloc (.cells #[u] 42)) B (.slice (some ⟨w.heap.size, 0, none⟩) 1 1) [u] [xs] := by
  refine ⟨World.ownsRow_lit (e := 42) (size := 1) w #[u] 1 hB (by unfold maxLen; omega) rfl, fun i x ys hx hy => ?_, fun i j x x' hij hx hx' => ?_⟩
  · match i, hx, hy with
    | 0, hx, hy =>
      simp at hx hy
      subst hx; subst hy; exact hu.same (alloc_old w _)
  · match j, hx' with
    | 0, _ => omega
    | j + 1, hx' => simp at hx'
set_option maxRecDepth 100000 in
set_option maxHeartbeats 1000000 in
theorem l04Product_c (v u : Value) (r s : List Int) (w : World) (h : IntS w.heap v r) (hu : IntS w.heap u s) (hr : Sm 1000000000000 r) (hs : Sm 1000000000000 s) (hl : r.length ≤ 20) (hl2 : s.length ≤ 20) (hb : (basL r s).length < 4398046511104) :
    Calls Try.prog 110 #[v, u] w fun e w' => ∃ x, e = .returned x ∧ IntSS w'.heap x (oddL (basL r s)) ∧ Below w.heap.size w w' := by
  have F : Hid (∀ (W : World) (t o : Value), IntSS W.heap t (tabR r s r.length) → IntSS W.heap o [] → Calls Try.prog 136 #[t, .int .i64 1, .int .i64 1, o] W fun e w' => ∃ x, e = .returned x ∧ IntSS w'.heap x (oddL (basL r s)) ∧ Below W.heap.size W w') := fun W t o ht ho =>
    l04Fill_c hl hl2 ((r.length + 1 - 1) * (s.length + 1) + (s.length + 1 - 1) + 1) (r.length * s.length) 1 1 (tabR r s r.length) r s (List.replicate r.length (List.replicate s.length 0)) [] t o W (Nat.lt_succ_self _) ht ho (tab_start r s) rfl rfl (by simp) (by intro x hx; rw [List.mem_replicate] at hx; rw [hx.2]; simp) hr hs (by
      intro x hx y hy
      rw [List.mem_replicate] at hx
      rw [hx.2, List.mem_replicate] at hy
      omega) (by omega) (by omega) (by omega) (by omega) (by simp) (by show 0 + (basL r s).length < _; omega)
  obtain ⟨ao, c, rfl, -⟩ := h.len
  obtain ⟨bo, d, rfl, -⟩ := hu.len
  have H := Lib.hid h
  have HU1 := Lib.hid (hu.same (alloc_old w (.cells #[.int .i64 0] 2)))
  have hsz : w.heap.size ≤ (w.alloc (.cells #[.int .i64 0] 2)).heap.size := by simp
  clear h hu hr hs hb
  have hmk := fun w => make_run (P := Try.prog) 42 2 _ 8 info_int64 Try.underlying42 rfl (by omega) (s.length + 1) (by omega) .i64 .i64 ((s.length : Int) + 1) ((s.length : Int) + 1) (by omega) (by omega) w
  have hwl : IntKind.i64.wrap ((s.length : Int) + 1) = s.length + 1 := IntWalk.i64_in _ (by omega)
  go_enter Try.func110, Try.ntmps110
  go_wp2_with (at_builtin; refine append_ints rfl _ _ rfl w.heap.size _ _ [0] s (ownI_lit1 (Nat.le_refl _) 0) rfl HU1.out rfl ((Below.refl _ _).alloc (Nat.le_refl _) _) hsz (by simp; omega) ?_; intro v' w' hown' hbl' _ _; obtain ⟨va, vn, vc, rfl⟩ := own_shape hown'; have HOW := Lib.hid hown'; have HBW := Lib.hid hbl'; clear hown' hbl')
  go_loopw [5, 6] (fun t i wr => ∃ (k : Nat) (us : List Value), k ≤ r.length ∧ i = .int .i64 k ∧ OwnU wr w.heap.size t us (tabR r s k) ∧ Below w.heap.size w wr) (fun _ i _ => r.length - (intOf i).toNat)
  case atStart => exact ⟨0, _, by omega, rfl, own_lit1 HOW.out HBW.out.size, HBW.out.alloc HBW.out.size _⟩
  case round =>
    obtain ⟨k, us, hk, rfl, hU, hbl⟩ := hrel
    obtain ⟨ta, tn, tc, rfl⟩ := own_shape hU.row
    have HT := Lib.hid hU; have HBL := Lib.hid hbl
    by_cases hkl : k < r.length
    · obtain ⟨b1, o1, c1, hv1, hc1, -⟩ := H.out.at k hkl
      simp only [Value.slice.injEq, true_and] at hv1
      obtain ⟨rfl, rfl⟩ := hv1
      rw [← getD_at'] at hc1
      have hcx := (hbl.cell (World.block_lt_of_cell? _ _ hc1)).trans hc1
      have hki : (k : Int) < r.length := by omega
      have HS := Lib.hid (tabR_succ r s k hkl)
      have HL : Hid ((tabR r s k).length ≤ 4398046511104) := by show _ ≤ _; rw [tabR_length r s k hk]; omega
      clear hc1 hU hbl
      generalize r.getD k 0 = x at *
      go_upto_region 6 with fail
      have hmo := made_own wr wr.heap.size 2 (s.length + 1) (.int .i64 0) (Nat.le_refl _) (by omega)
      obtain ⟨W5, hW5⟩ : ∃ W5, W5 = wr.alloc (.cells (madeCells #[.int .i64 0] (s.length + 1)) 2) := ⟨_, rfl⟩
      have hb5 : Below wr.heap.size wr W5 := by rw [hW5]; exact (Below.refl _ _).alloc (Nat.le_refl _) _
      rw [← hW5] at hmo ⊢
      have hmo2 : W5.ownsRow wr.heap.size 2 1 (.slice (some ⟨wr.heap.size, 0, none⟩) (s.length + 1) (s.length + 1)) (s.length + 1) ((List.replicate (s.length + 1) (0 : Int)).map (Value.int .i64)) := by simpa using hmo
      have q0 := own_int_at hmo2 0 (by omega)
      rw [show (List.replicate (s.length + 1) (0 : Int)).getD 0 0 = 0 by simp] at q0
      have f0 := hmo2.frozenAt 0
      have hst := own_int_set hmo2 0 x
      rw [show (List.replicate (s.length + 1) (0 : Int)).set 0 x = x :: List.replicate s.length 0 by rw [List.replicate_succ]; rfl] at hst
      have hc5 := (hb5.cell (World.block_lt_of_cell? _ _ hcx)).trans hcx
      have hb6 := hb5.setCell (p := ⟨wr.heap.size, 0, none⟩) (Nat.le_refl _) (.int .i64 x)
      have HST : Hid (OwnI (W5.setCell ⟨wr.heap.size, 0, none⟩ (.int .i64 x)) wr.heap.size (.slice (some ⟨wr.heap.size, 0, none⟩) (s.length + 1) (s.length + 1)) (x :: List.replicate s.length 0)) := by
        show OwnI _ _ _ _
        unfold OwnI
        simpa using hst
      have HB6 := Lib.hid hb6
      have hwr := HBL.out.size
      clear hmo hmo2 hst hb5 hb6 hW5 hcx
      go_wp2_with (at_builtin; refine append_rowU rfl _ _ rfl w.heap.size _ _ us _ _ HT.out rfl HST.out HB6.out HBL.out hwr _ rfl (by simp [World.setCell]) HL.out ?_; intro v7 w7 hU7 hb7 _ _ _ _; obtain ⟨ua, un, uc, rfl⟩ := own_shape hU7.row)
      go_roundw
      case rel => exact ⟨k + 1, _, by omega, by go_num, by rw [HS.out]; exact hU7, hb7⟩
      case measure => simp [intOf]; omega
    · obtain rfl : k = r.length := by omega
      have hE := ((hbl.trans ((Below.refl wr.heap.size wr).mono hbl.size)).alloc hbl.size (.cells #[] 42))
      have HX := Lib.hid (HT.out.ints.same (alloc_old wr (.cells #[] 42)))
      have HE := Lib.hid (show IntSS (wr.alloc (.cells #[] 42)).heap (.slice (some ⟨wr.heap.size, 0, none⟩) 0 0) [] from (ownII_empty (w := wr) (B := wr.heap.size) (Nat.le_refl _)).ints)
      have HBE := Lib.hid hE
      clear hU hbl hE
      go_wp2_with (go_at_call 136; refine (F.out _ _ _ HX.out HE.out).mono ?_; rintro e w8 ⟨r8, rfl, hr8, hb8⟩; obtain ⟨ja, jc, rfl, -⟩ := hr8.len)
      go_ret
      exact ⟨_, rfl, hr8, HBE.out.trans (hb8.mono HBE.out.size)⟩
set_option maxRecDepth 100000 in
set_option maxHeartbeats 1000000 in
theorem l04Times_c (v u : Value) (a b : List (List Int)) (w : World) (h : IntSS w.heap v a) (hu : IntSS w.heap u b) (ha : SmS 1000000000000 20 a) (hb : SmS 1000000000000 20 b) (hl : (prodsL a b).length < 4398046511104) :
    Calls Try.prog 79 #[v, u] w fun e w' => ∃ r us, e = .returned r ∧ OwnU w' w.heap.size r us (oddL (prodsL a b)) ∧ Below w.heap.size w w' := by
  obtain ⟨ao, c, rfl, hla⟩ := h.len
  obtain ⟨bo, d, rfl, hlb⟩ := hu.len
  have H := Lib.hid h; have HU := Lib.hid hu
  have HA := Lib.hid ha; have HB := Lib.hid hb; have HL := Lib.hid hl
  clear h hu ha hb hl
  go_enter Try.func79, Try.ntmps79
  go_wp2_with fail
  go_loopw [5, 6] (fun o i wr => ∃ (x : Nat) (us : List Value), x ≤ a.length ∧ i = .int .i64 x ∧ OwnU wr w.heap.size o us (oddL (prodsL (a.take x) b)) ∧ Below w.heap.size w wr) (fun _ i _ => a.length - (intOf i).toNat)
  case atStart => exact ⟨0, [], Nat.zero_le _, rfl, ⟨World.ownsRow_made w #[] 0 (Nat.le_refl _) (Nat.zero_le _) rfl, fun i u xs hu => by simp at hu, fun i j u u' _ hu => by simp at hu⟩, (Below.refl _ _).alloc (Nat.le_refl _) _⟩
  case round =>
    obtain ⟨x, us, hx, rfl, hU, hbl⟩ := hrel
    obtain ⟨va, vn, vc, rfl⟩ := own_shape hU.row
    have HO := Lib.hid hU; have HBL := Lib.hid hbl
    clear hU hbl
    by_cases hxl : x < a.length
    · obtain ⟨b1, o1, c1, u1, hv1, hc1, hu1, -⟩ := H.out.at x hxl
      simp only [Value.slice.injEq, true_and] at hv1
      obtain ⟨rfl, rfl⟩ := hv1
      have HCX := Lib.hid hc1
      have HU1 := Lib.hid hu1
      obtain ⟨ua, uc, rfl, -⟩ := hu1.len
      have HRX := Lib.hid (HA.out _ (List.getElem_mem hxl))
      have HSX := Lib.hid (prodsL_take a b x hxl)
      have HLX : Hid (∀ y (hy : y < b.length), (prodsL (a.take x) b ++ (b.take y).flatMap (basL a[x])).length + (basL a[x] b[y]).length < 4398046511104) := fun y hy => by
        rw [List.length_append]
        have := prods_prefix a b x y hxl hy; have := HL.out; omega
      have HTX : Hid (∀ y, ∀ z ∈ prodsL (a.take x) b ++ (b.take y).flatMap (basL a[x]), z.length ≤ 40) := fun y z hz => by
        rw [List.mem_append] at hz
        rcases hz with hz | hz
        · simp only [prodsL, List.mem_flatMap] at hz
          obtain ⟨r, hr, s, hs, hz⟩ := hz
          have := basL_len r s z hz; have := (HA.out _ (List.mem_of_mem_take hr)).2; have := (HB.out _ hs).2; omega
        · simp only [List.mem_flatMap] at hz
          obtain ⟨s, hs, hz⟩ := hz
          have := basL_len _ s z hz; have := (HA.out _ (List.getElem_mem hxl)).2; have := (HB.out _ (List.mem_of_mem_take hs)).2; omega
      have hxi : (x : Int) < a.length := by omega
      clear hc1 hu1
      generalize a[x] = r at *
      go_wp2_with fail
      go_loopw [5, 7] (fun o j wk => ∃ (y : Nat) (us : List Value), y ≤ b.length ∧ j = .int .i64 y ∧ OwnU wk w.heap.size o us (oddL (prodsL (a.take x) b ++ (b.take y).flatMap (basL r))) ∧ Below w.heap.size w wk) (fun _ j _ => b.length - (intOf j).toNat)
      case atStart => exact ⟨0, us, Nat.zero_le _, rfl, by simpa using HO.out, HBL.out⟩
      case round =>
        obtain ⟨y, us2, hy, rfl, hU2, hbl2⟩ := hrel
        obtain ⟨ta, tn, tc, rfl⟩ := own_shape hU2.row
        have HO2 := Lib.hid hU2; have HBL2 := Lib.hid hbl2
        clear hU2 hbl2
        by_cases hyl : y < b.length
        · obtain ⟨b2, o2, c2, u2, hv2, hc2, hu2, -⟩ := HU.out.at y hyl
          simp only [Value.slice.injEq, true_and] at hv2
          obtain ⟨rfl, rfl⟩ := hv2
          have hcx := (HBL2.out.cell (World.block_lt_of_cell? _ _ HCX.out)).trans HCX.out
          have hcy := (HBL2.out.cell (World.block_lt_of_cell? _ _ hc2)).trans hc2
          have HU2 := Lib.hid hu2
          obtain ⟨ub, ud, rfl, -⟩ := hu2.len
          have HRY := Lib.hid (HB.out _ (List.getElem_mem hyl))
          have HLY := Lib.hid (HLX.out y hyl)
          have HTY := Lib.hid (HTX.out y)
          have HS2 : Hid (prodsL (a.take x) b ++ (b.take (y + 1)).flatMap (basL r) = (prodsL (a.take x) b ++ (b.take y).flatMap (basL r)) ++ basL r b[y]) := by
            show _ = _
            rw [List.take_succ_eq_append_getElem hyl, List.flatMap_append, List.append_assoc]; simp
          have hyi : (y : Int) < b.length := by omega
          clear hc2 hu2
          generalize b[y] = s at *
          generalize prodsL (a.take x) b ++ (b.take y).flatMap (basL r) = os at *
          generalize hps : basL r s = ps at *
          have HLZ : Hid ((oddL os).length + (oddL ps).length ≤ 4398046511104) := by show _ ≤ _; have := oddL_length os; have := oddL_length ps; have := HLY.out; omega
          have HTZ : Hid (∀ z ∈ oddL os, z.length ≤ 4398046511104) := fun z hz => by have := HTY.out z (mem_oddL_sub hz); omega
          have HJZ : Hid (∀ z ∈ oddL ps, z.length ≤ 4398046511104) := fun z hz => by rw [← hps] at hz; have := basL_len r s z (mem_oddL_sub hz); have := HRX.out.2; have := HRY.out.2; omega
          have HPS := Lib.hid hps
          clear hps
          go_wp2_with fail
          go_region_held3 (fun W => W.cell? ⟨b1, o1 + x, none⟩ = some (.slice ua r.length uc) ∧ W.cell? ⟨b2, o2 + y, none⟩ = some (.slice ub s.length ud) ∧ Below wr.heap.size wr W)
            (first | exact ⟨hcx, hcy, (Below.refl _ _).drew⟩ | exact heldC2 (by assumption) hx | exact heldC2A (by assumption) _)
            (first | (go_at_call 110; refine Calls.mono (l04Product_c _ _ r s _ (HU1.out.same (HBL2.out.trans ((heldC2X (by assumption)).mono HBL2.out.size)).block) (HU2.out.same (HBL2.out.trans ((heldC2X (by assumption)).mono HBL2.out.size)).block) HRX.out.1 HRY.out.1 HRX.out.2 HRY.out.2 (by rw [HPS.out]; have := HLY.out; omega)) ?_; rintro e W3 ⟨rv, rfl, hR2, hx⟩; rw [HPS.out] at hR2; obtain ⟨ra, rc, rfl, -⟩ := hR2.len) | (go_at_call 65; refine Calls.mono (l01Sum_c _ _ (oddL os) (oddL ps) _ (HO2.out.ints.same (heldC2X (by assumption)).block) hR2 HLZ.out HTZ.out HJZ.out) ?_; rintro e W4 ⟨rw3, rfl, ⟨us3, hU3⟩, hx⟩; obtain ⟨sa, sn, sc, rfl⟩ := own_shape hU3.row))
          all_goals
            rename_i hx3 hh
            rw [mrg_odds] at hU3
            have hz3 : wr.heap.size ≤ W3.heap.size := hx3.size
            have HB4 := Lib.hid (HBL2.out.trans (hh.2.2.mono HBL2.out.size))
            have HU4 := Lib.hid (own_u_base (B' := w.heap.size) hU3 (by have := HBL2.out.size; omega))
            clear hh hx hU3 hR2 hcx hcy hx3 hz3
            go_wp2_with fail
            go_roundw
            case rel => exact ⟨y + 1, us3, by omega, by go_num, by rw [HS2.out]; exact HU4.out, HB4.out⟩
            case measure => simp [intOf]; omega
        · obtain rfl : y = b.length := by omega
          rw [List.take_length, ← HSX.out] at HO2
          go_wp2_with fail
          go_roundw
          case rel => exact ⟨x + 1, us2, by omega, by go_num, HO2.out, HBL2.out⟩
          case measure => simp [intOf]; omega
    · obtain rfl : x = a.length := by omega
      rw [List.take_length] at HO
      go_wp2_with fail
      go_ret
      exact ⟨_, _, rfl, HO.out, HBL.out⟩
end Go.Proofs.Ytljpjoegeincoaa

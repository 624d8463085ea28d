/- Coordinates of an element: of the program and of the reference. -/
import Derived.Test.YtljpjoegeincoaaLParI
import Derived.Test.YtljpjoegeincoaaLInK
import Derived.Test.YtljpjoegeincoaaLDegT
namespace Go.Proofs.Ytljpjoegeincoaa
open Go.RowKit Go.Sort

def cooL (xss basis : List (List Int)) : List Int := basis.map fun r => if r ∈ xss then 1 else 0
theorem cooL_take (xss basis : List (List Int)) (k : Nat) (h : k < basis.length) : cooL xss (basis.take (k + 1)) = cooL xss (basis.take k) ++ [if basis[k] ∈ xss then 1 else 0] := by
  unfold cooL
  rw [List.take_succ_eq_append_getElem h, List.map_append]; rfl
theorem cooL_length (xss basis : List (List Int)) : (cooL xss basis).length = basis.length := by simp [cooL]
def coC (xss : List (List Int)) (d : Int) : Int := if arT xss = false then 1 else if inK d = false then 2 else if xss.length = 0 then 0 else if degT xss = d then 0 else 2
def coR (xss : List (List Int)) (d : Int) : List Int := if coC xss d = 0 then cooL xss (partL d.toNat) else []
theorem isDegree2_c (x : Int) (w : World) : Calls Try.prog 70 #[.int .i64 x] w fun e w' => e = .returned (.bool (decide (0 ≤ x) && decide (x ≤ 40))) ∧ w = w' := by
  go_enter Try.func70, Try.ntmps70
  go_wp2_with (go_at_call 81; refine (in_c _ _ _ _).mono ?_; rintro e w' ⟨rfl, rfl⟩)
  go_ret
  exact ⟨rfl, rfl⟩
theorem coR_len (xss : List (List Int)) (d : Int) : (coR xss d).length ≤ 504 := by
  unfold coR
  split
  · rename_i h
    have hK : inK d = true := by
      cases hT : arT xss
      · simp [coC, hT] at h
      · cases hk : inK d
        · simp [coC, hT, hk] at h
        · rfl
    simp only [inK, Bool.and_eq_true, decide_eq_true_eq] at hK
    obtain ⟨n, rfl⟩ : ∃ n : Nat, d = n := ⟨d.toNat, by omega⟩
    rw [cooL_length, Int.toNat_natCast]
    exact expD_length (d := (n : Int)) (asc_partL n) (fun x hx => mem_partL (by omega) hx) (by omega)
  · simp
set_option maxRecDepth 100000 in
set_option maxHeartbeats 1000000 in
theorem coordinates_c (v u : Value) (xss basis : List (List Int)) (w : World) (h : IntSS w.heap v xss) (hu : IntSS w.heap u basis) (ha : Asc xss) (hl : xss.length ≤ 4611686018427387904) (hb : basis.length ≤ 4398046511104) :
    Calls Try.prog 72 #[v, u] w fun e w' => ∃ r, e = .returned r ∧ OwnI w' w.heap.size r (cooL xss basis) ∧ Below w.heap.size w w' := by
  have T := Lib.hid (fun (W : World) (y : Value) (ys : List Int) (h : IntSS W.heap v xss) (hu : IntS W.heap y ys) => hasTerm_c v y xss ys W h hu ha hl)
  obtain ⟨ao, c, rfl, hm⟩ := h.len
  obtain ⟨bo, d, rfl, hn⟩ := hu.len
  have H := Lib.hid h; have HU := Lib.hid hu; clear h hu ha
  go_enter Try.func72, Try.ntmps72
  go_wp2_with fail
  go_loopw [5, 12] (fun o i wr => ∃ k : Nat, k ≤ basis.length ∧ i = .int .i64 k ∧ OwnI wr w.heap.size o (cooL xss (basis.take k)) ∧ Below w.heap.size w wr) (fun _ i _ => basis.length - (intOf i).toNat)
  case atStart => exact ⟨0, Nat.zero_le _, rfl, ownI_empty (Nat.le_refl _), (Below.refl _ _).alloc (Nat.le_refl _) _⟩
  case round =>
    obtain ⟨k, hk, rfl, hO, hbl⟩ := hrel
    obtain ⟨va, vn, vc, rfl⟩ := own_shape hO
    have HO := Lib.hid hO; have HB := Lib.hid hbl
    have hsz := hbl.size
    by_cases hlt : k < basis.length
    · obtain ⟨b1, o1, c1, uk, hv1, hc1, huk, -⟩ := HU.out.at k hlt
      simp only [Value.slice.injEq, true_and] at hv1
      obtain ⟨rfl, rfl⟩ := hv1
      have hcx := (hbl.cell (World.block_lt_of_cell? _ _ hc1)).trans hc1
      have HS := Lib.hid (cooL_take xss basis k hlt)
      have HUK := Lib.hid (huk.same hbl.block)
      obtain ⟨qa, qc, rfl, -⟩ := huk.len
      have T1 := Lib.hid (fun (W : World) (h : IntSS W.heap (.slice ao xss.length c) xss) (hu : IntS W.heap (.slice qa basis[k].length qc) basis[k]) => T.out W _ _ h hu)
      have hll : (cooL xss (basis.take k)).length ≤ 4398046511104 := by rw [cooL_length, List.length_take]; omega
      have HLL := Lib.hid hll
      have hki : (k : Int) < basis.length := by omega
      clear hO hbl hc1 huk hll
      by_cases hin : basis[k] ∈ xss
      · rw [if_pos hin] at HS
        rw [decide_eq_true hin] at T1
        clear hin
        generalize basis[k] = ys at *
        go_wp2_with (first | (go_at_call 102; refine (T1.out _ (H.out.same HB.out.block) HUK.out).mono ?_; rintro e w2 ⟨rfl, rfl⟩) | (at_builtin; refine append_int rfl _ _ rfl w.heap.size _ _ _ HO.out rfl HB.out hsz _ rfl (by simp) HLL.out ?_; intro v' w3 hown' hbl' _ _; obtain ⟨qa2, qn2, qc2, rfl⟩ := own_shape hown'))
        go_roundw
        case rel => exact ⟨k + 1, by omega, by go_num, by rw [HS.out]; exact hown', hbl'⟩
        case measure => simp [intOf]; omega
      · rw [if_neg hin] at HS
        rw [decide_eq_false hin] at T1
        clear hin
        generalize basis[k] = ys at *
        go_wp2_with (first | (go_at_call 102; refine (T1.out _ (H.out.same HB.out.block) HUK.out).mono ?_; rintro e w2 ⟨rfl, rfl⟩) | (at_builtin; refine append_int rfl _ _ rfl w.heap.size _ _ _ HO.out rfl HB.out hsz _ rfl (by simp) HLL.out ?_; intro v' w3 hown' hbl' _ _; obtain ⟨qa2, qn2, qc2, rfl⟩ := own_shape hown'))
        go_roundw
        case rel => exact ⟨k + 1, by omega, by go_num, by rw [HS.out]; exact hown', hbl'⟩
        case measure => simp [intOf]; omega
    · obtain rfl : k = basis.length := by omega
      rw [List.take_length] at HO
      clear hO hbl
      go_wp2_with fail
      go_ret
      exact ⟨_, rfl, HO.out, HB.out⟩
set_option maxRecDepth 100000 in
set_option maxHeartbeats 1000000 in
theorem l04Coordinates_c (v : Value) (xss : List (List Int)) (n : Nat) (w : World) (h : IntSS w.heap v xss) (hn40 : n ≤ 40) :
    Calls Try.prog 68 #[v, .int .i64 n] w fun e w' => ∃ r, e = .returned r ∧ OwnI w' w.heap.size r (cooL xss (partL n)) ∧ Below w.heap.size w w' := by
  have T := Lib.hid (fun (W : World) (y : Value) (ys : List Int) (h : IntSS W.heap v xss) (hu : IntS W.heap y ys) => l01Place_c v y xss ys W h hu)
  have B := Lib.hid (l04Basis_c n w hn40)
  have hlen : (partL n).length ≤ 504 := expD_length (d := (n : Int)) (asc_partL n) (fun x hx => mem_partL hn40 hx) (by omega)
  obtain ⟨ao, c, rfl, hm⟩ := h.len
  have H := Lib.hid h; clear h
  generalize partL n = basis at *
  go_enter Try.func68, Try.ntmps68
  go_wp2_with (go_at_call 99; refine B.out.mono ?_; rintro e w1 ⟨r1, us1, rfl, hU1, hb1⟩; obtain ⟨ba, bc, rfl, -⟩ := hU1.ints.len; have HU := Lib.hid hU1.ints; have HB1 := Lib.hid hb1; have hs1 := hb1.size; clear hU1 hb1)
  go_loopw [6, 7] (fun o i wr => ∃ k : Nat, k ≤ basis.length ∧ i = .int .i64 k ∧ OwnI wr w1.heap.size o (cooL xss (basis.take k)) ∧ Below w1.heap.size w1 wr) (fun _ i _ => basis.length - (intOf i).toNat)
  case atStart => exact ⟨0, Nat.zero_le _, rfl, ownI_empty (Nat.le_refl _), (Below.refl _ _).alloc (Nat.le_refl _) _⟩
  case round =>
    obtain ⟨k, hk, rfl, hO, hbl⟩ := hrel
    obtain ⟨va, vn, vc, rfl⟩ := own_shape hO
    have HO := Lib.hid hO; have HB := Lib.hid hbl
    have hsz := hbl.size
    by_cases hlt : k < basis.length
    · obtain ⟨b1, o1, c1, uk, hv1, hc1, huk, -⟩ := HU.out.at k hlt
      simp only [Value.slice.injEq, true_and] at hv1
      obtain ⟨rfl, rfl⟩ := hv1
      have hcx := (hbl.cell (World.block_lt_of_cell? _ _ hc1)).trans hc1
      have HS := Lib.hid (cooL_take xss basis k hlt)
      have HUK := Lib.hid (huk.same hbl.block)
      have HX := Lib.hid (H.out.same (HB1.out.trans (hbl.mono hs1)).block)
      obtain ⟨qa, qc, rfl, -⟩ := huk.len
      have T1 := Lib.hid (fun (W : World) (h : IntSS W.heap (.slice ao xss.length c) xss) (hu : IntS W.heap (.slice qa basis[k].length qc) basis[k]) => T.out W _ _ h hu)
      have hll : (cooL xss (basis.take k)).length ≤ 4398046511104 := by rw [cooL_length, List.length_take]; omega
      have HLL := Lib.hid hll
      have hki : (k : Int) < basis.length := by omega
      clear hO hbl hc1 huk hll
      by_cases hin : basis[k] ∈ xss
      · rw [if_pos hin] at HS
        have hp := (placeL_in hin).1
        have tp : decide (0 ≤ placeL xss basis[k]) = true := decide_eq_true hp
        clear hin
        generalize placeL xss basis[k] = pl at *
        generalize basis[k] = ys at *
        go_wp2_with (first | (go_at_call 100; refine (T1.out _ HX.out HUK.out).mono ?_; rintro e w2 ⟨rfl, n2, rfl⟩) | (at_builtin; refine append_int rfl _ _ rfl w1.heap.size _ _ _ (HO.out.same fun _ _ => rfl) rfl (below_drewN n2 HB.out) hsz _ rfl (by simp) HLL.out ?_; intro v' w3 hown' hbl' _ _; obtain ⟨qa2, qn2, qc2, rfl⟩ := own_shape hown'))
        go_roundw
        case rel => exact ⟨k + 1, by omega, by go_num, by rw [HS.out]; exact hown', hbl'⟩
        case measure => simp [intOf]; omega
      · rw [if_neg hin] at HS
        have tp := placeL_out hin
        rw [tp] at T1
        clear hin tp
        generalize basis[k] = ys at *
        go_wp2_with (first | (go_at_call 100; refine (T1.out _ HX.out HUK.out).mono ?_; rintro e w2 ⟨rfl, n2, rfl⟩) | (at_builtin; refine append_int rfl _ _ rfl w1.heap.size _ _ _ (HO.out.same fun _ _ => rfl) rfl (below_drewN n2 HB.out) hsz _ rfl (by simp) HLL.out ?_; intro v' w3 hown' hbl' _ _; obtain ⟨qa2, qn2, qc2, rfl⟩ := own_shape hown'))
        go_roundw
        case rel => exact ⟨k + 1, by omega, by go_num, by rw [HS.out]; exact hown', hbl'⟩
        case measure => simp [intOf]; omega
    · obtain rfl : k = basis.length := by omega
      rw [List.take_length] at HO
      clear hO hbl
      go_wp2_with fail
      go_ret
      exact ⟨_, rfl, own_base HO.out hs1, HB1.out.trans (HB.out.mono hs1)⟩
set_option maxRecDepth 100000 in
set_option maxHeartbeats 1000000 in
theorem implCoordinatesOf_of (SO : SortOk2) (v : Value) (xss : List (List Int)) (d : Int) (w : World) (h : IntSS w.heap v xss) :
    Calls Try.prog 29 #[.agg #[v], .int .i64 d] w fun e w' => ∃ r, e = .returned (.tuple #[r, .int .i64 (coC xss d)]) ∧ OwnI w' w.heap.size r (coR xss d) ∧ Below w.heap.size w w' := by
  have hb : Below w.heap.size w (w.alloc (.cells #[v] 26)) := (Below.refl _ _).alloc (Nat.le_refl _) _
  have hA := h.same hb.block
  have M := Lib.hid (isMilnor_c v xss _ hA)
  have K0 := Lib.hid (Cell1.new w v 26)
  obtain ⟨ao, c, rfl, hm⟩ := h.len
  have H := Lib.hid hA
  have HB := Lib.hid hb; clear hb h hA
  have DG := Lib.hid (isDegree2_c d)
  have k0 := K0.out.c0
  cases hT : arT xss
  · skip
    have e1 : coC xss d = 1 := by simp [coC, hT]
    have e2 : coR xss d = [] := by simp [coR, e1]
    rw [e1, e2]
    rw [hT] at M
    clear e1 e2 hT
    go_enter Try.func29, Try.ntmps29
    go_wp2_with (go_at_call 69; refine M.out.mono ?_; rintro e w1 ⟨rfl, hb1⟩; have HB1 := Lib.hid (HB.out.trans (hb1.mono HB.out.size)); clear hb1)
    go_ret2
    exact ⟨_, rfl, OwnI.nil _ _, HB1.out⟩
  · rw [hT] at M
    cases hK : inK d
    · skip
      have e1 : coC xss d = 2 := by simp [coC, hT, hK]
      have e2 : coR xss d = [] := by simp [coR, e1]
      rw [e1, e2]
      rw [show (decide ((0 : Int) ≤ d) && decide (d ≤ 40)) = false from hK] at DG
      clear e1 e2 hT hK
      go_enter Try.func29, Try.ntmps29
      go_wp2_with (first | (go_at_call 69; refine M.out.mono ?_; rintro e w1 ⟨rfl, hb1⟩; have HB1 := Lib.hid (HB.out.trans (hb1.mono HB.out.size)); clear hb1) | (go_at_call 70; refine (DG.out _).mono ?_; rintro e w2 ⟨rfl, rfl⟩))
      go_ret2
      exact ⟨_, rfl, OwnI.nil _ _, HB1.out⟩
    · rw [show (decide ((0 : Int) ≤ d) && decide (d ≤ 40)) = true from hK] at DG
      have hk := hK
      simp only [inK, Bool.and_eq_true, decide_eq_true_eq] at hk
      obtain ⟨n, rfl⟩ : ∃ n : Nat, d = n := ⟨d.toNat, by omega⟩
      have hn40 : n ≤ 40 := by omega
      have D := Lib.hid (fun (W : World) (h : IntSS W.heap (.slice ao xss.length c) xss) => degreeOfT_c _ xss W h hT)
      have P := Lib.hid (fun W => partitions_of SO n W hn40)
      have hlen : (partL n).length ≤ 504 := expD_length (d := (n : Int)) (asc_partL n) (fun x hx => mem_partL hn40 hx) (by omega)
      have hxl := arT_len hT
      have CO := Lib.hid (fun (W : World) (u : Value) (h : IntSS W.heap (.slice ao xss.length c) xss) (hu : IntSS W.heap u (partL n)) => coordinates_c (.slice ao xss.length c) u xss (partL n) W h hu (arT_asc hT) (by omega) (by omega))
      by_cases h0 : xss.length = 0
      · have e1 : coC xss (n : Int) = 0 := by simp [coC, hT, hK, h0]
        have e2 : coR xss (n : Int) = cooL xss (partL n) := by simp [coR, e1]
        rw [e1, e2]
        have t1 : decide (0 < xss.length) = false := decide_eq_false (by omega)
        have t2 : decide ((0 : Int) < (xss.length : Int)) = false := decide_eq_false (by omega)
        clear e1 e2 hT hK hk h0 hlen hxl D
        generalize partL n = basis at *
        go_enter Try.func29, Try.ntmps29
        go_wp2_with (first | (go_at_call 69; refine M.out.mono ?_; rintro e w1 ⟨rfl, hb1⟩; have K01 := Lib.hid (K0.out.kept hb1.block); have k1 := K01.out.c0; have HB1 := Lib.hid (HB.out.trans (hb1.mono HB.out.size)); have H1 := Lib.hid (H.out.same hb1.block); clear hb1) | (go_at_call 70; refine (DG.out _).mono ?_; rintro e w2 ⟨rfl, rfl⟩))
        go_region_held3 (fun W => W.cell? ⟨w.heap.size, 0, none⟩ = some (.slice ao xss.length c) ∧ Below w1.heap.size w1 W)
          (first | exact ⟨k1, (Below.refl _ _).drew⟩ | exact heldC1 (by assumption) hx2 | exact heldC1 (by assumption) hx3)
          (first | (go_at_call 73; refine (P.out _).mono ?_; rintro e W2 ⟨r2, us2, rfl, hU2, hx2⟩; obtain ⟨pa, pn, pc, rfl⟩ := own_shape hU2.row) | (go_at_call 72; refine (CO.out _ _ (H1.out.same (heldC1X (by assumption)).block) hU2.ints).mono ?_; rintro e W3 ⟨r3, rfl, hO3, hx3⟩; obtain ⟨qa, qn, qc, rfl⟩ := own_shape hO3))
        all_goals
          rename_i hh
          have hs2 := hx2.size
          go_wp2_with fail
          go_ret2
          exact ⟨_, rfl, own_base hO3 (Nat.le_trans HB1.out.size hs2), HB1.out.trans (hh.2.mono HB1.out.size)⟩
      · have t1 : decide (0 < xss.length) = true := decide_eq_true (by omega)
        have t2 : decide ((0 : Int) < (xss.length : Int)) = true := decide_eq_true (by omega)
        have hz : (0 : Int) < xss.length := by omega
        by_cases hd : degT xss = (n : Int)
        · have e1 : coC xss (n : Int) = 0 := by simp [coC, hT, hK, h0, hd]
          have e2 : coR xss (n : Int) = cooL xss (partL n) := by simp [coR, e1]
          rw [e1, e2]
          rw [hd] at D
          clear e1 e2 hT hK hk h0 hlen hxl hd
          generalize partL n = basis at *
          go_enter Try.func29, Try.ntmps29
          go_wp2_with (first | (go_at_call 69; refine M.out.mono ?_; rintro e w1 ⟨rfl, hb1⟩; have K01 := Lib.hid (K0.out.kept hb1.block); have k1 := K01.out.c0; have HB1 := Lib.hid (HB.out.trans (hb1.mono HB.out.size)); have H1 := Lib.hid (H.out.same hb1.block); clear hb1) | (go_at_call 70; refine (DG.out _).mono ?_; rintro e w2 ⟨rfl, rfl⟩) | (go_at_call 71; refine (D.out _ H1.out).mono ?_; rintro e w2 ⟨rfl, rfl⟩))
          go_region_held3 (fun W => W.cell? ⟨w.heap.size, 0, none⟩ = some (.slice ao xss.length c) ∧ Below w1.heap.size w1 W)
            (first | exact ⟨k1, (Below.refl _ _).drew⟩ | exact heldC1 (by assumption) hx2 | exact heldC1 (by assumption) hx3)
            (first | (go_at_call 73; refine (P.out _).mono ?_; rintro e W2 ⟨r2, us2, rfl, hU2, hx2⟩; obtain ⟨pa, pn, pc, rfl⟩ := own_shape hU2.row) | (go_at_call 72; refine (CO.out _ _ (H1.out.same (heldC1X (by assumption)).block) hU2.ints).mono ?_; rintro e W3 ⟨r3, rfl, hO3, hx3⟩; obtain ⟨qa, qn, qc, rfl⟩ := own_shape hO3))
          all_goals
            rename_i hh
            have hs2 := hx2.size
            go_wp2_with fail
            go_ret2
            exact ⟨_, rfl, own_base hO3 (Nat.le_trans HB1.out.size hs2), HB1.out.trans (hh.2.mono HB1.out.size)⟩
        · have e1 : coC xss (n : Int) = 2 := by simp [coC, hT, hK, h0, hd]
          have e2 : coR xss (n : Int) = [] := by simp [coR, e1]
          rw [e1, e2]
          have t3 := (neB hd).2; have t4 := (neB hd).1
          clear e1 e2 hT hK hk h0 hlen hxl hd
          generalize degT xss = dg at *
          go_enter Try.func29, Try.ntmps29
          go_wp2_with (first | (go_at_call 69; refine M.out.mono ?_; rintro e w1 ⟨rfl, hb1⟩; have K01 := Lib.hid (K0.out.kept hb1.block); have k1 := K01.out.c0; have HB1 := Lib.hid (HB.out.trans (hb1.mono HB.out.size)); have H1 := Lib.hid (H.out.same hb1.block); clear hb1) | (go_at_call 70; refine (DG.out _).mono ?_; rintro e w2 ⟨rfl, rfl⟩) | (go_at_call 71; refine (D.out _ H1.out).mono ?_; rintro e w2 ⟨rfl, rfl⟩))
          go_ret2
          exact ⟨_, rfl, OwnI.nil _ _, HB1.out⟩
set_option maxRecDepth 100000 in
set_option maxHeartbeats 1000000 in
theorem specCoordinatesOf_c (v : Value) (xss : List (List Int)) (d : Int) (w : World) (h : IntSS w.heap v xss) :
    Calls Try.prog 28 #[.agg #[v], .int .i64 d] w fun e w' => ∃ r, e = .returned (.tuple #[r, .int .i64 (coC xss d)]) ∧ OwnI w' w.heap.size r (coR xss d) ∧ Below w.heap.size w w' := by
  have hb : Below w.heap.size w (w.alloc (.cells #[v] 26)) := (Below.refl _ _).alloc (Nat.le_refl _) _
  have hA := h.same hb.block
  have M := Lib.hid (l04Is_c v xss _ hA)
  have K0 := Lib.hid (Cell1.new w v 26)
  obtain ⟨ao, c, rfl, hm⟩ := h.len
  have H := Lib.hid hA
  have HB := Lib.hid hb; clear hb h hA
  have DG := Lib.hid (fun W => l01In_c d 0 40 W)
  have k0 := K0.out.c0
  cases hT : arT xss
  · skip
    have e1 : coC xss d = 1 := by simp [coC, hT]
    have e2 : coR xss d = [] := by simp [coR, e1]
    rw [e1, e2]
    rw [hT] at M
    clear e1 e2 hT
    go_enter Try.func28, Try.ntmps28
    go_wp2_with (go_at_call 53; refine M.out.mono ?_; rintro e w1 ⟨rfl, hb1⟩; have HB1 := Lib.hid (HB.out.trans (hb1.mono HB.out.size)); clear hb1)
    go_ret2
    exact ⟨_, rfl, OwnI.nil _ _, HB1.out⟩
  · rw [hT] at M
    cases hK : inK d
    · skip
      have e1 : coC xss d = 2 := by simp [coC, hT, hK]
      have e2 : coR xss d = [] := by simp [coR, e1]
      rw [e1, e2]
      rw [show (decide ((0 : Int) ≤ d) && decide (d ≤ 40)) = false from hK] at DG
      clear e1 e2 hT hK
      go_enter Try.func28, Try.ntmps28
      go_wp2_with (first | (go_at_call 53; refine M.out.mono ?_; rintro e w1 ⟨rfl, hb1⟩; have HB1 := Lib.hid (HB.out.trans (hb1.mono HB.out.size)); clear hb1) | (go_at_call 66; refine (DG.out _).mono ?_; rintro e w2 ⟨rfl, rfl⟩))
      go_ret2
      exact ⟨_, rfl, OwnI.nil _ _, HB1.out⟩
    · rw [show (decide ((0 : Int) ≤ d) && decide (d ≤ 40)) = true from hK] at DG
      have hk := hK
      simp only [inK, Bool.and_eq_true, decide_eq_true_eq] at hk
      obtain ⟨n, rfl⟩ : ∃ n : Nat, d = n := ⟨d.toNat, by omega⟩
      have hn40 : n ≤ 40 := by omega
      have F1 := Lib.hid (arT_first' hT)
      have CO := Lib.hid (fun (W : World) (h : IntSS W.heap (.slice ao xss.length c) xss) => l04Coordinates_c (.slice ao xss.length c) xss n W h hn40)
      by_cases h0 : xss.length = 0
      · have e1 : coC xss (n : Int) = 0 := by simp [coC, hT, hK, h0]
        have e2 : coR xss (n : Int) = cooL xss (partL n) := by simp [coR, e1]
        rw [e1, e2]
        have t1 : decide (0 < xss.length) = false := decide_eq_false (by omega)
        have t2 : decide ((0 : Int) < (xss.length : Int)) = false := decide_eq_false (by omega)
        clear e1 e2 hT hK hk h0 F1
        generalize partL n = basis at *
        go_enter Try.func28, Try.ntmps28
        go_wp2_with (first | (go_at_call 53; refine M.out.mono ?_; rintro e w1 ⟨rfl, hb1⟩; have K01 := Lib.hid (K0.out.kept hb1.block); have k1 := K01.out.c0; have HB1 := Lib.hid (HB.out.trans (hb1.mono HB.out.size)); have H1 := Lib.hid (H.out.same hb1.block); clear hb1) | (go_at_call 66; refine (DG.out _).mono ?_; rintro e w2 ⟨rfl, rfl⟩) | (go_at_call 68; refine (CO.out _ H1.out).mono ?_; rintro e w3 ⟨r3, rfl, hO3, hb3⟩; obtain ⟨qa, qn, qc, rfl⟩ := own_shape hO3))
        go_ret2
        exact ⟨_, rfl, own_base hO3 HB1.out.size, HB1.out.trans (hb3.mono HB1.out.size)⟩
      · have t1 : decide (0 < xss.length) = true := decide_eq_true (by omega)
        have t2 : decide ((0 : Int) < (xss.length : Int)) = true := decide_eq_true (by omega)
        have hz : (0 : Int) < xss.length := by omega
        obtain ⟨b1, o1, c1, u1, hv1, hc1, hu1, -⟩ := H.out.at 0 (by omega)
        simp only [Value.slice.injEq, true_and] at hv1
        obtain ⟨rfl, rfl⟩ := hv1
        rw [show o1 + 0 = o1 from rfl] at hc1
        rw [show xss[0] = xss.getD 0 [] by simp [show 0 < xss.length by omega]] at hu1
        have D1 := Lib.hid (fun (W : World) (h : IntS W.heap u1 (xss.getD 0 [])) => l01DegreeE_c u1 _ W h F1.out)
        obtain ⟨dg, hdg⟩ : ∃ dg, degT xss = dg := ⟨_, rfl⟩
        rw [show deg (xss.getD 0 []) = dg from hdg] at D1
        have HU1 := Lib.hid hu1
        have HC1 := Lib.hid hc1
        obtain ⟨ua, uc, rfl, -⟩ := hu1.len
        clear hu1 hc1 F1
        by_cases hd : dg = (n : Int)
        · have e1 : coC xss (n : Int) = 0 := by simp [coC, hT, hK, h0, hdg, hd]
          have e2 : coR xss (n : Int) = cooL xss (partL n) := by simp [coR, e1]
          rw [e1, e2]
          rw [hd] at D1
          clear e1 e2 hT hK hk h0 hdg hd
          generalize partL n = basis at *
          generalize xss.getD 0 [] = ys at *
          go_enter Try.func28, Try.ntmps28
          go_wp2_with (first | (go_at_call 53; refine M.out.mono ?_; rintro e w1 ⟨rfl, hb1⟩; have hc2 := (hb1.cell (World.block_lt_of_cell? _ _ HC1.out)).trans HC1.out; have HU2 := Lib.hid (HU1.out.same hb1.block); have K01 := Lib.hid (K0.out.kept hb1.block); have k1 := K01.out.c0; have HB1 := Lib.hid (HB.out.trans (hb1.mono HB.out.size)); have H1 := Lib.hid (H.out.same hb1.block); clear hb1) | (go_at_call 66; refine (DG.out _).mono ?_; rintro e w2 ⟨rfl, rfl⟩) | (go_at_call 67; refine (D1.out _ HU2.out).mono ?_; rintro e w2 ⟨rfl, rfl⟩) | (go_at_call 68; refine (CO.out _ H1.out).mono ?_; rintro e w3 ⟨r3, rfl, hO3, hb3⟩; obtain ⟨qa, qn, qc, rfl⟩ := own_shape hO3))
          go_ret2
          exact ⟨_, rfl, own_base hO3 HB1.out.size, HB1.out.trans (hb3.mono HB1.out.size)⟩
        · have e1 : coC xss (n : Int) = 2 := by simp [coC, hT, hK, h0, hdg, hd]
          have e2 : coR xss (n : Int) = [] := by simp [coR, e1]
          rw [e1, e2]
          have t3 := (neB hd).2; have t4 := (neB hd).1
          clear e1 e2 hT hK hk h0 hdg hd
          generalize xss.getD 0 [] = ys at *
          go_enter Try.func28, Try.ntmps28
          go_wp2_with (first | (go_at_call 53; refine M.out.mono ?_; rintro e w1 ⟨rfl, hb1⟩; have hc2 := (hb1.cell (World.block_lt_of_cell? _ _ HC1.out)).trans HC1.out; have HU2 := Lib.hid (HU1.out.same hb1.block); have K01 := Lib.hid (K0.out.kept hb1.block); have k1 := K01.out.c0; have HB1 := Lib.hid (HB.out.trans (hb1.mono HB.out.size)); clear hb1) | (go_at_call 66; refine (DG.out _).mono ?_; rintro e w2 ⟨rfl, rfl⟩) | (go_at_call 67; refine (D1.out _ HU2.out).mono ?_; rintro e w2 ⟨rfl, rfl⟩))
          go_ret2
          exact ⟨_, rfl, OwnI.nil _ _, HB1.out⟩
end Go.Proofs.Ytljpjoegeincoaa

/- Squares on a module: of the program and of the reference. -/
import Derived.Test.YtljfpkhgijangaaLCnt
import Derived.Test.YtljfpkhgijangaaLMs1
import Derived.Test.YtljfpkhgijangaaLGen
namespace Go.Proofs.Ytljfpkhgijangaa
open Go.RowKit Go.Sort

def bitI (x : Int) : Bool := decide (0 ≤ x) && decide (x ≤ 1)
def vecB (ds xs : List Int) : Bool := decide (xs.length = ds.length) && xs.all bitI
def maskN (xs : List Int) : Nat → Nat
  | 0 => 0
  | k + 1 => maskN xs k ||| (if xs.getD k 0 = 1 then 2 ^ k else 0)
theorem maskN_bit (xs : List Int) (i : Nat) : ∀ k, (maskN xs k).testBit i = decide (i < k ∧ xs.getD i 0 = 1)
  | 0 => by simp [maskN]
  | k + 1 => by
    rw [maskN, Nat.testBit_or, maskN_bit xs i k]
    by_cases e : i = k
    · subst e
      split
      next h => rw [List.getD_eq_getElem?_getD] at h; simp [h]
      next h => rw [List.getD_eq_getElem?_getD] at h; simp [h]
    · have h2 : (if xs.getD k 0 = 1 then 2 ^ k else 0 : Nat).testBit i = false := by
        split
        · rw [Nat.testBit_two_pow]; simp; omega
        · simp
      rw [h2, Bool.or_false]
      congr 1
      apply propext
      constructor
      · rintro ⟨h, h'⟩; exact ⟨by omega, h'⟩
      · rintro ⟨h, h'⟩; exact ⟨by omega, h'⟩
theorem maskN_lt (xs : List Int) (k : Nat) : maskN xs k < 2 ^ k := by
  apply Nat.lt_pow_two_of_testBit
  intro i hi
  rw [maskN_bit]; simp; omega
theorem vecB_len {ds xs : List Int} (h : vecB ds xs = true) : xs.length = ds.length := by
  simp only [vecB, Bool.and_eq_true, decide_eq_true_eq] at h; exact h.1
theorem vecB_bit {ds xs : List Int} (h : vecB ds xs = true) (x : Int) (hx : x ∈ xs) : x = 0 ∨ x = 1 := by
  simp only [vecB, Bool.and_eq_true, decide_eq_true_eq, List.all_eq_true, bitI] at h
  have := h.2 x hx; omega
theorem vecB_mask {ds xs : List Int} (h : vecB ds xs = true) : bitsL ds.length (maskN xs xs.length) = xs := by
  have hl := vecB_len h
  refine (bitsL_ext hl fun i hi => ?_).symm
  rw [maskN_bit]
  have hm := vecB_bit h xs[i] (List.getElem_mem _)
  rw [show xs.getD i 0 = xs[i] by simp [hl, hi]]
  rcases hm with e | e <;> rw [e] <;> simp [hl, hi]
theorem bitsL_succ (k m : Nat) : bitsL (k + 1) m = bitsL k m ++ [if m.testBit k then 1 else 0] := by simp [bitsL, List.range_succ]

theorem isBit_c (x : Int) (w : World) : Calls Try.prog 207 #[.int .i64 x] w fun e w' => e = .returned (.bool (bitI x)) ∧ w = w' := by
  go_enter Try.func207, Try.ntmps207
  go_wp2_with (go_at_call 88; refine (in_c _ _ _ _).mono ?_; rintro e w' ⟨rfl, rfl⟩)
  go_ret
  exact ⟨rfl, rfl⟩
theorem enters_isBit : Enters Try.prog 207 := fun args w => by kernel_rfl
theorem isDegree_c (x : Int) (w : World) : Calls Try.prog 85 #[.int .i64 x] w fun e w' => e = .returned (.bool (decide (0 ≤ x) && decide (x ≤ 40))) ∧ w = w' := by
  go_enter Try.func85, Try.ntmps85
  go_wp2_with (go_at_call 88; refine (in_c _ _ _ _).mono ?_; rintro e w' ⟨rfl, rfl⟩)
  go_ret
  exact ⟨rfl, rfl⟩
theorem maskOf_c (v : Value) (xs : List Int) (w : World) (h : IntS w.heap v xs) (hb : ∀ x ∈ xs, x = 0 ∨ x = 1) (hl : xs.length ≤ 16) :
    Calls Try.prog 138 #[v] w fun e w' => e = .returned (.int .i64 (maskN xs xs.length : Nat)) ∧ w = w' := by
  obtain ⟨ao, c, rfl, hm⟩ := h.len
  have H := Lib.hid h; have HX := Lib.hid hb; clear h hb
  have HB := Lib.hid (maskN_lt xs)
  go_enter Try.func138, Try.ntmps138
  go_wp2
  go_loop [3, 8] (fun t i => ∃ k : Nat, k ≤ xs.length ∧ i = .int .i64 k ∧ t = .int .i64 (maskN xs k : Nat)) (fun _ i => xs.length - (intOf i).toNat)
  case atStart => exact ⟨0, Nat.zero_le _, rfl, rfl⟩
  case round =>
    obtain ⟨k, hk, rfl, rfl⟩ := hrel
    by_cases hlt : k < xs.length
    · obtain ⟨b1, o1, c1, hv1, hc1, -⟩ := H.out.at k hlt
      simp only [Value.slice.injEq, true_and] at hv1
      obtain ⟨rfl, rfl⟩ := hv1
      have hx := HX.out _ (List.getElem_mem hlt)
      have hM := HB.out k
      have hp : 2 ^ k < 2 ^ 16 := Nat.pow_lt_pow_right (by omega) (by omega)
      have hw := wrap64_pow k (by omega)
      have HS : Hid (maskN xs (k + 1) = maskN xs k ||| (if xs[k] = 1 then 2 ^ k else 0)) := by
        show _ = _; rw [maskN, show xs.getD k 0 = xs[k] by simp [hlt]]
      have hor0 := i64_or_nat (maskN xs k) 0 (by omega) (by omega)
      have hor1 := i64_or_nat (maskN xs k) (2 ^ k) (by omega) (by omega)
      rw [show (((2 ^ k : Nat)) : Int) = (2 : Int) ^ k by simp] at hor1
      have hor0' : bits .or .i64 (maskN xs k : Int) 0 = (maskN xs k : Int) := by simpa using hor0
      clear hor0
      generalize xs[k] = x at *
      rcases hx with rfl | rfl
      · rw [if_neg (by omega), Nat.or_zero] at HS
        clear hor1
        generalize maskN xs k = t at *
        go_wp2
        go_round
        case rel => exact ⟨k + 1, by omega, by go_num, by rw [HS.out]⟩
        case measure => simp [intOf]; omega
      · rw [if_pos rfl] at HS
        clear hor0'
        generalize maskN xs k = t at *
        go_wp2
        go_round
        case rel => exact ⟨k + 1, by omega, by go_num, by rw [HS.out]⟩
        case measure => simp [intOf]; omega
    · obtain rfl : k = xs.length := by omega
      go_wp2
      go_ret
      exact ⟨rfl, rfl⟩
set_option maxHeartbeats 400000 in
theorem digitsOf_c (m size : Nat) (w : World) (hs : size ≤ 16) (hm : m < 2 ^ 16) :
    Calls Try.prog 180 #[.int .i64 m, .int .i64 size] w fun e w' => ∃ r, e = .returned r ∧ OwnI w' w.heap.size r (bitsL size m) ∧ Below w.heap.size w w' := by
  go_enter Try.func180, Try.ntmps180
  go_wp2_with fail
  go_loopw [5, 9] (fun o i wr => ∃ k : Nat, k ≤ size ∧ i = .int .i64 k ∧ OwnI wr w.heap.size o (bitsL k m) ∧ Below w.heap.size w wr) (fun _ i _ => size - (intOf i).toNat)
  case atStart => exact ⟨0, Nat.zero_le _, rfl, ownI_empty (Nat.le_refl _), (Below.refl _ _).alloc (Nat.le_refl _) _⟩
  case round =>
    obtain ⟨k, hk, rfl, hown, hbl⟩ := hrel
    obtain ⟨va, vn, vc, rfl⟩ := own_shape hown
    have HO := Lib.hid hown; have HBL := Lib.hid hbl; have hsz := hbl.size
    have hln : (bitsL k m).length ≤ 4398046511104 := by rw [bitsL_length]; omega
    clear hown hbl
    by_cases hlt : k < size
    · have hb : bits BinOp.and IntKind.i64 ((m : Int) / 2 ^ k) 1 = if m.testBit k then 1 else 0 := by
        rw [show ((m : Int) / 2 ^ k) = ((m / 2 ^ k : Nat) : Int) by simp, show (1 : Int) = ((1 : Nat) : Int) from rfl, i64_and_nat _ _ (Nat.lt_of_le_of_lt (Nat.div_le_self _ _) (by omega)) (by omega), Nat.and_one_is_mod,
          Nat.testBit_eq_decide_div_mod_eq]
        rcases Nat.mod_two_eq_zero_or_one (m / 2 ^ k) with h | h <;> rw [h] <;> rfl
      have HS := Lib.hid (bitsL_succ k m)
      generalize (if m.testBit k then (1 : Int) else 0) = y at *
      go_wp2_with (first | (at_builtin; refine append_int rfl _ _ rfl w.heap.size _ _ _ HO.out rfl HBL.out hsz _ rfl rfl hln ?_; intro v' wr0 hown' hbl' _ _; obtain ⟨va2, vn2, vc2, hv2⟩ := own_shape hown'; subst hv2))
      go_roundw
      case rel => exact ⟨k + 1, by omega, by go_num, by rw [HS.out]; exact hown', hbl'⟩
      case measure => simp [intOf]; omega
    · obtain rfl : k = size := by omega
      go_wp2_with fail
      go_ret
      exact ⟨_, rfl, HO.out, HBL.out⟩
theorem vectorOf_c (d a : Value) (ds : List Int) (m : Nat) (w : World) (h : IntS w.heap d ds) (hs : ds.length ≤ 16) (hm : m < 2 ^ 16) :
    Calls Try.prog 136 #[.agg #[d, a], .int .i64 m] w fun e w' => ∃ r, e = .returned r ∧ OwnI w' w.heap.size r (bitsL ds.length m) ∧ Below w.heap.size w w' := by
  have hb : Below w.heap.size w (w.alloc (.cells #[d, a] 60)) := (Below.refl _ _).alloc (Nat.le_refl _) _
  have V := two_new w d a 60
  have D := Lib.hid (digitsOf_c m ds.length (w.alloc (.cells #[d, a] 60)) hs hm)
  obtain ⟨ao, ac, rfl, -⟩ := h.len
  have HB := Lib.hid hb; have k1 := V.1; have k2 := V.2
  clear h hb V
  go_enter Try.func136, Try.ntmps136
  go_wp2_with (go_at_call 180; refine D.out.mono ?_; rintro e w1 ⟨r, rfl, hr, hb1⟩; obtain ⟨ra, rn, rc, rfl⟩ := own_shape hr)
  go_ret
  exact ⟨_, rfl, own_base hr HB.out.size, HB.out.trans (hb1.mono HB.out.size)⟩
theorem isVector_c (d a v : Value) (ds xs : List Int) (w : World) (h : IntS w.heap d ds) (hv : IntS w.heap v xs) :
    Calls Try.prog 179 #[.agg #[d, a], v] w fun e w' => e = .returned (.bool (vecB ds xs)) ∧ Below w.heap.size w w' := by
  have hb : Below w.heap.size w (w.alloc (.cells #[d, a] 60)) := (Below.refl _ _).alloc (Nat.le_refl _) _
  have V := two_new w d a 60
  have A := Lib.hid (all_c v xs 207 #[] bitI _ (hv.same hb.block) enters_isBit (fun w1 _ x _ => (isBit_c x w1).mono fun _ _ ⟨he, hw⟩ => ⟨he, 0, hw.symm⟩))
  obtain ⟨ao, ac, rfl, hm⟩ := h.len
  obtain ⟨bo, bc, rfl, hm2⟩ := hv.len
  have HB := Lib.hid hb; have k1 := V.1; have k2 := V.2
  have HE : Hid (vecB ds xs = (decide (xs.length = ds.length) && xs.all bitI)) := rfl
  clear h hv hb V
  by_cases e : xs.length = ds.length
  · have t1 := (eqB (show ((xs.length : Nat) : Int) = ds.length by omega)).1
    rw [decide_eq_true e, Bool.true_and] at HE
    rw [HE.out]
    clear e HE
    go_enter Try.func179, Try.ntmps179
    go_wp2_with (go_at_call 79; refine A.out.mono ?_; rintro e w1 ⟨rfl, hb1⟩)
    go_ret
    exact ⟨rfl, HB.out.trans (hb1.mono HB.out.size)⟩
  · have t1 := (neB (show ((xs.length : Nat) : Int) ≠ ds.length by omega)).1
    rw [decide_eq_false e, Bool.false_and] at HE
    rw [HE.out]
    clear e HE A
    go_enter Try.func179, Try.ntmps179
    go_wp2_with fail
    go_ret
    exact ⟨rfl, HB.out⟩
theorem all_snoc (xs : List Int) (k : Nat) (hk : k < xs.length) (h : ∀ i, i < k → bitI (xs.getD i 0) = true) (h2 : bitI xs[k] = true) : ∀ i, i < k + 1 → bitI (xs.getD i 0) = true := by
  intro i hi
  by_cases e : i = k
  · subst e; rw [show xs.getD i 0 = xs[i] by simp [hk]]; exact h2
  · exact h i (by omega)
theorem all_of (xs : List Int) (h : ∀ i, i < xs.length → bitI (xs.getD i 0) = true) : xs.all bitI = true := by
  rw [List.all_eq_true]
  intro x hx
  obtain ⟨i, hi, rfl⟩ := List.getElem_of_mem hx
  have := h i hi
  rwa [show xs.getD i 0 = xs[i] by simp [hi]] at this
theorem all_not (xs : List Int) (k : Nat) (hk : k < xs.length) (h2 : bitI xs[k] = false) : xs.all bitI = false := by
  cases e : xs.all bitI
  · rfl
  · rw [List.all_eq_true] at e; rw [e _ (List.getElem_mem hk)] at h2; cases h2
theorem l11Vector_c (d a v : Value) (ds xs : List Int) (w : World) (h : IntS w.heap d ds) (hv : IntS w.heap v xs) :
    Calls Try.prog 132 #[.agg #[d, a], v] w fun e w' => e = .returned (.bool (vecB ds xs)) ∧ Below w.heap.size w w' := by
  have hb : Below w.heap.size w (w.alloc (.cells #[d, a] 60)) := (Below.refl _ _).alloc (Nat.le_refl _) _
  have V := two_new w d a 60
  have I := Lib.hid (hv.same hb.block)
  obtain ⟨ao, ac, rfl, hm⟩ := h.len
  obtain ⟨bo, bc, rfl, hm2⟩ := hv.len
  have HB := Lib.hid hb; have k1 := V.1; have k2 := V.2
  have HE : Hid (vecB ds xs = (decide (xs.length = ds.length) && xs.all bitI)) := rfl
  clear h hv hb V
  go_enter Try.func132, Try.ntmps132
  go_wp2
  go_loop [5] (fun i => ∃ k : Nat, k ≤ xs.length ∧ i = .int .i64 k ∧ ∀ i, i < k → bitI (xs.getD i 0) = true) (fun i => xs.length - (intOf i).toNat)
  case atStart => exact ⟨0, Nat.zero_le _, rfl, fun i hi => by omega⟩
  case round =>
    obtain ⟨k, hk, rfl, hpre⟩ := hrel
    have HP := Lib.hid hpre; clear hpre
    by_cases hlt : k < xs.length
    · obtain ⟨b1, o1, c1, hv1, hc1, -⟩ := I.out.at k hlt
      simp only [Value.slice.injEq, true_and] at hv1
      obtain ⟨rfl, rfl⟩ := hv1
      have HN := Lib.hid (all_not xs k hlt); have HS := Lib.hid (all_snoc xs k hlt HP.out)
      have C := Lib.hid (l01In_c xs[k] 0 1)
      generalize xs[k] = x at *
      have hx : bitI x = (decide (0 ≤ x) && decide (x ≤ 1)) := rfl
      rw [← hx] at C
      clear hx
      cases hbx : bitI x
      · have HF : Hid (vecB ds xs = false) := by show _ = _; rw [HE.out, HN.out hbx, Bool.and_false]
        rw [hbx] at C
        clear hbx
        go_wp2_with (go_at_call 76; refine (C.out _).mono ?_; rintro e w' ⟨rfl, rfl⟩)
        go_ret
        exact ⟨by rw [HF.out]; rfl, HB.out⟩
      · have HT := Lib.hid (HS.out hbx)
        rw [hbx] at C
        clear hbx
        go_wp2_with (go_at_call 76; refine (C.out _).mono ?_; rintro e w' ⟨rfl, rfl⟩)
        go_round
        case rel => exact ⟨k + 1, by omega, by go_num, HT.out⟩
        case measure => simp [intOf]; omega
    · obtain rfl : k = xs.length := by omega
      have HA := Lib.hid (all_of xs HP.out)
      by_cases e : xs.length = ds.length
      · have t1 := (eqB (show ((xs.length : Nat) : Int) = ds.length by omega)).1
        have HF : Hid (vecB ds xs = true) := by show _ = _; rw [HE.out, HA.out, decide_eq_true e]; rfl
        clear e
        go_wp2
        go_ret
        exact ⟨by rw [HF.out]; rfl, HB.out⟩
      · have t1 := (neB (show ((xs.length : Nat) : Int) ≠ ds.length by omega)).1
        have HF : Hid (vecB ds xs = false) := by show _ = _; rw [HE.out, decide_eq_false e]; rfl
        clear e
        go_wp2
        go_ret
        exact ⟨by rw [HF.out]; rfl, HB.out⟩
def sqmC (ds : List Int) (act : List (List Int)) (n : Int) (xs : List Int) : Int := if isMod ds act then (if vecB ds xs then (if 0 ≤ n ∧ n ≤ 40 then 0 else 2) else 2) else 1
def sqmL (ds : List Int) (act : List (List Int)) (n : Int) (xs : List Int) : List Int := if isMod ds act && vecB ds xs && (decide (0 ≤ n) && decide (n ≤ 40)) then bitsL ds.length (actZ act n (maskN xs xs.length)) else []
theorem sqmL_len (ds : List Int) (act : List (List Int)) (n : Int) (xs : List Int) : (sqmL ds act n xs).length ≤ 16 := by
  unfold sqmL
  split
  · rename_i h
    simp only [Bool.and_eq_true] at h
    have := modT_len (isMod_T h.1.1)
    rw [bitsL_length]; exact this
  · simp
theorem acted_c (d a v : Value) (ds : List Int) (act : List (List Int)) (xs : List Int) (w : World) (h : ModS w.heap d a ds act) (hv : IntS w.heap v xs) :
    Calls Try.prog 135 #[.agg #[d, a], v] w fun e w' => e = .returned (.int .i64 (if isMod ds act then (if vecB ds xs then 0 else 2) else 1)) ∧ Below w.heap.size w w' := by
  have hb : Below w.heap.size w (w.alloc (.cells #[d, a] 60)) := (Below.refl _ _).alloc (Nat.le_refl _) _
  have V := two_new w d a 60
  have I := Lib.hid (isModule_c d a ds act _ (h.same hb.block))
  have J := Lib.hid (fun (W : World) (h : IntS W.heap d ds) (hv : IntS W.heap v xs) => isVector_c d a v ds xs W h hv)
  obtain ⟨ao, ac, hdv, hm⟩ := h.1.len
  obtain ⟨bo, bc, hav, hm2⟩ := h.2.len
  obtain ⟨vo, vc, hvv, hm3⟩ := hv.len
  subst hdv; subst hav; subst hvv
  have H0 := Lib.hid h; have HV0 := Lib.hid hv; have HB := Lib.hid hb; have HV := Lib.hid V; clear h hb V hv
  have k1 := HV.out.1; have k2 := HV.out.2
  cases hT : isMod ds act
  · rw [hT] at I
    rw [if_neg (by simp)]
    clear hT
    go_enter Try.func135, Try.ntmps135
    go_wp2_with (go_at_call 116; refine I.out.mono ?_; rintro e w1 ⟨rfl, hb1⟩)
    go_ret
    exact ⟨rfl, HB.out.trans (hb1.mono HB.out.size)⟩
  · rw [hT] at I
    rw [if_pos rfl]
    clear hT
    cases hV : vecB ds xs
    · rw [hV] at J
      rw [if_neg (by simp)]
      clear hV
      go_enter Try.func135, Try.ntmps135
      go_wp2_with (first | (go_at_call 116; refine I.out.mono ?_; rintro e w1 ⟨rfl, hb1⟩; have k3 := (hb1.cell (World.block_lt_of_cell? _ _ k1)).trans k1; have k4 := (hb1.cell (World.block_lt_of_cell? _ _ k2)).trans k2; have HB1 := Lib.hid (HB.out.trans (hb1.mono HB.out.size)); clear hb1) | (go_at_call 179; refine (J.out _ (H0.out.1.same HB1.out.block) (HV0.out.same HB1.out.block)).mono ?_; rintro e w2 ⟨rfl, hb2⟩))
      go_ret
      exact ⟨rfl, HB1.out.trans (hb2.mono HB1.out.size)⟩
    · rw [hV] at J
      rw [if_pos rfl]
      clear hV
      go_enter Try.func135, Try.ntmps135
      go_wp2_with (first | (go_at_call 116; refine I.out.mono ?_; rintro e w1 ⟨rfl, hb1⟩; have k3 := (hb1.cell (World.block_lt_of_cell? _ _ k1)).trans k1; have k4 := (hb1.cell (World.block_lt_of_cell? _ _ k2)).trans k2; have HB1 := Lib.hid (HB.out.trans (hb1.mono HB.out.size)); clear hb1) | (go_at_call 179; refine (J.out _ (H0.out.1.same HB1.out.block) (HV0.out.same HB1.out.block)).mono ?_; rintro e w2 ⟨rfl, hb2⟩))
      go_ret
      exact ⟨rfl, HB1.out.trans (hb2.mono HB1.out.size)⟩
end Go.Proofs.Ytljfpkhgijangaa

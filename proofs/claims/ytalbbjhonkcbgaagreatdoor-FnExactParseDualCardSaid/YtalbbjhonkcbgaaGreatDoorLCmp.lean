/- Comparisons of lists of int64: slices.Compare, l01Less, l01Same; rising, l01Ascending. -/
import Derived.Test.YtalbbjhonkcbgaaGreatDoorBase2
import Derived.Test.YtalbbjhonkcbgaaGreatDoorLTerm
namespace Go.Proofs.YtalbbjhonkcbgaaGreatDoor
open Go.RowKit Go.Sort

def cmpI (x y : Int) : Int := if x < y then -1 else if y < x then 1 else 0
theorem cmpL_cons (a b : Int) (x y : List Int) : cmpL (a :: x) (b :: y) = if a < b then -1 else if b < a then 1 else cmpL x y := by
  unfold cmpL
  by_cases h : a < b
  · simp [ltL, h]
  · by_cases h2 : b < a
    · simp [ltL, h, h2]
    · simp [ltL, h, h2]
theorem cmpL_drop (xs ys : List Int) (k : Nat) (h1 : k < xs.length) (h2 : k < ys.length) : cmpL (xs.drop k) (ys.drop k) = if xs[k] < ys[k] then -1 else if ys[k] < xs[k] then 1 else cmpL (xs.drop (k + 1)) (ys.drop (k + 1)) := by
  rw [List.drop_eq_getElem_cons h1, List.drop_eq_getElem_cons h2, cmpL_cons]
theorem ltL_drop (xs ys : List Int) (k : Nat) (h1 : k < xs.length) (h2 : k < ys.length) : ltL (xs.drop k) (ys.drop k) = if xs[k] < ys[k] then true else if ys[k] < xs[k] then false else ltL (xs.drop (k + 1)) (ys.drop (k + 1)) := by
  rw [List.drop_eq_getElem_cons h1, List.drop_eq_getElem_cons h2, ltL]
theorem ltL_ends (xs ys : List Int) (k : Nat) (h1 : k ≤ xs.length) (h2 : k ≤ ys.length) (h : k = xs.length ∨ k = ys.length) : ltL (xs.drop k) (ys.drop k) = decide (xs.length < ys.length) := by
  by_cases e : k < ys.length
  · have : k = xs.length := by omega
    rw [List.drop_of_length_le (l := xs) (by omega), List.drop_eq_getElem_cons e, ltL]; simp; omega
  · rw [List.drop_of_length_le (l := ys) (by omega)]
    by_cases e2 : k < xs.length
    · rw [List.drop_eq_getElem_cons e2, ltL]; simp; omega
    · rw [List.drop_of_length_le (l := xs) (by omega), ltL]; simp; omega
theorem cmpL_ends (xs ys : List Int) (k : Nat) (h1 : k = xs.length) (h2 : k ≤ ys.length) : cmpL (xs.drop k) (ys.drop k) = if xs.length < ys.length then -1 else 0 := by
  unfold cmpL
  rw [ltL_ends xs ys k (by omega) h2 (.inl h1), ltL_ends ys xs k h2 (by omega) (.inr h1)]
  by_cases e : xs.length < ys.length
  · simp [e]
  · simp [e]; omega
theorem cmpL_over (xs ys : List Int) (k : Nat) (h1 : k < xs.length) (h2 : k = ys.length) : cmpL (xs.drop k) (ys.drop k) = 1 := by
  rw [List.drop_eq_getElem_cons h1, List.drop_of_length_le (l := ys) (by omega)]
  simp [cmpL, ltL]
theorem isNaN_c (x : Int) (w : World) : Calls Tryz.prog 129 #[.int .i64 x] w fun e w' => e = .returned (.bool false) ∧ w = w' := by
  have t := (eqB (a := x) rfl).2
  go_enter Tryz.func129, Tryz.ntmps129
  go_wp2_with fail
  go_ret
  exact ⟨rfl, rfl⟩
theorem compareI_c (x y : Int) (w : World) : Calls Tryz.prog 119 #[.int .i64 x, .int .i64 y] w fun e w' => e = .returned (.int .i64 (cmpI x y)) ∧ w = w' := by
  by_cases h1 : x < y
  · have e : cmpI x y = -1 := by simp [cmpI, h1]
    rw [e]; clear e
    go_enter Tryz.func119, Tryz.ntmps119
    go_wp2_with (go_at_call 129; refine (isNaN_c _ _).mono ?_; rintro e w' ⟨rfl, rfl⟩)
    go_ret
    exact ⟨rfl, rfl⟩
  · by_cases h2 : y < x
    · have e : cmpI x y = 1 := by simp [cmpI, h1, h2]
      rw [e]; clear e
      have h3 : ¬ x < y := h1
      go_enter Tryz.func119, Tryz.ntmps119
      go_wp2_with (go_at_call 129; refine (isNaN_c _ _).mono ?_; rintro e w' ⟨rfl, rfl⟩)
      go_ret
      exact ⟨rfl, rfl⟩
    · have e : cmpI x y = 0 := by simp [cmpI, h1, h2]
      rw [e]; clear e
      have t1 : decide (x < y) = false := by simpa using h1
      have t2 : decide (y < x) = false := by simpa using h2
      go_enter Tryz.func119, Tryz.ntmps119
      go_wp2_with (go_at_call 129; refine (isNaN_c _ _).mono ?_; rintro e w' ⟨rfl, rfl⟩)
      go_ret
      exact ⟨rfl, rfl⟩
theorem compare_c (v1 v2 : Value) (xs ys : List Int) (w : World) (h1 : IntS w.heap v1 xs) (h2 : IntS w.heap v2 ys) :
    Calls Tryz.prog 94 #[v1, v2] w fun e w' => e = .returned (.int .i64 (cmpL xs ys)) ∧ w = w' := by
  obtain ⟨a1, c1, rfl, m1⟩ := h1.len
  obtain ⟨a2, c2, rfl, m2⟩ := h2.len
  have H1 := Lib.hid h1; have H2 := Lib.hid h2; clear h1 h2
  go_enter Tryz.func94, Tryz.ntmps94
  go_wp2_with fail
  go_loop [11] (fun i => ∃ k : Nat, k ≤ xs.length ∧ k ≤ ys.length ∧ i = .int .i64 k ∧ Hid (cmpL xs ys = cmpL (xs.drop k) (ys.drop k))) (fun i => xs.length - (intOf i).toNat)
  case atStart => exact ⟨0, Nat.zero_le _, Nat.zero_le _, rfl, by simp [Hid]⟩
  case round =>
    obtain ⟨k, hk1, hk2, rfl, he⟩ := hrel
    by_cases hlt : k < xs.length
    · by_cases hlt2 : k < ys.length
      · obtain ⟨b1, o1, c1', hv1, hc1, _⟩ := (H1.out).at k hlt
        obtain ⟨b2, o2, c2', hv2, hc2, _⟩ := (H2.out).at k hlt2
        simp only [Value.slice.injEq, true_and] at hv1 hv2
        obtain ⟨rfl, rfl⟩ := hv1
        obtain ⟨rfl, rfl⟩ := hv2
        have hd := cmpL_drop xs ys k hlt hlt2
        generalize xs[k] = x at *
        generalize ys[k] = y at *
        have HD := Lib.hid hd; clear hd
        by_cases hxy : x < y
        · have t1 := (neB (show (-1 : Int) ≠ 0 by decide)).2
          have ec : cmpI x y = -1 := by simp [cmpI, hxy]
          have HC := Lib.hid (fun w => compareI_c x y w)
          rw [ec] at HC
          have HE : Hid (cmpL xs ys = -1) := by show _ = _; rw [he.out, HD.out, if_pos hxy]
          clear ec
          go_wp2_with (go_at_call 119; refine (HC.out _).mono ?_; rintro e w' ⟨rfl, rfl⟩)
          go_ret
          exact ⟨by rw [HE.out]; rfl, rfl⟩
        · by_cases hyx : y < x
          · have t1 := (neB (show (1 : Int) ≠ 0 by decide)).2
            have ec : cmpI x y = 1 := by simp [cmpI, hxy, hyx]
            have HC := Lib.hid (fun w => compareI_c x y w)
            rw [ec] at HC
            have HE : Hid (cmpL xs ys = 1) := by show _ = _; rw [he.out, HD.out, if_neg hxy, if_pos hyx]
            clear ec
            go_wp2_with (go_at_call 119; refine (HC.out _).mono ?_; rintro e w' ⟨rfl, rfl⟩)
            go_ret
            exact ⟨by rw [HE.out]; rfl, rfl⟩
          · have t1 := (eqB (show (0 : Int) = 0 by rfl)).2
            have ec : cmpI x y = 0 := by simp [cmpI, hxy, hyx]
            have HC := Lib.hid (fun w => compareI_c x y w)
            rw [ec] at HC
            have HE : Hid (cmpL xs ys = cmpL (xs.drop (k + 1)) (ys.drop (k + 1))) := by show _ = _; rw [he.out, HD.out, if_neg hxy, if_neg hyx]
            clear ec
            go_wp2_with (go_at_call 119; refine (HC.out _).mono ?_; rintro e w' ⟨rfl, rfl⟩)
            go_round
            case rel => exact ⟨k + 1, by omega, by omega, by go_num, HE⟩
            case measure => simp [intOf]; omega
      · obtain rfl : k = ys.length := by omega
        have HE : Hid (cmpL xs ys = 1) := by show _ = _; rw [he.out, cmpL_over xs ys _ hlt rfl]
        obtain ⟨b1, o1, c1', hv1, hc1, _⟩ := (H1.out).at _ hlt
        simp only [Value.slice.injEq, true_and] at hv1
        obtain ⟨rfl, rfl⟩ := hv1
        have t2 : decide (ys.length ≤ ys.length) = true := by simp
        go_wp2_with fail
        go_ret
        exact ⟨by rw [HE.out]; rfl, rfl⟩
    · obtain rfl : k = xs.length := by omega
      have HE : Hid (cmpL xs ys = if xs.length < ys.length then -1 else 0) := by show _ = _; rw [he.out, cmpL_ends xs ys _ rfl hk2]
      by_cases hl : xs.length < ys.length
      · have hE : Hid (cmpL xs ys = -1) := by show _ = _; rw [HE.out, if_pos hl]
        go_wp2_with fail
        go_ret
        exact ⟨by rw [hE.out]; rfl, rfl⟩
      · have hE : Hid (cmpL xs ys = 0) := by show _ = _; rw [HE.out, if_neg hl]
        have t3 : decide (xs.length < ys.length) = false := by simpa using hl
        go_wp2_with fail
        go_ret
        exact ⟨by rw [hE.out]; rfl, rfl⟩
theorem l01Less_c (v1 v2 : Value) (xs ys : List Int) (w : World) (h1 : IntS w.heap v1 xs) (h2 : IntS w.heap v2 ys) :
    Calls Tryz.prog 86 #[v1, v2] w fun e w' => e = .returned (.bool (ltL xs ys)) ∧ ∃ n, w' = w.drewN n := by
  obtain ⟨a1, c1, rfl, m1⟩ := h1.len
  obtain ⟨a2, c2, rfl, m2⟩ := h2.len
  have H1 := Lib.hid h1; have H2 := Lib.hid h2; clear h1 h2
  go_enter Tryz.func86, Tryz.ntmps86
  go_wp2_with fail
  go_loopw [5] (fun i wr => ∃ k n : Nat, k ≤ xs.length ∧ k ≤ ys.length ∧ i = .int .i64 k ∧ wr = w.drewN n ∧ Hid (ltL xs ys = ltL (xs.drop k) (ys.drop k))) (fun i _ => xs.length - (intOf i).toNat)
  case atStart => exact ⟨0, 0, Nat.zero_le _, Nat.zero_le _, rfl, rfl, by simp [Hid]⟩
  case round =>
    obtain ⟨k, n, hk1, hk2, rfl, rfl, he⟩ := hrel
    by_cases hlt : k < xs.length ∧ k < ys.length
    · obtain ⟨hlt, hlt2⟩ := hlt
      obtain ⟨b1, o1, c1', hv1, hc1, _⟩ := (H1.out).at k hlt
      obtain ⟨b2, o2, c2', hv2, hc2, _⟩ := (H2.out).at k hlt2
      simp only [Value.slice.injEq, true_and] at hv1 hv2
      obtain ⟨rfl, rfl⟩ := hv1
      obtain ⟨rfl, rfl⟩ := hv2
      have hd := ltL_drop xs ys k hlt hlt2
      generalize xs[k] = x at *
      generalize ys[k] = y at *
      have HD := Lib.hid hd; clear hd
      by_cases hxy : x = y
      · subst hxy
        have HE : Hid (ltL xs ys = ltL (xs.drop (k + 1)) (ys.drop (k + 1))) := by show _ = _; rw [he.out, HD.out, if_neg (by omega), if_neg (by omega)]
        have t1 := (eqB (show x = x by rfl)).2
        go_wp2_with fail
        go_quiet (fail)
        go_wp2_with fail
        go_roundw
        case rel => exact ⟨k + 1, _, by omega, by omega, by go_num, rfl, HE⟩
        case measure => simp [intOf]; omega
      · have t1 := (neB hxy).2
        have HE : Hid (ltL xs ys = decide (x < y)) := by
          show _ = _
          rw [he.out, HD.out]
          by_cases h : x < y
          · simp [h]
          · rw [if_neg h, if_pos (by omega)]; simp; omega
        clear hxy
        go_wp2_with fail
        go_quiet (fail)
        go_wp2_with fail
        go_quiet (fail)
        go_wp2_with fail
        go_ret
        exact ⟨by rw [HE.out]; rfl, _, by first | rfl | (simp only [World.drewN_drewN]; rfl)⟩
    · have HE : Hid (ltL xs ys = decide (xs.length < ys.length)) := by show _ = _; rw [he.out, ltL_ends xs ys k hk1 hk2 (by omega)]
      have HN := Lib.hid hlt; clear hlt
      by_cases hl : k < xs.length
      · obtain rfl : k = ys.length := by have := HN.out; omega
        have t1 : decide (ys.length < ys.length) = false := by simp
        go_wp2_with fail
        go_ret
        exact ⟨by rw [HE.out]; rfl, _, rfl⟩
      · obtain rfl : k = xs.length := by omega
        have t1 : decide (xs.length < xs.length) = false := by simp
        go_wp2_with fail
        go_ret
        exact ⟨by rw [HE.out]; rfl, _, rfl⟩
theorem l01Same_c (v1 v2 : Value) (xs ys : List Int) (w : World) (h1 : IntS w.heap v1 xs) (h2 : IntS w.heap v2 ys) :
    Calls Tryz.prog 69 #[v1, v2] w fun e w' => e = .returned (.bool (decide (xs = ys))) ∧ ∃ n, w' = w.drewN n := by
  obtain ⟨a1, c1, rfl, m1⟩ := h1.len
  obtain ⟨a2, c2, rfl, m2⟩ := h2.len
  have H1 := Lib.hid h1; clear h1
  have H2 := Lib.hid h2; clear h2
  by_cases hl : xs.length = ys.length
  · have hb := (eqB (a := (xs.length : Int)) (b := ys.length) (by omega)).2
    have HL := Lib.hid hl
    clear hl
    go_enter Tryz.func69, Tryz.ntmps69
    go_wp2
    clear hb
    go_loopw [5] (fun i wr => ∃ k n : Nat, k ≤ xs.length ∧ i = .int .i64 k ∧ wr = w.drewN n ∧ ∀ j, j < k → xs[j]? = ys[j]?) (fun i _ => xs.length - (intOf i).toNat)
    case atStart => exact ⟨0, 0, Nat.zero_le _, rfl, rfl, by simp⟩
    case round =>
      obtain ⟨k, n, hk, rfl, rfl, hpre⟩ := hrel
      have HP := Lib.hid hpre; clear hpre
      by_cases hlt : k < xs.length
      · have hlt2 : k < ys.length := by have := HL.out; omega
        obtain ⟨b1, o1, c1', hv1, hc1, _⟩ := (H1.out).at k hlt
        obtain ⟨b2, o2, c2', hv2, hc2, _⟩ := (H2.out).at k hlt2
        simp only [Value.slice.injEq, true_and] at hv1 hv2
        obtain ⟨rfl, rfl⟩ := hv1
        obtain ⟨rfl, rfl⟩ := hv2
        go_wp2_with fail
        go_quiet (fail)
        go_wp2_with fail
        · have hne : (xs[k] != ys[k]) = true := by assumption
          go_ret
          refine ⟨?_, _, World.drewN_drewN ..⟩
          have : decide (xs = ys) = false := by
            simp only [decide_eq_false_iff_not]; rintro rfl; simp at hne
          rw [this]; rfl
        · have hne : (xs[k] != ys[k]) = false := by assumption
          go_roundw
          case rel =>
            refine ⟨k + 1, _, by omega, by go_num, rfl, ?_⟩
            intro j hj
            by_cases e : j = k
            · subst e; simp at hne; simp [hlt, hlt2, hne]
            · exact HP.out j (by omega)
          case measure => simp [intOf]; omega
      · go_wp2
        go_ret
        refine ⟨?_, _, rfl⟩
        have : xs = ys := List.ext_getElem? fun j => by
          by_cases hj : j < k
          · exact HP.out j hj
          · have := HL.out; rw [List.getElem?_eq_none (by omega), List.getElem?_eq_none (by omega)]
        simp [this]
  · have hd : decide (xs = ys) = false := by simp; rintro rfl; exact hl rfl
    have hb := (neB (a := (xs.length : Int)) (b := ys.length) (by omega)).2
    go_enter Tryz.func69, Tryz.ntmps69
    go_wp2
    go_ret
    exact ⟨by rw [hd]; rfl, 0, rfl⟩
/-- Ascending, as the code tests it. -/
def ascB (xss : List (List Int)) : Bool := (List.range (xss.length - 1)).all fun i => ltL (xss.getD i []) (xss.getD (i + 1) [])
theorem ascB_true (xss : List (List Int)) (h : ∀ i, i + 1 < xss.length → ltL (xss.getD i []) (xss.getD (i + 1) []) = true) : ascB xss = true := by
  simp only [ascB, List.all_eq_true, List.mem_range]; intro i hi; exact h i (by omega)
theorem ascB_false (xss : List (List Int)) (i : Nat) (hi : i + 1 < xss.length) (h : ltL (xss.getD i []) (xss.getD (i + 1) []) = false) : ascB xss = false := by
  cases e : ascB xss
  · rfl
  · simp only [ascB, List.all_eq_true, List.mem_range] at e
    rw [e i (by omega)] at h; cases h
theorem ascB_asc (xss : List (List Int)) (h : ascB xss = true) : Asc xss := by
  simp only [ascB, List.all_eq_true, List.mem_range] at h
  induction xss with
  | nil => exact Asc.nil
  | cons x l ih =>
    have hl : Asc l := ih fun i hi => by
      have := h (i + 1) (by simp only [List.length_cons]; omega)
      simpa using this
    refine hl.cons ?_
    cases l with
    | nil => intro y hy; cases hy
    | cons y l =>
      have h0 : ltL x y = true := by simpa using h 0 (by simp)
      intro z hz
      rcases List.mem_cons.1 hz with e | e
      · rw [e]; exact h0
      · exact ltL_trans _ _ _ h0 (hl.head z e)
theorem cmpL_ge (x y : List Int) : decide (0 ≤ cmpL x y) = !ltL x y := by
  unfold cmpL
  cases ltL x y
  · cases ltL y x <;> simp
  · simp
theorem rising_c (v : Value) (xss : List (List Int)) (w : World) (h : IntSS w.heap v xss) :
    Calls Tryz.prog 65 #[v] w fun e w' => e = .returned (.bool (ascB xss)) ∧ ∃ n, w' = w.drewN n := by
  obtain ⟨ao, c, rfl, hm⟩ := h.len
  have H := Lib.hid h; clear h
  go_enter Tryz.func65, Tryz.ntmps65
  go_wp2_with fail
  go_loopw [3] (fun i wr => ∃ k n : Nat, i = .int .i64 ((k : Int) + 1) ∧ (k = 0 ∨ k + 1 ≤ xss.length) ∧ wr = w.drewN n ∧ ∀ i, i < k → ltL (xss.getD i []) (xss.getD (i + 1) []) = true) (fun i _ => xss.length - (intOf i).toNat)
  case atStart => exact ⟨0, 0, rfl, .inl rfl, rfl, by simp⟩
  case round =>
    obtain ⟨k, n, rfl, hk, rfl, hpre⟩ := hrel
    have HP := Lib.hid hpre; have HK := Lib.hid hk; clear hpre hk
    by_cases hlt : k + 1 < xss.length
    · obtain ⟨b1, o1, c1, u1, hv1, hc1, hu1, -⟩ := H.out.at k (by omega)
      obtain ⟨b2, o2, c2, u2, hv2, hc2, hu2, -⟩ := H.out.at (k + 1) hlt
      simp only [Value.slice.injEq, true_and] at hv1 hv2
      obtain ⟨rfl, rfl⟩ := hv1
      obtain ⟨hv2, -⟩ := hv2
      simp only [Option.some.injEq, Addr.mk.injEq, and_true] at hv2
      obtain ⟨rfl, rfl⟩ := hv2
      have e1 : xss[k] = xss.getD k [] := by simp [show k < xss.length by omega]
      have e2 : xss[k + 1] = xss.getD (k + 1) [] := by simp [hlt]
      rw [e1] at hu1; rw [e2] at hu2
      have HU1 := Lib.hid hu1; have HU2 := Lib.hid hu2
      obtain ⟨ra, rc, rfl, -⟩ := hu1.len
      obtain ⟨sa, sc, rfl, -⟩ := hu2.len
      clear hu1 hu2 e1 e2
      have hlt0 : (k : Int) + 1 < xss.length := by omega
      have s1 : IntKind.i64.wrap ((k : Int) + 1 - 1) = k := by rw [IntWalk.i64_in _ (by omega)]; omega
      have s2 : (0 : Int) ≤ (k : Int) + 1 := by omega
      have s3 : ((k : Int) + 1).toNat = k + 1 := by omega
      have HPS : Hid (ltL (xss.getD k []) (xss.getD (k + 1) []) = true → ∀ i, i < k + 1 → ltL (xss.getD i []) (xss.getD (i + 1) []) = true) := fun h i hi => by
        by_cases e : i = k
        · subst e; exact h
        · exact HP.out i (by omega)
      have HNF := Lib.hid (ascB_false xss k hlt)
      generalize xss.getD k [] = xs at *
      generalize xss.getD (k + 1) [] = ys at *
      cases hlL : ltL xs ys
      · have HR := Lib.hid (HNF.out hlL)
        have hq0 : 0 ≤ cmpL xs ys := by have := cmpL_ge xs ys; rw [hlL] at this; simpa using this
        have HC := Lib.hid (fun (w : World) (h1 : IntS w.heap (.slice ra xs.length rc) xs) (h2 : IntS w.heap (.slice sa ys.length sc) ys) => compare_c _ _ xs ys w h1 h2)
        generalize cmpL xs ys = q at *
        have t1 : decide (0 ≤ q) = true := by simpa using hq0
        clear hlL
        go_wp2_with fail
        go_quiet ((go_at_call 94; exact quiet_behind_same (HC.out _ (by exact HU1.out) (by exact HU2.out))))
        go_wp2_with fail
        go_ret
        exact ⟨by rw [HR.out]; rfl, _, by first | rfl | (simp only [World.drewN_drewN]; rfl)⟩
      · have HR := Lib.hid (HPS.out hlL)
        have hq0 : cmpL xs ys = -1 := by simp [cmpL, hlL]
        have HC := Lib.hid (fun (w : World) (h1 : IntS w.heap (.slice ra xs.length rc) xs) (h2 : IntS w.heap (.slice sa ys.length sc) ys) => compare_c _ _ xs ys w h1 h2)
        rw [hq0] at HC
        clear hlL hq0
        go_wp2_with fail
        go_quiet ((go_at_call 94; exact quiet_behind_same (HC.out _ (by exact HU1.out) (by exact HU2.out))))
        go_wp2_with fail
        go_roundw
        case rel => exact ⟨k + 1, _, by go_num, .inr (by omega), rfl, HR.out⟩
        case measure => simp [intOf]; omega
    · have hb := Lib.hid (ascB_true xss fun i hi => HP.out i (by have := HK.out; omega))
      have t1 : decide ((k : Int) + 1 < xss.length) = false := by simp; omega
      go_wp2_with fail
      go_ret
      exact ⟨by rw [hb.out]; rfl, _, rfl⟩
theorem l01Ascending_c (v : Value) (xss : List (List Int)) (w : World) (h : IntSS w.heap v xss) :
    Calls Tryz.prog 54 #[v] w fun e w' => e = .returned (.bool (ascB xss)) ∧ ∃ n, w' = w.drewN n := by
  obtain ⟨ao, c, rfl, hm⟩ := h.len
  have H := Lib.hid h; clear h
  go_enter Tryz.func54, Tryz.ntmps54
  go_wp2_with fail
  go_loopw [3] (fun i wr => ∃ k n : Nat, i = .int .i64 ((k : Int) + 1) ∧ (k = 0 ∨ k + 1 ≤ xss.length) ∧ wr = w.drewN n ∧ ∀ i, i < k → ltL (xss.getD i []) (xss.getD (i + 1) []) = true) (fun i _ => xss.length - (intOf i).toNat)
  case atStart => exact ⟨0, 0, rfl, .inl rfl, rfl, by simp⟩
  case round =>
    obtain ⟨k, n, rfl, hk, rfl, hpre⟩ := hrel
    have HP := Lib.hid hpre; have HK := Lib.hid hk; clear hpre hk
    by_cases hlt : k + 1 < xss.length
    · obtain ⟨b1, o1, c1, u1, hv1, hc1, hu1, -⟩ := H.out.at k (by omega)
      obtain ⟨b2, o2, c2, u2, hv2, hc2, hu2, -⟩ := H.out.at (k + 1) hlt
      simp only [Value.slice.injEq, true_and] at hv1 hv2
      obtain ⟨rfl, rfl⟩ := hv1
      obtain ⟨hv2, -⟩ := hv2
      simp only [Option.some.injEq, Addr.mk.injEq, and_true] at hv2
      obtain ⟨rfl, rfl⟩ := hv2
      have e1 : xss[k] = xss.getD k [] := by simp [show k < xss.length by omega]
      have e2 : xss[k + 1] = xss.getD (k + 1) [] := by simp [hlt]
      rw [e1] at hu1; rw [e2] at hu2
      have HU1 := Lib.hid hu1; have HU2 := Lib.hid hu2
      obtain ⟨ra, rc, rfl, -⟩ := hu1.len
      obtain ⟨sa, sc, rfl, -⟩ := hu2.len
      clear hu1 hu2 e1 e2
      have hlt0 : (k : Int) + 1 < xss.length := by omega
      have s1 : IntKind.i64.wrap ((k : Int) + 1 - 1) = k := by rw [IntWalk.i64_in _ (by omega)]; omega
      have s2 : (0 : Int) ≤ (k : Int) + 1 := by omega
      have s3 : ((k : Int) + 1).toNat = k + 1 := by omega
      have HPS : Hid (ltL (xss.getD k []) (xss.getD (k + 1) []) = true → ∀ i, i < k + 1 → ltL (xss.getD i []) (xss.getD (i + 1) []) = true) := fun h i hi => by
        by_cases e : i = k
        · subst e; exact h
        · exact HP.out i (by omega)
      have HNF := Lib.hid (ascB_false xss k hlt)
      generalize xss.getD k [] = xs at *
      generalize xss.getD (k + 1) [] = ys at *
      cases hlL : ltL xs ys
      · have HR := Lib.hid (HNF.out hlL)
        have HC := Lib.hid (fun (w : World) (h1 : IntS w.heap (.slice ra xs.length rc) xs) (h2 : IntS w.heap (.slice sa ys.length sc) ys) => l01Less_c _ _ xs ys w h1 h2)
        rw [hlL] at HC
        clear hlL
        go_wp2_with fail
        go_quiet ((go_at_call 86; exact quiet_behind (HC.out _ (by exact HU1.out) (by exact HU2.out))))
        go_wp2_with fail
        go_ret
        exact ⟨by rw [HR.out]; rfl, _, by first | rfl | (simp only [World.drewN_drewN]; rfl)⟩
      · have HR := Lib.hid (HPS.out hlL)
        have HC := Lib.hid (fun (w : World) (h1 : IntS w.heap (.slice ra xs.length rc) xs) (h2 : IntS w.heap (.slice sa ys.length sc) ys) => l01Less_c _ _ xs ys w h1 h2)
        rw [hlL] at HC
        clear hlL
        go_wp2_with fail
        go_quiet ((go_at_call 86; exact quiet_behind (HC.out _ (by exact HU1.out) (by exact HU2.out))))
        go_wp2_with fail
        go_roundw
        case rel => exact ⟨k + 1, _, by go_num, .inr (by omega), rfl, HR.out⟩
        case measure => simp [intOf]; omega
    · have hb := Lib.hid (ascB_true xss fun i hi => HP.out i (by have := HK.out; omega))
      have t1 : decide ((k : Int) + 1 < xss.length) = false := by simp; omega
      go_wp2_with fail
      go_ret
      exact ⟨by rw [hb.out]; rfl, _, rfl⟩
end Go.Proofs.YtalbbjhonkcbgaaGreatDoor

/- Exponent lists and their degrees; lists in lexicographic order. -/
import Derived.Test.YtalbbjhonkcbgaaGreatDoorBase2
import Derived.Test.YtalbbjhonkcbgaaGreatDoorFn
import Derived.Test.YtalbbjhonkcbgaaGreatDoorL10
import Derived.Test.YtalbbjhonkcbgaaGreatDoorLTerm
namespace Go.Proofs.YtalbbjhonkcbgaaGreatDoor
open Go.RowKit Go.Sort

def numB (n : Int) : Bool := decide (0 ≤ n) && decide (n ≤ 1000000000000)
def lastOk (r : List Int) : Bool := decide (r.length = 0) || (r.getD (r.length - 1) 0 != 0)
def isExp (r : List Int) : Bool := decide (r.length ≤ 10) && r.all numB && lastOk r
def degA (i : Nat) : List Int → Int
  | [] => 0
  | n :: r => n * (2 ^ (i + 1) - 1) + degA (i + 1) r
def deg (r : List Int) : Int := degA 0 r
theorem degA_snoc (r : List Int) (x : Int) : ∀ i, degA i (r ++ [x]) = degA i r + x * (2 ^ (i + r.length + 1) - 1) := by
  induction r with
  | nil => intro i; simp [degA]
  | cons y r ih => intro i; simp only [List.cons_append, degA, ih, List.length_cons]; rw [show i + 1 + r.length + 1 = i + (r.length + 1) + 1 by omega]; omega
theorem deg_take_succ (r : List Int) (j : Nat) (h : j < r.length) : deg (r.take (j + 1)) = deg (r.take j) + r[j] * (2 ^ (j + 1) - 1) := by
  unfold deg
  rw [List.take_succ_eq_append_getElem h, degA_snoc, List.length_take, Nat.min_eq_left (by omega), Nat.zero_add]
theorem isNumber_c (n : Int) (w : World) : Calls Tryz.prog 93 #[.int .i64 n] w fun e w' => e = .returned (.bool (numB n)) ∧ w = w' := by
  go_enter Tryz.func93, Tryz.ntmps93
  go_wp2_with (first | (go_at_call 80; refine (in_c _ _ _ _).mono ?_; rintro e w' ⟨rfl, rfl⟩))
  go_ret
  exact ⟨rfl, rfl⟩
theorem enters_isNumber : Enters Tryz.prog 93 := fun args w => by kernel_rfl
theorem isExponents_c (v : Value) (r : List Int) (w : World) (h : IntS w.heap v r) :
    Calls Tryz.prog 63 #[v] w fun e w' => e = .returned (.bool (isExp r)) ∧ Below w.heap.size w w' := by
  have C := all_c v r 93 #[] numB w h enters_isNumber (fun w1 _ x _ => (isNumber_c x w1).mono fun _ _ ⟨he, hw⟩ => ⟨he, 0, by rw [← hw]; rfl⟩)
  obtain ⟨ao, c, rfl, hm⟩ := h.len
  have HC := Lib.hid C; clear C
  have H := Lib.hid h; clear h
  by_cases hl : r.length ≤ 10
  · have t1 : decide (r.length ≤ 10) = true := by simpa using hl
    have e0 : isExp r = (r.all numB && lastOk r) := by simp [isExp, hl]
    rw [e0]; clear e0
    cases ha : r.all numB
    · rw [ha] at HC
      clear ha
      go_enter Tryz.func63, Tryz.ntmps63
      go_wp2_with (first | (go_at_call 76; refine HC.out.mono ?_; rintro e w1 ⟨rfl, hb⟩))
      go_ret
      exact ⟨rfl, hb⟩
    · rw [ha] at HC
      clear ha
      by_cases h0 : r.length = 0
      · have e1 : lastOk r = true := by simp [lastOk, h0]
        rw [e1]; clear e1
        have t2 : ((r.length : Int) == 0) = true := by simpa using h0
        clear h0
        go_enter Tryz.func63, Tryz.ntmps63
        go_wp2_with (first | (go_at_call 76; refine HC.out.mono ?_; rintro e w1 ⟨rfl, hb⟩))
        go_ret
        exact ⟨rfl, hb⟩
      · obtain ⟨q, hq⟩ : ∃ q, r.length = q + 1 := ⟨r.length - 1, by omega⟩
        have e1 : lastOk r = (r.getD q 0 != 0) := by simp [lastOk, hq]
        rw [e1]; clear e1
        have t2 : ((r.length : Int) == 0) = false := by simpa using h0
        have HQ := Lib.hid hq; clear hq h0
        have hq1 : q + 1 ≤ 10 := by have := HQ.out; omega
        obtain ⟨b, off, cap, hv, hc0, -⟩ := H.out.at q (by have := HQ.out; omega)
        simp only [Value.slice.injEq, true_and] at hv
        obtain ⟨rfl, rfl⟩ := hv
        rw [← getD_at'] at hc0
        have HC0 := Lib.hid hc0; clear hc0
        rw [HQ.out] at *
        generalize r.getD q 0 = x at *
        go_enter Tryz.func63, Tryz.ntmps63
        go_wp2_with (first | (go_at_call 76; refine HC.out.mono ?_; rintro e w1 ⟨rfl, hb⟩; have hc0 := (hb.cell (p := ⟨b, off + q, none⟩) (World.block_lt_of_cell? _ _ HC0.out)).trans HC0.out; have HB := Lib.hid hb; clear hb))
        go_ret
        exact ⟨rfl, HB.out⟩
  · have t1 : decide (r.length ≤ 10) = false := by simpa using hl
    have e0 : isExp r = false := by simp [isExp, hl]
    rw [e0]; clear e0
    have hl' : 10 < r.length := by omega
    have t2 : decide ((r.length : Int) ≤ 10) = false := by simp; omega
    clear hl
    go_enter Tryz.func63, Tryz.ntmps63
    go_wp2_with fail
    go_ret
    exact ⟨rfl, Below.refl _ _⟩
theorem exp_len {r : List Int} (h : isExp r = true) : r.length ≤ 10 := by simp only [isExp, Bool.and_eq_true, decide_eq_true_eq] at h; exact h.1.1
theorem exp_num {r : List Int} (h : isExp r = true) : ∀ x ∈ r, 0 ≤ x ∧ x ≤ 1000000000000 := by
  simp only [isExp, Bool.and_eq_true, List.all_eq_true, numB, decide_eq_true_eq] at h; exact h.1.2
def numMax : Int := 1000000000000
def degMax : Int := 10230000000000000
theorem deg_take_bound {r : List Int} (h : isExp r = true) (j : Nat) (hj : j ≤ r.length) : 0 ≤ deg (r.take j) ∧ deg (r.take j) ≤ j * 1023000000000000 := by
  induction j with
  | zero => simp [deg, degA]
  | succ j ih =>
    have hx := exp_num h r[j] (List.getElem_mem hj)
    have hl := exp_len h
    have ih := ih (by omega)
    rw [deg_take_succ r j (by omega)]
    have hp : (1 : Int) ≤ 2 ^ (j + 1) - 1 ∧ (2 : Int) ^ (j + 1) - 1 ≤ 1023 := by
      have : j = 0 ∨ j = 1 ∨ j = 2 ∨ j = 3 ∨ j = 4 ∨ j = 5 ∨ j = 6 ∨ j = 7 ∨ j = 8 ∨ j = 9 := by omega
      rcases this with rfl | rfl | rfl | rfl | rfl | rfl | rfl | rfl | rfl | rfl <;> decide
    have h1 : 0 ≤ r[j] * (2 ^ (j + 1) - 1) := Int.mul_nonneg hx.1 (by omega)
    have h2 : r[j] * (2 ^ (j + 1) - 1) ≤ 1000000000000 * 1023 := Int.le_trans (Int.mul_le_mul_of_nonneg_right hx.2 (by omega)) (Int.mul_le_mul_of_nonneg_left hp.2 (by omega))
    omega
theorem deg_bound {r : List Int} (h : isExp r = true) : 0 ≤ deg r ∧ deg r ≤ 10230000000000000 := by
  have := deg_take_bound h r.length (Nat.le_refl _)
  rw [List.take_length] at this
  have := exp_len h
  omega
/-- 1 << (k + 1) -/
def shP (k : Nat) : Int := IntKind.i64.wrap (1 * 2 ^ min (k + 1) 64)
theorem shP_run (k : Nat) (yk : IntKind) : Op.shift BinOp.shl IntKind.i64 1 yk ((k : Int) + 1) = pure (.int .i64 (shP k)) := by
  rw [Op.shift, if_neg (by omega), show ((k : Int) + 1).toNat = k + 1 by omega]; rfl
theorem shP_small (k : Nat) (h : k < 10) : shP k = 2 ^ (k + 1) ∧ 2 ≤ shP k ∧ shP k ≤ 1024 := by
  have : k = 0 ∨ k = 1 ∨ k = 2 ∨ k = 3 ∨ k = 4 ∨ k = 5 ∨ k = 6 ∨ k = 7 ∨ k = 8 ∨ k = 9 := by omega
  rcases this with rfl | rfl | rfl | rfl | rfl | rfl | rfl | rfl | rfl | rfl <;> decide
theorem deg_arith (t x s : Int) (h1 : 0 ≤ t) (h2 : t ≤ 10230000000000000) (h3 : 2 ≤ s) (h4 : s ≤ 1024) (h5 : 0 ≤ x * (s - 1)) (h6 : x * (s - 1) ≤ 1023000000000000) : wrap64 (t + wrap64 (x * wrap64 (wrap64 s - 1))) = t + x * (s - 1) := by
  have e1 : wrap64 s = s := by unfold wrap64; omega
  have e2 : wrap64 (s - 1) = s - 1 := by unfold wrap64; omega
  rw [e1, e2]
  generalize x * (s - 1) = p at *
  unfold wrap64; omega
theorem degree_c (v : Value) (r : List Int) (w : World) (h : IntS w.heap v r) :
    Calls Tryz.prog 64 #[v] w fun e w' => (∃ d, e = .returned (.int .i64 d) ∧ (isExp r = true → d = deg r)) ∧ w = w' := by
  obtain ⟨ao, c, rfl, hm⟩ := h.len
  have H := Lib.hid h; clear h
  go_enter Tryz.func64, Tryz.ntmps64
  go_wp2_with fail
  go_loop [3, 8] (fun s i => ∃ (k : Nat) (t : Int), k ≤ r.length ∧ i = .int .i64 k ∧ s = .int .i64 t ∧ Hid (isExp r = true → t = deg (r.take k))) (fun _ i => r.length - (intOf i).toNat)
  case atStart => exact ⟨0, 0, Nat.zero_le _, rfl, rfl, fun _ => rfl⟩
  case round =>
    obtain ⟨k, t, hk, rfl, rfl, he⟩ := hrel
    by_cases hlt : k < r.length
    · obtain ⟨b1, o1, c1', hv1, hc1, _⟩ := (H.out).at k hlt
      simp only [Value.slice.injEq, true_and] at hv1
      obtain ⟨rfl, rfl⟩ := hv1
      have hd := deg_take_succ r k hlt
      have hsh := shP_run k .i64
      cases hE : isExp r
      · clear hd
        generalize r[k] = x at *
        generalize shP k = s at *
        go_wp2_with fail
        go_round
        case rel => exact ⟨k + 1, _, by omega, by go_num, rfl, fun h => by cases h⟩
        case measure => simp [intOf]; omega
      · have hx := exp_num hE r[k] (List.getElem_mem hlt)
        have hl := exp_len hE
        obtain ⟨hs1, hs2, hs3⟩ := shP_small k (by omega)
        rw [← hs1] at hd
        have hb := deg_take_bound hE k hk
        rw [← he.out hE] at hb hd
        have hb2 : t ≤ 10230000000000000 := by omega
        have hm1 : 0 ≤ r[k] * (shP k - 1) := Int.mul_nonneg hx.1 (by omega)
        have hm2 : r[k] * (shP k - 1) ≤ 1023000000000000 := Int.le_trans (Int.mul_le_mul_of_nonneg_right hx.2 (by omega)) (by omega)
        have HD := Lib.hid hd; have HS := Lib.hid hs1; clear hd hs1
        obtain ⟨hx1, hx2⟩ := hx
        obtain ⟨hb1, -⟩ := hb
        have HE := Lib.hid hE; clear hE
        generalize r[k] = x at *
        generalize shP k = s at *
        go_wp2_with fail
        go_round
        case rel => exact ⟨k + 1, _, by omega, by go_num, rfl, fun _ => by rw [HD.out, ← HS.out]; exact deg_arith t x s hb1 hb2 hs2 hs3 hm1 hm2⟩
        case measure => simp [intOf]; omega
    · obtain rfl : k = r.length := by omega
      go_wp2_with fail
      go_ret
      exact ⟨⟨t, rfl, fun h => by rw [he.out h, List.take_length]⟩, rfl⟩
theorem l01Degree_c (v : Value) (r : List Int) (w : World) (h : IntS w.heap v r) :
    Calls Tryz.prog 56 #[v] w fun e w' => (∃ d, e = .returned (.int .i64 d) ∧ (isExp r = true → d = deg r)) ∧ w = w' := by
  obtain ⟨ao, c, rfl, hm⟩ := h.len
  have H := Lib.hid h; clear h
  go_enter Tryz.func56, Tryz.ntmps56
  go_wp2_with fail
  go_loop [3, 4] (fun s i => ∃ (k : Nat) (t : Int), k ≤ r.length ∧ i = .int .i64 k ∧ s = .int .i64 t ∧ Hid (isExp r = true → t = deg (r.take k))) (fun _ i => r.length - (intOf i).toNat)
  case atStart => exact ⟨0, 0, Nat.zero_le _, rfl, rfl, fun _ => rfl⟩
  case round =>
    obtain ⟨k, t, hk, rfl, rfl, he⟩ := hrel
    by_cases hlt : k < r.length
    · obtain ⟨b1, o1, c1', hv1, hc1, _⟩ := (H.out).at k hlt
      simp only [Value.slice.injEq, true_and] at hv1
      obtain ⟨rfl, rfl⟩ := hv1
      have hd := deg_take_succ r k hlt
      have hsh := shP_run k .u64
      cases hE : isExp r
      · clear hd
        generalize r[k] = x at *
        generalize shP k = s at *
        go_wp2_with fail
        go_round
        case rel => exact ⟨k + 1, _, by omega, by go_num, rfl, fun h => by cases h⟩
        case measure => simp [intOf]; omega
      · have hx := exp_num hE r[k] (List.getElem_mem hlt)
        have hl := exp_len hE
        obtain ⟨hs1, hs2, hs3⟩ := shP_small k (by omega)
        rw [← hs1] at hd
        have hb := deg_take_bound hE k hk
        rw [← he.out hE] at hb hd
        have hb2 : t ≤ 10230000000000000 := by omega
        have hm1 : 0 ≤ r[k] * (shP k - 1) := Int.mul_nonneg hx.1 (by omega)
        have hm2 : r[k] * (shP k - 1) ≤ 1023000000000000 := Int.le_trans (Int.mul_le_mul_of_nonneg_right hx.2 (by omega)) (by omega)
        have HD := Lib.hid hd; have HS := Lib.hid hs1; clear hd hs1
        obtain ⟨hx1, hx2⟩ := hx
        obtain ⟨hb1, -⟩ := hb
        have HE := Lib.hid hE; clear hE
        generalize r[k] = x at *
        generalize shP k = s at *
        go_wp2_with fail
        go_round
        case rel => exact ⟨k + 1, _, by omega, by go_num, rfl, fun _ => by rw [HD.out, ← HS.out]; exact deg_arith t x s hb1 hb2 hs2 hs3 hm1 hm2⟩
        case measure => simp [intOf]; omega
    · obtain rfl : k = r.length := by omega
      go_wp2_with fail
      go_ret
      exact ⟨⟨t, rfl, fun h => by rw [he.out h, List.take_length]⟩, rfl⟩
theorem l01Exponents_c (v : Value) (r : List Int) (w : World) (h : IntS w.heap v r) :
    Calls Tryz.prog 55 #[v] w fun e w' => e = .returned (.bool (isExp r)) ∧ w = w' := by
  obtain ⟨ao, c, rfl, hm⟩ := h.len
  have H := Lib.hid h; clear h
  by_cases hl : r.length ≤ 10
  · have t1 : decide (10 < r.length) = false := by simp; omega
    have t1' : decide ((10 : Int) < (r.length : Int)) = false := by simp; omega
    have HE : Hid (isExp r = (r.all numB && lastOk r)) := by show _ = _; simp [isExp, hl]
    by_cases hL : lastOk r = false
    · have h0 : 0 < r.length := by
        refine Nat.pos_of_ne_zero fun e => ?_
        simp [lastOk, e] at hL
      obtain ⟨q, hq⟩ : ∃ q, r.length = q + 1 := ⟨r.length - 1, by omega⟩
      have e1 : lastOk r = (r.getD q 0 != 0) := by simp [lastOk, hq]
      have hz : r.getD q 0 = 0 := by rw [hL] at e1; simpa using e1.symm
      have HR : Hid (isExp r = false) := by show _ = _; rw [HE.out, hL]; simp
      obtain ⟨b, off, cap, hv, hc0, -⟩ := H.out.at q (by omega)
      simp only [Value.slice.injEq, true_and] at hv
      obtain ⟨rfl, rfl⟩ := hv
      rw [← getD_at', hz] at hc0
      have hq1 : q + 1 ≤ 10 := by omega
      rw [hq] at H ⊢
      clear hq hz e1 hL t1 t1' h0 hl hm
      go_enter Tryz.func55, Tryz.ntmps55
      go_wp2_with fail
      go_ret
      exact ⟨by rw [HR.out]; rfl, rfl⟩
    · have hL' : lastOk r = true := by simpa using hL
      have HE2 : Hid (isExp r = r.all numB) := by show _ = _; rw [HE.out, hL', Bool.and_true]
      clear hL
      by_cases h0 : r.length = 0
      · have t2 : decide (0 < r.length) = false := by simp [h0]
        clear h0 hL'
        go_enter Tryz.func55, Tryz.ntmps55
        go_wp2_with fail
        go_loop [3] (fun i => ∃ k : Nat, k ≤ r.length ∧ i = .int .i64 k ∧ Hid (∀ j, j < k → numB (r.getD j 0) = true)) (fun i => r.length - (intOf i).toNat)
        case atStart => exact ⟨0, Nat.zero_le _, rfl, fun j hj => absurd hj (Nat.not_lt_zero _)⟩
        case round =>
          obtain ⟨k, hk, rfl, hp⟩ := hrel
          by_cases hlt : k < r.length
          · obtain ⟨b1, o1, c1', hv1, hc1, _⟩ := (H.out).at (w := w) k hlt
            simp only [Value.slice.injEq, true_and] at hv1
            obtain ⟨rfl, rfl⟩ := hv1
            have HM := Lib.hid (List.getElem_mem hlt)
            have HX := Lib.hid (getD_at' r k hlt)
            cases hn : numB r[k]
            · have HR : Hid (isExp r = false) := by
                show _ = _
                rw [HE2.out, List.all_eq_false]
                exact ⟨_, HM.out, by simp [hn]⟩
              have C := Lib.hid (fun w => l01In_c r[k] 0 1000000000000 w)
              rw [show (decide (0 ≤ r[k]) && decide (r[k] ≤ 1000000000000)) = false from hn] at C
              clear hn
              generalize r[k] = x at *
              go_wp2_with (go_at_call 36; refine (C.out _).mono ?_; rintro e w' ⟨rfl, rfl⟩)
              go_ret
              exact ⟨by rw [HR.out]; rfl, rfl⟩
            · have HP2 : Hid (∀ j, j < k + 1 → numB (r.getD j 0) = true) := fun j hj => by
                by_cases e : j = k
                · subst e; rw [HX.out]; exact hn
                · exact hp.out j (by omega)
              have C := Lib.hid (fun w => l01In_c r[k] 0 1000000000000 w)
              rw [show (decide (0 ≤ r[k]) && decide (r[k] ≤ 1000000000000)) = true from hn] at C
              clear hn
              generalize r[k] = x at *
              go_wp2_with (go_at_call 36; refine (C.out _).mono ?_; rintro e w' ⟨rfl, rfl⟩)
              go_round
              case rel => exact ⟨k + 1, by omega, by go_num, HP2⟩
              case measure => simp [intOf]; omega
          · obtain rfl : k = r.length := by omega
            have HR : Hid (isExp r = true) := by
              show _ = _
              rw [HE2.out, List.all_eq_true]
              intro x hx
              obtain ⟨j, hj, rfl⟩ := List.getElem_of_mem hx
              have := hp.out j hj
              rwa [getD_at' r j hj] at this
            go_wp2_with fail
            go_ret
            exact ⟨by rw [HR.out]; rfl, rfl⟩
      · obtain ⟨q, hq⟩ : ∃ q, r.length = q + 1 := ⟨r.length - 1, by omega⟩
        have e1 : lastOk r = (r.getD q 0 != 0) := by simp [lastOk, hq]
        have hz : (r.getD q 0 == 0) = false := by rw [hL'] at e1; simpa using e1.symm
        have t2 : decide (0 < r.length) = true := by simp; omega
        obtain ⟨b, off, cap, hv, hc0, -⟩ := H.out.at (w := w) q (by omega)
        simp only [Value.slice.injEq, true_and] at hv
        obtain ⟨rfl, rfl⟩ := hv
        rw [← getD_at'] at hc0
        have s1 : (r.length : Int) - 1 = q := by omega
        have hq1 : q + 1 ≤ 10 := by omega
        have HQ := Lib.hid hq; clear hq e1 hL' h0
        generalize r.getD q 0 = x at *
        go_enter Tryz.func55, Tryz.ntmps55
        go_wp2_with fail
        go_loop [3] (fun i => ∃ k : Nat, k ≤ r.length ∧ i = .int .i64 k ∧ Hid (∀ j, j < k → numB (r.getD j 0) = true)) (fun i => r.length - (intOf i).toNat)
        case atStart => exact ⟨0, Nat.zero_le _, rfl, fun j hj => absurd hj (Nat.not_lt_zero _)⟩
        case round =>
          obtain ⟨k, hk, rfl, hp⟩ := hrel
          by_cases hlt : k < r.length
          · obtain ⟨b1, o1, c1', hv1, hc1, _⟩ := (H.out).at (w := w) k hlt
            simp only [Value.slice.injEq, true_and, Option.some.injEq, Addr.mk.injEq, and_true] at hv1
            obtain ⟨⟨rfl, rfl⟩, rfl⟩ := hv1
            have HM := Lib.hid (List.getElem_mem hlt)
            have HX := Lib.hid (getD_at' r k hlt)
            cases hn : numB r[k]
            · have HR : Hid (isExp r = false) := by
                show _ = _
                rw [HE2.out, List.all_eq_false]
                exact ⟨_, HM.out, by simp [hn]⟩
              have C := Lib.hid (fun w => l01In_c r[k] 0 1000000000000 w)
              rw [show (decide (0 ≤ r[k]) && decide (r[k] ≤ 1000000000000)) = false from hn] at C
              clear hn
              generalize r[k] = x at *
              go_wp2_with (go_at_call 36; refine (C.out _).mono ?_; rintro e w' ⟨rfl, rfl⟩)
              go_ret
              exact ⟨by rw [HR.out]; rfl, rfl⟩
            · have HP2 : Hid (∀ j, j < k + 1 → numB (r.getD j 0) = true) := fun j hj => by
                by_cases e : j = k
                · subst e; rw [HX.out]; exact hn
                · exact hp.out j (by omega)
              have C := Lib.hid (fun w => l01In_c r[k] 0 1000000000000 w)
              rw [show (decide (0 ≤ r[k]) && decide (r[k] ≤ 1000000000000)) = true from hn] at C
              clear hn
              generalize r[k] = x at *
              go_wp2_with (go_at_call 36; refine (C.out _).mono ?_; rintro e w' ⟨rfl, rfl⟩)
              go_round
              case rel => exact ⟨k + 1, by omega, by go_num, HP2⟩
              case measure => simp [intOf]; omega
          · obtain rfl : k = r.length := by omega
            have HR : Hid (isExp r = true) := by
              show _ = _
              rw [HE2.out, List.all_eq_true]
              intro x hx
              obtain ⟨j, hj, rfl⟩ := List.getElem_of_mem hx
              have := hp.out j hj
              rwa [getD_at' r j hj] at this
            go_wp2_with fail
            go_ret
            exact ⟨by rw [HR.out]; rfl, rfl⟩
  · have t1 : decide (10 < r.length) = true := by simp; omega
    have t1' : decide ((10 : Int) < (r.length : Int)) = true := by simp; omega
    have HR : Hid (isExp r = false) := by show _ = _; simp [isExp, hl]
    go_enter Tryz.func55, Tryz.ntmps55
    go_wp2_with fail
    go_ret
    exact ⟨by rw [HR.out]; rfl, rfl⟩
end Go.Proofs.YtalbbjhonkcbgaaGreatDoor

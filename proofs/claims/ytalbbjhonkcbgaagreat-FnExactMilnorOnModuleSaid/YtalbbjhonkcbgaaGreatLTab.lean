/- Products of exponent lists by tables: plain. And the laws of binary digits that they ask. -/
import Derived.Test.YtalbbjhonkcbgaaGreatLJoin
import Derived.Test.YtalbbjhonkcbgaaGreatLTrim
import Derived.Test.YtalbbjhonkcbgaaGreatLSum
import Derived.Test.YtalbbjhonkcbgaaGreatFn
namespace Go.Proofs.YtalbbjhonkcbgaaGreat
open Go.RowKit Go.Sort

theorem ofI64 (a : Nat) (ha : a < 9223372036854775808) : (BitVec.ofInt 64 (a : Int)).toNat = a := by
  rw [BitVec.ofInt_natCast, BitVec.toNat_ofNat]; exact Nat.mod_eq_of_lt (by omega)
theorem orI64 (a b : Nat) (ha : a < 9223372036854775808) (hb : b < 9223372036854775808) : bits .or .i64 (a : Int) (b : Int) = ((a ||| b : Nat) : Int) := by
  have hx : a ||| b < 2 ^ 63 := Nat.or_lt_two_pow (by omega) (by omega)
  show IntKind.i64.wrap ((BitVec.ofInt 64 (a : Int) ||| BitVec.ofInt 64 (b : Int)).toNat : Int) = _
  rw [BitVec.toNat_or, ofI64 a ha, ofI64 b hb, IntKind.wrap_i64]
  omega
theorem andI64 (a b : Nat) (ha : a < 9223372036854775808) (hb : b < 9223372036854775808) : bits .and .i64 (a : Int) (b : Int) = ((a &&& b : Nat) : Int) := by
  have hx : a &&& b < 2 ^ 63 := Nat.and_lt_two_pow _ (by omega)
  show IntKind.i64.wrap ((BitVec.ofInt 64 (a : Int) &&& BitVec.ofInt 64 (b : Int)).toNat : Int) = _
  rw [BitVec.toNat_and, ofI64 a ha, ofI64 b hb, IntKind.wrap_i64]
  omega
/-- No binary digit is in two of the numbers, and none of them in what was seen. -/
def apartL (seen : Nat) : List Int → Bool
  | [] => true
  | n :: l => (seen &&& n.toNat == 0) && apartL (seen ||| n.toNat) l
theorem apartL_zero (seen : Nat) (l : List Int) : apartL seen (0 :: l) = apartL seen l := by simp [apartL]
theorem apartL_filter (l : List Int) : ∀ seen, apartL seen (l.filter (· != 0)) = apartL seen l := by
  induction l with
  | nil => intro seen; rfl
  | cons x l ih =>
    intro seen
    by_cases h : x = 0
    · subst h; rw [apartL_zero]; simpa using ih seen
    · rw [List.filter_cons_of_pos (by simpa using h)]
      simp only [apartL, ih]
theorem sum_filter (l : List Int) : (l.filter (· != 0)).sum = l.sum := by
  induction l with
  | nil => rfl
  | cons x l ih =>
    by_cases h : x = 0
    · subst h; simpa using ih
    · rw [List.filter_cons_of_pos (by simpa using h), List.sum_cons, List.sum_cons, ih]
/-- The number of a table at (i, j), its edges counted. -/
def tabAt (R S : List Int) (C : List (List Int)) (i j : Nat) : Int :=
  if i = 0 then (if j = 0 then 0 else S.getD (j - 1) 0) else if j = 0 then R.getD (i - 1) 0 else (C.getD (i - 1) []).getD (j - 1) 0
/-- A diagonal of a table. -/
def diagL (R S : List Int) (C : List (List Int)) (k : Nat) : List Int := (List.range (k + 1)).map fun i => tabAt R S C i (k - i)
def finOk (m n : Nat) (R S : List Int) (C : List (List Int)) : Bool := (List.range (m + n)).all fun k => apartL 0 (diagL R S C (k + 1))
def finT (m n : Nat) (R S : List Int) (C : List (List Int)) : List Int := (List.range (m + n)).map fun k => (diagL R S C (k + 1)).sum
def finL (m n : Nat) (R S : List Int) (C : List (List Int)) : List (List Int) := if finOk m n R S C then [trim (finT m n R S C)] else []
def setC (C : List (List Int)) (i j : Nat) (x : Int) : List (List Int) := C.set i ((C.getD i []).set j x)
/-- How great the number at a place can be. -/
def minX (R S : List Int) (i j : Nat) : Nat := (min (R.getD i 0 / 2 ^ (j + 1)) (S.getD j 0)).toNat
/-- What all tables give, the last k cells being open. -/
def fillT (m n : Nat) : Nat → List Int → List Int → List (List Int) → List (List Int)
  | 0, R, S, C => finL m n R S C
  | k + 1, R, S, C => (List.range (minX R S ((m * n - (k + 1)) / n) ((m * n - (k + 1)) % n) + 1)).flatMap fun (x : Nat) =>
      fillT m n k (R.set ((m * n - (k + 1)) / n) (R.getD ((m * n - (k + 1)) / n) 0 - 2 ^ ((m * n - (k + 1)) % n + 1) * (x : Int)))
        (S.set ((m * n - (k + 1)) % n) (S.getD ((m * n - (k + 1)) % n) 0 - x)) (setC C ((m * n - (k + 1)) / n) ((m * n - (k + 1)) % n) x)
/-- The product of two basis elements, with repetitions. -/
def basL (r s : List Int) : List (List Int) := fillT r.length s.length (r.length * s.length) r s (List.replicate r.length (List.replicate s.length 0))
/-- The products of all pairs. -/
def prodsL (a b : List (List Int)) : List (List Int) := a.flatMap fun r => b.flatMap fun s => basL r s
theorem diagL_length (R S : List Int) (C : List (List Int)) (k : Nat) : (diagL R S C k).length = k + 1 := by simp [diagL]
theorem diagL_take (R S : List Int) (C : List (List Int)) (k i : Nat) (h : i < k + 1) : (diagL R S C k).take (i + 1) = (diagL R S C k).take i ++ [tabAt R S C i (k - i)] := by
  rw [List.take_succ_eq_append_getElem (by rw [diagL_length]; exact h)]
  simp [diagL]
theorem tabAt_sm {b : Int} {R S : List Int} {C : List (List Int)} (hb : 0 ≤ b) (sR : Sm b R) (sS : Sm b S) (sC : ∀ x ∈ C, Sm b x) (i j : Nat) : 0 ≤ tabAt R S C i j ∧ tabAt R S C i j ≤ b := by
  unfold tabAt
  split
  · split
    · omega
    · exact sS.at hb _
  · split
    · exact sR.at hb _
    · by_cases h : i - 1 < C.length
      · rw [show C.getD (i - 1) [] = C[i - 1] by simp [h]]; exact (sC _ (List.getElem_mem h)).at hb _
      · rw [show C.getD (i - 1) [] = [] by simp [show C.length ≤ i - 1 by omega]]; simp; exact hb
theorem diagL_sm {b : Int} {R S : List Int} {C : List (List Int)} (hb : 0 ≤ b) (sR : Sm b R) (sS : Sm b S) (sC : ∀ x ∈ C, Sm b x) (k : Nat) : Sm b (diagL R S C k) := by
  intro x hx
  simp only [diagL, List.mem_map] at hx
  obtain ⟨i, -, rfl⟩ := hx
  exact tabAt_sm hb sR sS sC _ _
theorem range_map_succ {α : Type} (f : Nat → α) (k : Nat) : (List.range (k + 1)).map f = (List.range k).map f ++ [f k] := by simp [List.range_succ]
theorem finOk_false {m n : Nat} {R S : List Int} {C : List (List Int)} (k : Nat) (hk : k < m + n) (h : apartL 0 (diagL R S C (k + 1)) = false) : finL m n R S C = [] := by
  unfold finL
  rw [if_neg]
  unfold finOk
  rw [List.all_eq_true]
  intro h2
  rw [h2 k (List.mem_range.2 hk)] at h
  cases h
theorem finOk_true {m n : Nat} {R S : List Int} {C : List (List Int)} (h : ∀ k, k < m + n → apartL 0 (diagL R S C (k + 1)) = true) : finL m n R S C = [trim (finT m n R S C)] := by
  unfold finL
  rw [if_pos]
  unfold finOk
  rw [List.all_eq_true]
  exact fun k hk => h k (List.mem_range.1 hk)
theorem prodsL_take (a b : List (List Int)) (i : Nat) (h : i < a.length) : prodsL (a.take (i + 1)) b = prodsL (a.take i) b ++ b.flatMap (basL a[i]) := by
  unfold prodsL
  rw [List.take_succ_eq_append_getElem h, List.flatMap_append]
  simp
theorem foldl_sum (xs : List Int) : ∀ (t b : Int), 0 ≤ t → t + xs.length * b ≤ 4611686018427387904 → Sm b xs → xs.foldl (fun s x => wrap64 (s + x)) t = t + xs.sum := by
  induction xs with
  | nil => intro t b _ _ _; simp
  | cons x xs ih =>
    intro t b h0 h1 h2
    have hx := h2 x (List.mem_cons_self ..)
    rw [List.length_cons, Int.natCast_add, Int.add_mul] at h1
    have hp : 0 ≤ (xs.length : Int) * b := Int.mul_nonneg (by omega) (by omega)
    have e : wrap64 (t + x) = t + x := by unfold wrap64; omega
    rw [List.foldl_cons, e, ih (t + x) b (by omega) (by omega) (fun y hy => h2 y (List.mem_cons_of_mem _ hy)), List.sum_cons, Int.add_assoc]
theorem Sm.sum {b : Int} {xs : List Int} (h : Sm b xs) : 0 ≤ xs.sum ∧ xs.sum ≤ xs.length * b := by
  induction xs with
  | nil => simp
  | cons x xs ih =>
    have hx := h x (List.mem_cons_self ..)
    have := ih (fun y hy => h y (List.mem_cons_of_mem _ hy))
    rw [List.sum_cons, List.length_cons, Int.natCast_add, Int.add_mul]
    omega
theorem sumS_c (v : Value) (xs : List Int) (w : World) (h : IntS w.heap v xs) (hs : Sm 1000000000000000 xs) (hl : xs.length ≤ 1000) :
    Calls Tryz.prog 68 #[v] w fun e w' => e = .returned (.int .i64 xs.sum) ∧ w = w' :=
  (sum_c v xs w h).mono fun _ _ ⟨he, hw⟩ => ⟨by rw [he, foldl_sum xs 0 1000000000000000 (by omega) (by omega) hs, Int.zero_add], hw⟩
theorem apartL_step (l : List Int) (k : Nat) (hk : k < l.length) (seen : Nat) : apartL seen (l.drop k) = ((seen &&& (l.getD k 0).toNat == 0) && apartL (seen ||| (l.getD k 0).toNat) (l.drop (k + 1))) := by
  rw [List.drop_eq_getElem_cons hk, apartL]; simp [hk]
theorem apart_c (v : Value) (xs : List Int) (w : World) (h : IntS w.heap v xs) (hs : Sm 1000000000000000 xs) :
    Calls Tryz.prog 137 #[v] w fun e w' => e = .returned (.bool (apartL 0 xs)) ∧ w = w' := by
  obtain ⟨ao, c, rfl, hm⟩ := h.len
  have H := Lib.hid h; have HS := Lib.hid hs
  clear h hs
  go_enter Tryz.func137, Tryz.ntmps137
  go_wp2_with fail
  go_loop [3, 8] (fun s i => ∃ (k t : Nat), k ≤ xs.length ∧ i = .int .i64 k ∧ s = .int .i64 t ∧ t < 1152921504606846976 ∧ Hid (apartL t (xs.drop k) = apartL 0 xs)) (fun _ i => xs.length - (intOf i).toNat)
  case atStart => exact ⟨0, 0, Nat.zero_le _, rfl, rfl, by omega, rfl⟩
  case round =>
    obtain ⟨k, t, hk, rfl, rfl, ht, he⟩ := hrel
    by_cases hlt : k < xs.length
    · obtain ⟨b1, o1, c1, hv1, hc1, -⟩ := H.out.at k hlt
      simp only [Value.slice.injEq, true_and] at hv1
      obtain ⟨rfl, rfl⟩ := hv1
      rw [← getD_at'] at hc1
      have hb := HS.out.at (by omega) k
      have hst := apartL_step xs k hlt t
      rw [he.out] at hst
      have HST := Lib.hid hst
      clear hst he
      generalize xs.getD k 0 = x at *
      obtain ⟨y, rfl⟩ := Int.eq_ofNat_of_zero_le hb.1
      have hki : (k : Int) < xs.length := by omega
      have ea := andI64 t y (by omega) (by omega)
      have eo := orI64 t y (by omega) (by omega)
      have hor : t ||| y < 2 ^ 60 := Nat.or_lt_two_pow (by omega) (by omega)
      by_cases h0 : t &&& y = 0
      · have HR : Hid (apartL (t ||| y) (xs.drop (k + 1)) = apartL 0 xs) := by
          show _ = _
          rw [HST.out]
          simp [h0]
        have t1 : (((t &&& y : Nat) : Int) != 0) = false := by rw [h0]; rfl
        clear h0 HST
        go_wp2_with fail
        go_round
        case rel => exact ⟨k + 1, t ||| y, by omega, by go_num, rfl, by omega, HR⟩
        case measure => simp [intOf]; omega
      · have HR : Hid (apartL 0 xs = false) := by
          show _ = _
          rw [HST.out]
          simp [h0]
        have t1 : (((t &&& y : Nat) : Int) != 0) = true := by
          rw [bne_iff_ne]; intro e; exact h0 (by omega)
        clear h0 HST
        go_wp2_with fail
        go_ret
        exact ⟨by rw [HR.out]; rfl, rfl⟩
    · obtain rfl : k = xs.length := by omega
      have HR : Hid (apartL 0 xs = true) := by
        show _ = _
        rw [← he.out, List.drop_length]; rfl
      clear he
      go_wp2_with fail
      go_ret
      exact ⟨by rw [HR.out]; rfl, rfl⟩
theorem l01Apart_c (v : Value) (xs : List Int) (w : World) (h : IntS w.heap v xs) (hs : Sm 1000000000000000 xs) :
    Calls Tryz.prog 140 #[v] w fun e w' => e = .returned (.bool (apartL 0 xs)) ∧ w = w' := by
  obtain ⟨ao, c, rfl, hm⟩ := h.len
  have H := Lib.hid h; have HS := Lib.hid hs
  clear h hs
  go_enter Tryz.func140, Tryz.ntmps140
  go_wp2_with fail
  go_loop [3, 4] (fun s i => ∃ (k t : Nat), k ≤ xs.length ∧ i = .int .i64 k ∧ s = .int .i64 t ∧ t < 1152921504606846976 ∧ Hid (apartL t (xs.drop k) = apartL 0 xs)) (fun _ i => xs.length - (intOf i).toNat)
  case atStart => exact ⟨0, 0, Nat.zero_le _, rfl, rfl, by omega, rfl⟩
  case round =>
    obtain ⟨k, t, hk, rfl, rfl, ht, he⟩ := hrel
    by_cases hlt : k < xs.length
    · obtain ⟨b1, o1, c1, hv1, hc1, -⟩ := H.out.at k hlt
      simp only [Value.slice.injEq, true_and] at hv1
      obtain ⟨rfl, rfl⟩ := hv1
      rw [← getD_at'] at hc1
      have hb := HS.out.at (by omega) k
      have hst := apartL_step xs k hlt t
      rw [he.out] at hst
      have HST := Lib.hid hst
      clear hst he
      generalize xs.getD k 0 = x at *
      obtain ⟨y, rfl⟩ := Int.eq_ofNat_of_zero_le hb.1
      have hki : (k : Int) < xs.length := by omega
      have ea := andI64 t y (by omega) (by omega)
      have eo := orI64 t y (by omega) (by omega)
      have hor : t ||| y < 2 ^ 60 := Nat.or_lt_two_pow (by omega) (by omega)
      by_cases h0 : t &&& y = 0
      · have HR : Hid (apartL (t ||| y) (xs.drop (k + 1)) = apartL 0 xs) := by
          show _ = _
          rw [HST.out]
          simp [h0]
        have t1 : (((t &&& y : Nat) : Int) != 0) = false := by rw [h0]; rfl
        clear h0 HST
        go_wp2_with fail
        go_round
        case rel => exact ⟨k + 1, t ||| y, by omega, by go_num, rfl, by omega, HR⟩
        case measure => simp [intOf]; omega
      · have HR : Hid (apartL 0 xs = false) := by
          show _ = _
          rw [HST.out]
          simp [h0]
        have t1 : (((t &&& y : Nat) : Int) != 0) = true := by
          rw [bne_iff_ne]; intro e; exact h0 (by omega)
        clear h0 HST
        go_wp2_with fail
        go_ret
        exact ⟨by rw [HR.out]; rfl, rfl⟩
    · obtain rfl : k = xs.length := by omega
      have HR : Hid (apartL 0 xs = true) := by
        show _ = _
        rw [← he.out, List.drop_length]; rfl
      clear he
      go_wp2_with fail
      go_ret
      exact ⟨by rw [HR.out]; rfl, rfl⟩
end Go.Proofs.YtalbbjhonkcbgaaGreat

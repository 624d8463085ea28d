/- WeightsOf, of the program and of the reference. -/
import Derived.Test.YtlakdlnfijkaeaaLTrim
import Derived.Test.YtlakdlnfijkaeaaL10
import Derived.Test.YtlakdlnfijkaeaaFn
import Derived.Test.YtlakdlnfijkaeaaLWn
namespace Go.Proofs.Ytlakdlnfijkaeaa
open Go.RowKit Go.Sort

/-- The digit i of x. -/
def dig (x : Int) (i : Nat) : Int := (x / 2 ^ i) % 2
theorem dig_and : ∀ x : Nat, x < 41 → ∀ i : Nat, i < 6 → (bits BinOp.and IntKind.i64 (x : Int) (2 ^ i) != 0) = decide (dig x i = 1) := by decide +kernel
theorem dig_shr : ∀ x : Nat, x < 41 → ∀ i : Nat, i < 6 → bits BinOp.and IntKind.i64 ((x : Int) / 2 ^ i) 1 = dig x i := by decide +kernel
theorem dig_bit (x : Int) (i : Nat) : 0 ≤ dig x i ∧ dig x i ≤ 1 := by unfold dig; omega
theorem dig_small (x : Int) (i : Nat) (h0 : 0 ≤ x) (h : x < 2 ^ i) : dig x i = 0 := by unfold dig; rw [Int.ediv_eq_zero_of_lt h0 h]; rfl
/-- How many of the numbers have the digit i. -/
def wt (xs : List Int) (i : Nat) : Int := (xs.map fun x => dig x i).sum
theorem wt_succ (xs : List Int) (j i : Nat) (h : j < xs.length) : wt (xs.take (j + 1)) i = wt (xs.take j) i + dig xs[j] i := by
  unfold wt; rw [List.take_succ_eq_append_getElem h, List.map_append, List.sum_append]; simp
theorem wt_bounds (xs : List Int) (i : Nat) : 0 ≤ wt xs i ∧ wt xs i ≤ xs.length := by
  unfold wt
  induction xs with
  | nil => simp
  | cons x r ih => have := dig_bit x i; simp; omega
theorem wt_zero (xs : List Int) (i : Nat) (h0 : ∀ x, x ∈ xs → 0 ≤ x) (h : xs.sum < 2 ^ i) : wt xs i = 0 := by
  unfold wt
  induction xs with
  | nil => rfl
  | cons x r ih =>
    have h1 := h0 x (by simp)
    have hs : 0 ≤ r.sum := by
      clear ih h
      have h2 : ∀ y, y ∈ r → 0 ≤ y := fun y hy => h0 y (by simp [hy])
      clear h0 h1
      induction r with
      | nil => simp
      | cons a t iht => have := h2 a (by simp); have := iht (fun y hy => h2 y (by simp [hy])); simp; omega
    simp only [List.sum_cons] at h
    have h3 := ih (fun y hy => h0 y (by simp [hy])) (by omega)
    have h4 := dig_small x i h1 (by omega)
    simp only [List.map_cons, List.sum_cons, h3, h4]; rfl
def wtV (xs : List Int) : Bool := decide (1 ≤ xs.length) && (decide (xs.length ≤ 4) && (xs.all (fun x => decide (0 ≤ x) && decide (x ≤ 40)) && decide (xs.sum ≤ 40)))
def wts (xs : List Int) (k : Nat) : List Int := (List.range k).map (wt xs)
theorem wts_length (xs : List Int) (k : Nat) : (wts xs k).length = k := by simp [wts]
theorem wts_succ (xs : List Int) (k : Nat) : wts xs (k + 1) = wts xs k ++ [wt xs k] := by simp [wts, List.range_succ]
def wtOf (xs : List Int) : List Int := if wtV xs then trim (wts xs 6) else []
def wtC (xs : List Int) : Int := if wtV xs then 0 else 2
theorem wt_yes {xs : List Int} (h : wtV xs = true) : wtOf xs = trim (wts xs 6) ∧ wtC xs = 0 := by simp [wtOf, wtC, h]
theorem wt_no {xs : List Int} (h : wtV xs = false) : wtOf xs = [] ∧ wtC xs = 2 := by simp [wtOf, wtC, h]
theorem wtOf_length (xs : List Int) : (wtOf xs).length ≤ 6 := by
  unfold wtOf; split
  · rw [trim_length]; have := trimN_le (wts xs 6) (wts xs 6).length; rw [wts_length] at *; exact this
  · simp
/-- Only so many weights as the sum has digits count. -/
theorem wts_trim (xs : List Int) (k : Nat) (hk : k ≤ 6) (h0 : ∀ x, x ∈ xs → 0 ≤ x) (hs : xs.sum < 2 ^ k) : (wts xs k).take (trimN (wts xs k) k) = trim (wts xs 6) := by
  have hz : ∀ i, k ≤ i → wt xs i = 0 := fun i hi => wt_zero xs i h0 (Int.lt_of_lt_of_le hs (by
    have := Nat.pow_le_pow_right (show 0 < 2 by omega) hi
    exact_mod_cast this))
  have e1 : trimN (wts xs 6) 6 = trimN (wts xs k) k := by
    rw [trimN_zeros (wts xs 6) k 6 hk (fun i h1 h2 => by simp [wts, h2, hz i h1])]
    exact trimN_congr _ _ _ fun i hi => by simp [wts, hi, show i < 6 by omega]
  unfold trim
  rw [wts_length, e1]
  have hle := trimN_le (wts xs k) k
  unfold wts at *
  rw [← List.map_take, ← List.map_take, List.take_range, List.take_range]
  rw [Nat.min_eq_left hle, Nat.min_eq_left (by omega)]
theorem isDegree_c (n : Int) (w : World) : Calls Try.prog 72 #[.int .i64 n] w fun e w' => e = .returned (.bool (decide (0 ≤ n) && decide (n ≤ 40))) ∧ w = w' := by
  go_enter Try.func72, Try.ntmps72
  go_wp2_with (first | (go_at_call 51; refine (in_c _ _ _ _).mono ?_; rintro e w' ⟨rfl, rfl⟩))
  go_ret
  exact ⟨rfl, rfl⟩
theorem enters_isDegree : Enters Try.prog 72 := fun args w => by kernel_rfl
theorem isCount_c (n : Int) (w : World) : Calls Try.prog 63 #[.int .i64 n] w fun e w' => e = .returned (.bool (decide (1 ≤ n) && decide (n ≤ 4))) ∧ w = w' := by
  go_enter Try.func63, Try.ntmps63
  go_wp2_with (first | (go_at_call 51; refine (in_c _ _ _ _).mono ?_; rintro e w' ⟨rfl, rfl⟩))
  go_ret
  exact ⟨rfl, rfl⟩
/-- A monomial in k variables. -/
def monV (xs : List Int) (k : Int) : Bool := decide ((xs.length : Int) = k) && (xs.all (fun x => decide (0 ≤ x) && decide (x ≤ 40)) && decide (xs.foldl (fun s x => wrap64 (s + x)) 0 ≤ 40))
theorem isMonomial_c (v : Value) (xs : List Int) (k : Int) (w : World) (h : IntS w.heap v xs) :
    Calls Try.prog 64 #[v, .int .i64 k] w fun e w' => e = .returned (.bool (monV xs k)) ∧ Below w.heap.size w w' := by
  obtain ⟨ao, c, rfl, hm⟩ := h.len
  have hall := fun (w1 : World) (hw : ∀ b, b < w.heap.size → w1.heap[b]? = w.heap[b]?) => all_c (.slice ao xs.length c) xs _ #[] (fun x => decide (0 ≤ x) && decide (x ≤ 40)) w1 (h.same hw) enters_isDegree
    (fun w2 _ x _ => (isDegree_c x w2).mono fun _ _ ⟨he, hw2⟩ => ⟨he, 0, hw2.symm⟩)
  have hsum := fun (w1 : World) (hw : ∀ b, b < w.heap.size → w1.heap[b]? = w.heap[b]?) => sum_c (.slice ao xs.length c) xs w1 (h.same hw)
  have HALL := Lib.hid hall; have HSUM := Lib.hid hsum; clear hall hsum h
  by_cases hl : (xs.length : Int) = k
  · have hl1 := (eqB hl).1
    cases ha : xs.all (fun x => decide (0 ≤ x) && decide (x ≤ 40))
    · have hV : monV xs k = false := by simp [monV, ha]
      rw [hV]; rw [ha] at HALL
      clear hV ha hl
      go_enter Try.func64, Try.ntmps64
      go_wp2_with fail
      refine (HALL.out _ (fun _ _ => rfl)).mono ?_
      rintro e w1 ⟨rfl, hb⟩
      go_wp2_with fail
      go_ret
      exact ⟨rfl, hb⟩
    · have hV : monV xs k = decide (xs.foldl (fun s x => wrap64 (s + x)) 0 ≤ 40) := by simp [monV, ha, hl]
      rw [hV]; rw [ha] at HALL
      clear hV ha hl
      generalize xs.foldl (fun s x => wrap64 (s + x)) 0 = s at *
      go_enter Try.func64, Try.ntmps64
      go_wp2_with fail
      refine (HALL.out _ (fun _ _ => rfl)).mono ?_
      rintro e w1 ⟨rfl, hb⟩
      have HB := Lib.hid hb; clear hb
      go_wp2_with fail
      refine (HSUM.out _ HB.out.block).mono ?_
      rintro e w2 ⟨rfl, rfl⟩
      go_wp2_with fail
      go_ret
      exact ⟨rfl, HB.out⟩
  · have hl1 := (neB hl).1
    have hV : monV xs k = false := by simp [monV, hl]
    rw [hV]; clear hV hl HALL HSUM
    go_enter Try.func64, Try.ntmps64
    go_wp2_with fail
    go_ret
    exact ⟨rfl, Below.refl _ _⟩
theorem specWeightsOf_c (v : Value) (xs : List Int) (w : World) (h : IntS w.heap v xs) (hlen : xs.length ≤ 1048576) :
    Calls Try.prog 43 #[v] w fun e w' => ∃ r, e = .returned (.tuple #[r, .int .i64 (wtC xs)]) ∧ IntS w'.heap r (wtOf xs) ∧ Below w.heap.size w w' := by
  obtain ⟨ao, c, rfl, hm⟩ := h.len
  have H := Lib.hid h; clear h
  go_enter Try.func43, Try.ntmps43
  go_wp2_with fail
  go_loop [4, 5] (fun s i => ∃ j : Nat, j ≤ xs.length ∧ i = .int .i64 j ∧ s = .int .i64 (xs.take j).sum ∧ 0 ≤ (xs.take j).sum ∧ (xs.take j).sum ≤ 40 * j ∧ Hid (∀ x, x ∈ xs.take j → 0 ≤ x ∧ x ≤ 40)) (fun _ i => xs.length - (intOf i).toNat)
  case atStart => exact ⟨0, Nat.zero_le _, rfl, rfl, by simp, by simp, fun x hx => by simp at hx⟩
  case round =>
    obtain ⟨j, hj, rfl, rfl, hs0, hs1, hall⟩ := hrel
    by_cases hlt : j < xs.length
    · obtain ⟨b, off, cap, hv, hc, -⟩ := (H.out).at j hlt
      simp only [Value.slice.injEq, true_and] at hv
      obtain ⟨rfl, rfl⟩ := hv
      by_cases hx : 0 ≤ xs[j] ∧ xs[j] ≤ 40
      · have hS := sum_take_succ xs j hlt
        have hA : ∀ x, x ∈ xs.take (j + 1) → 0 ≤ x ∧ x ≤ 40 := by
          intro x hx'
          rw [List.take_succ_eq_append_getElem hlt, List.mem_append] at hx'
          rcases hx' with h | h
          · exact hall.out x h
          · simp at h; subst h; exact hx
        have HS := Lib.hid hS; have HA := Lib.hid hA; clear hS hA hall
        obtain ⟨hx1, hx2⟩ := hx
        have t3 : (decide (0 ≤ xs[j]) && decide (xs[j] ≤ 40)) = true := by simp; omega
        generalize (xs.take j).sum = s at *
        generalize xs[j] = x at *
        go_wp2_with (first | (go_at_call 49; refine (l01In_c _ _ _ _).mono ?_; rintro e w' ⟨rfl, rfl⟩))
        go_round
        case rel => exact ⟨j + 1, by omega, by go_num, by rw [HS.out], by rw [HS.out]; omega, by rw [HS.out]; omega, HA⟩
        case measure => simp [intOf]; omega
      · have hV : wtV xs = false := by
          cases e : wtV xs
          · rfl
          · simp only [wtV, Bool.and_eq_true, decide_eq_true_eq, List.all_eq_true] at e
            exact absurd (e.2.2.1 _ (List.getElem_mem hlt)) hx
        have t3 : (decide (0 ≤ xs[j]) && decide (xs[j] ≤ 40)) = false := by simp; omega
        have HV := Lib.hid (wt_no hV); clear hV hx hall
        generalize (xs.take j).sum = s at *
        generalize xs[j] = x at *
        go_wp2_with (first | (go_at_call 49; refine (l01In_c _ _ _ _).mono ?_; rintro e w' ⟨rfl, rfl⟩))
        go_ret2
        rw [HV.out.1, HV.out.2]
        exact ⟨_, rfl, IntS.nil _, Below.refl _ _⟩
    · obtain rfl : j = xs.length := by omega
      rw [List.take_length] at hs0 hs1 hall
      rw [List.take_length]
      have HALL := hall; clear hall
      obtain ⟨s, hs⟩ : ∃ s, s = xs.sum := ⟨_, rfl⟩
      rw [← hs] at hs0 hs1 ⊢
      have HS := Lib.hid hs; clear hs
      by_cases hl : 1 ≤ xs.length ∧ xs.length ≤ 4 ∧ s ≤ 40
      · obtain ⟨hl1, hl2, hl3⟩ := hl
        have hV : wtV xs = true := by
          simp only [wtV, Bool.and_eq_true, decide_eq_true_eq, List.all_eq_true]
          exact ⟨hl1, hl2, HALL.out, by rw [← HS.out]; exact hl3⟩
        have HV := Lib.hid (wt_yes hV); clear hV
        have l1 : decide ((xs.length : Int) < 1) = false := by simp; omega
        have l2 : decide (4 < (xs.length : Int)) = false := by simp; omega
        have l3 : decide (40 < s) = false := by simp; omega
        go_wp2_with fail
        clear l1 l2 l3
        go_loopw [6, 7] (fun o b wr => ∃ q : Nat, q ≤ 6 ∧ b = .int .i64 (2 ^ q) ∧ OwnI wr w.heap.size o (wts xs q) ∧ Below w.heap.size w wr) (fun _ b _ => 100 - (intOf b).toNat)
        case atStart => exact ⟨0, by omega, rfl, ownI_empty (Nat.le_refl _), (Below.refl _ _).alloc (Nat.le_refl _) _⟩
        case round =>
          obtain ⟨q, hq, rfl, hown, hbl⟩ := hrel
          obtain ⟨p, hp⟩ : ∃ p : Int, p = 2 ^ q := ⟨_, rfl⟩
          have hp1 : 1 ≤ p ∧ p ≤ 64 ∧ (p ≤ 40 → q ≤ 5) := by
            have : q = 0 ∨ q = 1 ∨ q = 2 ∨ q = 3 ∨ q = 4 ∨ q = 5 ∨ q = 6 := by omega
            rcases this with rfl | rfl | rfl | rfl | rfl | rfl | rfl <;> subst hp <;> omega
          have hp2 : (2 : Int) ^ (q + 1) = p * 2 := by rw [hp]; rfl
          rw [← hp]
          have HP := Lib.hid hp; have HP2 := Lib.hid hp2; clear hp hp2
          obtain ⟨hpl, hpu, hpq⟩ := hp1
          by_cases hps : p ≤ s
          · have hq5 := hpq (by omega)
            clear hpq
            have HO := Lib.hid hown; have HB := Lib.hid hbl; clear hown hbl
            go_wp2_with fail
            obtain ⟨wo, rfl⟩ : ∃ wo : World, wo = wr := ⟨_, rfl⟩
            go_loop [8, 9] (fun n i => ∃ j : Nat, j ≤ xs.length ∧ i = .int .i64 j ∧ n = .int .i64 (wt (xs.take j) q)) (fun _ i => xs.length - (intOf i).toNat)
            case atStart => exact ⟨0, Nat.zero_le _, rfl, rfl⟩
            case round =>
              obtain ⟨j, hj, rfl, rfl⟩ := hrel
              by_cases hlt : j < xs.length
              · obtain ⟨b, off, cap, hv, hc, -⟩ := (H.out.same HB.out.block).at (w := wo) j hlt
                simp only [Value.slice.injEq, true_and] at hv
                obtain ⟨rfl, rfl⟩ := hv
                have hS := wt_succ xs j q hlt
                have hx := HALL.out _ (List.getElem_mem hlt)
                have hd := dig_and xs[j].toNat (by omega) q (by omega)
                rw [Int.toNat_of_nonneg hx.1, ← HP.out] at hd
                have hbd := wt_bounds (xs.take j) q
                have hle : (xs.take j).length ≤ 4 := by simp; omega
                generalize wt (xs.take j) q = n at *
                have hdb := dig_bit xs[j] q
                by_cases h1 : dig xs[j] q = 1
                · rw [h1] at hS
                  rw [h1, decide_eq_true rfl] at hd
                  generalize xs[j] = x at *
                  have HS := Lib.hid hS; clear hS h1 hdb
                  go_wp2_with fail
                  go_round
                  case rel => exact ⟨j + 1, by omega, by go_num, by rw [HS.out]⟩
                  case measure => simp [intOf]; omega
                · rw [show dig xs[j] q = 0 by omega] at hS
                  rw [decide_eq_false h1] at hd
                  generalize xs[j] = x at *
                  have HS := Lib.hid hS; clear hS h1 hdb
                  go_wp2_with fail
                  go_round
                  case rel => exact ⟨j + 1, by omega, by go_num, by rw [HS.out, Int.add_zero]⟩
                  case measure => simp [intOf]; omega
              · obtain rfl : j = xs.length := by omega
                rw [List.take_length]
                have hl6 := wts_length xs q
                have hsz := HB.out.size
                go_wp2_with (first | (at_builtin; refine append_int rfl _ _ rfl _ _ _ _ HO.out rfl HB.out hsz _ rfl (by simp) (by omega) ?_; intro v' w' hown' hbl' _ _))
                go_roundw
                case rel => exact ⟨q + 1, by omega, by rw [HP2.out], by rw [wts_succ]; exact hown', hbl'⟩
                case measure => simp [intOf]; omega
          · have hk := wts_trim xs q hq (fun x hx => (HALL.out x hx).1) (by rw [← HS.out, ← HP.out]; omega)
            have HK := Lib.hid hk; clear hk hpq
            have hl6 := wts_length xs q
            rcases hown.ints with ⟨rfl, he⟩ | ⟨b6, o6, c6, cur6, rfl, hb6, hc6, hm6, -, -⟩
            · have hq0 : q = 0 := by
                have := congrArg List.length he
                simpa [hl6] using this
              subst hq0
              clear he
              go_wp2_with fail
              go_loop [10] (fun n => n = .int .i64 0) (fun _ => 0)
              case atStart => rfl
              case round =>
                subst hrel
                go_wp2_with fail
                go_ret2
                rw [HV.out.1, HV.out.2, ← HK.out]
                exact ⟨_, rfl, IntS.nil _, hbl⟩
            · simp only [List.length_map] at hc6 hown
              simp only [List.length_map]
              have hown' := hown
              rw [hl6] at hown' hc6
              rw [hl6]
              have HO := Lib.hid hown; have HB := Lib.hid hbl; clear hown hbl hown' hb6
              unfold maxLen at hm6
              go_wp2_with fail
              go_loop [10] (fun n => ∃ t : Nat, t ≤ q ∧ n = .int .i64 t ∧ Hid (trimN (wts xs q) q = trimN (wts xs q) t)) (fun n => (intOf n).toNat)
              case atStart => exact ⟨q, Nat.le_refl _, rfl, rfl⟩
              case round =>
                obtain ⟨t, ht, rfl, htr⟩ := hrel
                by_cases h0 : t = 0
                · subst h0
                  go_wp2_with fail
                  go_ret2
                  rw [HV.out.1, HV.out.2, ← HK.out]
                  have := (HO.out.take 0 (Nat.zero_le _)).ints
                  have ht2 := htr.out
                  rw [ht2]
                  exact ⟨_, rfl, this, HB.out⟩
                · obtain ⟨u, rfl⟩ : ∃ u, t = u + 1 := ⟨t - 1, by omega⟩
                  obtain ⟨b, off, cap, hv, hc, -⟩ := (HO.out.ints).at (w := wr) u (by omega)
                  simp only [Value.slice.injEq, Option.some.injEq, Addr.mk.injEq, true_and, and_true] at hv
                  obtain ⟨⟨rfl, rfl⟩, rfl⟩ := hv
                  rw [← getD_at'] at hc
                  by_cases hz : (wts xs q).getD u 0 = 0
                  · have ht2 : Hid (trimN (wts xs q) q = trimN (wts xs q) u) := by unfold Hid; rw [htr.out, trimN, if_pos hz]
                    rw [hz] at hc
                    clear hz h0
                    go_wp2_with fail
                    go_round
                    case rel => exact ⟨u, by omega, by go_num, ht2⟩
                    case measure => simp [intOf]
                  · have hb := (neB hz).1
                    have ht2 : Hid (trimN (wts xs q) q = u + 1) := by unfold Hid; rw [htr.out, trimN, if_neg hz]
                    generalize (wts xs q).getD u 0 = x at *
                    clear hz h0
                    go_wp2_with fail
                    go_ret2
                    rw [HV.out.1, HV.out.2, ← HK.out, ht2.out]
                    exact ⟨_, rfl, (HO.out.take (u + 1) (by omega)).ints, HB.out⟩
      · have hV : wtV xs = false := by
          cases e : wtV xs
          · rfl
          · simp only [wtV, Bool.and_eq_true, decide_eq_true_eq] at e
            rw [← HS.out] at e
            exact absurd ⟨e.1, e.2.1, e.2.2.2⟩ hl
        have HV := Lib.hid (wt_no hV); clear hV
        by_cases l1 : xs.length < 1
        · have l1' : decide ((xs.length : Int) < 1) = true := by simp; omega
          clear hl
          go_wp2_with fail
          go_ret2
          rw [HV.out.1, HV.out.2]
          exact ⟨_, rfl, IntS.nil _, Below.refl _ _⟩
        · have l1' : decide ((xs.length : Int) < 1) = false := by simp; omega
          by_cases l2 : 4 < xs.length
          · have l2' : decide (4 < (xs.length : Int)) = true := by simp; omega
            clear hl
            go_wp2_with fail
            go_ret2
            rw [HV.out.1, HV.out.2]
            exact ⟨_, rfl, IntS.nil _, Below.refl _ _⟩
          · have l2' : decide (4 < (xs.length : Int)) = false := by simp; omega
            have l3' : decide (40 < s) = true := by simp; omega
            clear hl
            go_wp2_with fail
            go_ret2
            rw [HV.out.1, HV.out.2]
            exact ⟨_, rfl, IntS.nil _, Below.refl _ _⟩
/-- The weights of the first j numbers and the first i digits of x. -/
def wtI (xs : List Int) (j i : Nat) : List Int := (List.range 6).map fun t => wt (xs.take j) t + if t < i then dig (xs.getD j 0) t else 0
theorem wtI_zero (xs : List Int) : wtI xs 0 0 = List.replicate 6 0 := by simp [wtI, wt, List.range_succ]
theorem wtI_next (xs : List Int) (j : Nat) (h : j < xs.length) : wtI xs j 6 = wtI xs (j + 1) 0 := by
  unfold wtI
  apply List.map_congr_left
  intro t ht
  have ht := List.mem_range.1 ht
  rw [if_pos ht, if_neg (by omega), wt_succ xs j t h]; simp [h]
theorem wtI_set (xs : List Int) (j i : Nat) (h : i < 6) : (wtI xs j i).set i (wt (xs.take j) i + dig (xs.getD j 0) i) = wtI xs j (i + 1) := by
  apply List.ext_getElem?
  intro t
  rw [List.getElem?_set]
  by_cases e : i = t
  · subst e; simp [wtI, h]
  · rw [if_neg e]
    by_cases ht : t < 6
    · simp only [wtI, List.getElem?_map, List.getElem?_range ht, Option.map_some]
      by_cases h2 : t < i
      · rw [if_pos h2, if_pos (by omega)]
      · rw [if_neg h2, if_neg (by omega)]
    · simp [wtI, ht]
theorem wtI_length (xs : List Int) (j i : Nat) : (wtI xs j i).length = 6 := by simp [wtI]
theorem wtI_at (xs : List Int) (j i : Nat) (h : i < 6) : (wtI xs j i).getD i 0 = wt (xs.take j) i := by simp [wtI, h]
theorem wtI_all (xs : List Int) : wtI xs xs.length 0 = wts xs 6 := by
  unfold wtI wts; apply List.map_congr_left; intro t _; simp
theorem monV_wtV (xs : List Int) (hl : 1 ≤ xs.length) (hl2 : xs.length ≤ 4) : monV xs xs.length = wtV xs := by
  cases ha : xs.all (fun x => decide (0 ≤ x) && decide (x ≤ 40))
  · simp [monV, wtV, ha]
  · have key : ∀ (ys : List Int) (s : Int), 0 ≤ s → s + 40 * ys.length ≤ 1000000 → (∀ x, x ∈ ys → 0 ≤ x ∧ x ≤ 40) → ys.foldl (fun s x => wrap64 (s + x)) s = s + ys.sum := by
      intro ys
      induction ys with
      | nil => intro s _ _ _; simp
      | cons x r ih =>
        intro s hs hb hx
        have h1 := hx x (by simp)
        simp only [List.length_cons] at hb
        have e : wrap64 (s + x) = s + x := IntWalk.wrap64_in _ ⟨by omega, by omega⟩
        simp only [List.foldl_cons, e]
        rw [ih (s + x) (by omega) (by omega) (fun y hy => hx y (by simp [hy]))]
        simp [Int.add_assoc]
    have h := key xs 0 (by omega) (by omega) (fun x hx => by have := List.all_eq_true.1 ha x hx; simpa using this)
    simp only [Int.zero_add] at h
    simp [monV, wtV, ha, h, hl, hl2]
theorem implWeightsOf_c (v : Value) (xs : List Int) (w : World) (h : IntS w.heap v xs) :
    Calls Try.prog 44 #[v] w fun e w' => ∃ r, e = .returned (.tuple #[r, .int .i64 (wtC xs)]) ∧ OwnI w' w.heap.size r (wtOf xs) ∧ Below w.heap.size w w' := by
  obtain ⟨ao, c, rfl, hm⟩ := h.len
  have H := Lib.hid h; clear h
  by_cases hl : 1 ≤ xs.length ∧ xs.length ≤ 4
  · have t1 : (decide (1 ≤ (xs.length : Int)) && decide ((xs.length : Int) ≤ 4)) = true := by simp; omega
    have M := Lib.hid (fun w (h : IntS w.heap (.slice ao xs.length c) xs) => isMonomial_c (.slice ao xs.length c) xs xs.length w h)
    rw [monV_wtV xs hl.1 hl.2] at M
    cases hV : wtV xs
    · rw [hV] at M
      have HV := Lib.hid (wt_no hV); clear hV hl
      go_enter Try.func44, Try.ntmps44
      go_wp2_with (first | (go_at_call 63; refine (isCount_c _ _).mono ?_; rintro e w' ⟨rfl, rfl⟩) | (go_at_call 64; refine (M.out _ H.out).mono ?_; rintro e w1 ⟨rfl, hb⟩))
      go_ret2
      rw [HV.out.1, HV.out.2]
      exact ⟨_, rfl, OwnI.nil _ _, hb⟩
    · rw [hV] at M
      have hall : Hid (∀ x, x ∈ xs → 0 ≤ x ∧ x ≤ 40) := fun x hx => by
        simp only [wtV, Bool.and_eq_true, decide_eq_true_eq, List.all_eq_true] at hV
        exact hV.2.2.1 x hx
      have HV := Lib.hid (wt_yes hV); clear hV
      have hmk := fun w => make_run (P := Try.prog) 25 2 _ 8 info_int64 Try.underlying25 rfl (by omega) 6 (by omega) .i64 .i64 6 6 rfl rfl w
      obtain ⟨hl1, hl2⟩ := hl
      go_enter Try.func44, Try.ntmps44
      go_wp2_with (first | (go_at_call 63; refine (isCount_c _ _).mono ?_; rintro e w' ⟨rfl, rfl⟩) | (go_at_call 64; refine (M.out _ H.out).mono ?_; rintro e w1 ⟨rfl, hb⟩; have HB := Lib.hid hb; clear hb))
      clear hmk
      go_loopw [23] (fun i wr => ∃ j : Nat, j ≤ xs.length ∧ i = .int .i64 j ∧ wr.ownsRow w1.heap.size 2 1 (.slice (some ⟨w1.heap.size, 0, none⟩) 6 6) 6 ((wtI xs j 0).map (Value.int .i64)) ∧ Below w1.heap.size w1 wr) (fun i _ => xs.length - (intOf i).toNat)
      case atStart =>
        refine ⟨0, Nat.zero_le _, rfl, ?_, (Below.refl _ _).alloc (Nat.le_refl _) _⟩
        rw [wtI_zero]
        simpa using made_own w1 w1.heap.size 2 6 (.int .i64 0) (Nat.le_refl _) (by omega)
      case round =>
        obtain ⟨j, hj, rfl, hown, hbl⟩ := hrel
        by_cases hlt : j < xs.length
        · have hbw : Below w.heap.size w wr := HB.out.trans (hbl.mono HB.out.size)
          obtain ⟨b, off, cap, hv, hc, -⟩ := (H.out.same hbw.block).at (w := wr) j hlt
          simp only [Value.slice.injEq, true_and] at hv
          obtain ⟨rfl, rfl⟩ := hv
          have hx := hall.out _ (List.getElem_mem hlt)
          rw [← getD_at'] at hc hx
          obtain ⟨x, hxe⟩ : ∃ x : Nat, xs.getD j 0 = x := ⟨(xs.getD j 0).toNat, by omega⟩
          rw [hxe] at hc hx
          have HX := Lib.hid hxe; clear hxe
          have HO := Lib.hid hown; have HBL := Lib.hid hbl; clear hown hbl hbw
          go_wp2_with fail
          obtain ⟨wo, rfl⟩ : ∃ wo : World, wo = wr := ⟨_, rfl⟩
          clear hc
          go_loopw [29] (fun i wr => ∃ i' : Nat, i' ≤ 6 ∧ i = .int .i64 i' ∧ wr.ownsRow w1.heap.size 2 1 (.slice (some ⟨w1.heap.size, 0, none⟩) 6 6) 6 ((wtI xs j i').map (Value.int .i64)) ∧ Below w1.heap.size w1 wr) (fun i _ => 6 - (intOf i).toNat)
          case atStart => exact ⟨0, by omega, rfl, HO.out, HBL.out⟩
          case round =>
            obtain ⟨i, hi, rfl, hown, hbl⟩ := hrel
            by_cases hi6 : i < 6
            · have hc := own_int_at hown i hi6
              rw [wtI_at _ _ _ hi6] at hc
              have hf := hown.frozenAt i
              have hst := own_int_set hown i (wt (xs.take j) i + dig (xs.getD j 0) i)
              rw [wtI_set _ _ _ hi6] at hst
              have hbl' := hbl.setCell (p := ⟨w1.heap.size, i, none⟩) (Nat.le_refl _) (.int .i64 (wt (xs.take j) i + dig (xs.getD j 0) i))
              have hd := dig_shr x (by omega) i hi6
              have hdb := dig_bit x i
              have hwb := wt_bounds (xs.take j) i
              have hle : (xs.take j).length ≤ 4 := by simp; omega
              rw [HX.out] at hst hbl'
              have hi0 : (0 : Int) ≤ (i : Int) := by omega
              have hi1 : (i : Int) < 6 := by omega
              have hww : IntKind.i64.wrap (wt (xs.take j) i + dig x i) = wt (xs.take j) i + dig x i := IntWalk.i64_in _ (by omega)
              have G := Lib.hid (And.intro hst hbl'); clear hst hbl' hown hbl hle
              generalize wt (xs.take j) i = y at *
              generalize dig x i = z at *
              go_wp2_with fail
              go_region
              go_wp2_with fail
              go_roundw
              case rel => exact ⟨i + 1, by omega, by go_num, own_same G.out.1 (fun _ _ => rfl), below_drewN 1 G.out.2⟩
              case measure => simp [intOf]; omega
            · obtain rfl : i = 6 := by omega
              go_wp2_with fail
              go_roundw
              case rel => exact ⟨j + 1, by omega, by go_num, by rw [← wtI_next xs j hlt]; exact hown, hbl⟩
              case measure => simp [intOf]; omega
        · obtain rfl : j = xs.length := by omega
          rw [wtI_all] at hown
          have hown' : OwnI wr w1.heap.size (.slice (some ⟨w1.heap.size, 0, none⟩) (wts xs 6).length 6) (wts xs 6) := by unfold OwnI; rw [wts_length]; exact hown
          have h6 := wts_length xs 6
          have TC := Lib.hid (trimmed_c (some ⟨w1.heap.size, 0, none⟩) 6 (wts xs 6) wr hown'.ints)
          have HT := Lib.hid (hown'.take (trimN (wts xs 6) (wts xs 6).length) (trimN_le _ _))
          rw [h6] at TC HT
          clear hown hown' h6
          go_wp2_with (first | (go_at_call 65; refine TC.out.mono ?_; rintro e w' ⟨rfl, rfl⟩))
          go_ret2
          rw [HV.out.1, HV.out.2]
          refine ⟨_, rfl, ?_, HB.out.trans (hbl.mono HB.out.size)⟩
          have := own_base HT.out HB.out.size
          unfold trim; rw [wts_length]; exact this
  · have t1 : (decide (1 ≤ (xs.length : Int)) && decide ((xs.length : Int) ≤ 4)) = false := by simp; omega
    have hV : wtV xs = false := by
      cases e : wtV xs
      · rfl
      · simp only [wtV, Bool.and_eq_true, decide_eq_true_eq] at e
        exact absurd ⟨e.1, e.2.1⟩ hl
    have HV := Lib.hid (wt_no hV); clear hV hl
    go_enter Try.func44, Try.ntmps44
    go_wp2_with (first | (go_at_call 63; refine (isCount_c _ _).mono ?_; rintro e w' ⟨rfl, rfl⟩))
    go_ret2
    rw [HV.out.1, HV.out.2]
    exact ⟨_, rfl, OwnI.nil _ _, Below.refl _ _⟩
end Go.Proofs.Ytlakdlnfijkaeaa

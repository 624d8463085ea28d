/- WhitneyNumber, of the program and of the reference. -/
import Derived.Test.YtmnkccjddahcjaaLDu
import Derived.Test.YtmnkccjddahcjaaFn
namespace Go.Proofs.Ytmnkccjddahcjaa
open Go.RowKit Go.Sort

theorem and_mul {o p : Int} (ho : Bit o) (hp : Bit p) : bits BinOp.and IntKind.i64 o p = o * p := by
  rcases ho with rfl | rfl <;> rcases hp with rfl | rfl <;> decide +kernel
theorem mul_bit {o p : Int} (ho : Bit o) (hp : Bit p) : Bit (o * p) := by
  rcases ho with rfl | rfl <;> rcases hp with rfl | rfl <;> simp [Bit]
def wnP (n : Int) (xs : List Int) : Int := xs.foldl (fun o x => o * parI (n + 1) x) 1
theorem wnP_succ (n : Int) (xs : List Int) (j : Nat) (h : j < xs.length) : wnP n (xs.take (j + 1)) = wnP n (xs.take j) * parI (n + 1) xs[j] := by
  unfold wnP; rw [List.take_succ_eq_append_getElem h, List.foldl_append]; rfl
theorem wnP_bit (n : Int) (xs : List Int) (j : Nat) : Bit (wnP n (xs.take j)) := by
  induction j with
  | zero => exact .inr rfl
  | succ j ih =>
    by_cases h : j < xs.length
    · rw [wnP_succ n xs j h]; exact mul_bit ih (parI_bit _ _)
    · rw [List.take_of_length_le (by omega)]; rw [List.take_of_length_le (by omega)] at ih; exact ih
def wnV (n : Int) (xs : List Int) : Bool := (decide (1 ≤ n) && decide (n ≤ 1000)) && (decide (xs.length ≤ 100) && (xs.all (fun x => decide (1 ≤ x) && decide (x ≤ n)) && decide (xs.sum = n)))
def wnOf (n : Int) (xs : List Int) : Int := if wnV n xs then wnP n xs else 0
def wnC (n : Int) (xs : List Int) : Int := if wnV n xs then 0 else 2
theorem wn_yes {n : Int} {xs : List Int} (h : wnV n xs = true) : wnOf n xs = wnP n xs ∧ wnC n xs = 0 := by simp [wnOf, wnC, h]
theorem wn_no {n : Int} {xs : List Int} (h : wnV n xs = false) : wnOf n xs = 0 ∧ wnC n xs = 2 := by simp [wnOf, wnC, h]
theorem sum_take_succ (xs : List Int) (j : Nat) (h : j < xs.length) : (xs.take (j + 1)).sum = (xs.take j).sum + xs[j] := by
  rw [List.take_succ_eq_append_getElem h, List.sum_append]; simp
theorem sum_nonneg (xs : List Int) (h : ∀ x, x ∈ xs → 1 ≤ x) : 0 ≤ xs.sum := by
  induction xs with
  | nil => simp
  | cons x r ih =>
    have := h x (by simp); have := ih (fun y hy => h y (by simp [hy])); simp; omega
theorem sum_take_le (xs : List Int) (h : ∀ x, x ∈ xs → 1 ≤ x) (j : Nat) : (xs.take j).sum ≤ xs.sum := by
  have e : xs.sum = (xs.take j).sum + (xs.drop j).sum := by rw [← List.sum_append, List.take_append_drop]
  have := sum_nonneg (xs.drop j) (fun x hx => h x (List.mem_of_mem_drop hx))
  omega
theorem wnV_at {n : Int} {xs : List Int} (h : wnV n xs = true) (j : Nat) (hj : j < xs.length) : 1 ≤ xs[j] ∧ xs[j] ≤ n - (xs.take j).sum := by
  simp only [wnV, Bool.and_eq_true, decide_eq_true_eq, List.all_eq_true] at h
  obtain ⟨_, _, ha, hs⟩ := h
  have h1 := sum_take_le xs (fun x hx => (ha x hx).1) (j + 1)
  rw [sum_take_succ xs j hj] at h1
  have := (ha _ (List.getElem_mem hj)).1
  omega
/-- The sum of numbers from 1 to n, at most 100 of them, does not wrap. -/
theorem wrap_sum (n : Int) (hn : n ≤ 1000) (xs : List Int) (hl : xs.length ≤ 100) (ha : ∀ x, x ∈ xs → 1 ≤ x ∧ x ≤ n) : xs.foldl (fun s x => wrap64 (s + x)) 0 = xs.sum := by
  have key : ∀ (ys : List Int) (s : Int), 0 ≤ s → s + 1000 * ys.length ≤ 1000000 → (∀ x, x ∈ ys → 1 ≤ x ∧ x ≤ n) → ys.foldl (fun s x => wrap64 (s + x)) s = s + ys.sum := by
    intro ys
    induction ys with
    | nil => intro s _ _ _; simp
    | cons x r ih =>
      intro s hs hb hx
      have h1 := hx x (by simp)
      simp only [List.length_cons] at hb
      have e : wrap64 (s + x) = s + x := IntWalk.wrap64_in _ ⟨by omega, by omega⟩
      simp only [List.foldl_cons, e]
      rw [ih (s + x) (by omega) (by omega) (fun y hy => hx y (by simp [hy]))]
      simp [Int.add_assoc]
  have := key xs 0 (by omega) (by omega) ha
  simpa using this

theorem wn1_c (x n : Int) (b : Nat) (w : World) (hc : w.cell? ⟨b, 0, none⟩ = some (.int .i64 n)) :
    Calls Try.prog 116 #[.int .i64 x, .pointer (some ⟨b, 0, none⟩)] w fun e w' => e = .returned (.bool (decide (1 ≤ x) && decide (x ≤ n))) ∧ ∃ m, w' = w.drewN m := by
  go_enter Try.func116, Try.ntmps116
  go_wp2_with fail
  refine (in_c _ _ _ _).mono ?_
  rintro e w' ⟨rfl, rfl⟩
  go_wp2_with fail
  go_ret
  exact ⟨rfl, 0, rfl⟩
theorem enters_wn1 : Enters Try.prog 116 := fun args w => by kernel_rfl
theorem specWhitneyNumber_c (n : Int) (v : Value) (xs : List Int) (w : World) (h : IntS w.heap v xs) :
    Calls Try.prog 58 #[.int .i64 n, v] w fun e w' => e = .returned (.tuple #[.int .i64 (wnOf n xs), .int .i64 (wnC n xs)]) ∧ w = w' := by
  obtain ⟨ao, c, rfl, hm⟩ := h.len
  by_cases hr : 1 ≤ n ∧ n ≤ 1000
  · have t1 : (decide (1 ≤ n) && decide (n ≤ 1000)) = true := by simp; omega
    obtain ⟨hr1, hr2⟩ := hr
    by_cases hl : xs.length ≤ 100
    · have t2 : decide (100 < xs.length) = false := by simp; omega
      have H := Lib.hid h; clear h
      have T1 := Lib.hid t1
      go_enter Try.func58, Try.ntmps58
      go_wp2_with (first | (go_at_call 111; refine (l10Space_c _ _).mono ?_; rintro e w' ⟨rfl, rfl⟩))
      clear t1
      go_loop [6, 7, 8] (fun r o i => ∃ j : Nat, j ≤ xs.length ∧ i = .int .i64 j ∧ r = .int .i64 (n - (xs.take j).sum) ∧ o = .int .i64 (wnP n (xs.take j)) ∧ 0 ≤ (xs.take j).sum ∧ (xs.take j).sum ≤ n ∧ Hid (∀ x, x ∈ xs.take j → 1 ≤ x ∧ x ≤ n)) (fun _ _ i => xs.length - (intOf i).toNat)
      case atStart => exact ⟨0, Nat.zero_le _, rfl, by simp, rfl, by simp, by simp; omega, fun x hx => by simp at hx⟩
      case round =>
        obtain ⟨j, hj, rfl, rfl, rfl, hs0, hs1, hall⟩ := hrel
        by_cases hlt : j < xs.length
        · obtain ⟨b, off, cap, hv, hc, -⟩ := (H.out).at j hlt
          simp only [Value.slice.injEq, true_and] at hv
          obtain ⟨rfl, rfl⟩ := hv
          by_cases hx : 1 ≤ xs[j] ∧ xs[j] ≤ n - (xs.take j).sum
          · have hP := wnP_succ n xs j hlt
            have hS := sum_take_succ xs j hlt
            have hA : ∀ x, x ∈ xs.take (j + 1) → 1 ≤ x ∧ x ≤ n := by
              intro x hx'
              rw [List.take_succ_eq_append_getElem hlt, List.mem_append] at hx'
              rcases hx' with h | h
              · exact hall.out x h
              · simp at h; subst h; omega
            have b1 := wnP_bit n xs j
            have b2 := parI_bit (n + 1) xs[j]
            have b3 := bit_bounds (mul_bit b1 b2)
            have HP := Lib.hid hP; have HS := Lib.hid hS; have HA := Lib.hid hA
            clear hP hS hA hall b1 b2
            obtain ⟨hx1, hx2⟩ := hx
            have t3 : (decide (1 ≤ xs[j]) && decide (xs[j] ≤ n - (xs.take j).sum)) = true := by simp; omega
            generalize (xs.take j).sum = s at *
            generalize wnP n (xs.take j) = o at *
            generalize xs[j] = x at *
            go_wp2_with (first | (go_at_call 82; refine (l01In_c _ _ _ _).mono ?_; rintro e w' ⟨rfl, rfl⟩) | (go_at_call 83; refine (l01Parity_c _ _ _ (by omega) (by omega)).mono ?_; rintro e w' ⟨rfl, rfl⟩))
            go_round
            case rel => exact ⟨j + 1, by omega, by go_num, by rw [HS.out]; go_num, by rw [HP.out], by rw [HS.out]; omega, by rw [HS.out]; omega, HA⟩
            case measure => simp [intOf]; omega
          · have hV : wnV n xs = false := by
              cases e : wnV n xs
              · rfl
              · exact absurd (wnV_at e j hlt) hx
            have t3 : (decide (1 ≤ xs[j]) && decide (xs[j] ≤ n - (xs.take j).sum)) = false := by simp; omega
            have HV := Lib.hid (wn_no hV); clear hV hx hall
            generalize (xs.take j).sum = s at *
            generalize wnP n (xs.take j) = o at *
            generalize xs[j] = x at *
            go_wp2_with (first | (go_at_call 82; refine (l01In_c _ _ _ _).mono ?_; rintro e w' ⟨rfl, rfl⟩))
            go_ret2
            rw [HV.out.1, HV.out.2]
            exact ⟨rfl, rfl⟩
        · obtain rfl : j = xs.length := by omega
          rw [List.take_length] at hs0 hs1 hall
          rw [List.take_length]
          by_cases hz : xs.sum = n
          · have hV : wnV n xs = true := by
              simp only [wnV, Bool.and_eq_true, decide_eq_true_eq, List.all_eq_true]
              exact ⟨⟨hr1, hr2⟩, hl, hall.out, hz⟩
            have HV := Lib.hid (wn_yes hV); clear hV hall
            have hz2 : n - xs.sum = 0 := by omega
            rw [hz2]; clear hz2 hz
            go_wp2_with fail
            go_ret2
            rw [HV.out.1, HV.out.2]
            exact ⟨rfl, rfl⟩
          · have hV : wnV n xs = false := by
              cases e : wnV n xs
              · rfl
              · simp only [wnV, Bool.and_eq_true, decide_eq_true_eq] at e
                exact absurd e.2.2.2 hz
            have HV := Lib.hid (wn_no hV); clear hV hall
            have hz2 := (neB (show n - xs.sum ≠ 0 by omega)).2
            generalize n - xs.sum = d at *
            clear hz
            go_wp2_with fail
            go_ret2
            rw [HV.out.1, HV.out.2]
            exact ⟨rfl, rfl⟩
    · have t2 : 100 < xs.length := by omega
      have hV : wnV n xs = false := by simp [wnV, hl]
      have HV := Lib.hid (wn_no hV); clear hV hl h
      go_enter Try.func58, Try.ntmps58
      go_wp2_with (first | (go_at_call 111; refine (l10Space_c _ _).mono ?_; rintro e w' ⟨rfl, rfl⟩))
      go_ret2
      rw [HV.out.1, HV.out.2]
      exact ⟨rfl, rfl⟩
  · have t1 : (decide (1 ≤ n) && decide (n ≤ 1000)) = false := by simp; omega
    have hV : wnV n xs = false := by simp only [wnV, t1]; rfl
    have HV := Lib.hid (wn_no hV); clear hV hr h
    go_enter Try.func58, Try.ntmps58
    go_wp2_with (first | (go_at_call 111; refine (l10Space_c _ _).mono ?_; rintro e w' ⟨rfl, rfl⟩))
    go_ret2
    rw [HV.out.1, HV.out.2]
    exact ⟨rfl, rfl⟩
theorem implWhitneyNumber_c (n : Int) (v : Value) (xs : List Int) (w : World) (h : IntS w.heap v xs) :
    Calls Try.prog 57 #[.int .i64 n, v] w fun e w' => e = .returned (.tuple #[.int .i64 (wnOf n xs), .int .i64 (wnC n xs)]) ∧ Below w.heap.size w w' := by
  obtain ⟨ao, c, rfl, hm⟩ := h.len
  by_cases hr : 1 ≤ n ∧ n ≤ 1000
  · have t1 : (decide (1 ≤ n) && decide (n ≤ 1000)) = true := by simp; omega
    by_cases hl : xs.length ≤ 100
    · have t2 : decide (100 < xs.length) = false := by simp; omega
      have t2' : decide (100 < (xs.length : Int)) = false := by simp; omega
      have hall : ∀ w1 : World, (∀ b, b < w.heap.size + 1 → w1.heap[b]? = (w.alloc (.cells #[.int .i64 n] 2)).heap[b]?) → w.heap.size + 1 ≤ w1.heap.size →
          Calls Try.prog 85 #[.slice ao xs.length c, .func (.func 116) #[] #[.pointer (some ⟨w.heap.size, 0, none⟩)]] w1 fun e w' => e = .returned (.bool (xs.all (fun x => decide (1 ≤ x) && decide (x ≤ n)))) ∧ Below w1.heap.size w1 w' := by
        intro w1 hw hsz
        refine all_c (.slice ao xs.length c) xs _ #[.pointer (some ⟨w.heap.size, 0, none⟩)] (fun x => decide (1 ≤ x) && decide (x ≤ n)) w1 (h.same fun b hb => (hw b (by omega)).trans (alloc_old _ _ b hb)) enters_wn1 ?_
        intro w2 hw2 x _
        refine wn1_c x n w.heap.size w2 ?_
        rw [World.cell?_of_block (w := w1) (hw2 _ (by show w.heap.size < _; omega)), World.cell?_of_block (w := w.alloc (.cells #[.int .i64 n] 2)) (hw _ (by simp))]
        simp
      have hsum := fun (w1 : World) (hw : ∀ b, b < w.heap.size → w1.heap[b]? = w.heap[b]?) => sum_c (.slice ao xs.length c) xs w1 (h.same hw)
      have hallq := fun (d : Nat) (os : Array Obj) => Calls.regrown_of (w := w.alloc (.cells #[.int .i64 n] 2)) (d := d) (os := os) (hall (grow (redrawn (w.alloc (.cells #[.int .i64 n] 2)) d) os) (fun b hb => (below_regrown _ d os).block b (by simp; omega)) (Nat.le_trans (by simp) (below_regrown (w.alloc (.cells #[.int .i64 n] 2)) d os).size))
      have hsumq := fun (d : Nat) (os : Array Obj) => regrown_same (w := w.alloc (.cells #[.int .i64 n] 2)) (d := d) (os := os) (hsum _ (fun b hb => ((below_regrown _ d os).block b (by simp; omega)).trans (alloc_old _ _ b hb)))
      have HALL := Lib.hid hallq; have HSUM := Lib.hid hsumq; clear hall hsum hallq hsumq
      cases ha : xs.all (fun x => decide (1 ≤ x) && decide (x ≤ n))
      · have hV : wnV n xs = false := by simp only [wnV, ha]; simp
        rw [ha] at HALL
        have HV := Lib.hid (wn_no hV); clear hV ha h
        go_enter Try.func57, Try.ntmps57
        go_upto_region 1 with fail
        have kb : ∀ d os, (grow (redrawn (w.alloc (.cells #[.int .i64 n] 2)) d) os).cell? ⟨w.heap.size, 0, none⟩ = some (.int .i64 n) := fun d os => cell_regrown (by simp) d os
        refine wp_region_quiet_below (by kernel_rfl) (by kernel_rfl) ?_
        repeat (go_big_quiet_step (first | (go_at_call 109; exact regrown_same (isSpace_c _ _)) | (go_at_call 85; exact HALL.out _ _) | (go_at_call 117; exact HSUM.out _ _)))
        refine wpQuiet_nil ?_
        intro _ hw'
        obtain ⟨⟨dq, osq⟩, hw''⟩ := hw'
        subst hw''
        have hfin : Below w.heap.size w (grow (redrawn (w.alloc (.cells #[.int .i64 n] 2)) dq) osq) := ((Below.refl _ w).alloc (Nat.le_refl _) _).trans ((below_regrown _ dq osq).mono (by simp))
        have FIN := Lib.hid hfin; clear hfin kb
        go_wp2_with fail
        go_ret2
        rw [HV.out.1, HV.out.2]
        exact ⟨rfl, FIN.out⟩
      · have hs := wrap_sum n hr.2 xs hl (fun x hx => by have := List.all_eq_true.1 ha x hx; simp at this; omega)
        rw [hs] at HSUM
        have hall2 : Hid (∀ x, x ∈ xs → 1 ≤ x ∧ x ≤ n) := fun x hx => by have := List.all_eq_true.1 ha x hx; simpa using this
        rw [ha] at HALL
        by_cases hz : xs.sum = n
        · have hV : wnV n xs = true := by simp only [wnV, t1, ha, hl, hz]; simp
          have HV := Lib.hid (wn_yes hV); clear hV
          have hz2 := (eqB (show n = n from rfl)).2
          rw [hz] at HSUM
          clear ha hz hs
          have H := Lib.hid h; clear h
          obtain ⟨m, rfl⟩ := Int.eq_ofNat_of_zero_le (show 0 ≤ n by omega)
          obtain ⟨hr1, hr2⟩ := hr
          go_enter Try.func57, Try.ntmps57
          go_upto_region 1 with fail
          have kb : ∀ d os, (grow (redrawn (w.alloc (.cells #[.int .i64 (m : Int)] 2)) d) os).cell? ⟨w.heap.size, 0, none⟩ = some (.int .i64 (m : Int)) := fun d os => cell_regrown (by simp) d os
          refine wp_region_quiet_below (by kernel_rfl) (by kernel_rfl) ?_
          repeat (go_big_quiet_step (first | (go_at_call 109; exact regrown_same (isSpace_c _ _)) | (go_at_call 85; exact HALL.out _ _) | (go_at_call 117; exact HSUM.out _ _)))
          refine wpQuiet_nil ?_
          intro _ hw'
          obtain ⟨⟨dq, osq⟩, hw''⟩ := hw'
          subst hw''
          have hfin : Below w.heap.size w (grow (redrawn (w.alloc (.cells #[.int .i64 (m : Int)] 2)) dq) osq) := ((Below.refl _ w).alloc (Nat.le_refl _) _).trans ((below_regrown _ dq osq).mono (by simp))
          have FIN := Lib.hid hfin; clear hfin kb
          have hcw : (grow (redrawn (w.alloc (.cells #[.int .i64 (m : Int)] 2)) dq) osq).cell? ⟨w.heap.size, 0, none⟩ = some (.int .i64 m) := cell_regrown (by simp) dq osq
          generalize grow (redrawn (w.alloc (.cells #[.int .i64 (m : Int)] 2)) dq) osq = w3 at *
          go_wp2_with (first | (go_at_call 110; refine (whitney_c _ _ (by omega)).mono ?_; rintro e w4 ⟨v, rfl, hown4, hb4⟩))
          have HW := Lib.hid hown4; have HB4 := Lib.hid hb4; clear hown4 hb4 hcw
          go_loop [7, 34] (fun o i => ∃ j : Nat, j ≤ xs.length ∧ i = .int .i64 j ∧ o = .int .i64 (wnP m (xs.take j))) (fun _ i => xs.length - (intOf i).toNat)
          case atStart => exact ⟨0, Nat.zero_le _, rfl, rfl⟩
          case round =>
            obtain ⟨j, hj, rfl, rfl⟩ := hrel
            by_cases hlt : j < xs.length
            · have hbw : Below w.heap.size w w4 := FIN.out.trans (HB4.out.mono FIN.out.size)
              obtain ⟨b, off, cap, hv, hc, -⟩ := (H.out.same hbw.block).at (w := w4) j hlt
              simp only [Value.slice.injEq, true_and] at hv
              obtain ⟨rfl, rfl⟩ := hv
              have hP := wnP_succ m xs j hlt
              have hx := hall2.out _ (List.getElem_mem hlt)
              obtain ⟨x, hxe⟩ : ∃ x : Nat, xs[j] = x := ⟨xs[j].toNat, by omega⟩
              rw [hxe] at hc hP hx
              obtain ⟨b2, o2, c2, rfl, hc2, -⟩ := HW.out.ints.at (w := w4) x (by rw [whit_length]; omega)
              have e2 : (whit m (m + 1))[x]'(by rw [whit_length]; omega) = parI ((m : Int) + 1) x := by simp [whit]
              rw [e2] at hc2
              rw [← and_mul (wnP_bit m xs j) (parI_bit _ _)] at hP
              have hl4 := whit_length m (m + 1)
              have HP := Lib.hid hP; have HBW := Lib.hid hbw; clear hP hxe e2 hbw
              go_wp2_with fail
              go_round
              case rel => exact ⟨j + 1, by omega, by go_num, by rw [HP.out]⟩
              case measure => simp [intOf]; omega
            · obtain rfl : j = xs.length := by omega
              rw [List.take_length]
              go_wp2_with fail
              go_ret2
              rw [HV.out.1, HV.out.2]
              exact ⟨rfl, FIN.out.trans (HB4.out.mono FIN.out.size)⟩
        · have hV : wnV n xs = false := by simp [wnV, hz]
          have HV := Lib.hid (wn_no hV); clear hV
          have hz2 := (neB hz).2
          generalize xs.sum = sm at *
          clear ha hz hs h
          go_enter Try.func57, Try.ntmps57
          go_upto_region 1 with fail
          have kb : ∀ d os, (grow (redrawn (w.alloc (.cells #[.int .i64 n] 2)) d) os).cell? ⟨w.heap.size, 0, none⟩ = some (.int .i64 n) := fun d os => cell_regrown (by simp) d os
          refine wp_region_quiet_below (by kernel_rfl) (by kernel_rfl) ?_
          repeat (go_big_quiet_step (first | (go_at_call 109; exact regrown_same (isSpace_c _ _)) | (go_at_call 85; exact HALL.out _ _) | (go_at_call 117; exact HSUM.out _ _)))
          refine wpQuiet_nil ?_
          intro _ hw'
          obtain ⟨⟨dq, osq⟩, hw''⟩ := hw'
          subst hw''
          have hfin : Below w.heap.size w (grow (redrawn (w.alloc (.cells #[.int .i64 n] 2)) dq) osq) := ((Below.refl _ w).alloc (Nat.le_refl _) _).trans ((below_regrown _ dq osq).mono (by simp))
          have FIN := Lib.hid hfin; clear hfin kb
          go_wp2_with fail
          go_ret2
          rw [HV.out.1, HV.out.2]
          exact ⟨rfl, FIN.out⟩
    · have hl2 : 100 < xs.length := by omega
      have t2 : decide (100 < xs.length) = true := by simp; omega
      have t2' : decide (100 < (xs.length : Int)) = true := by simp; omega
      have hV : wnV n xs = false := by simp [wnV, hl]
      have HV := Lib.hid (wn_no hV); clear hV h hl
      go_enter Try.func57, Try.ntmps57
      go_upto_region 1 with fail
      have kb : ∀ d os, (grow (redrawn (w.alloc (.cells #[.int .i64 n] 2)) d) os).cell? ⟨w.heap.size, 0, none⟩ = some (.int .i64 n) := fun d os => cell_regrown (by simp) d os
      refine wp_region_quiet_below (by kernel_rfl) (by kernel_rfl) ?_
      repeat (go_big_quiet_step (first | (go_at_call 109; exact regrown_same (isSpace_c _ _)) | (go_at_call 85; exact HALL.out _ _) | (go_at_call 117; exact HSUM.out _ _)))
      refine wpQuiet_nil ?_
      intro _ hw'
      obtain ⟨⟨dq, osq⟩, hw''⟩ := hw'
      subst hw''
      have hfin : Below w.heap.size w (grow (redrawn (w.alloc (.cells #[.int .i64 n] 2)) dq) osq) := ((Below.refl _ w).alloc (Nat.le_refl _) _).trans ((below_regrown _ dq osq).mono (by simp))
      have FIN := Lib.hid hfin; clear hfin kb
      go_wp2_with fail
      go_ret2
      rw [HV.out.1, HV.out.2]
      exact ⟨rfl, FIN.out⟩
  · have t1 : (decide (1 ≤ n) && decide (n ≤ 1000)) = false := by simp; omega
    have hV : wnV n xs = false := by simp only [wnV, t1]; rfl
    have HV := Lib.hid (wn_no hV); clear hV h hr
    go_enter Try.func57, Try.ntmps57
    go_upto_region 1 with fail
    have kb : ∀ d os, (grow (redrawn (w.alloc (.cells #[.int .i64 n] 2)) d) os).cell? ⟨w.heap.size, 0, none⟩ = some (.int .i64 n) := fun d os => cell_regrown (by simp) d os
    refine wp_region_quiet_below (by kernel_rfl) (by kernel_rfl) ?_
    repeat (go_big_quiet_step (first | (go_at_call 109; exact regrown_same (isSpace_c _ _)) | (go_at_call 85; exact HALL.out _ _) | (go_at_call 117; exact HSUM.out _ _)))
    refine wpQuiet_nil ?_
    intro _ hw'
    obtain ⟨⟨dq, osq⟩, hw''⟩ := hw'
    subst hw''
    have hfin : Below w.heap.size w (grow (redrawn (w.alloc (.cells #[.int .i64 n] 2)) dq) osq) := ((Below.refl _ w).alloc (Nat.le_refl _) _).trans ((below_regrown _ dq osq).mono (by simp))
    have FIN := Lib.hid hfin; clear hfin kb
    go_wp2_with fail
    go_ret2
    rw [HV.out.1, HV.out.2]
    exact ⟨rfl, FIN.out⟩
end Go.Proofs.Ytmnkccjddahcjaa

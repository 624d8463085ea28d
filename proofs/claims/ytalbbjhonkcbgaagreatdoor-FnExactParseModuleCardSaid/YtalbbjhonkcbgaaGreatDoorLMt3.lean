/- Squares by a table, and the first fault of Adem's relations: of the program. -/
import Derived.Test.YtalbbjhonkcbgaaGreatDoorLMt2
import Derived.Test.YtalbbjhonkcbgaaGreatDoorBaseC
import Derived.WalkSpells
namespace Go.Proofs.YtalbbjhonkcbgaaGreatDoor
open Go.RowKit Go.Sort

theorem bitB_nat (x c : Nat) (hx : x < 9223372036854775808) : bitB (x : Int) c = x.testBit c := by
  unfold bitB
  rw [show ((x : Int) / 2 ^ c) = ((x / 2 ^ c : Nat) : Int) by simp, show (1 : Int) = ((1 : Nat) : Int) from rfl, i64_and_nat _ _ (Nat.lt_of_le_of_lt (Nat.div_le_self _ _) hx) (by omega), Nat.and_one_is_mod,
    Nat.testBit_eq_decide_div_mod_eq]
  rcases Nat.mod_two_eq_zero_or_one (x / 2 ^ c) with h | h <;> rw [h] <;> rfl
set_option maxHeartbeats 400000 in
theorem times_c (x : Nat) (v : Value) (rows : List Int) (f : Nat → Nat) (w : World) (h : IntS w.heap v rows) (hr : ∀ i, i < rows.length → rows.getD i 0 = (f i : Nat)) (hx : x < 2 ^ 16) (hf : ∀ i, f i < 2 ^ 16) (hl : rows.length ≤ 16) :
    Calls Tryz.prog 109 #[.int .i64 x, v] w fun e w' => e = .returned (.int .i64 (timM x f rows.length : Nat)) ∧ w = w' := by
  obtain ⟨ao, c, rfl, hm⟩ := h.len
  have H := Lib.hid h; have HR := Lib.hid hr; have HF := Lib.hid hf; clear h hr hf
  have HB := Lib.hid (timM_bound x f 16 HF.out)
  go_enter Tryz.func109, Tryz.ntmps109
  go_wp2
  go_loop [5, 10] (fun t i => ∃ k : Nat, k ≤ rows.length ∧ i = .int .i64 k ∧ t = .int .i64 (timM x f k : Nat)) (fun _ i => rows.length - (intOf i).toNat)
  case atStart => exact ⟨0, Nat.zero_le _, rfl, rfl⟩
  case round =>
    obtain ⟨k, hk, rfl, rfl⟩ := hrel
    by_cases hlt : k < rows.length
    · obtain ⟨b1, o1, c1, hv1, hc1, -⟩ := H.out.at k hlt
      simp only [Value.slice.injEq, true_and] at hv1
      obtain ⟨rfl, rfl⟩ := hv1
      rw [show rows[k] = rows.getD k 0 by simp [hlt], HR.out k hlt] at hc1
      have hb := bitB_nat x k (by omega)
      unfold bitB at hb
      have h1 := HB.out k
      have h2 := HF.out k
      have hxr := i64_xor_nat (timM x f k) (f k) (by omega) (by omega)
      have hxp : (0 : Int) ≤ (x : Int) := by omega
      cases ht : x.testBit k
      · have HS : Hid (timM x f (k + 1) = timM x f k) := by show _ = _; rw [timM, ht]; simp
        rw [ht] at hb
        clear ht hxr
        generalize timM x f k = t at *
        go_wp2
        go_round
        case rel => exact ⟨k + 1, by omega, by go_num, by rw [HS.out]⟩
        case measure => simp [intOf]; omega
      · have HS : Hid (timM x f (k + 1) = timM x f k ^^^ f k) := by show _ = _; rw [timM, ht]; simp
        rw [ht] at hb
        clear ht
        generalize timM x f k = t at *
        generalize f k = y at *
        go_wp2
        go_round
        case rel => exact ⟨k + 1, by omega, by go_num, by rw [HS.out]⟩
        case measure => simp [intOf]; omega
    · obtain rfl : k = rows.length := by omega
      go_wp2
      go_ret
      exact ⟨rfl, rfl⟩
theorem rowZ_lt {ds : List Int} {act : List (List Int)} (h : modT ds act = true) (n b : Nat) (hb : b < ds.length) : rowZ act n b < 2 ^ 16 := by
  unfold rowZ
  split
  · have := modT_len h; exact Nat.pow_lt_pow_right (by omega) (by omega)
  · have := rowM_lt h n b act.length
    rwa [List.take_length] at this
theorem actM_big {ds : List Int} {act : List (List Int)} (h : modT ds act = true) (n v : Nat) (hn : 20 < n) : actM n v act = 0 := by
  apply Nat.eq_of_testBit_eq
  intro c
  rw [Nat.zero_testBit]
  cases e : (actM n v act).testBit c
  · rfl
  · obtain ⟨x, hx, h0, _, _⟩ := actM_bit _ _ _ _ e
    have := modT_top h x hx
    omega
/-- What a table's row gives. -/
theorem timM_tab {ds : List Int} {act : List (List Int)} (h : modT ds act = true) (n v : Nat) (hv : v < 2 ^ ds.length) : timM v (fun b => if b < ds.length then rowZ act n b else 0) ds.length = actZ act n v := by
  rw [timM_congr v _ (rowZ act n) ds.length (fun i hi => by rw [if_pos hi])]
  unfold actZ rowZ
  by_cases e : n = 0
  · subst e
    simp only [if_true]
    exact timM_self v _ hv
  · rw [if_neg (by omega)]
    simp only [e, if_false]
    exact timM_act n v ds.length act fun x hx => by have := modT_cell h x hx; omega
set_option maxHeartbeats 400000 in
theorem square_c (g : Nat) (d : Value) (us : List Value) (ds : List Int) (act : List (List Int)) (B n v : Nat) (w : World) (h : TabU w B g d us (tabL ds.length act)) (hT : modT ds act = true) (hv : v < 2 ^ ds.length) :
    Calls Tryz.prog 82 #[.pointer (some ⟨g, 0, none⟩), .int .i64 n, .int .i64 v] w fun e w' => e = .returned (.int .i64 (actZ act n v : Nat)) ∧ w = w' := by
  have hl := modT_len hT
  have hv16 : v < 2 ^ 16 := Nat.lt_of_lt_of_le hv (Nat.pow_le_pow_right (by omega) hl)
  by_cases hn : n ≤ 20
  · have hg := gridL_at (rowZ act) ds.length 21 n (by omega)
    obtain ⟨u, hu⟩ : ∃ u, us[n]? = some u := ⟨_, List.getElem?_eq_getElem (show n < us.length by rw [h.len, tabL]; simp [gridL]; omega)⟩
    have ho := h.each n _ _ hu hg
    have ck := h.cell n
    rw [hu] at ck
    have T := Lib.hid (times_c v u _ (fun b => if b < ds.length then rowZ act n b else 0) w ho.ints (fun i hi => by
      simp only [List.length_map, List.length_range] at hi
      simp [hi]) hv16 (fun i => by
      by_cases hi : i < ds.length
      · rw [if_pos hi]; exact rowZ_lt hT n i hi
      · rw [if_neg hi]; omega) (by simpa using hl))
    simp only [List.length_map, List.length_range] at T
    rw [timM_tab hT n v hv] at T
    have hni : (n : Int) < 21 := by omega
    clear hg hu ho h hT hv hl
    go_enter Tryz.func82, Tryz.ntmps82
    go_wp2_with (go_at_call 109; refine T.out.mono ?_; rintro e w' ⟨rfl, rfl⟩)
    go_ret
    exact ⟨rfl, rfl⟩
  · have e : actZ act n v = 0 := by rw [actZ, if_neg (by omega), actM_big hT n v (by omega)]
    have t1 : decide ((20 : Int) < (n : Int)) = true := by simp; omega
    rw [e]
    clear e
    go_enter Tryz.func82, Tryz.ntmps82
    go_wp2
    go_ret
    exact ⟨rfl, rfl⟩
theorem relB_over (a b k : Nat) (h : a < 2 * k) : (List.range (a + 1)).filter (relB a b) = (List.range k).filter (relB a b) ∨ a + 1 < k := by
  by_cases hk : k ≤ a + 1
  · left
    obtain ⟨m, hm⟩ : ∃ m, a + 1 = k + m := ⟨a + 1 - k, by omega⟩
    rw [hm, List.range_add, List.filter_append]
    have : ((List.range m).map (k + ·)).filter (relB a b) = [] := by
      rw [List.filter_eq_nil_iff]
      intro x hx
      simp only [List.mem_map] at hx
      obtain ⟨y, _, rfl⟩ := hx
      simp [relB]; omega
    rw [this, List.append_nil]
  · right; omega
theorem relL_filter_len (a b k : Nat) : ((List.range k).filter (relB a b)).length ≤ k := Nat.le_trans (List.length_filter_le _ _) (by simp)
set_option maxHeartbeats 1000000 in
theorem relation_c (a b : Nat) (w : World) (ha : a ≤ 40) (hb1 : a / 2 + 1 ≤ b) (hb2 : b ≤ 40) :
    Calls Tryz.prog 81 #[.int .i64 a, .int .i64 b] w fun e w' => ∃ r, e = .returned r ∧ OwnI w' w.heap.size r ((relL a b).map fun (j : Nat) => (j : Int)) ∧ Below w.heap.size w w' := by
  go_enter Tryz.func81, Tryz.ntmps81
  go_wp2_with fail
  go_loopw [5, 6] (fun o i wr => ∃ k : Nat, k ≤ a / 2 + 1 ∧ i = .int .i64 k ∧ OwnI wr w.heap.size o (((List.range k).filter (relB a b)).map fun (j : Nat) => (j : Int)) ∧ Below w.heap.size w wr) (fun _ i _ => 41 - (intOf i).toNat)
  case atStart => exact ⟨0, by omega, rfl, ownI_empty (Nat.le_refl _), (Below.refl _ _).alloc (Nat.le_refl _) _⟩
  case round =>
    obtain ⟨k, hk, rfl, hown, hbl⟩ := hrel
    obtain ⟨va, vn, vc, rfl⟩ := own_shape hown
    have HO := Lib.hid hown; have HBL := Lib.hid hbl; have hsz := hbl.size
    have hln : (((List.range k).filter (relB a b)).map fun (j : Nat) => (j : Int)).length ≤ 4398046511104 := by
      rw [List.length_map]; have := relL_filter_len a b k; omega
    clear hown hbl
    by_cases hlt : k ≤ a / 2
    · have hka : 2 * k ≤ a := by omega
      have t0 : decide (2 * (k : Int) ≤ (a : Int)) = true := by simp; omega
      have t1 : decide (2 * k ≤ a) = true := by simpa using hka
      have s1 : IntKind.i64.wrap ((b : Int) - k) = (b : Int) - k := IntWalk.i64_in _ (by omega)
      have hand := i64_and_nat (b - k - 1) (a - 2 * k) (by omega) (by omega)
      have e1 : ((b - k - 1 : Nat) : Int) = (b : Int) - k - 1 := by omega
      have e2 : ((a - 2 * k : Nat) : Int) = (a : Int) - 2 * k := by omega
      rw [e1, e2] at hand
      have hs : ∀ x, relB a b k = x → ((List.range (k + 1)).filter (relB a b)).map (fun (j : Nat) => (j : Int)) = ((List.range k).filter (relB a b)).map (fun (j : Nat) => (j : Int)) ++ if x then [(k : Int)] else [] := fun x hx => by
        rw [List.range_succ, List.filter_append, List.map_append]
        cases x <;> simp [hx]
      cases hr : relB a b k
      · have HS := Lib.hid (hs false hr)
        have h2 : ¬ ((b - k - 1) &&& (a - 2 * k) = a - 2 * k) := by simpa [relB, hka] using hr
        have tt : (bits BinOp.and IntKind.i64 ((b : Int) - k - 1) ((a : Int) - 2 * k) == (a : Int) - 2 * k) = false := by
          rw [hand]; simp; omega
        clear hand hs hr h2 e1 e2
        go_wp2_with fail
        go_roundw
        case rel => exact ⟨k + 1, by omega, by go_num, by rw [HS.out]; simpa using HO.out, HBL.out⟩
        case measure => simp [intOf]; omega
      · have HS := Lib.hid (hs true hr)
        have h2 : (b - k - 1) &&& (a - 2 * k) = a - 2 * k := by simpa [relB, hka] using hr
        have tt : (bits BinOp.and IntKind.i64 ((b : Int) - k - 1) ((a : Int) - 2 * k) == (a : Int) - 2 * k) = true := by
          rw [hand]; simp; omega
        clear hand hs hr h2 e1 e2
        go_wp2_with (first | (at_builtin; refine append_int rfl _ _ rfl w.heap.size _ _ _ HO.out rfl HBL.out hsz _ rfl rfl hln ?_; intro v' wr0 hown' hbl' _ _; obtain ⟨va2, vn2, vc2, hv2⟩ := own_shape hown'; subst hv2))
        go_roundw
        case rel => exact ⟨k + 1, by omega, by go_num, by rw [HS.out]; simpa using hown', hbl'⟩
        case measure => simp [intOf]; omega
    · obtain rfl : k = a / 2 + 1 := by omega
      have t0 : decide (2 * ((a / 2 + 1 : Nat) : Int) ≤ (a : Int)) = false := by simp; omega
      have HE : Hid (relL a b = (List.range (a / 2 + 1)).filter (relB a b)) := by
        rcases relB_over a b (a / 2 + 1) (by omega) with h | h
        · exact h
        · exfalso; omega
      generalize a / 2 + 1 = q at *
      go_wp2_with fail
      go_ret
      exact ⟨_, rfl, by rw [HE.out]; exact HO.out, HBL.out⟩
end Go.Proofs.YtalbbjhonkcbgaaGreatDoor

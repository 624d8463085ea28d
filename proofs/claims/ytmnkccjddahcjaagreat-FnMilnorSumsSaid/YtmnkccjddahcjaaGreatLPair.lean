/- Pairings, degrees of elements. -/
import Derived.Test.YtmnkccjddahcjaaGreatLMil2
namespace Go.Proofs.YtmnkccjddahcjaaGreat
open Go.RowKit Go.Sort

/-- How many of the first lists are in the second ones. -/
def inBoth (a b : List (List Int)) : Nat := (a.filter fun r => decide (r ∈ b)).length
theorem inBoth_succ (a b : List (List Int)) (k : Nat) (h : k < a.length) : inBoth (a.take (k + 1)) b = inBoth (a.take k) b + if a.getD k [] ∈ b then 1 else 0 := by
  unfold inBoth
  rw [List.take_succ_eq_append_getElem h, List.filter_append, List.length_append, show a.getD k [] = a[k] by simp [h]]
  by_cases e : a[k] ∈ b <;> simp [e]
theorem inBoth_le (a b : List (List Int)) (k : Nat) : inBoth (a.take k) b ≤ k := Nat.le_trans (List.length_filter_le _ _) (List.length_take_le _ _)
def pairL (a b : List (List Int)) : Int := ((inBoth a b % 2 : Nat) : Int)
theorem xor1 (c : Nat) : bits BinOp.xor IntKind.i64 ((c % 2 : Nat) : Int) 1 = (((c + 1) % 2 : Nat) : Int) := by
  rcases Nat.mod_two_eq_zero_or_one c with h | h
  · rw [h, show (c + 1) % 2 = 1 by omega]; rfl
  · rw [h, show (c + 1) % 2 = 0 by omega]; rfl
theorem pairing_c (v u : Value) (xss yss : List (List Int)) (w : World) (h : IntSS w.heap v xss) (hu : IntSS w.heap u yss) (ha : Asc yss) (hlen : yss.length ≤ 4611686018427387904) :
    Calls Tryz.prog 120 #[v, u] w fun e w' => e = .returned (.int .i64 (pairL xss yss)) ∧ w = w' := by
  obtain ⟨ao, c, rfl, hm⟩ := h.len
  obtain ⟨bo, d, rfl, hn⟩ := hu.len
  have H := Lib.hid h; have HU := Lib.hid hu; have HA := Lib.hid ha; clear h hu ha
  go_enter Tryz.func120, Tryz.ntmps120
  go_wp2_with fail
  go_loop [5, 10] (fun s i => ∃ k : Nat, k ≤ xss.length ∧ i = .int .i64 k ∧ s = .int .i64 ((inBoth (xss.take k) yss % 2 : Nat) : Int)) (fun _ i => xss.length - (intOf i).toNat)
  case atStart => exact ⟨0, Nat.zero_le _, rfl, rfl⟩
  case round =>
    obtain ⟨k, hk, rfl, rfl⟩ := hrel
    by_cases hlt : k < xss.length
    · obtain ⟨b1, o1, c1, u1, hv1, hc1, hu1, -⟩ := H.out.at k hlt
      simp only [Value.slice.injEq, true_and] at hv1
      obtain ⟨rfl, rfl⟩ := hv1
      have HB := Lib.hid (inBoth_succ xss yss k hlt)
      rw [show xss[k] = xss.getD k [] by simp [hlt]] at hu1
      obtain ⟨ra, rc, rfl, -⟩ := hu1.len
      have S := Lib.hid (hasTerm_c _ _ _ _ w HU.out hu1 HA.out hlen)
      have HX := Lib.hid (xor1 (inBoth (xss.take k) yss))
      clear hu1
      generalize xss.getD k [] = ys at *
      generalize inBoth (xss.take k) yss = q at *
      by_cases he : ys ∈ yss
      · rw [decide_eq_true he] at S
        rw [if_pos he] at HB
        clear he
        go_wp2_with (go_at_call 106; refine S.out.mono ?_; rintro e w1 ⟨rfl, rfl⟩)
        go_round
        case rel => exact ⟨k + 1, by omega, by go_num, by rw [HB.out, ← HX.out]; rfl⟩
        case measure => simp [intOf]; omega
      · rw [decide_eq_false he] at S
        rw [if_neg he, Nat.add_zero] at HB
        clear he
        go_wp2_with (go_at_call 106; refine S.out.mono ?_; rintro e w1 ⟨rfl, rfl⟩)
        go_round
        case rel => exact ⟨k + 1, by omega, by go_num, by rw [HB.out, Nat.add_zero]; first | rfl | (congr 1; omega)⟩
        case measure => simp [intOf]; omega
    · obtain rfl : k = xss.length := by omega
      go_wp2_with fail
      go_ret
      exact ⟨by unfold pairL; first | rfl | (exact ret_int (by simp)), rfl⟩
theorem l06Pairing_c (v u : Value) (xss yss : List (List Int)) (w : World) (h : IntSS w.heap v xss) (hu : IntSS w.heap u yss) (hlen : xss.length ≤ 4611686018427387904) :
    Calls Tryz.prog 121 #[v, u] w fun e w' => e = .returned (.int .i64 (pairL xss yss)) ∧ ∃ n, w' = w.drewN n := by
  obtain ⟨ao, c, rfl, hm⟩ := h.len
  obtain ⟨bo, d, rfl, hn⟩ := hu.len
  have H := Lib.hid h; have HU := Lib.hid hu; clear h hu
  go_enter Tryz.func121, Tryz.ntmps121
  go_wp2_with fail
  go_loopw [5, 6] (fun s i wr => ∃ k n : Nat, k ≤ xss.length ∧ i = .int .i64 k ∧ s = .int .i64 (inBoth (xss.take k) yss : Nat) ∧ wr = w.drewN n) (fun _ i _ => xss.length - (intOf i).toNat)
  case atStart => exact ⟨0, 0, Nat.zero_le _, rfl, rfl, rfl⟩
  case round =>
    obtain ⟨k, n, hk, rfl, rfl, rfl⟩ := hrel
    by_cases hlt : k < xss.length
    · obtain ⟨b1, o1, c1, u1, hv1, hc1, hu1, -⟩ := H.out.at k hlt
      simp only [Value.slice.injEq, true_and] at hv1
      obtain ⟨rfl, rfl⟩ := hv1
      have HB := Lib.hid (inBoth_succ xss yss k hlt)
      have hqb := inBoth_le xss yss k
      rw [show xss[k] = xss.getD k [] by simp [hlt]] at hu1
      obtain ⟨ra, rc, rfl, -⟩ := hu1.len
      have S := Lib.hid (l01Place_c _ _ _ _ (w.drewN n) (by exact HU.out) (by exact hu1))
      clear hu1
      generalize xss.getD k [] = ys at *
      generalize inBoth (xss.take k) yss = q at *
      by_cases he : ys ∈ yss
      · rw [if_pos he] at HB
        have hp := (placeL_in he).1
        generalize placeL yss ys = p at *
        have t1 : decide (0 ≤ p) = true := by simpa using hp
        clear he
        go_wp2_with (go_at_call 100; refine S.out.mono ?_; rintro e w1 ⟨rfl, m, rfl⟩)
        go_roundw
        case rel => exact ⟨k + 1, _, by omega, by go_num, by rw [HB.out]; go_num, rfl⟩
        case measure => simp [intOf]; omega
      · rw [if_neg he, Nat.add_zero] at HB
        rw [placeL_out he] at S
        clear he
        go_wp2_with (go_at_call 100; refine S.out.mono ?_; rintro e w1 ⟨rfl, m, rfl⟩)
        go_roundw
        case rel => exact ⟨k + 1, _, by omega, by go_num, by rw [HB.out, Nat.add_zero], rfl⟩
        case measure => simp [intOf]; omega
    · obtain rfl : k = xss.length := by omega
      have hqb := inBoth_le xss yss xss.length
      have HP : Hid (pairL xss yss = ((inBoth (xss.take xss.length) yss : Nat) : Int) % 2) := by show _ = _; unfold pairL; rw [List.take_length]; omega
      generalize inBoth (xss.take xss.length) yss = q at *
      go_wp2_with fail
      go_ret
      exact ⟨by rw [HP.out]; rfl, _, rfl⟩
/-- The degree of terms. -/
def degT (xss : List (List Int)) : Int := deg (xss.getD 0 [])
theorem degreeOf_c (v : Value) (xss : List (List Int)) (w : World) (h : IntSS w.heap v xss) :
    Calls Tryz.prog 122 #[v] w fun e w' => (∃ d, e = .returned (.int .i64 d) ∧ (isExp (xss.getD 0 []) = true → d = degT xss)) ∧ w = w' := by
  obtain ⟨ao, c, rfl, hm⟩ := h.len
  by_cases h0 : xss.length = 0
  · obtain rfl : xss = [] := List.eq_nil_of_length_eq_zero h0
    clear h h0
    have e : degT [] = 0 := rfl
    rw [e]
    go_enter Tryz.func122, Tryz.ntmps122
    go_wp2_with fail
    go_ret
    exact ⟨⟨0, rfl, fun _ => rfl⟩, rfl⟩
  · obtain ⟨b1, o1, c1, u1, hv1, hc1, hu1, -⟩ := h.at 0 (by omega)
    simp only [Value.slice.injEq, true_and] at hv1
    obtain ⟨rfl, rfl⟩ := hv1
    have e0 : o1 + 0 = o1 := rfl
    rw [e0] at hc1
    clear e0
    rw [show xss[0] = xss.getD 0 [] by simp [show 0 < xss.length by omega]] at hu1
    have D := Lib.hid (degree_c _ _ w hu1)
    obtain ⟨ra, rc, rfl, -⟩ := hu1.len
    have t1 : ((xss.length : Int) == 0) = false := by simpa using h0
    have t2 : decide (0 < xss.length) = true := by simp; omega
    have hp : (0 : Int) < xss.length := by omega
    clear hu1 h h0
    unfold degT
    generalize xss.getD 0 [] = ys at *
    go_enter Tryz.func122, Tryz.ntmps122
    go_wp2_with (go_at_call 167; refine D.out.mono ?_; rintro e w1 ⟨⟨d, rfl, hd⟩, rfl⟩; have HD := Lib.hid hd; clear hd)
    go_ret
    exact ⟨⟨_, rfl, HD.out⟩, rfl⟩
end Go.Proofs.YtmnkccjddahcjaaGreat

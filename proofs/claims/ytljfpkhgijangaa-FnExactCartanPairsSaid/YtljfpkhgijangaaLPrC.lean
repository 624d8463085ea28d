/- Comparisons of pairs of lists: slices.CompareFunc by slices.Compare, comparePairs. -/
import Derived.Test.YtljfpkhgijangaaLPrA
import Derived.Test.YtljfpkhgijangaaLMil2
import Derived.Test.YtljfpkhgijangaaLib4
import Derived.Test.YtljfpkhgijangaaLSss
namespace Go.Proofs.Ytljfpkhgijangaa
open Go.RowKit Go.Sort

def cmpLL : List (List Int) → List (List Int) → Int
  | [], [] => 0
  | [], _ :: _ => -1
  | _ :: _, [] => 1
  | a :: x, b :: y => if cmpL a b = 0 then cmpLL x y else cmpL a b
theorem cmpLL_drop (xs ys : List (List Int)) (k : Nat) (h1 : k < xs.length) (h2 : k < ys.length) : cmpLL (xs.drop k) (ys.drop k) = if cmpL xs[k] ys[k] = 0 then cmpLL (xs.drop (k + 1)) (ys.drop (k + 1)) else cmpL xs[k] ys[k] := by
  rw [List.drop_eq_getElem_cons h1, List.drop_eq_getElem_cons h2, cmpLL]
theorem cmpLL_ends (xs ys : List (List Int)) (k : Nat) (h1 : k = xs.length) (h2 : k ≤ ys.length) : cmpLL (xs.drop k) (ys.drop k) = if xs.length < ys.length then -1 else 0 := by
  rw [List.drop_of_length_le (l := xs) (by omega)]
  by_cases e : xs.length < ys.length
  · rw [List.drop_eq_getElem_cons (l := ys) (by omega), cmpLL, if_pos e]
  · rw [List.drop_of_length_le (l := ys) (by omega), cmpLL, if_neg e]
theorem cmpLL_over (xs ys : List (List Int)) (k : Nat) (h1 : k < xs.length) (h2 : k = ys.length) : cmpLL (xs.drop k) (ys.drop k) = 1 := by
  rw [List.drop_eq_getElem_cons h1, List.drop_of_length_le (l := ys) (by omega), cmpLL]
theorem cmpLL_pairs {p q : List (List Int)} (hp : IsPr p) (hq : IsPr q) : cmpLL p q = cmpL (encP p) (encP q) := by
  obtain ⟨a, b, rfl, ha⟩ := hp
  obtain ⟨c, d, rfl, hc⟩ := hq
  rw [cmpL_enc b d ha hc]
  simp only [cmpLL]
  by_cases e : cmpL a c = 0
  · rw [if_pos e, if_pos e]
    by_cases f : cmpL b d = 0
    · rw [if_pos f, f]
    · rw [if_neg f]
  · rw [if_neg e, if_neg e]
theorem cmpL_some (x y : List Int) : cmpL x y = 0 ∨ cmpL x y = 1 ∨ cmpL x y = -1 := by
  unfold cmpL
  split
  · exact .inr (.inr rfl)
  · split
    · exact .inr (.inl rfl)
    · exact .inl rfl
theorem compareFunc_c (v1 v2 : Value) (xs ys : List (List Int)) (w : World) (h1 : IntSS w.heap v1 xs) (h2 : IntSS w.heap v2 ys) :
    Calls Try.prog 197 #[v1, v2, .func (.func 149) #[] #[]] w fun e w' => e = .returned (.int .i64 (cmpLL xs ys)) ∧ w = w' := by
  obtain ⟨a1, c1, rfl, m1⟩ := h1.len
  obtain ⟨a2, c2, rfl, m2⟩ := h2.len
  have H1 := Lib.hid h1; have H2 := Lib.hid h2; clear h1 h2
  have hcf := enters_compare
  unfold Enters at hcf
  go_enter Try.func197, Try.ntmps197
  go_wp2_with fail
  go_loop [13] (fun i => ∃ k : Nat, k ≤ xs.length ∧ k ≤ ys.length ∧ i = .int .i64 k ∧ Hid (cmpLL xs ys = cmpLL (xs.drop k) (ys.drop k))) (fun i => xs.length - (intOf i).toNat)
  case atStart => exact ⟨0, Nat.zero_le _, Nat.zero_le _, rfl, by simp [Hid]⟩
  case round =>
    obtain ⟨k, hk1, hk2, rfl, he⟩ := hrel
    by_cases hlt : k < xs.length
    · by_cases hlt2 : k < ys.length
      · obtain ⟨b1, o1, c1', u1, hv1, hc1, hu1, _⟩ := (H1.out).at k hlt
        obtain ⟨b2, o2, c2', u2, hv2, hc2, hu2, _⟩ := (H2.out).at k hlt2
        simp only [Value.slice.injEq, true_and] at hv1 hv2
        obtain ⟨rfl, rfl⟩ := hv1
        obtain ⟨rfl, rfl⟩ := hv2
        have hd := cmpLL_drop xs ys k hlt hlt2
        generalize xs[k] = x at *
        generalize ys[k] = y at *
        obtain ⟨r1, e1, rfl, -⟩ := hu1.len
        obtain ⟨r2, e2, rfl, -⟩ := hu2.len
        have S := Lib.hid (compare_c _ _ _ _ w hu1 hu2)
        have HD := Lib.hid hd; clear hd hu1 hu2
        rcases cmpL_some x y with e0 | e0 | e0
        · have t1 := (eqB (show (0 : Int) = 0 by rfl)).2
          rw [e0] at S
          have HE : Hid (cmpLL xs ys = cmpLL (xs.drop (k + 1)) (ys.drop (k + 1))) := by show _ = _; rw [he.out, HD.out, if_pos e0]
          clear e0
          go_wp2_with (go_at_call 149; refine S.out.mono ?_; rintro e w' ⟨rfl, rfl⟩)
          go_round
          case rel => exact ⟨k + 1, by omega, by omega, by go_num, HE⟩
          case measure => simp [intOf]; omega
        · have t1 := (neB (show (1 : Int) ≠ 0 by decide)).2
          rw [e0] at S
          have HE : Hid (cmpLL xs ys = 1) := by show _ = _; rw [he.out, HD.out, e0, if_neg (by decide)]
          clear e0
          go_wp2_with (go_at_call 149; refine S.out.mono ?_; rintro e w' ⟨rfl, rfl⟩)
          go_ret
          exact ⟨by rw [HE.out]; rfl, rfl⟩
        · have t1 := (neB (show (-1 : Int) ≠ 0 by decide)).2
          rw [e0] at S
          have HE : Hid (cmpLL xs ys = -1) := by show _ = _; rw [he.out, HD.out, e0, if_neg (by decide)]
          clear e0
          go_wp2_with (go_at_call 149; refine S.out.mono ?_; rintro e w' ⟨rfl, rfl⟩)
          go_ret
          exact ⟨by rw [HE.out]; rfl, rfl⟩
      · obtain rfl : k = ys.length := by omega
        have HE : Hid (cmpLL xs ys = 1) := by show _ = _; rw [he.out, cmpLL_over xs ys _ hlt rfl]
        obtain ⟨b1, o1, c1', u1, hv1, hc1, hu1, _⟩ := (H1.out).at _ hlt
        simp only [Value.slice.injEq, true_and] at hv1
        obtain ⟨rfl, rfl⟩ := hv1
        obtain ⟨r1, e1, rfl, -⟩ := hu1.len
        have t2 : decide (ys.length ≤ ys.length) = true := by simp
        go_wp2_with fail
        go_ret
        exact ⟨by rw [HE.out]; rfl, rfl⟩
    · obtain rfl : k = xs.length := by omega
      have HE : Hid (cmpLL xs ys = if xs.length < ys.length then -1 else 0) := by show _ = _; rw [he.out, cmpLL_ends xs ys _ rfl hk2]
      by_cases hl : xs.length < ys.length
      · have hE : Hid (cmpLL xs ys = -1) := by show _ = _; rw [HE.out, if_pos hl]
        go_wp2_with fail
        go_ret
        exact ⟨by rw [hE.out]; rfl, rfl⟩
      · have hE : Hid (cmpLL xs ys = 0) := by show _ = _; rw [HE.out, if_neg hl]
        have t3 : decide (xs.length < ys.length) = false := by simpa using hl
        go_wp2_with fail
        go_ret
        exact ⟨by rw [hE.out]; rfl, rfl⟩
theorem comparePairs_c (v1 v2 : Value) (p q : List (List Int)) (w : World) (h1 : IntSS w.heap v1 p) (h2 : IntSS w.heap v2 q) (hp : IsPr p) (hq : IsPr q) :
    Calls Try.prog 163 #[v1, v2] w fun e w' => e = .returned (.int .i64 (cmpL (encP p) (encP q))) ∧ w = w' := by
  have C := compareFunc_c v1 v2 p q w h1 h2
  rw [cmpLL_pairs hp hq] at C
  obtain ⟨a1, c1, rfl, m1⟩ := h1.len
  obtain ⟨a2, c2, rfl, m2⟩ := h2.len
  clear h1 h2
  have C2 := Lib.hid C; clear C
  go_enter Try.func163, Try.ntmps163
  go_wp2_with (go_at_call 197; refine C2.out.mono ?_; rintro e w' ⟨rfl, rfl⟩)
  go_ret
  exact ⟨rfl, rfl⟩
theorem enters_comparePairs : Enters Try.prog 163 := fun args w => by kernel_rfl
end Go.Proofs.Ytljfpkhgijangaa

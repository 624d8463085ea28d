/- Pairings, degrees of elements. -/
import Derived.Test.YtljfpkhgijangaaLMil2
namespace Go.Proofs.Ytljfpkhgijangaa
open Go.RowKit Go.Sort

/-- How many of the first lists are in the second ones. -/
def inBoth (a b : List (List Int)) : Nat := (a.filter fun r => decide (r ∈ b)).length
theorem inBoth_succ (a b : List (List Int)) (k : Nat) (h : k < a.length) : inBoth (a.take (k + 1)) b = inBoth (a.take k) b + if a.getD k [] ∈ b then 1 else 0 := by
  unfold inBoth
  rw [List.take_succ_eq_append_getElem h, List.filter_append, List.length_append, show a.getD k [] = a[k] by simp [h]]
  by_cases e : a[k] ∈ b <;> simp [e]
theorem inBoth_le (a b : List (List Int)) (k : Nat) : inBoth (a.take k) b ≤ k := Nat.le_trans (List.length_filter_le _ _) (List.length_take_le _ _)
def pairL (a b : List (List Int)) : Int := ((inBoth a b % 2 : Nat) : Int)
theorem xor1 (c : Nat) : bits BinOp.xor IntKind.i64 ((c % 2 : Nat) : Int) 1 = (((c + 1) % 2 : Nat) : Int) := by
  rcases Nat.mod_two_eq_zero_or_one c with h | h
  · rw [h, show (c + 1) % 2 = 1 by omega]; rfl
  · rw [h, show (c + 1) % 2 = 0 by omega]; rfl
/-- The degree of terms. -/
def degT (xss : List (List Int)) : Int := deg (xss.getD 0 [])
theorem degreeOf_c (v : Value) (xss : List (List Int)) (w : World) (h : IntSS w.heap v xss) :
    Calls Try.prog 108 #[v] w fun e w' => (∃ d, e = .returned (.int .i64 d) ∧ (isExp (xss.getD 0 []) = true → d = degT xss)) ∧ w = w' := by
  obtain ⟨ao, c, rfl, hm⟩ := h.len
  by_cases h0 : xss.length = 0
  · obtain rfl : xss = [] := List.eq_nil_of_length_eq_zero h0
    clear h h0
    have e : degT [] = 0 := rfl
    rw [e]
    go_enter Try.func108, Try.ntmps108
    go_wp2_with fail
    go_ret
    exact ⟨⟨0, rfl, fun _ => rfl⟩, rfl⟩
  · obtain ⟨b1, o1, c1, u1, hv1, hc1, hu1, -⟩ := h.at 0 (by omega)
    simp only [Value.slice.injEq, true_and] at hv1
    obtain ⟨rfl, rfl⟩ := hv1
    have e0 : o1 + 0 = o1 := rfl
    rw [e0] at hc1
    clear e0
    rw [show xss[0] = xss.getD 0 [] by simp [show 0 < xss.length by omega]] at hu1
    have D := Lib.hid (degree_c _ _ w hu1)
    obtain ⟨ra, rc, rfl, -⟩ := hu1.len
    have t1 : ((xss.length : Int) == 0) = false := by simpa using h0
    have t2 : decide (0 < xss.length) = true := by simp; omega
    have hp : (0 : Int) < xss.length := by omega
    clear hu1 h h0
    unfold degT
    generalize xss.getD 0 [] = ys at *
    go_enter Try.func108, Try.ntmps108
    go_wp2_with (go_at_call 91; refine D.out.mono ?_; rintro e w1 ⟨⟨d, rfl, hd⟩, rfl⟩; have HD := Lib.hid hd; clear hd)
    go_ret
    exact ⟨⟨_, rfl, HD.out⟩, rfl⟩
end Go.Proofs.Ytljfpkhgijangaa

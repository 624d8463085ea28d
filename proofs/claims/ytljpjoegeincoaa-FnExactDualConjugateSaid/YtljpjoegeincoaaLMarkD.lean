/- Marks of dual elements. -/
import Derived.Test.YtljpjoegeincoaaLMilArg
namespace Go.Proofs.Ytljpjoegeincoaa
open Go.RowKit Go.Sort

theorem markDual_c (v : Value) (us : List Value) (xss : List (List Int)) (k : Int) (B : Nat) (w : World) (h : OwnU w B v us xss) (hB : B ≤ w.heap.size) (hk : 0 ≤ k) (hx : k + cnt xss ≤ 4611686018427387904) :
    Calls Try.prog 26 #[.agg #[v], .int .i64 k] w fun e w' => e = .returned (.int .i64 (k + cnt xss)) ∧ OwnU w' B v us (marksS k xss) ∧ Below B w w' ∧ (∀ b, b < w.heap.size → (∀ u, u ∈ us → u.ownBlock ≠ some b) → w'.heap[b]? = w.heap[b]?) := by
  have hb : Below B w (w.alloc (.cells #[v] 35)) := (Below.refl _ _).alloc hB _
  have C := Lib.hid (markInt64SS_c v us xss k B _ (h.same (alloc_old w (.cells #[v] 35))) (by simp; omega) hk hx)
  obtain ⟨a1, c1, rfl, m1⟩ := h.ints.len
  have HB := Lib.hid hb; clear hb h
  go_enter Try.func26, Try.ntmps26
  go_wp2_with (go_at_call 60; refine C.out.mono ?_; rintro e w1 ⟨rfl, h1, z1, b1, k1⟩; have K1 := Lib.hid k1; clear k1)
  go_ret
  exact ⟨rfl, h1, HB.out.trans b1, fun b hb hne => (K1.out b (by simp; omega) hne).trans (alloc_old _ _ _ hb)⟩
theorem heldDual_c (v : Value) (xss : List (List Int)) (k : Int) (w : World) (h : IntSS w.heap v (marksS k xss)) (hk : 0 ≤ k) (hx : k + cnt xss ≤ 4611686018427387904) :
    Calls Try.prog 27 #[.agg #[v], .int .i64 k] w fun e w' => e = .returned (.int .i64 (k + cnt xss)) ∧ Below w.heap.size w w' := by
  have hb : Below w.heap.size w (w.alloc (.cells #[v] 35)) := (Below.refl _ _).alloc (Nat.le_refl _) _
  have C := Lib.hid (heldInt64SS_c v xss k _ (h.same hb.block) hk hx)
  obtain ⟨a1, c1, rfl, m1⟩ := h.len
  have HB := Lib.hid hb; clear hb h
  have t1 : decide (k + (cnt xss : Int) < 0) = false := by simp; omega
  go_enter Try.func27, Try.ntmps27
  go_wp2_with (go_at_call 61; refine C.out.mono ?_; rintro e w1 ⟨rfl, rfl⟩)
  go_ret
  exact ⟨rfl, HB.out⟩
end Go.Proofs.Ytljpjoegeincoaa

/- SpikeMonomials of the program: the closures and slices.IndexFunc at [][]int64. -/
import Derived.Test.YtlakdlnfijkaeaaLSpike2
namespace Go.Proofs.Ytlakdlnfijkaeaa
open Go.RowKit Go.Sort

theorem enters_spike11 : Enters Try.prog 76 := fun args w => by kernel_rfl
theorem enters_spike1 : Enters Try.prog 75 := fun args w => by kernel_rfl
theorem spike11_c (x : Int) (w : World) (h0 : 0 ≤ x) (h1 : x ≤ 40) : Calls Try.prog 76 #[.int .i64 x] w fun e w' => e = .returned (.bool (spB x)) ∧ ∃ m, w' = w.drewN m := by
  go_enter Try.func76, Try.ntmps76
  go_wp2_with fail
  go_ret
  exact ⟨rfl, 0, rfl⟩
theorem spike1_c (v : Value) (xs : List Int) (w : World) (h : IntS w.heap v xs) (hx : ∀ x ∈ xs, 0 ≤ x ∧ x ≤ 40) :
    Calls Try.prog 75 #[v] w fun e w' => e = .returned (.bool (!xs.all spB)) ∧ Below w.heap.size w w' := by
  have C := all_c v xs 76 #[] spB w h enters_spike11 (fun w1 _ x hm => by simpa using spike11_c x w1 (hx x hm).1 (hx x hm).2)
  have HC := Lib.hid C; clear C
  obtain ⟨ao, c, rfl, hm⟩ := h.len
  clear h hx
  go_enter Try.func75, Try.ntmps75
  go_wp2_with (first | (go_at_call 59; refine HC.out.mono ?_; rintro e w' ⟨rfl, hb⟩))
  go_ret
  exact ⟨rfl, hb⟩
theorem indexFuncSS_c (v : Value) (xss : List (List Int)) (K : Nat) (caps : Array Value) (p : List Int → Bool) (w : World) (h : IntSS w.heap v xss) (hcf : Enters Try.prog K)
    (hf : ∀ w1 : World, Below w.heap.size w w1 → ∀ u xs, xs ∈ xss → IntS w1.heap u xs → Calls Try.prog K (#[u] ++ caps) w1 fun e w' => e = .returned (.bool (p xs)) ∧ Below w1.heap.size w1 w') :
    Calls Try.prog 82 #[v, .func (.func K) #[] caps] w fun e w' => (∃ j : Nat, j ≤ xss.length ∧ (∀ k, k < j → p (xss.getD k []) = false) ∧ (j < xss.length → p (xss.getD j []) = true) ∧ e = .returned (.int .i64 (if j < xss.length then (j : Int) else -1))) ∧ Below w.heap.size w w' := by
  obtain ⟨ao, c, rfl, hm⟩ := h.len
  have H := Lib.hid h; clear h
  have HF := Lib.hid hf; clear hf
  unfold Enters at hcf
  go_enter Try.func82, Try.ntmps82
  go_wp2_with fail
  go_loopw [8] (fun i wr => ∃ j : Nat, j ≤ xss.length ∧ i = .int .i64 j ∧ Below w.heap.size w wr ∧ ∀ k, k < j → p (xss.getD k []) = false) (fun i _ => xss.length - (intOf i).toNat)
  case atStart => exact ⟨0, Nat.zero_le _, rfl, Below.refl _ _, by simp⟩
  case round =>
    obtain ⟨j, hj, rfl, hbl, hpre⟩ := hrel
    have HP := Lib.hid hpre; have HB := Lib.hid hbl; clear hpre
    by_cases hlt : j < xss.length
    · obtain ⟨b, off, cap, u, hv, hc, hu, -⟩ := (H.out.same hbl.block).at j hlt
      simp only [Value.slice.injEq, true_and] at hv
      obtain ⟨rfl, rfl⟩ := hv
      obtain ⟨ra, rc, rfl, hrl⟩ := hu.len
      have HX := Lib.hid (show xss.getD j [] = xss[j] by simp [hlt])
      have HM := Lib.hid (List.getElem_mem hlt)
      have HU := Lib.hid hu
      clear hbl hu
      cases hp : p xss[j]
      · have HPJ := Lib.hid hp; clear hp
        go_wp2_with fail
        refine (HF.out wr HB.out _ _ HM.out HU.out).mono ?_
        rw [HPJ.out]
        rintro e w' ⟨rfl, hb2⟩
        go_wp2_with fail
        go_roundw
        case rel =>
          refine ⟨j + 1, by omega, by go_num, HB.out.trans (hb2.mono HB.out.size), fun k hk => ?_⟩
          by_cases e : k = j
          · subst e; rw [HX.out]; exact HPJ.out
          · exact HP.out k (by omega)
        case measure => simp [intOf]; omega
      · have HPJ := Lib.hid hp; clear hp
        go_wp2_with fail
        refine (HF.out wr HB.out _ _ HM.out HU.out).mono ?_
        rw [HPJ.out]
        rintro e w' ⟨rfl, hb2⟩
        go_wp2_with fail
        go_ret
        exact ⟨⟨j, by omega, HP.out, fun _ => by rw [HX.out]; exact HPJ.out, by rw [if_pos hlt]; rfl⟩, HB.out.trans (hb2.mono HB.out.size)⟩
    · obtain rfl : j = xss.length := by omega
      clear hbl
      go_wp2_with fail
      go_ret
      exact ⟨⟨xss.length, Nat.le_refl _, HP.out, fun h => absurd h (Nat.lt_irrefl _), by rw [if_neg (Nat.lt_irrefl _)]; rfl⟩, HB.out⟩
end Go.Proofs.Ytlakdlnfijkaeaa

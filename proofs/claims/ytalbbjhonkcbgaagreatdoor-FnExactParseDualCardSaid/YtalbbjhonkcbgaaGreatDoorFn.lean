/- Contracts of 'all', of the library's ContainsFunc and IndexFunc at slices of int64, of sums and of the copies that the statements make. -/
import Derived.Test.YtalbbjhonkcbgaaGreatDoorBase
namespace Go.Proofs.YtalbbjhonkcbgaaGreatDoor
open Go.RowKit

theorem any_not_all (xs : List Int) (p : Int → Bool) : (xs.any fun x => !p x) = !xs.all p := by
  induction xs with
  | nil => rfl
  | cons x r ih => simp only [List.any_cons, List.all_cons, ih]; cases p x <;> rfl
theorem cell_spot (w : World) (b o s : Nat) : w.cell? ⟨b, o, some s⟩ = none := by unfold World.cell?; split <;> simp

theorem indexFunc_c (v : Value) (xs : List Int) (K : Nat) (caps : Array Value) (p : Int → Bool) (w : World) (h : IntS w.heap v xs) (hcf : Enters Tryz.prog K)
    (hf : ∀ n x, x ∈ xs → Calls Tryz.prog K (#[.int .i64 x] ++ caps) (w.drewN n) fun e w' => e = .returned (.bool (p x)) ∧ ∃ m, w' = w.drewN m) :
    Calls Tryz.prog 128 #[v, .func (.func K) #[] caps] w fun e w' => (∃ r : Int, e = .returned (.int .i64 r) ∧ (decide (0 ≤ r) = xs.any p) ∧ -1 ≤ r) ∧ ∃ m, w' = w.drewN m := by
  obtain ⟨ao, c, rfl, hm⟩ := h.len
  have H := Lib.hid h; clear h
  have HF := Lib.hid hf; clear hf
  unfold Enters at hcf
  go_enter Tryz.func128, Tryz.ntmps128
  go_wp2_with fail
  go_loopw [8] (fun i wr => ∃ j n : Nat, j ≤ xs.length ∧ i = .int .i64 j ∧ wr = w.drewN n ∧ ∀ k, k < j → p (xs.getD k 0) = false) (fun i _ => xs.length - (intOf i).toNat)
  case atStart => exact ⟨0, 0, Nat.zero_le _, rfl, rfl, by simp⟩
  case round =>
    obtain ⟨j, n, hj, rfl, rfl, hpre⟩ := hrel
    have HP := Lib.hid hpre; clear hpre
    by_cases hlt : j < xs.length
    · obtain ⟨b, off, cap, hv, hc, -⟩ := (H.out).at j hlt
      simp only [Value.slice.injEq, true_and] at hv
      obtain ⟨rfl, rfl⟩ := hv
      have HX := Lib.hid (show xs.getD j 0 = xs[j] by simp [hlt])
      have HM := Lib.hid (List.getElem_mem hlt)
      cases hp : p xs[j]
      · have HPJ := Lib.hid hp; clear hp
        go_wp2_with fail
        refine (HF.out n _ HM.out).mono ?_
        rw [HPJ.out]
        rintro e w' ⟨rfl, m, rfl⟩
        go_wp2_with fail
        go_roundw
        case rel =>
          refine ⟨j + 1, _, by omega, by go_num, rfl, fun k hk => ?_⟩
          by_cases e : k = j
          · subst e; rw [HX.out]; exact HPJ.out
          · exact HP.out k (by omega)
        case measure => simp [intOf]; omega
      · have HPJ := Lib.hid hp; clear hp
        go_wp2_with fail
        refine (HF.out n _ HM.out).mono ?_
        rw [HPJ.out]
        rintro e w' ⟨rfl, m, rfl⟩
        go_wp2_with fail
        go_ret
        refine ⟨⟨j, rfl, ?_, by omega⟩, _, rfl⟩
        have : xs.any p = true := List.any_eq_true.2 ⟨_, HM.out, HPJ.out⟩
        rw [this]; simp
    · obtain rfl : j = xs.length := by omega
      go_wp2_with fail
      go_ret
      refine ⟨⟨-1, rfl, ?_, by omega⟩, _, rfl⟩
      have : xs.any p = false := by
        rw [List.any_eq_false]
        intro x hx
        obtain ⟨k, hk, rfl⟩ := List.getElem_of_mem hx
        have := HP.out k hk
        simpa [hk] using this
      rw [this]; simp
theorem containsFunc_c (v : Value) (xs : List Int) (K : Nat) (caps : Array Value) (p : Int → Bool) (w : World) (h : IntS w.heap v xs) (hcf : Enters Tryz.prog K)
    (hf : ∀ n x, x ∈ xs → Calls Tryz.prog K (#[.int .i64 x] ++ caps) (w.drewN n) fun e w' => e = .returned (.bool (p x)) ∧ ∃ m, w' = w.drewN m) :
    Calls Tryz.prog 106 #[v, .func (.func K) #[] caps] w fun e w' => e = .returned (.bool (xs.any p)) ∧ ∃ m, w' = w.drewN m := by
  have HC := Lib.hid (indexFunc_c v xs K caps p w h hcf hf); clear h hcf hf
  go_enter Tryz.func106, Tryz.ntmps106
  go_wp2_with fail
  refine HC.out.mono ?_
  rintro e w' ⟨⟨r, rfl, hr, h1⟩, m, rfl⟩
  have HR := Lib.hid hr; clear hr
  go_wp2_with fail
  go_ret
  exact ⟨by rw [← HR.out]; rfl, _, rfl⟩
theorem enters_all1 : Enters Tryz.prog 107 := fun args w => by kernel_rfl
theorem all_c (v : Value) (xs : List Int) (K : Nat) (caps : Array Value) (p : Int → Bool) (w : World) (h : IntS w.heap v xs) (hcf : Enters Tryz.prog K)
    (hf : ∀ w1 : World, (∀ b, b < w.heap.size → w1.heap[b]? = w.heap[b]?) → ∀ x, x ∈ xs → Calls Tryz.prog K (#[.int .i64 x] ++ caps) w1 fun e w' => e = .returned (.bool (p x)) ∧ ∃ m, w' = w1.drewN m) :
    Calls Tryz.prog 76 #[v, .func (.func K) #[] caps] w fun e w' => e = .returned (.bool (xs.all p)) ∧ Below w.heap.size w w' := by
  have h' : IntS (w.alloc (.cells #[.func (.func K) #[] caps] 89)).heap v xs := h.same (alloc_old _ _)
  have key : ∀ n x, x ∈ xs → Calls Tryz.prog 107 (#[.int .i64 x] ++ #[.pointer (some ⟨w.heap.size, 0, none⟩)]) ((w.alloc (.cells #[.func (.func K) #[] caps] 89)).drewN n) fun e w' => e = .returned (.bool (!p x)) ∧ ∃ m, w' = (w.alloc (.cells #[.func (.func K) #[] caps] 89)).drewN m := by
    intro n x hx
    have HF := Lib.hid (hf ((w.alloc (.cells #[.func (.func K) #[] caps] 89)).drewN n) (fun b hb => alloc_old w _ b hb) x hx); clear hf
    unfold Enters at hcf
    show Calls _ _ #[.int .i64 x, .pointer (some ⟨w.heap.size, 0, none⟩)] _ _
    go_enter Tryz.func107, Tryz.ntmps107
    go_wp2_with fail
    refine HF.out.mono ?_
    rintro e w' ⟨rfl, m, rfl⟩
    go_wp2_with fail
    go_ret
    exact ⟨rfl, _, by first | rfl | exact World.drewN_drewN ..⟩
  have HC := Lib.hid (containsFunc_c v xs _ #[.pointer (some ⟨w.heap.size, 0, none⟩)] (fun x => !p x) _ h' enters_all1 key)
  clear key h' h hf hcf
  go_enter Tryz.func76, Tryz.ntmps76
  go_wp2_with fail
  refine HC.out.mono ?_
  rintro e w' ⟨rfl, m, rfl⟩
  go_wp2_with fail
  go_ret
  exact ⟨by simp [any_not_all], below_drewN _ ((Below.refl _ _).alloc (Nat.le_refl _) _)⟩
end Go.Proofs.YtalbbjhonkcbgaaGreatDoor

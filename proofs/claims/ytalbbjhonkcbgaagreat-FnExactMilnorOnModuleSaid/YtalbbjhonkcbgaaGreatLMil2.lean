/- Looking up a list among terms; pairings. -/
import Derived.Test.YtalbbjhonkcbgaaGreatLMil
namespace Go.Proofs.YtalbbjhonkcbgaaGreat
open Go.RowKit Go.Sort

/-- The place of a list among lists, or -1. -/
def placeL (xss : List (List Int)) (xs : List Int) : Int := if xs ∈ xss then (xss.idxOf xs : Int) else -1
theorem placeL_in {xss : List (List Int)} {xs : List Int} (h : xs ∈ xss) : 0 ≤ placeL xss xs ∧ placeL xss xs < xss.length := by
  rw [placeL, if_pos h]; have := List.idxOf_lt_length_of_mem h; omega
theorem placeL_out {xss : List (List Int)} {xs : List Int} (h : xs ∉ xss) : placeL xss xs = -1 := by rw [placeL, if_neg h]
theorem placeL_at {xss : List (List Int)} {xs : List Int} (k : Nat) (hk : k < xss.length) (h1 : xss.getD k [] = xs) (h2 : ∀ j, j < k → xss.getD j [] ≠ xs) : placeL xss xs = k := by
  have hm : xs ∈ xss := by rw [← h1, show xss.getD k [] = xss[k] by simp [hk]]; exact List.getElem_mem _
  rw [placeL, if_pos hm]
  have hlt := List.idxOf_lt_length_of_mem hm
  have hge : ¬ xss.idxOf xs < k := fun hlt2 => h2 _ hlt2 (by
    simp [hlt])
  have hle : ¬ k < xss.idxOf xs := fun hlt2 => by
    have := List.not_of_lt_findIdx (p := (· == xs)) (xs := xss) (i := k) hlt2
    rw [show xss.getD k [] = xss[k] by simp [hk]] at h1
    simp [h1] at this
  omega
theorem l01Place_c (v u : Value) (xss : List (List Int)) (xs : List Int) (w : World) (h : IntSS w.heap v xss) (hu : IntS w.heap u xs) :
    Calls Tryz.prog 59 #[v, u] w fun e w' => e = .returned (.int .i64 (placeL xss xs)) ∧ ∃ n, w' = w.drewN n := by
  obtain ⟨ao, c, rfl, hm⟩ := h.len
  obtain ⟨bo, d, rfl, hn⟩ := hu.len
  have H := Lib.hid h; have HU := Lib.hid hu; clear h hu
  go_enter Tryz.func59, Tryz.ntmps59
  go_wp2_with fail
  go_loopw [5] (fun i wr => ∃ k n : Nat, k ≤ xss.length ∧ i = .int .i64 k ∧ wr = w.drewN n ∧ Hid (∀ j, j < k → xss.getD j [] ≠ xs)) (fun i _ => xss.length - (intOf i).toNat)
  case atStart => exact ⟨0, 0, Nat.zero_le _, rfl, rfl, fun j hj => absurd hj (Nat.not_lt_zero _)⟩
  case round =>
    obtain ⟨k, n, hk, rfl, rfl, hp⟩ := hrel
    by_cases hlt : k < xss.length
    · obtain ⟨b1, o1, c1, u1, hv1, hc1, hu1, -⟩ := H.out.at k hlt
      simp only [Value.slice.injEq, true_and] at hv1
      obtain ⟨rfl, rfl⟩ := hv1
      rw [show xss[k] = xss.getD k [] by simp [hlt]] at hu1
      obtain ⟨ra, rc, rfl, -⟩ := hu1.len
      have S := Lib.hid (l01Same_c _ _ _ _ (w.drewN n) (by exact hu1) (by exact HU.out))
      have HU1 := Lib.hid hu1; clear hu1
      by_cases he : xss.getD k [] = xs
      · have HP := Lib.hid (placeL_at k hlt he hp.out)
        rw [decide_eq_true he] at S
        clear he
        generalize xss.getD k [] = ys at *
        go_wp2_with (go_at_call 53; refine S.out.mono ?_; rintro e w1 ⟨rfl, m, rfl⟩)
        go_ret
        exact ⟨by rw [HP.out]; rfl, _, by first | rfl | (simp only [World.drewN_drewN]; rfl)⟩
      · have HP : Hid (∀ j, j < k + 1 → xss.getD j [] ≠ xs) := fun j hj => by
          by_cases e : j = k
          · subst e; exact he
          · exact hp.out j (by omega)
        rw [decide_eq_false he] at S
        clear he
        generalize xss.getD k [] = ys at *
        go_wp2_with (go_at_call 53; refine S.out.mono ?_; rintro e w1 ⟨rfl, m, rfl⟩)
        go_roundw
        case rel => exact ⟨k + 1, _, by omega, by go_num, rfl, HP⟩
        case measure => simp [intOf]; omega
    · obtain rfl : k = xss.length := by omega
      have HP : Hid (placeL xss xs = -1) := placeL_out fun hm => by
        obtain ⟨j, hj, e⟩ := List.getElem_of_mem hm
        exact hp.out j hj (by simpa [hj] using e)
      go_wp2_with fail
      go_ret
      exact ⟨by rw [HP.out]; rfl, _, rfl⟩
theorem enters_compare : Enters Tryz.prog 75 := fun args w => by kernel_rfl
theorem asc_getD {xss : List (List Int)} (h : Asc xss) (i j : Nat) (hij : i < j) (hj : j < xss.length) : ltL (xss.getD i []) (xss.getD j []) = true := by
  rw [show xss.getD i [] = xss[i] by simp [show i < xss.length by omega], show xss.getD j [] = xss[j] by simp [hj]]
  exact List.pairwise_iff_getElem.1 h i j _ _ hij
end Go.Proofs.YtalbbjhonkcbgaaGreat

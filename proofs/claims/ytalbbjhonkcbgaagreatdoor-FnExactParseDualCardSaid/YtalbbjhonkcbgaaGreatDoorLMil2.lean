/- Looking up a list among terms; pairings. -/
import Derived.Test.YtalbbjhonkcbgaaGreatDoorLMil
namespace Go.Proofs.YtalbbjhonkcbgaaGreatDoor
open Go.RowKit Go.Sort

theorem l06Is_c (v : Value) (xss : List (List Int)) (w : World) (h : IntSS w.heap v xss) :
    Calls Tryz.prog 17 #[.agg #[v]] w fun e w' => e = .returned (.bool (arT xss)) ∧ Below w.heap.size w w' := by
  have hb : Below w.heap.size w (w.alloc (.cells #[v] 24)) := (Below.refl _ _).alloc (Nat.le_refl _) _
  have HC := Lib.hid (l04Is_c v xss _ (h.same hb.block))
  obtain ⟨ao, c, rfl, hm⟩ := h.len
  have HB := Lib.hid hb; clear hb h
  go_enter Tryz.func17, Tryz.ntmps17
  go_wp2_with (go_at_call 39; refine HC.out.mono ?_; rintro e w1 ⟨rfl, hb1⟩)
  go_ret
  exact ⟨rfl, HB.out.trans (hb1.mono HB.out.size)⟩
/-- The place of a list among lists, or -1. -/
def placeL (xss : List (List Int)) (xs : List Int) : Int := if xs ∈ xss then (xss.idxOf xs : Int) else -1
theorem placeL_in {xss : List (List Int)} {xs : List Int} (h : xs ∈ xss) : 0 ≤ placeL xss xs ∧ placeL xss xs < xss.length := by
  rw [placeL, if_pos h]; have := List.idxOf_lt_length_of_mem h; omega
theorem placeL_out {xss : List (List Int)} {xs : List Int} (h : xs ∉ xss) : placeL xss xs = -1 := by rw [placeL, if_neg h]
theorem placeL_at {xss : List (List Int)} {xs : List Int} (k : Nat) (hk : k < xss.length) (h1 : xss.getD k [] = xs) (h2 : ∀ j, j < k → xss.getD j [] ≠ xs) : placeL xss xs = k := by
  have hm : xs ∈ xss := by rw [← h1, show xss.getD k [] = xss[k] by simp [hk]]; exact List.getElem_mem _
  rw [placeL, if_pos hm]
  have hlt := List.idxOf_lt_length_of_mem hm
  have hge : ¬ xss.idxOf xs < k := fun hlt2 => h2 _ hlt2 (by
    simp [hlt])
  have hle : ¬ k < xss.idxOf xs := fun hlt2 => by
    have := List.not_of_lt_findIdx (p := (· == xs)) (xs := xss) (i := k) hlt2
    rw [show xss.getD k [] = xss[k] by simp [hk]] at h1
    simp [h1] at this
  omega
theorem enters_compare : Enters Tryz.prog 94 := fun args w => by kernel_rfl
theorem asc_getD {xss : List (List Int)} (h : Asc xss) (i j : Nat) (hij : i < j) (hj : j < xss.length) : ltL (xss.getD i []) (xss.getD j []) = true := by
  rw [show xss.getD i [] = xss[i] by simp [show i < xss.length by omega], show xss.getD j [] = xss[j] by simp [hj]]
  exact List.pairwise_iff_getElem.1 h i j _ _ hij
end Go.Proofs.YtalbbjhonkcbgaaGreatDoor

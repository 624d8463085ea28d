/- CountsOfModule, of the program and of the reference. -/
import Derived.Test.YtljfpkhgijangaaLModArg
namespace Go.Proofs.Ytljfpkhgijangaa
open Go.RowKit Go.Sort

def cntD (ds : List Int) : List Int := (List.range 21).map fun (i : Nat) => (((ds.filter fun x => x == (i : Int)).length : Nat) : Int)
theorem cntD_len (ds : List Int) : (cntD ds).length = 21 := by simp [cntD]
theorem cntD_at (ds : List Int) (i : Nat) (h : i < 21) : (cntD ds).getD i 0 = (((ds.filter fun x => x == (i : Int)).length : Nat) : Int) := by simp [cntD, h]
theorem cntD_take (ds : List Int) (k i : Nat) (hk : k < ds.length) (hi : i < 21) (h : ds.getD k 0 = i) : (cntD (ds.take k)).set i ((cntD (ds.take k)).getD i 0 + 1) = cntD (ds.take (k + 1)) := by
  rw [show ds.getD k 0 = ds[k] by simp [hk]] at h
  apply List.ext_getElem?
  intro j
  by_cases hj : j < 21
  · rw [List.take_succ_eq_append_getElem hk]
    by_cases e : i = j
    · subst e
      rw [List.getElem?_set_self (by rw [cntD_len]; omega), cntD_at _ _ hi]
      simp only [cntD, List.getElem?_map, List.getElem?_range hi, Option.map_some, List.filter_append, List.length_append, h]
      simp
    · rw [List.getElem?_set_ne e]
      simp only [cntD, List.getElem?_map, List.getElem?_range hj, Option.map_some, List.filter_append, List.length_append, h]
      have : ((i : Int) == (j : Int)) = false := by simp; omega
      simp [this]
  · rw [List.getElem?_eq_none (by rw [List.length_set, cntD_len]; omega), List.getElem?_eq_none (by rw [cntD_len]; omega)]
theorem cntD_le (ds : List Int) (k i : Nat) (h : i < 21) : 0 ≤ (cntD (ds.take k)).getD i 0 ∧ (cntD (ds.take k)).getD i 0 ≤ k := by
  rw [cntD_at _ _ h]
  have := List.length_filter_le (fun x => x == (i : Int)) (ds.take k)
  rw [List.length_take] at this
  omega
theorem made_cnt (w : World) : OwnI (w.alloc (.cells (madeCells #[.int .i64 0] 21) 2)) w.heap.size (.slice (some ⟨w.heap.size, 0, none⟩) 21 21) (cntD []) := by
  have := made_own w w.heap.size 2 21 (.int .i64 0) (Nat.le_refl _) (by omega)
  unfold OwnI
  rw [cntD_len]
  simpa [cntD, List.map_const'] using this
def cmL (ds : List Int) (act : List (List Int)) : List Int := if isMod ds act then cntD ds else []
def cmC (ds : List Int) (act : List (List Int)) : Int := if isMod ds act then 0 else 1
theorem cmL_len (ds : List Int) (act : List (List Int)) : (cmL ds act).length ≤ 21 := by
  unfold cmL; split
  · rw [cntD_len]; omega
  · simp
theorem isMod_T {ds : List Int} {act : List (List Int)} (h : isMod ds act = true) : modT ds act = true := by
  simp only [isMod, Bool.and_eq_true] at h; exact h.1
end Go.Proofs.Ytljfpkhgijangaa

/- slices.Reverse at []int64. -/
import Derived.Test.YtalbbjhonkcbgaaGreatLib4
import Derived.Test.YtalbbjhonkcbgaaGreatLGen
import Derived.Deep.LoopGhost
import Derived.Lib.Walk
import Derived.Sort.WalkB12
import Derived.Lib.SlicesMore
namespace Go.Proofs.YtalbbjhonkcbgaaGreat
open Go.RowKit Go.Sort

set_option maxHeartbeats 1600000 in
set_option maxRecDepth 1000000 in
theorem reverse_arr (blk off cap : Nat) (d : Array Int) (w : World) (hH : Holds encI w blk off d) (hsz : d.size ≤ 9223372036854775807) :
    Calls Tryz.prog 74 #[.slice (some ⟨blk, off, none⟩) d.size cap] w fun e w' => e = .returned (.tuple #[]) ∧ ∃ n, w' = putRow encI (Sort.ahead w n) blk off d.reverse := by
  go_enter Tryz.func74, Tryz.ntmps74
  go_wp2_with fail
  go_loopg [2, 3] d.size (fun k s2 s3 wr => ∃ (i jn : Nat) (jz : Int) (dk : Array Int) (n : Nat), s2 = .int .i64 i ∧ s3 = .int .i64 jz ∧ ((i : Int) < jz → jz = jn ∧ jn < d.size) ∧ (¬ (i : Int) < jz → ¬ i < jn) ∧ jn - i ≤ k ∧
    dk.size = d.size ∧ wr = putRow encI (Sort.ahead w n) blk off dk ∧ reverseLoop i jn dk = reverseLoop 0 (d.size - 1) d)
  case atStart => exact ⟨0, d.size - 1, (d.size : Int) - 1, d, 0, rfl, rfl, fun h => ⟨by omega, by omega⟩, fun h => by omega, by omega, rfl, (putRow_self encI w blk off d hH).symm, rfl⟩
  case round =>
    obtain ⟨i, jn, jz, dk, n, rfl, rfl, h1, h2, hk, hds, hwr, heq⟩ := hrel
    by_cases hlt : (i : Int) < jz
    · obtain ⟨rfl, hjn⟩ := h1 hlt
      have hij : i < jn := by omega
      have hHk : Holds encI wr blk off dk := by rw [hwr]; exact holds_putRow encI _ blk off d dk (holds_ahead encI w n blk off d hH) hds
      obtain ⟨ci, fi⟩ := hHk i (by omega)
      obtain ⟨cj, fj⟩ := hHk jn (by omega)
      have A : Aside (wr = putRow encI (Sort.ahead w n) blk off dk) := hwr
      clear hwr hHk hH h1 h2
      go_wp2_with fail
      go_region
      go_wp2_with fail
      go_roundg (jn - 1 - (i + 1))
      case measure => omega
      case rel =>
        rw [reverseLoop, if_pos hij] at heq
        exact ⟨i + 1, jn - 1, (jn : Int) - 1, swp dk i jn, n + 1, by simp, rfl, fun h => ⟨by omega, by omega⟩, fun h => by omega, Nat.le_refl _, by rw [size_swp]; exact hds,
          swap_world encI (by omega) (by omega) A.out (by first | rfl | simp [encI, getElem!_pos, show jn < dk.size by omega]) (by first | rfl | simp [encI, getElem!_pos, show i < dk.size by omega]), heq⟩
    · have hnot := h2 hlt
      go_wp2_with fail
      go_end0
      refine ⟨rfl, n, ?_⟩
      rw [reverseLoop, if_neg hnot] at heq
      rw [← Lib.reverseLoop_reverse, ← heq]
set_option maxHeartbeats 1000000 in
theorem reverse_nil (a : Option Addr) (cap : Nat) (w : World) :
    Calls Tryz.prog 74 #[.slice a 0 cap] w fun e w' => e = .returned (.tuple #[]) ∧ w' = w := by
  go_enter Tryz.func74, Tryz.ntmps74
  go_wp2_with fail
  go_loopg [2, 3] 0 (fun _ s2 s3 wr => s2 = .int .i64 0 ∧ s3 = .int .i64 (-1) ∧ wr = w)
  case atStart => exact ⟨rfl, rfl, rfl⟩
  case round =>
    obtain ⟨rfl, rfl, rfl⟩ := hrel
    go_wp2_with fail
    go_end0
    exact ⟨rfl, rfl⟩
theorem putI_same {w : World} {g n : Nat} {d : Array Int} {cur : Array Value} (hg : w.heap[g]? = some (.cells cur 2 (0, 0))) : (putRow encI (Sort.ahead w n) g 0 d).heap[g]? = some (.cells (putCells encI 0 d cur) 2 (0, 0)) := by
  show ((w.heap.modify g (onCells (putCells encI 0 d))))[g]? = _
  rw [Array.getElem?_modify, if_pos rfl, hg]; rfl
theorem putI_far {w : World} {g n k : Nat} {d : Array Int} (ne : k ≠ g) : (putRow encI (Sort.ahead w n) g 0 d).heap[k]? = w.heap[k]? := by
  show ((w.heap.modify g (onCells (putCells encI 0 d))))[k]? = _
  rw [Array.getElem?_modify, if_neg (fun e => ne e.symm)]
theorem putI_size {w : World} {g n : Nat} {d : Array Int} : (putRow encI (Sort.ahead w n) g 0 d).heap.size = w.heap.size := by
  show ((w.heap.modify g (onCells (putCells encI 0 d)))).size = _
  simp
theorem putI_take {d : Array Int} {cur : Array Value} (h : d.size ≤ cur.size) : (putCells encI 0 d cur).toList.take d.size = d.toList.map encI := by
  apply List.ext_getElem?
  intro i
  by_cases hi : i < d.size
  · rw [List.getElem?_take, if_pos hi, List.getElem?_map]
    simp only [putCells, Array.toList_mapIdx, List.getElem?_mapIdx, Array.getElem?_toList]
    rw [Array.getElem?_eq_getElem (by omega), Array.getElem?_eq_getElem hi]
    simp [hi]
  · rw [List.getElem?_eq_none (by simp; omega), List.getElem?_eq_none (by simp; omega)]
/-- slices.Reverse at a list of the call's own. -/
theorem reverse_c (v : Value) (xs : List Int) (B : Nat) (w : World) (h : OwnI w B v xs) :
    Calls Tryz.prog 74 #[v] w fun e w' => e = .returned (.tuple #[]) ∧ OwnI w' B v xs.reverse ∧ Below B w w' ∧ (∀ b, some b ≠ v.ownBlock → w'.heap[b]? = w.heap[b]?) ∧ w'.heap.size = w.heap.size := by
  have hrow : w.ownsRow B 2 1 v xs.length (xs.map (Value.int .i64)) := h
  rcases hrow.2 with ⟨rfl, h1⟩ | ⟨g, cap, cur, rfl, hgB, hg, h2, h3, h4, h5⟩
  · refine (reverse_nil none 0 w).mono ?_
    rintro e w' ⟨rfl, rfl⟩
    obtain rfl : xs = [] := List.eq_nil_of_length_eq_zero h1
    exact ⟨rfl, h, Below.refl _ _, fun b _ => rfl, rfl⟩
  rw [Nat.mul_one] at h4 h5
  have hH : Holds encI w g 0 xs.toArray := fun j hj => by
    have hj : j < xs.length := by simpa using hj
    refine ⟨?_, by rw [Nat.zero_add]; exact hrow.frozenAt j⟩
    rw [Nat.zero_add, hrow.cellAt j (by omega), getElem!_pos _ j (by simpa using hj)]
    simp [encI, hj]
  have hc := reverse_arr g 0 cap xs.toArray w hH (by have := h3; simp; unfold maxLen at *; omega)
  rw [List.size_toArray] at hc
  refine hc.mono ?_
  rintro e w' ⟨rfl, n, hw⟩
  have e1 : xs.toArray.reverse = xs.reverse.toArray := by simp
  rw [e1] at hw
  refine ⟨rfl, ?_, ?_, fun b hb => ?_, ?_⟩
  · unfold OwnI
    refine ⟨by simp, .inr ⟨g, cap, putCells encI 0 xs.reverse.toArray cur, by simp, hgB, by rw [hw]; exact putI_same hg, by simpa using h2, h3, by simpa [putCells] using h4, ?_⟩⟩
    have := putI_take (d := xs.reverse.toArray) (cur := cur) (by simp; omega)
    rw [Nat.mul_one, List.length_reverse]
    simp only [List.size_toArray, List.length_reverse] at this
    rw [this]
    first | done | simp [encI]
  · rw [hw]; exact ⟨rfl, rfl, rfl, by rw [putI_size]; exact Nat.le_refl _, fun k hk => putI_far (by omega)⟩
  · rw [hw]; exact putI_far (fun e => hb (by rw [e]; rfl))
  · rw [hw]; exact putI_size
end Go.Proofs.YtalbbjhonkcbgaaGreat

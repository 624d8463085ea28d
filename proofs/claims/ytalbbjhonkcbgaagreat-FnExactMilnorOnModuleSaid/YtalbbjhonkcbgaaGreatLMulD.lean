/- Products of dual elements: of the program and of the reference. -/
import Derived.Test.YtalbbjhonkcbgaaGreatLJoin
import Derived.Test.YtalbbjhonkcbgaaGreatLOdd2
import Derived.Test.YtalbbjhonkcbgaaGreatLHeld2
namespace Go.Proofs.YtalbbjhonkcbgaaGreat
open Go.RowKit Go.Sort

/-- All sums of a list of a and one of b, in order. -/
def joinsL (a b : List (List Int)) : List (List Int) := a.flatMap fun r => b.map fun s => joinL r s
theorem joinsL_take (a b : List (List Int)) (i : Nat) (h : i < a.length) : joinsL (a.take (i + 1)) b = joinsL (a.take i) b ++ b.map (joinL a[i]) := by
  unfold joinsL
  rw [List.take_succ_eq_append_getElem h, List.flatMap_append]
  simp
theorem joinsL_length (a b : List (List Int)) : (joinsL a b).length = a.length * b.length := by
  unfold joinsL
  induction a with
  | nil => simp
  | cons x a ih => rw [List.flatMap_cons, List.length_append, ih, List.length_map, List.length_cons, Nat.add_mul]; omega
theorem mem_joinsL {a b : List (List Int)} {z : List Int} (h : z ∈ joinsL a b) : ∃ r ∈ a, ∃ s ∈ b, z = joinL r s := by
  simp only [joinsL, List.mem_flatMap, List.mem_map] at h
  obtain ⟨r, hr, s, hs, rfl⟩ := h
  exact ⟨r, hr, s, hs, rfl⟩
/-- Lists whose numbers are small, and that are not long. -/
def SmS (b : Int) (l : Nat) (a : List (List Int)) : Prop := ∀ r ∈ a, Sm b r ∧ r.length ≤ l
theorem SmS.joins {b c : Int} {l : Nat} {x y : List (List Int)} (h : SmS b l x) (k : SmS c l y) (hb : 0 ≤ b) (hc : 0 ≤ c) : SmS (b + c) l (joinsL x y) := by
  intro z hz
  obtain ⟨r, hr, s, hs, rfl⟩ := mem_joinsL hz
  refine ⟨(h r hr).1.join (k s hs).1 hb hc, ?_⟩
  have := (h r hr).2; have := (k s hs).2
  rw [joinL_length]; omega
theorem mem_oddL_sub {z : List Int} {l : List (List Int)} (h : z ∈ oddL l) : z ∈ l := by
  rw [mem_oddL] at h
  exact List.count_pos_iff.1 (by omega)
theorem SmS.odd {b : Int} {l : Nat} {x : List (List Int)} (h : SmS b l x) : SmS b l (oddL x) := fun z hz => h z (mem_oddL_sub hz)
theorem mrg_one (l : List (List Int)) (x : List Int) : mrg (oddL l) [x] = oddL (l ++ [x]) := by
  rw [mrg_odd (asc_oddL l) (List.pairwise_singleton ..), ← oddL_append]
theorem one_row {W : World} {u : Value} {xs : List Int} (h : IntS W.heap u xs) : IntSS (W.alloc (.cells #[u] 22)).heap (.slice (some ⟨W.heap.size, 0, none⟩) 1 1) [xs] :=
  (ref_one (B := W.heap.size) h (Nat.le_refl _)).ints (alloc_old W _)
theorem below_alloc_mono {w w' : World} {o : Obj} (h : Below (w.alloc o).heap.size (w.alloc o) w') : Below w.heap.size w w' :=
  ((Below.refl w.heap.size w).alloc (Nat.le_refl _) o).trans (h.mono (by simp))
end Go.Proofs.YtalbbjhonkcbgaaGreat

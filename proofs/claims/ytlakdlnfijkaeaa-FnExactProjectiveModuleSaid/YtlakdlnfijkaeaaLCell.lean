/- SphereModule and CellModule, of the program and of the reference. -/
import Derived.Test.YtlakdlnfijkaeaaBaseM
import Derived.Test.YtlakdlnfijkaeaaL10
namespace Go.Proofs.Ytlakdlnfijkaeaa
open Go.RowKit Go.Sort

theorem ownI_one {w : World} {B : Nat} (hB : B ≤ w.heap.size) (x : Int) : OwnI (w.alloc (.cells #[.int .i64 x] 2)) B (.slice (some ⟨w.heap.size, 0, none⟩) 1 1) [x] :=
  World.ownsRow_lit (e := 2) (size := 1) w #[.int .i64 x] 1 hB (by unfold maxLen; omega) rfl

def spDeg (d : Int) : List Int := if 0 ≤ d ∧ d ≤ 20 then [d] else []
def spC (d : Int) : Int := if 0 ≤ d ∧ d ≤ 20 then 0 else 2
theorem isStem_c (n : Int) (w : World) : Calls Try.prog 62 #[.int .i64 n] w fun e w' => e = .returned (.bool (decide (0 ≤ n) && decide (n ≤ 20))) ∧ w = w' := by
  go_enter Try.func62, Try.ntmps62
  go_wp2_with (first | (go_at_call 51; refine (in_c _ _ _ _).mono ?_; rintro e w' ⟨rfl, rfl⟩))
  go_ret
  exact ⟨rfl, rfl⟩
theorem specSphereModule_c (n : Int) (w : World) :
    Calls Try.prog 41 #[.int .i64 n] w fun e w' => ∃ d a, e = .returned (.tuple #[.agg #[d, a], .int .i64 (spC n)]) ∧ ModS w'.heap d a (spDeg n) [] ∧ Below w.heap.size w w' := by
  by_cases hr : 0 ≤ n ∧ n ≤ 20
  · have t1 : (decide (0 ≤ n) && decide (n ≤ 20)) = true := by simp; omega
    have e1 : spC n = 0 := by simp [spC, hr]
    have e2 : spDeg n = [n] := by simp [spDeg, hr]
    rw [e1, e2]; clear e1 e2 hr
    go_enter Try.func41, Try.ntmps41
    go_wp2_with (first | (go_at_call 49; refine (l01In_c _ _ _ _).mono ?_; rintro e w' ⟨rfl, rfl⟩))
    exact bodyPost_ret (v := .tuple #[.agg #[.slice (some ⟨w.heap.size + 1, 0, none⟩) 1 1, .slice none 0 0], .int .i64 0]) (by simp [results, Try.results41, go_sem]) rfl
      ⟨_, _, rfl, ⟨by simpa using (ownI_one (w := w.alloc _) (B := 0) (Nat.zero_le _) n).ints, IntSS.nil _⟩, ((Below.refl _ w).alloc (Nat.le_refl _) _).alloc (by simp) _⟩
  · have t1 : (decide (0 ≤ n) && decide (n ≤ 20)) = false := by simp; omega
    have e1 : spC n = 2 := by simp [spC, hr]
    have e2 : spDeg n = [] := by simp [spDeg, hr]
    rw [e1, e2]; clear e1 e2 hr
    go_enter Try.func41, Try.ntmps41
    go_wp2_with (first | (go_at_call 49; refine (l01In_c _ _ _ _).mono ?_; rintro e w' ⟨rfl, rfl⟩))
    exact bodyPost_ret (v := .tuple #[.agg #[.slice none 0 0, .slice none 0 0], .int .i64 2]) (by simp [results, Try.results41, go_sem]) rfl
      ⟨_, _, rfl, ModS.nil _, (Below.refl _ w).alloc (Nat.le_refl _) _⟩
theorem implSphereModule_c (n : Int) (w : World) :
    Calls Try.prog 42 #[.int .i64 n] w fun e w' => ∃ d a us, e = .returned (.tuple #[.agg #[d, a], .int .i64 (spC n)]) ∧ OwnM w' w.heap.size d a us (spDeg n) [] ∧ Below w.heap.size w w' := by
  by_cases hr : 0 ≤ n ∧ n ≤ 20
  · have t1 : (decide (0 ≤ n) && decide (n ≤ 20)) = true := by simp; omega
    have e1 : spC n = 0 := by simp [spC, hr]
    have e2 : spDeg n = [n] := by simp [spDeg, hr]
    rw [e1, e2]; clear e1 e2 hr
    go_enter Try.func42, Try.ntmps42
    go_wp2_with (first | (go_at_call 62; refine (isStem_c _ _).mono ?_; rintro e w' ⟨rfl, rfl⟩))
    exact bodyPost_ret (v := .tuple #[.agg #[.slice (some ⟨w.heap.size + 1, 0, none⟩) 1 1, .slice none 0 0], .int .i64 0]) (by simp [results, Try.results42, go_sem]) rfl
      ⟨_, _, [], rfl, ⟨by simpa using (ownI_one (w := w.alloc _) (B := w.heap.size) (by simp) n), (OwnM.nil _ _).act, fun u hu => by simp at hu⟩, ((Below.refl _ w).alloc (Nat.le_refl _) _).alloc (by simp) _⟩
  · have t1 : (decide (0 ≤ n) && decide (n ≤ 20)) = false := by simp; omega
    have e1 : spC n = 2 := by simp [spC, hr]
    have e2 : spDeg n = [] := by simp [spDeg, hr]
    rw [e1, e2]; clear e1 e2 hr
    go_enter Try.func42, Try.ntmps42
    go_wp2_with (first | (go_at_call 62; refine (isStem_c _ _).mono ?_; rintro e w' ⟨rfl, rfl⟩))
    exact bodyPost_ret (v := .tuple #[.agg #[.slice none 0 0, .slice none 0 0], .int .i64 2]) (by simp [results, Try.results42, go_sem]) rfl
      ⟨_, _, [], rfl, OwnM.nil _ _, (Below.refl _ w).alloc (Nat.le_refl _) _⟩
theorem spDeg_length (n : Int) : (spDeg n).length ≤ 1 := by unfold spDeg; split <;> simp
def clN (k : Int) : Int := IntKind.i64.wrap (2 ^ k.toNat)
theorem w64 (x : Int) : wrap64 x = IntKind.i64.wrap x := by rw [IntKind.wrap_i64]; unfold wrap64; omega
def clDeg (k : Int) : List Int := if 0 ≤ k ∧ k ≤ 4 then [0, clN k] else []
def clAct (k : Int) : List (List Int) := if 0 ≤ k ∧ k ≤ 4 then [[clN k, 0, 1]] else []
def clC (k : Int) : Int := if 0 ≤ k ∧ k ≤ 4 then 0 else 2
theorem cl_bounds (k : Int) : (clDeg k).length ≤ 2 ∧ cnt (clAct k) ≤ 3 := by
  unfold clDeg clAct; split <;> simp [cnt]
theorem ownI_three {w : World} {B : Nat} (hB : B ≤ w.heap.size) (x y z : Int) : OwnI (w.alloc (.cells #[.int .i64 x, .int .i64 y, .int .i64 z] 2)) B (.slice (some ⟨w.heap.size, 0, none⟩) 3 3) [x, y, z] :=
  World.ownsRow_lit (e := 2) (size := 1) w #[.int .i64 x, .int .i64 y, .int .i64 z] 3 hB (by unfold maxLen; omega) rfl
theorem ownU_one {w : World} {B : Nat} {u : Value} {xs : List Int} (hB : B ≤ w.heap.size) (hu : OwnI w B u xs) : OwnU (w.alloc (.cells #[u] 25)) B (.slice (some ⟨w.heap.size, 0, none⟩) 1 1) [u] [xs] := by
  refine ⟨World.ownsRow_lit (e := 25) (size := 1) w #[u] 1 hB (by unfold maxLen; omega) rfl, fun i x ys hx hy => ?_, fun i j x x' hij hx hx' => ?_⟩
  · match i, hx with
    | 0, hx => simp at hx hy; subst hx; subst hy; exact hu.same (alloc_old _ _)
  · match i, j, hx' with
    | 0, 0, _ => omega
theorem heap_alloc_if (w : World) (o : Obj) (k : Nat) : (w.alloc o).heap[k]? = if k = w.heap.size then some o else w.heap[k]? := by
  show (w.heap.push o)[k]? = _
  rw [Array.getElem?_push]
theorem size_alloc_if (w : World) (o : Obj) : (w.alloc o).heap.size = w.heap.size + 1 := by
  show (w.heap.push o).size = _
  rw [Array.size_push]
theorem heap_drew_same (w : World) : w.drew.heap = w.heap := rfl
theorem own_lit_at {W : World} {B b e n : Nat} {cs : Array Value} (hb : W.heap[b]? = some (.cells cs e (0, 0))) (hB : B ≤ b) (hn : cs.size = n) (hm : n ≤ maxLen) : W.ownsRow B e 1 (.slice (some ⟨b, 0, none⟩) n n) n cs.toList :=
  ⟨by simpa using hn, .inr ⟨b, n, cs, rfl, hB, hb, Nat.le_refl _, hm, by omega, by rw [List.take_of_length_le (by simp; omega)]⟩⟩
theorem ownM_cell {W : World} {B b1 b2 b3 : Nat} {x y p q r : Int} (h1 : W.heap[b1]? = some (.cells #[.int .i64 x, .int .i64 y] 2 (0, 0))) (h2 : W.heap[b2]? = some (.cells #[.int .i64 p, .int .i64 q, .int .i64 r] 2 (0, 0)))
    (h3 : W.heap[b3]? = some (.cells #[.slice (some ⟨b2, 0, none⟩) 3 3] 25 (0, 0))) (k1 : B ≤ b1) (k2 : B ≤ b2) (k3 : B ≤ b3) (ne : b1 ≠ b2) :
    OwnM W B (.slice (some ⟨b1, 0, none⟩) 2 2) (.slice (some ⟨b3, 0, none⟩) 1 1) [.slice (some ⟨b2, 0, none⟩) 3 3] [x, y] [[p, q, r]] := by
  refine ⟨own_lit_at h1 k1 rfl (by unfold maxLen; omega), ⟨own_lit_at h3 k3 rfl (by unfold maxLen; omega), fun i u xs hu hx => ?_, fun i j u u' hij hu hu' => ?_⟩, fun u hu => ?_⟩
  · match i, hu with
    | 0, hu => simp at hu hx; subst hu; subst hx; exact own_lit_at h2 k2 rfl (by unfold maxLen; omega)
  · match i, j, hu' with
    | 0, 0, _ => omega
  · simp at hu; subst hu; right; simp [Value.ownBlock, ne]
theorem specCellModule_c (k : Int) (w : World) :
    Calls Try.prog 36 #[.int .i64 k] w fun e w' => ∃ d a, e = .returned (.tuple #[.agg #[d, a], .int .i64 (clC k)]) ∧ ModS w'.heap d a (clDeg k) (clAct k) ∧ Below w.heap.size w w' := by
  by_cases hr : 0 ≤ k ∧ k ≤ 4
  · have e1 : clC k = 0 := by simp [clC, hr]
    have e2 : clDeg k = [0, clN k] := by simp [clDeg, hr]
    have e3 : clAct k = [[clN k, 0, 1]] := by simp [clAct, hr]
    rw [e1, e2, e3]; clear e1 e2 e3
    obtain ⟨hr1, hr2⟩ := hr
    have t1 : (decide (0 ≤ k) && decide (k ≤ 4)) = true := by simp; omega
    go_enter Try.func36, Try.ntmps36
    go_wp2_with (first | (go_at_call 49; refine (l01In_c _ _ _ _).mono ?_; rintro e w' ⟨rfl, rfl⟩))
    exact bodyPost_ret (v := .tuple #[.agg #[.slice (some ⟨w.heap.size + 1, 0, none⟩) 2 2, .slice (some ⟨w.heap.size + 1 + 1 + 1, 0, none⟩) 1 1], .int .i64 0]) (by simp [results, Try.results36, go_sem]) rfl
      ⟨_, _, rfl, (ownM_cell (B := 0) (b2 := w.heap.size + 1 + 1) (by simp only [heap_alloc_if, size_alloc_if]; simp; try first | rfl | exact w64 _) (by simp only [heap_alloc_if, size_alloc_if]; simp; try first | rfl | exact w64 _) (by simp only [heap_alloc_if, size_alloc_if]; simp; try first | rfl | exact w64 _) (Nat.zero_le _) (Nat.zero_le _) (Nat.zero_le _) (by omega)).ints,
        ((((Below.refl _ w).alloc (Nat.le_refl _) _).alloc (by simp) _).alloc (by simp; omega) _).alloc (by simp; omega) _⟩
  · have t1 : (decide (0 ≤ k) && decide (k ≤ 4)) = false := by simp; omega
    have e1 : clC k = 2 := by simp [clC, hr]
    have e2 : clDeg k = [] := by simp [clDeg, hr]
    have e3 : clAct k = [] := by simp [clAct, hr]
    rw [e1, e2, e3]; clear e1 e2 e3 hr
    go_enter Try.func36, Try.ntmps36
    go_wp2_with (first | (go_at_call 49; refine (l01In_c _ _ _ _).mono ?_; rintro e w' ⟨rfl, rfl⟩))
    exact bodyPost_ret (v := .tuple #[.agg #[.slice none 0 0, .slice none 0 0], .int .i64 2]) (by simp [results, Try.results36, go_sem]) rfl
      ⟨_, _, rfl, ModS.nil _, (Below.refl _ w).alloc (Nat.le_refl _) _⟩
theorem implCellModule_c (k : Int) (w : World) :
    Calls Try.prog 37 #[.int .i64 k] w fun e w' => ∃ d a us, e = .returned (.tuple #[.agg #[d, a], .int .i64 (clC k)]) ∧ OwnM w' w.heap.size d a us (clDeg k) (clAct k) ∧ Below w.heap.size w w' := by
  by_cases hr : 0 ≤ k ∧ k ≤ 4
  · have e1 : clC k = 0 := by simp [clC, hr]
    have e2 : clDeg k = [0, clN k] := by simp [clDeg, hr]
    have e3 : clAct k = [[clN k, 0, 1]] := by simp [clAct, hr]
    rw [e1, e2, e3]; clear e1 e2 e3
    obtain ⟨hr1, hr2⟩ := hr
    have t1 : (decide (0 ≤ k) && decide (k ≤ 4)) = true := by simp; omega
    go_enter Try.func37, Try.ntmps37
    go_wp2_with (first | (go_at_call 51; refine (in_c _ _ _ _).mono ?_; rintro e w' ⟨rfl, rfl⟩))
    go_region_held3 (fun _ => True) (trivial) (fail)
    all_goals go_wp2
    · exact bodyPost_ret (v := .tuple #[.agg #[.slice (some ⟨w.heap.size + 1, 0, none⟩) 2 2, .slice (some ⟨w.heap.size + 1 + 1 + 1, 0, none⟩) 1 1], .int .i64 0]) (by simp [results, Try.results37, go_sem]) rfl
        ⟨_, _, _, rfl, ownM_cell (b2 := w.heap.size + 1 + 1) (by simp only [heap_drew_same, heap_alloc_if, size_alloc_if]; simp; try first | rfl | exact w64 _) (by simp only [heap_drew_same, heap_alloc_if, size_alloc_if]; simp; try first | rfl | exact w64 _) (by simp only [heap_drew_same, heap_alloc_if, size_alloc_if]; simp; try first | rfl | exact w64 _) (by omega) (by omega) (by omega) (by omega),
          (((((Below.refl _ w).alloc (Nat.le_refl _) _).alloc (by simp) _).alloc (by simp; omega) _).alloc (by simp; omega) _).drew⟩
    · exact bodyPost_ret (v := .tuple #[.agg #[.slice (some ⟨w.heap.size + 1 + 1, 0, none⟩) 2 2, .slice (some ⟨w.heap.size + 1 + 1 + 1, 0, none⟩) 1 1], .int .i64 0]) (by simp [results, Try.results37, go_sem]) rfl
        ⟨_, _, _, rfl, ownM_cell (b2 := w.heap.size + 1) (by simp only [heap_drew_same, heap_alloc_if, size_alloc_if]; simp; try first | rfl | exact w64 _) (by simp only [heap_drew_same, heap_alloc_if, size_alloc_if]; simp; try first | rfl | exact w64 _) (by simp only [heap_drew_same, heap_alloc_if, size_alloc_if]; simp; try first | rfl | exact w64 _) (by omega) (by omega) (by omega) (by omega),
          (((((Below.refl _ w).alloc (Nat.le_refl _) _).alloc (by simp) _).alloc (by simp; omega) _).alloc (by simp; omega) _).drew⟩
    · exact bodyPost_ret (v := .tuple #[.agg #[.slice (some ⟨w.heap.size + 1 + 1 + 1, 0, none⟩) 2 2, .slice (some ⟨w.heap.size + 1 + 1, 0, none⟩) 1 1], .int .i64 0]) (by simp [results, Try.results37, go_sem]) rfl
        ⟨_, _, _, rfl, ownM_cell (b2 := w.heap.size + 1) (by simp only [heap_drew_same, heap_alloc_if, size_alloc_if]; simp; try first | rfl | exact w64 _) (by simp only [heap_drew_same, heap_alloc_if, size_alloc_if]; simp; try first | rfl | exact w64 _) (by simp only [heap_drew_same, heap_alloc_if, size_alloc_if]; simp; try first | rfl | exact w64 _) (by omega) (by omega) (by omega) (by omega),
          (((((Below.refl _ w).alloc (Nat.le_refl _) _).alloc (by simp) _).alloc (by simp; omega) _).alloc (by simp; omega) _).drew⟩
  · have t1 : (decide (0 ≤ k) && decide (k ≤ 4)) = false := by simp; omega
    have e1 : clC k = 2 := by simp [clC, hr]
    have e2 : clDeg k = [] := by simp [clDeg, hr]
    have e3 : clAct k = [] := by simp [clAct, hr]
    rw [e1, e2, e3]; clear e1 e2 e3 hr
    go_enter Try.func37, Try.ntmps37
    go_wp2_with (first | (go_at_call 51; refine (in_c _ _ _ _).mono ?_; rintro e w' ⟨rfl, rfl⟩))
    exact bodyPost_ret (v := .tuple #[.agg #[.slice none 0 0, .slice none 0 0], .int .i64 2]) (by simp [results, Try.results37, go_sem]) rfl
      ⟨_, _, [], rfl, OwnM.nil _ _, (Below.refl _ w).alloc (Nat.le_refl _) _⟩
end Go.Proofs.Ytlakdlnfijkaeaa

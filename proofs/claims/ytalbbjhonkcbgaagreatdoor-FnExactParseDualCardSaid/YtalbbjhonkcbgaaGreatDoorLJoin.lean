/- Sums of exponent lists: of the program and of the reference. -/
import Derived.Test.YtalbbjhonkcbgaaGreatDoorBase4
import Derived.Test.YtalbbjhonkcbgaaGreatDoorBase2
import Derived.Test.YtalbbjhonkcbgaaGreatDoorLTerm
namespace Go.Proofs.YtalbbjhonkcbgaaGreatDoor
open Go.RowKit Go.Sort

/-- The sum of two lists, number by number. -/
def joinL (r s : List Int) : List Int := (List.range (max r.length s.length)).map fun i => r.getD i 0 + s.getD i 0
theorem joinL_length (r s : List Int) : (joinL r s).length = max r.length s.length := by simp [joinL]
/-- Numbers of at least 0 that are not great. -/
def Sm (b : Int) (r : List Int) : Prop := ∀ x ∈ r, 0 ≤ x ∧ x ≤ b
theorem Sm.at {b : Int} {r : List Int} (h : Sm b r) (hb : 0 ≤ b) (i : Nat) : 0 ≤ r.getD i 0 ∧ r.getD i 0 ≤ b := by
  by_cases hi : i < r.length
  · rw [show r.getD i 0 = r[i] by simp [hi]]; exact h _ (List.getElem_mem hi)
  · rw [show r.getD i 0 = 0 by simp [show r.length ≤ i by omega]]; exact ⟨Int.le_refl _, hb⟩
theorem Sm.join {b c : Int} {r s : List Int} (h : Sm b r) (k : Sm c s) (hb : 0 ≤ b) (hc : 0 ≤ c) : Sm (b + c) (joinL r s) := by
  intro x hx
  simp only [joinL, List.mem_map] at hx
  obtain ⟨i, -, rfl⟩ := hx
  have := h.at hb i; have := k.at hc i
  omega
/-- What the program's first loop has: the first k numbers of r, then zeros: n in all. -/
def joinA (r : List Int) (n k : Nat) : List Int := (List.range n).map fun i => if i < k then r.getD i 0 else 0
/-- What its second loop has. -/
def joinB (r s : List Int) (n k : Nat) : List Int := (List.range n).map fun i => if i < k then r.getD i 0 + s.getD i 0 else r.getD i 0
theorem joinA_length (r : List Int) (n k : Nat) : (joinA r n k).length = n := by simp [joinA]
theorem joinB_length (r s : List Int) (n k : Nat) : (joinB r s n k).length = n := by simp [joinB]
theorem joinA_zero (r : List Int) (n : Nat) : joinA r n 0 = List.replicate n 0 := by
  apply List.ext_getElem?; intro i
  by_cases hi : i < n <;> simp [joinA, hi]
theorem joinA_at (r : List Int) (n k : Nat) (hk : k < n) : (joinA r n k).getD k 0 = 0 := by simp [joinA, hk]
theorem joinA_set (r : List Int) (n k : Nat) (hk : k < n) : (joinA r n k).set k (r.getD k 0) = joinA r n (k + 1) := by
  apply List.ext_getElem?; intro i
  rw [List.getElem?_set]
  by_cases e : k = i
  · subst e; simp [joinA, hk]
  · rw [if_neg e]
    by_cases hi : i < n
    · have : (i < k) ↔ (i < k + 1) := by omega
      simp [joinA, hi, this]
    · simp [joinA, hi]
theorem joinA_all (r s : List Int) (n : Nat) : joinA r n r.length = joinB r s n 0 := by
  apply List.ext_getElem?; intro i
  by_cases hi : i < n
  · by_cases h2 : i < r.length
    · simp [joinA, joinB, hi, h2]
    · simp [joinA, joinB, hi, h2]
  · simp [joinA, joinB, hi]
theorem joinB_at (r s : List Int) (n k : Nat) (hk : k < n) : (joinB r s n k).getD k 0 = r.getD k 0 := by simp [joinB, hk]
theorem joinB_set (r s : List Int) (n k : Nat) (hk : k < n) : (joinB r s n k).set k (r.getD k 0 + s.getD k 0) = joinB r s n (k + 1) := by
  apply List.ext_getElem?; intro i
  rw [List.getElem?_set]
  by_cases e : k = i
  · subst e; simp [joinB, hk]
  · rw [if_neg e]
    by_cases hi : i < n
    · have : (i < k) ↔ (i < k + 1) := by omega
      simp [joinB, hi, this]
    · simp [joinB, hi]
theorem joinB_all (r s : List Int) : joinB r s (max r.length s.length) s.length = joinL r s := by
  apply List.ext_getElem?; intro i
  by_cases hi : i < max r.length s.length
  · by_cases h2 : i < s.length
    · simp [joinL, joinB, hi, h2]
    · simp [joinL, joinB, hi, h2]
  · simp [joinL, joinB, hi]
theorem joinL_take_succ (r s : List Int) (k : Nat) (hk : k < max r.length s.length) : (joinL r s).take (k + 1) = (joinL r s).take k ++ [r.getD k 0 + s.getD k 0] := by
  rw [List.take_succ_eq_append_getElem (by rw [joinL_length]; exact hk)]
  simp [joinL]
theorem l06Join_c (v u : Value) (r s : List Int) (w : World) (h : IntS w.heap v r) (hu : IntS w.heap u s) (hr : Sm 1000000000000000 r) (hs : Sm 1000000000000000 s) (hl : r.length ≤ 4398046511104) (hl2 : s.length ≤ 4398046511104) :
    Calls Tryz.prog 37 #[v, u] w fun e w' => ∃ x, e = .returned x ∧ OwnI w' w.heap.size x (joinL r s) ∧ Below w.heap.size w w' := by
  obtain ⟨ao, c, rfl, -⟩ := h.len
  obtain ⟨bo, d, rfl, -⟩ := hu.len
  have H := Lib.hid h; have HU := Lib.hid hu
  have HR := Lib.hid hr; have HZ := Lib.hid hs
  clear h hu hr hs
  obtain ⟨m, hm⟩ : ∃ m, max r.length s.length = m := ⟨_, rfl⟩
  have hm1 : r.length ≤ m := by omega
  have hm2 : s.length ≤ m := by omega
  have hm3 : m ≤ 4398046511104 := by omega
  have HM := Lib.hid hm
  clear hm
  go_enter Tryz.func37, Tryz.ntmps37
  go_wp2_with fail
  go_loopw [5, 6] (fun o i wr => ∃ k : Nat, k ≤ m ∧ i = .int .i64 k ∧ OwnI wr w.heap.size o ((joinL r s).take k) ∧ Below w.heap.size w wr) (fun _ i _ => m - (intOf i).toNat)
  case atStart => exact ⟨0, by omega, rfl, ownI_empty (Nat.le_refl _), (Below.refl _ _).alloc (Nat.le_refl _) _⟩
  case round =>
    obtain ⟨k, hk, rfl, hown, hbl⟩ := hrel
    obtain ⟨va, vn, vc, rfl⟩ := own_shape hown
    have HO := Lib.hid hown; have HB := Lib.hid hbl
    clear hown hbl
    by_cases hkm : k < m
    · have HS := Lib.hid (joinL_take_succ r s k (by have := HM.out; omega))
      have HL : Hid (((joinL r s).take k).length ≤ 4398046511104) := by show _ ≤ _; rw [List.length_take]; omega
      have hb := HR.out.at (by omega) k
      have hb2 := HZ.out.at (by omega) k
      by_cases h1 : k < r.length
      · obtain ⟨b1, o1, c1, hv1, hc1, -⟩ := H.out.at k h1
        simp only [Value.slice.injEq, true_and] at hv1
        obtain ⟨rfl, rfl⟩ := hv1
        have hcx := (HB.out.cell (World.block_lt_of_cell? _ _ hc1)).trans hc1
        rw [← getD_at'] at hcx
        clear hc1
        have t1 : decide ((k : Int) < (r.length : Int)) = true := decide_eq_true (by omega)
        have h1i : (k : Int) < r.length := by omega
        by_cases h2 : k < s.length
        · obtain ⟨b2, o2, c2, hv2, hc2, -⟩ := HU.out.at k h2
          simp only [Value.slice.injEq, true_and] at hv2
          obtain ⟨rfl, rfl⟩ := hv2
          have hcy := (HB.out.cell (World.block_lt_of_cell? _ _ hc2)).trans hc2
          rw [← getD_at'] at hcy
          clear hc2
          have t2 : decide ((k : Int) < (s.length : Int)) = true := decide_eq_true (by omega)
          have h2i : (k : Int) < s.length := by omega
          generalize hx : r.getD k 0 = x at *
          generalize hy : s.getD k 0 = y at *
          clear hx hy
          have e1 : IntKind.i64.wrap (0 + x) = x := by rw [Int.zero_add]; exact IntWalk.i64_in _ (by omega)
          have e2 : IntKind.i64.wrap (0 + y) = y := by rw [Int.zero_add]; exact IntWalk.i64_in _ (by omega)
          have e3 : IntKind.i64.wrap (x + y) = x + y := IntWalk.i64_in _ (by omega)
          go_wp2_with (first | (at_builtin; refine append_int rfl _ _ rfl w.heap.size _ _ _ HO.out rfl HB.out HB.out.size _ rfl (by simp) (by have := HL.out; omega) ?_; intro v' w' hown' hbl' _ _; obtain ⟨sa, sn, sc, rfl⟩ := own_shape hown'))
          go_roundw
          case rel => exact ⟨k + 1, by omega, by go_num, by rw [HS.out]; exact hown', hbl'⟩
          case measure => simp [intOf]; omega
        · have t2 : decide ((k : Int) < (s.length : Int)) = false := decide_eq_false (by omega)
          have hy0 : s.getD k 0 = 0 := by simp [show s.length ≤ k by omega]
          rw [hy0, Int.add_zero] at HS
          rw [hy0] at hb2
          clear hy0
          obtain ⟨y, hy⟩ : ∃ y : Int, y = 0 := ⟨0, rfl⟩
          have hb3 : 0 ≤ y ∧ y ≤ 0 := by omega
          clear hy
          generalize hx : r.getD k 0 = x at *
          clear hx
          have e1 : IntKind.i64.wrap (0 + x) = x := by rw [Int.zero_add]; exact IntWalk.i64_in _ (by omega)
          have e2 : IntKind.i64.wrap (0 + y) = y := by rw [Int.zero_add]; exact IntWalk.i64_in _ (by omega)
          have e3 : IntKind.i64.wrap (x + y) = x + y := IntWalk.i64_in _ (by omega)
          go_wp2_with (first | (at_builtin; refine append_int rfl _ _ rfl w.heap.size _ _ _ HO.out rfl HB.out HB.out.size _ rfl (by simp) (by have := HL.out; omega) ?_; intro v' w' hown' hbl' _ _; obtain ⟨sa, sn, sc, rfl⟩ := own_shape hown'))
          go_roundw
          case rel => exact ⟨k + 1, by omega, by go_num, by rw [HS.out]; exact hown', hbl'⟩
          case measure => simp [intOf]; omega
      · have t1 : decide ((k : Int) < (r.length : Int)) = false := decide_eq_false (by omega)
        have h2 : k < s.length := by have := HM.out; omega
        obtain ⟨b2, o2, c2, hv2, hc2, -⟩ := HU.out.at k h2
        simp only [Value.slice.injEq, true_and] at hv2
        obtain ⟨rfl, rfl⟩ := hv2
        have hcy := (HB.out.cell (World.block_lt_of_cell? _ _ hc2)).trans hc2
        rw [← getD_at'] at hcy
        clear hc2
        have t2 : decide ((k : Int) < (s.length : Int)) = true := decide_eq_true (by omega)
        have h2i : (k : Int) < s.length := by omega
        have hx0 : r.getD k 0 = 0 := by simp [show r.length ≤ k by omega]
        rw [hx0, Int.zero_add] at HS
        rw [hx0] at hb
        clear hx0
        obtain ⟨x, hx⟩ : ∃ x : Int, x = 0 := ⟨0, rfl⟩
        have hb3 : 0 ≤ x ∧ x ≤ 0 := by omega
        clear hx
        generalize hy : s.getD k 0 = y at *
        clear hy
        have e1 : IntKind.i64.wrap (0 + x) = x := by rw [Int.zero_add]; exact IntWalk.i64_in _ (by omega)
        have e2 : IntKind.i64.wrap (0 + y) = y := by rw [Int.zero_add]; exact IntWalk.i64_in _ (by omega)
        have e3 : IntKind.i64.wrap (x + y) = x + y := IntWalk.i64_in _ (by omega)
        go_wp2_with (first | (at_builtin; refine append_int rfl _ _ rfl w.heap.size _ _ _ HO.out rfl HB.out HB.out.size _ rfl (by simp) (by have := HL.out; omega) ?_; intro v' w' hown' hbl' _ _; obtain ⟨sa, sn, sc, rfl⟩ := own_shape hown'))
        go_roundw
        case rel => exact ⟨k + 1, by omega, by go_num, by rw [HS.out]; exact hown', hbl'⟩
        case measure => simp [intOf]; omega
    · obtain rfl : k = m := by omega
      have t1 : decide ((k : Int) < (r.length : Int)) = false := decide_eq_false (by omega)
      have t2 : decide ((k : Int) < (s.length : Int)) = false := decide_eq_false (by omega)
      have e : (joinL r s).take k = joinL r s := List.take_of_length_le (by rw [joinL_length]; have := HM.out; omega)
      rw [e] at HO
      go_wp2_with fail
      go_ret
      exact ⟨_, rfl, HO.out, HB.out⟩
end Go.Proofs.YtalbbjhonkcbgaaGreatDoor

/- The program's tables as closed facts, the laws on append at its types, and the contracts of the helpers of the statements. -/
import Derived.Test.YtalbbjhonkcbgaaGreatDoorChecked
import Derived.Test.YtalbbjhonkcbgaaGreatDoorLib
namespace Go.Proofs.YtalbbjhonkcbgaaGreatDoor
open Go.RowKit
theorem info_int64 : (Tryz.prog.info? 2).map (fun i => (i.zero, i.size, i.bytes)) = some (some (.int .i64 0), 1, 8) := by kernel_rfl

theorem info_bool : (Tryz.prog.info? 4).map (fun i => (i.zero, i.size, i.bytes)) = some (some (.bool false), 1, 1) := by kernel_rfl

section
variable {ops : Array Oper} {rest : List Oper} {o : Oper} {a : Act} {Q : Exit → Act → World → Prop}
theorem append_int {w w0 : World} (hg : o.guard = none) (s x : Operand)
    (ho : o.op = .call { callee := .builtin .append, args := #[s, x], argTypes := #[30, 30] })
    (B : Nat) (v : Value) (xs : List Int) (n : Int) (hown : OwnI w B v xs) (hs : a.eval s = v) (hbl : Below B w0 w) (hB : B ≤ w.heap.size)
    (b : Nat) (hx : a.eval x = .slice (some ⟨b, 0, none⟩) 1 1) (hb : b = w.heap.size) (hn : xs.length ≤ 4398046511104)
    (hK : ∀ v' w', OwnI w' B v' (xs ++ [n]) → Below B w0 w' → w.heap.size ≤ w'.heap.size → (∀ b, b < w.heap.size → some b ≠ v.ownBlock → w'.heap[b]? = w.heap[b]?) → wpList Tryz.prog ops Q rest (a.put o.dst v') w') :
    wpList Tryz.prog ops Q (o :: rest) a (w.alloc (.cells #[.int .i64 n] 2)) := by
  obtain ⟨i0, hi, hz0, hz1, hz2⟩ := info_parts info_int64
  refine append_one hg s x _ ho B _ i0 _ 8 Tryz.underlying30 hi hz0 hz1 hz2 rfl (by omega) v _ _ _ hown hs hbl hB _ hx hb rfl hn ?_
  intro v' w' h1 h2 h3 h4
  exact hK v' w' (by unfold OwnI; simpa using h1) h2 h3 h4
end

theorem eqInt64S_c (v1 v2 : Value) (xs ys : List Int) (w : World) (h1 : IntS w.heap v1 xs) (h2 : IntS w.heap v2 ys) :
    Calls Tryz.prog 32 #[v1, v2] w fun e w' => e = .returned (.bool (decide (xs = ys))) ∧ ∃ n, w' = w.drewN n := by
  obtain ⟨a1, c1, rfl, m1⟩ := h1.len
  obtain ⟨a2, c2, rfl, m2⟩ := h2.len
  have H1 := Lib.hid h1; clear h1
  have H2 := Lib.hid h2; clear h2
  by_cases hl : xs.length = ys.length
  · have hb := (eqB (a := (xs.length : Int)) (b := ys.length) (by omega)).2
    have HL := Lib.hid hl
    clear hl
    go_enter Tryz.func32, Tryz.ntmps32
    go_wp2
    clear hb
    go_loopw [5] (fun i wr => ∃ k n : Nat, k ≤ xs.length ∧ i = .int .i64 k ∧ wr = w.drewN n ∧ ∀ j, j < k → xs[j]? = ys[j]?) (fun i _ => xs.length - (intOf i).toNat)
    case atStart => exact ⟨0, 0, Nat.zero_le _, rfl, rfl, by simp⟩
    case round =>
      obtain ⟨k, n, hk, rfl, rfl, hpre⟩ := hrel
      have HP := Lib.hid hpre; clear hpre
      by_cases hlt : k < xs.length
      · have hlt2 : k < ys.length := by have := HL.out; omega
        obtain ⟨b1, o1, c1', hv1, hc1, _⟩ := (H1.out).at k hlt
        obtain ⟨b2, o2, c2', hv2, hc2, _⟩ := (H2.out).at k hlt2
        simp only [Value.slice.injEq, true_and] at hv1 hv2
        obtain ⟨rfl, rfl⟩ := hv1
        obtain ⟨rfl, rfl⟩ := hv2
        go_wp2_with fail
        go_quiet (fail)
        go_wp2_with fail
        · have hne : (xs[k] != ys[k]) = true := by assumption
          go_ret
          refine ⟨?_, _, World.drewN_drewN ..⟩
          have : decide (xs = ys) = false := by
            simp only [decide_eq_false_iff_not]; rintro rfl; simp at hne
          rw [this]; rfl
        · have hne : (xs[k] != ys[k]) = false := by assumption
          go_roundw
          case rel =>
            refine ⟨k + 1, _, by omega, by go_num, rfl, ?_⟩
            intro j hj
            by_cases e : j = k
            · subst e; simp at hne; simp [hlt, hlt2, hne]
            · exact HP.out j (by omega)
          case measure => simp [intOf]; omega
      · go_wp2
        go_ret
        refine ⟨?_, _, rfl⟩
        have : xs = ys := List.ext_getElem? fun j => by
          by_cases hj : j < k
          · exact HP.out j hj
          · have := HL.out; rw [List.getElem?_eq_none (by omega), List.getElem?_eq_none (by omega)]
        simp [this]
  · have hd : decide (xs = ys) = false := by simp; rintro rfl; exact hl rfl
    have hb := (neB (a := (xs.length : Int)) (b := ys.length) (by omega)).2
    go_enter Tryz.func32, Tryz.ntmps32
    go_wp2
    go_ret
    exact ⟨by rw [hd]; rfl, 0, rfl⟩
theorem eqInt64S_same (v1 v2 : Value) (xs : List Int) (w : World) (h1 : IntS w.heap v1 xs) (h2 : IntS w.heap v2 xs) :
    Calls Tryz.prog 32 #[v1, v2] w fun e w' => e = .returned (.bool true) ∧ ∃ n, w' = w.drewN n :=
  (eqInt64S_c v1 v2 xs xs w h1 h2).mono fun _ _ ⟨h, k⟩ => ⟨by rw [h, decide_eq_true rfl], k⟩
/-- The marking of a slice of the call's own. -/
theorem markInt64S_c (v : Value) (xs : List Int) (k : Int) (B : Nat) (w : World) (h : OwnI w B v xs) (hk : 0 ≤ k) (hx : k + xs.length ≤ 4611686018427387904) :
    Calls Tryz.prog 33 #[v, .int .i64 k] w fun e w' => e = .returned (.int .i64 (k + xs.length)) ∧ OwnI w' B v (marks k xs.length) ∧ w.grownBy w' v.ownBlock := by
  obtain ⟨ao, c, rfl, hm⟩ := h.ints.len
  have H := Lib.hid h; clear h
  go_enter Tryz.func33, Tryz.ntmps33
  go_wp2
  go_loopw [1, 5] (fun s i wr => ∃ j : Nat, j ≤ xs.length ∧ i = .int .i64 j ∧ s = .int .i64 (k + j) ∧ OwnI wr B (.slice ao xs.length c) (marked k xs j) ∧ w.grownBy wr (Value.slice ao xs.length c).ownBlock) (fun _ i _ => xs.length - (intOf i).toNat)
  case atStart => exact ⟨0, Nat.zero_le _, rfl, by simp, by rw [marked_zero]; exact H.out, World.grownBy.refl _ _⟩
  case round =>
    obtain ⟨j, hj, rfl, rfl, hown, hg⟩ := hrel
    by_cases hlt : j < xs.length
    · obtain ⟨g, cap, hv, hB, -⟩ := own_store hown j (by rw [marked_length k xs j hj]; exact hlt)
      simp only [Value.slice.injEq] at hv
      obtain ⟨rfl, -, rfl⟩ := hv
      unfold OwnI at hown
      rw [marked_length k xs j hj] at hown
      have hc := own_int_at hown j hlt
      have hf := hown.frozenAt j
      have hx0 := own_int_set hown j (k + j)
      rw [marked_set k xs j hlt] at hx0
      have hg' := grownBy_trans hg (grownBy_setCell wr ⟨g, j, none⟩ (.int .i64 (k + j)))
      have G := Lib.hid (And.intro hx0 hg'); clear hx0 hg' hown hg
      go_wp2_with fail
      go_roundw
      case rel => exact ⟨j + 1, by omega, by go_num, by go_num, by have := G.out.1; unfold OwnI; rwa [marked_length k xs (j + 1) (by omega)], G.out.2⟩
      case measure => simp [intOf]; omega
    · obtain rfl : j = xs.length := by omega
      go_wp2_with fail
      go_ret
      exact ⟨rfl, by rwa [marked_all] at hown, hg⟩
/-- A marked slice is found so. -/
theorem heldInt64S_c (v : Value) (n : Nat) (k : Int) (w : World) (h : IntS w.heap v (marks k n)) (hk : 0 ≤ k) (hx : k + n ≤ 4611686018427387904) :
    Calls Tryz.prog 34 #[v, .int .i64 k] w fun e w' => e = .returned (.int .i64 (k + n)) ∧ w = w' := by
  obtain ⟨ao, c, rfl, hm⟩ := h.len
  rw [marks_length] at hm ⊢
  have H := Lib.hid h; clear h
  go_enter Tryz.func34, Tryz.ntmps34
  go_wp2
  go_loop [1, 5] (fun s i => ∃ j : Nat, j ≤ n ∧ i = .int .i64 j ∧ s = .int .i64 (k + j)) (fun _ i => n - (intOf i).toNat)
  case atStart => exact ⟨0, Nat.zero_le _, rfl, by simp⟩
  case round =>
    obtain ⟨j, hj, rfl, rfl⟩ := hrel
    by_cases hlt : j < n
    · obtain ⟨b, off, cap, hv, hc, _⟩ := (H.out).at j (by rw [marks_length]; exact hlt)
      simp only [Value.slice.injEq, marks_length, true_and] at hv
      obtain ⟨rfl, rfl⟩ := hv
      have e : (marks k n)[j]'(by rw [marks_length]; exact hlt) = k + j := by simp [marks]
      rw [e] at hc
      clear e
      go_wp2_with fail
      go_round
      case rel => exact ⟨j + 1, by omega, by go_num, by go_num⟩
      case measure => simp [intOf]; omega
    · obtain rfl : j = n := by omega
      go_wp2_with fail
      go_ret
      exact ⟨rfl, rfl⟩
end Go.Proofs.YtalbbjhonkcbgaaGreatDoor

/- Spikes: the reference's and the program's tests, codes and counts. -/
import Derived.Test.YtlakdlnfijkaeaaLMono
import Derived.Test.YtlakdlnfijkaeaaFn
import Derived.Test.YtlakdlnfijkaeaaLWt
namespace Go.Proofs.Ytlakdlnfijkaeaa
open Go.RowKit Go.Sort

def spB (n : Int) : Bool := bits BinOp.and IntKind.i64 n (n + 1) == 0
theorem mons_bound (k : Nat) : ∀ d, ∀ r ∈ mons k d, ∀ x ∈ r, 0 ≤ x ∧ x ≤ (d : Int) := by
  induction k with
  | zero => intro d r hr x hx; simp [mons] at hr; subst hr; simp at hx; omega
  | succ k ih =>
    intro d r hr x hx
    simp only [mons, List.mem_flatMap, List.mem_map, List.mem_range] at hr
    obtain ⟨n, hn, r', h', rfl⟩ := hr
    rcases List.mem_cons.1 hx with rfl | hx
    · omega
    · have := ih _ r' h' x hx; omega
def lenM : Nat → Nat → Nat
  | 0, _ => 1
  | k + 1, d => ((List.range (d + 1)).map fun n => lenM k (d - n)).sum
theorem sum_flat (f : Nat → List (List Int)) (l : List Nat) : (l.flatMap f).length = (l.map fun n => (f n).length).sum := by
  induction l with
  | nil => rfl
  | cons a l ih => simp [ih]
theorem mons_lenM (k : Nat) : ∀ d, (mons k d).length = lenM k d := by
  induction k with
  | zero => intro d; rfl
  | succ k ih =>
    intro d
    rw [mons, sum_flat, lenM]
    congr 1
    exact List.map_congr_left fun n _ => by rw [List.length_map, ih]
def cntM (d : Nat) : Nat → Nat
  | 0 => 1
  | i + 1 => cntM d i * (d + (i + 1)) / (i + 1)
theorem cntM_lenM : ∀ k, k < 4 → ∀ d, d < 41 → cntM d k = lenM k d := by decide +kernel
theorem cntM_small : ∀ k, k < 4 → ∀ d, d < 41 → cntM d k ≤ 20000 := by decide +kernel
theorem l09Spike_c (v : Value) (xs : List Int) (w : World) (h : IntS w.heap v xs) (hx : ∀ x ∈ xs, 0 ≤ x ∧ x ≤ 40) :
    Calls Try.prog 71 #[v] w fun e w' => e = .returned (.bool (xs.all spB)) ∧ ∃ n, w' = w.drewN n := by
  obtain ⟨a1, c1, rfl, m1⟩ := h.len
  have H := Lib.hid h; have HX := Lib.hid hx; clear h hx
  go_enter Try.func71, Try.ntmps71
  go_wp2_with fail
  go_loopw [3] (fun i wr => ∃ j n : Nat, j ≤ xs.length ∧ i = .int .i64 j ∧ wr = w.drewN n ∧ (xs.take j).all spB = true) (fun i _ => xs.length - (intOf i).toNat)
  case atStart => exact ⟨0, 0, Nat.zero_le _, rfl, rfl, by simp⟩
  case round =>
    obtain ⟨j, n, hj, rfl, rfl, hall⟩ := hrel
    by_cases hlt : j < xs.length
    · obtain ⟨b1, o1, c1', hv1, hc1, -⟩ := (H.out).at j hlt
      simp only [Value.slice.injEq, true_and] at hv1
      obtain ⟨rfl, rfl⟩ := hv1
      have hb := HX.out _ (List.getElem_mem hlt)
      have hst : (xs.take (j + 1)).all spB = spB xs[j] := by rw [List.take_succ_eq_append_getElem hlt, List.all_append, hall]; simp
      have hno : spB xs[j] = false → xs.all spB = false := fun h => by
        rw [List.all_eq_false]; exact ⟨_, List.getElem_mem hlt, by simp [h]⟩
      have HST := Lib.hid hst; have HNO := Lib.hid hno; clear hst hall hno
      generalize xs[j] = x at *
      obtain ⟨hb1, hb2⟩ := hb
      cases hs : spB x
      · have t : (bits BinOp.and IntKind.i64 x (x + 1) != 0) = true := by unfold spB at hs; simp [bne, hs]
        have HS := Lib.hid hs; clear hs
        go_wp2_with fail
        go_quiet (fail)
        go_wp2_with fail
        go_ret
        exact ⟨by rw [HNO.out HS.out]; rfl, _, by first | rfl | exact World.drewN_drewN ..⟩
      · have t : (bits BinOp.and IntKind.i64 x (x + 1) != 0) = false := by unfold spB at hs; simp [bne, hs]
        have HS := Lib.hid hs; clear hs
        go_wp2_with fail
        go_quiet (fail)
        go_wp2_with fail
        go_roundw
        case rel => exact ⟨j + 1, _, by omega, by go_num, by first | rfl | exact World.drewN_drewN .., by rw [HST.out, HS.out]⟩
        case measure => simp [intOf]; omega
    · obtain rfl : j = xs.length := by omega
      have HA := Lib.hid hall; clear hall
      go_wp2_with fail
      go_ret
      have := HA.out
      rw [List.take_length] at this
      exact ⟨by rw [this]; rfl, _, rfl⟩
theorem l09Count_c (k d : Nat) (w : World) (hk : k < 4) (hd : d < 41) :
    Calls Try.prog 80 #[.int .i64 ((k : Int) + 1), .int .i64 d] w fun e w' => e = .returned (.int .i64 (cntM d k)) ∧ w = w' := by
  go_enter Try.func80, Try.ntmps80
  go_wp2_with fail
  go_loopw [5, 6] (fun v i wr => ∃ j : Nat, j ≤ k ∧ v = .int .i64 (cntM d j) ∧ i = .int .i64 ((j : Int) + 1) ∧ wr = w) (fun _ i _ => k + 1 - (intOf i).toNat)
  case atStart => exact ⟨0, Nat.zero_le _, rfl, rfl, rfl⟩
  case round =>
    obtain ⟨j, hj, rfl, rfl, rfl⟩ := hrel
    by_cases hlt : j < k
    · have hc := cntM_small j (by omega) d hd
      have hc2 := cntM_small (j + 1) (by omega) d hd
      have hst : cntM d (j + 1) = cntM d j * (d + (j + 1)) / (j + 1) := rfl
      have HST := Lib.hid hst; clear hst
      generalize hcc : cntM d j = q at *
      have hmul : (q : Int) * ((d : Int) + (j + 1)) ≤ 20000 * 50 := by
        have : q * (d + (j + 1)) ≤ 20000 * 50 := Nat.mul_le_mul hc (by omega)
        have e : ((q * (d + (j + 1)) : Nat) : Int) = (q : Int) * ((d : Int) + (j + 1)) := by simp
        omega
      have hmul0 : 0 ≤ (q : Int) * ((d : Int) + (j + 1)) := Int.mul_nonneg (by omega) (by omega)
      go_wp2_with fail
      go_roundw
      case rel => exact ⟨j + 1, by omega, by rw [HST.out]; simp, by go_num, trivial⟩
      case measure => simp [intOf]; omega
    · obtain rfl : j = k := by omega
      go_wp2_with fail
      go_ret
      exact ⟨rfl, rfl⟩
def skC (k d : Int) : Int := if 1 ≤ k ∧ k ≤ 4 ∧ 0 ≤ d ∧ d ≤ 40 then if lenM (k - 1).toNat d.toNat ≤ 100 then 0 else 3 else 2
def skL (k d : Int) : List (List Int) := if 1 ≤ k ∧ k ≤ 4 ∧ 0 ≤ d ∧ d ≤ 40 ∧ lenM (k - 1).toNat d.toNat ≤ 100 then (mons (k - 1).toNat d.toNat).filter (fun r => r.all spB) else []
theorem l09Code_c (k d : Int) (w : World) :
    Calls Try.prog 69 #[.int .i64 k, .int .i64 d] w fun e w' => e = .returned (.int .i64 (skC k d)) ∧ w = w' := by
  by_cases hr : 1 ≤ k ∧ k ≤ 4 ∧ 0 ≤ d ∧ d ≤ 40
  · obtain ⟨q, hq⟩ := Int.eq_ofNat_of_zero_le (show 0 ≤ k - 1 by omega)
    obtain ⟨e, he⟩ := Int.eq_ofNat_of_zero_le (show 0 ≤ d by omega)
    obtain rfl : k = (q : Int) + 1 := by omega
    subst he
    have C := l09Count_c q e w (by omega) (by omega)
    rw [cntM_lenM q (by omega) e (by omega)] at C
    have hsk : skC ((q : Int) + 1) e = if lenM q e ≤ 100 then 0 else 3 := by
      rw [skC, if_pos hr]
      rw [show ((q : Int) + 1 - 1).toNat = q by omega, show ((e : Int)).toNat = e by omega]
    rw [hsk]; clear hsk
    have t1 : (decide ((1 : Int) ≤ (q : Int) + 1) && decide ((q : Int) + 1 ≤ 4)) = true := by simp; omega
    have t2 : (decide ((0 : Int) ≤ (e : Int)) && decide ((e : Int) ≤ 40)) = true := by simp; omega
    have HC := Lib.hid C; clear C hq hr
    generalize lenM q e = m at *
    by_cases hm : m ≤ 100
    · have t3 : decide (100 < (m : Int)) = false := by simp; omega
      have t3b : decide (100 < m) = false := by simp; omega
      rw [if_pos hm]; clear hm
      go_enter Try.func69, Try.ntmps69
      go_wp2_with (first | (go_at_call 49; refine (l01In_c _ _ _ _).mono ?_; rintro e w' ⟨rfl, rfl⟩; try simp only [t1, t2]) | (go_at_call 80; refine HC.out.mono ?_; rintro e w' ⟨rfl, rfl⟩))
      go_ret
      exact ⟨rfl, rfl⟩
    · have t3 : decide (100 < (m : Int)) = true := by simp; omega
      have t3b : decide (100 < m) = true := by simp; omega
      rw [if_neg hm]; clear hm
      go_enter Try.func69, Try.ntmps69
      go_wp2_with (first | (go_at_call 49; refine (l01In_c _ _ _ _).mono ?_; rintro e w' ⟨rfl, rfl⟩; try simp only [t1, t2]) | (go_at_call 80; refine HC.out.mono ?_; rintro e w' ⟨rfl, rfl⟩))
      go_ret
      exact ⟨rfl, rfl⟩
  · have e1 : skC k d = 2 := by simp only [skC, if_neg hr]
    rw [e1]; clear e1
    by_cases h1 : 1 ≤ k ∧ k ≤ 4
    · have t1 : (decide ((1 : Int) ≤ k) && decide (k ≤ 4)) = true := by simp; omega
      have t2 : (decide ((0 : Int) ≤ d) && decide (d ≤ 40)) = false := by simp; omega
      clear hr h1
      go_enter Try.func69, Try.ntmps69
      go_wp2_with (first | (go_at_call 49; refine (l01In_c _ _ _ _).mono ?_; rintro e w' ⟨rfl, rfl⟩))
      go_ret
      exact ⟨rfl, rfl⟩
    · have t1 : (decide ((1 : Int) ≤ k) && decide (k ≤ 4)) = false := by simp; omega
      clear hr h1
      go_enter Try.func69, Try.ntmps69
      go_wp2_with (first | (go_at_call 49; refine (l01In_c _ _ _ _).mono ?_; rintro e w' ⟨rfl, rfl⟩))
      go_ret
      exact ⟨rfl, rfl⟩
theorem l08All_c (k d : Nat) (w : World) (hk : k ≤ 3) (hd : d ≤ 40) :
    Calls Try.prog 70 #[.int .i64 ((k : Int) + 1), .int .i64 d] w fun e w' => ∃ v us, e = .returned v ∧ OwnU w' w.heap.size v us (mons k d) ∧ Below w.heap.size w w' := by
  have hl := mons_len k d hd
  have hp1 : 41 ^ k ≤ 41 ^ 3 := Nat.pow_le_pow_right (by omega) hk
  have C := l08Monomials_c k hk d hd w.heap.size w.heap.size (.slice (some ⟨w.heap.size, 0, none⟩) 0 0) (.slice none 0 0) [] [] [] (w.alloc (.cells #[] 2)) (ownI_empty (Nat.le_refl _)) ⟨World.ownsRow_nil _ _ _ _, fun i u xs hu => by simp at hu, fun i j u u' _ hu => by simp at hu⟩ (by simp) (by simp; omega) (by simp; omega)
  have HC := Lib.hid C; clear C hl hp1
  go_enter Try.func70, Try.ntmps70
  go_wp2_with (first | (go_at_call 81; refine HC.out.mono ?_; rintro e w1 ⟨v, us, rfl, hU, -, hb⟩))
  go_ret
  exact ⟨_, us, rfl, hU.cast (by simp), ((Below.refl _ w).alloc (Nat.le_refl _) _).trans hb⟩
end Go.Proofs.Ytlakdlnfijkaeaa

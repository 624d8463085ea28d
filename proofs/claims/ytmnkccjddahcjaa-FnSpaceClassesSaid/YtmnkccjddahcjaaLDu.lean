/- DualClasses and ImmersionGap, of the program and of the reference. -/
import Derived.Test.YtmnkccjddahcjaaL10
namespace Go.Proofs.Ytmnkccjddahcjaa
open Go.RowKit

/-- The sum of the first q products for the class i. -/
def dsum (ws out : List Int) (i : Nat) : Nat → Int
  | 0 => 0
  | q + 1 => (dsum ws out i q + ws.getD (q + 1) 0 * out.getD (i - (q + 1)) 0) % 2
/-- The dual classes 0 to k. -/
def dul (ws : List Int) : Nat → List Int
  | 0 => [1]
  | k + 1 => dul ws k ++ [dsum ws (dul ws k) (k + 1) (k + 1)]
theorem dul_length (ws : List Int) (k : Nat) : (dul ws k).length = k + 1 := by
  induction k with
  | zero => rfl
  | succ k ih => simp [dul, ih]
theorem getD_at (l : List Int) (i : Nat) (h : i < l.length) : l.getD i 0 = l[i] := by simp [h]
def Bit (x : Int) : Prop := x = 0 ∨ x = 1
theorem dsum_bit (ws out : List Int) (i q : Nat) : Bit (dsum ws out i q) := by
  cases q with
  | zero => exact .inl rfl
  | succ q => unfold dsum Bit; omega
theorem dul_bit (ws : List Int) (k : Nat) : ∀ x, x ∈ dul ws k → Bit x := by
  induction k with
  | zero => intro x hx; simp [dul] at hx; exact .inr hx
  | succ k ih =>
    intro x hx
    rw [dul, List.mem_append] at hx
    rcases hx with hx | hx
    · exact ih x hx
    · simp at hx; subst hx; exact dsum_bit _ _ _ _
theorem dul_bitAt (ws : List Int) (k i : Nat) : Bit ((dul ws k).getD i 0) := by
  by_cases h : i < (dul ws k).length
  · rw [getD_at _ _ h]; exact dul_bit ws k _ (List.getElem_mem h)
  · rw [List.getD_eq_getElem?_getD, List.getElem?_eq_none (by omega)]; exact .inl rfl
theorem parI_bit (n k : Int) : Bit (parI n k) := by unfold parI Bit; split <;> simp
theorem bit_bounds {x : Int} (h : Bit x) : 0 ≤ x ∧ x ≤ 1 := by rcases h with h | h <;> omega
theorem xor_and {x w d : Int} (hx : Bit x) (hw : Bit w) (hd : Bit d) : bits BinOp.xor IntKind.i64 x (bits BinOp.and IntKind.i64 w d) = (x + w * d) % 2 := by
  rcases hx with rfl | rfl <;> rcases hw with rfl | rfl <;> rcases hd with rfl | rfl <;> decide +kernel
theorem whit_at (n : Int) (k i : Nat) (h : i < k) : (whit n k).getD i 0 = parI (n + 1) i := by simp [whit, h]

theorem ownI_lit {w : World} {B : Nat} (hB : B ≤ w.heap.size) (x : Int) : OwnI (w.alloc (.cells #[.int .i64 x] 2)) B (.slice (some ⟨w.heap.size, 0, none⟩) 1 1) [x] :=
  World.ownsRow_lit (e := 2) (size := 1) w #[.int .i64 x] 1 hB (by unfold maxLen; omega) rfl

theorem l10Dual_c (n : Nat) (w : World) (hn : n ≤ 1000) :
    Calls Try.prog 114 #[.int .i64 n] w fun e w' => ∃ v, e = .returned v ∧ OwnI w' w.heap.size v (dul (whit n (n + 1)) n) ∧ Below w.heap.size w w' := by
  have hS := fun w => l10Whitney_c n w hn
  obtain ⟨ws, hws⟩ : ∃ ws, ws = whit (n : Int) (n + 1) := ⟨_, rfl⟩
  rw [← hws] at hS ⊢
  have hlw : ws.length = n + 1 := by rw [hws, whit_length]
  have hbw : ∀ i, i < n + 1 → Bit (ws.getD i 0) := fun i hi => by rw [hws, whit_at _ _ _ hi]; exact parI_bit _ _
  have HS := Lib.hid hS; have HLW := Lib.hid hlw; have HBW := Lib.hid hbw; clear hS hws hlw hbw
  go_enter Try.func114, Try.ntmps114
  go_wp2_with (first | (go_at_call 112; refine (HS.out _).mono ?_; rintro e w1 ⟨v, rfl, hown1, hb1⟩))
  have hW0 := hown1.ints
  have HW := Lib.hid hW0; clear hW0
  go_loopw [4, 5] (fun v4 i wr => ∃ k : Nat, k ≤ n ∧ i = .int .i64 ((k : Int) + 1) ∧ OwnI wr w1.heap.size v4 (dul ws k) ∧ Below w1.heap.size w1 wr) (fun _ i _ => n + 1 - (intOf i).toNat)
  case atStart => exact ⟨0, Nat.zero_le _, rfl, ownI_lit (Nat.le_refl _) 1, (Below.refl _ _).alloc (Nat.le_refl _) _⟩
  case round =>
    obtain ⟨k, hk, rfl, hown, hbl⟩ := hrel
    by_cases hlt : k < n
    · have HO := Lib.hid hown; have HB := Lib.hid hbl; clear hown hbl
      go_wp2_with fail
      obtain ⟨wo, rfl⟩ : ∃ wo : World, wo = wr := ⟨_, rfl⟩
      go_loopw [6, 7] (fun x j wr => ∃ q c : Nat, q ≤ k + 1 ∧ j = .int .i64 ((q : Int) + 1) ∧ x = .int .i64 (dsum ws (dul ws k) (k + 1) q) ∧ wr = wo.drewN c) (fun _ j _ => k + 2 - (intOf j).toNat)
      case atStart => exact ⟨0, 0, Nat.zero_le _, rfl, rfl, rfl⟩
      case round =>
        obtain ⟨q, c, hq, rfl, rfl, rfl⟩ := hrel
        by_cases hqk : q < k + 1
        · obtain ⟨b3, o3, c3, rfl, e3, _⟩ := (HW.out.same HB.out.block).at (w := wo) (q + 1) (by have := HLW.out; omega)
          obtain ⟨b4, o4, c4, rfl, e4, _⟩ := (HO.out).ints.at (w := wo) (k - q) (by rw [dul_length]; omega)
          rw [← getD_at] at e3 e4
          have d3 := HBW.out (q + 1) (by omega)
          have d4 := dul_bitAt ws k (k - q)
          have dx := bit_bounds (dsum_bit ws (dul ws k) (k + 1) q)
          have hstep : dsum ws (dul ws k) (k + 1) (q + 1) = (dsum ws (dul ws k) (k + 1) q + ws.getD (q + 1) 0 * (dul ws k).getD (k - q) 0) % 2 := by rw [dsum]; simp
          generalize ws.getD (q + 1) 0 = a at *
          generalize (dul ws k).getD (k - q) 0 = b at *
          generalize dsum ws (dul ws k) (k + 1) q = x at *
          have b3' := bit_bounds d3
          have b4' := bit_bounds d4
          have hm : 0 ≤ a * b ∧ a * b ≤ 1 := by
            rcases d3 with h | h <;> rcases d4 with h' | h' <;> rw [h, h'] <;> omega
          have HST := Lib.hid hstep; clear hstep d3 d4
          have hl4 := dul_length ws k
          have hl3 := HLW.out
          go_wp2_with fail
          go_quiet (fail)
          go_wp2_with fail
          go_roundw
          case rel => exact ⟨q + 1, _, by omega, by go_num, by rw [HST.out], rfl⟩
          case measure => simp [intOf]; omega
        · obtain rfl : q = k + 1 := by omega
          have hs := HB.out.size
          have hl4 := dul_length ws k
          go_wp2_with (first | (at_builtin; refine append_int (w := wo.drewN c) rfl _ _ rfl _ _ _ _ (show OwnI (wo.drewN c) w1.heap.size _ (dul ws k) from HO.out) rfl (below_drewN c HB.out) hs _ rfl (by simp) (by omega) ?_; intro v' w' hown' hbl' _ _))
          go_roundw
          case rel => exact ⟨k + 1, by omega, by go_num, hown', hbl'⟩
          case measure => simp [intOf]; omega
    · obtain rfl : k = n := by omega
      go_wp2_with fail
      go_ret
      exact ⟨_, rfl, own_base hown hb1.size, hb1.trans (hbl.mono hb1.size)⟩
theorem dualClasses_c (n : Nat) (w : World) (hn : n ≤ 1000) :
    Calls Try.prog 113 #[.int .i64 n] w fun e w' => ∃ v, e = .returned v ∧ OwnI w' w.heap.size v (dul (whit n (n + 1)) n) ∧ Below w.heap.size w w' := by
  have hS := fun w => whitney_c n w hn
  obtain ⟨ws, hws⟩ : ∃ ws, ws = whit (n : Int) (n + 1) := ⟨_, rfl⟩
  rw [← hws] at hS ⊢
  have hlw : ws.length = n + 1 := by rw [hws, whit_length]
  have hbw : ∀ i, i < n + 1 → Bit (ws.getD i 0) := fun i hi => by rw [hws, whit_at _ _ _ hi]; exact parI_bit _ _
  have HS := Lib.hid hS; have HLW := Lib.hid hlw; have HBW := Lib.hid hbw; clear hS hws hlw hbw
  go_enter Try.func113, Try.ntmps113
  go_wp2_with (first | (go_at_call 110; refine (HS.out _).mono ?_; rintro e w1 ⟨v, rfl, hown1, hb1⟩))
  have hW0 := hown1.ints
  have HW := Lib.hid hW0; clear hW0
  go_loopw [4, 5] (fun v4 i wr => ∃ k : Nat, k ≤ n ∧ i = .int .i64 ((k : Int) + 1) ∧ OwnI wr w1.heap.size v4 (dul ws k) ∧ Below w1.heap.size w1 wr) (fun _ i _ => n + 1 - (intOf i).toNat)
  case atStart => exact ⟨0, Nat.zero_le _, rfl, ownI_lit (Nat.le_refl _) 1, (Below.refl _ _).alloc (Nat.le_refl _) _⟩
  case round =>
    obtain ⟨k, hk, rfl, hown, hbl⟩ := hrel
    by_cases hlt : k < n
    · have HO := Lib.hid hown; have HB := Lib.hid hbl; clear hown hbl
      go_wp2_with fail
      obtain ⟨wo, rfl⟩ : ∃ wo : World, wo = wr := ⟨_, rfl⟩
      go_loopw [6, 7] (fun x j wr => ∃ q c : Nat, q ≤ k + 1 ∧ j = .int .i64 ((q : Int) + 1) ∧ x = .int .i64 (dsum ws (dul ws k) (k + 1) q) ∧ wr = wo.drewN c) (fun _ j _ => k + 2 - (intOf j).toNat)
      case atStart => exact ⟨0, 0, Nat.zero_le _, rfl, rfl, rfl⟩
      case round =>
        obtain ⟨q, c, hq, rfl, rfl, rfl⟩ := hrel
        by_cases hqk : q < k + 1
        · obtain ⟨b3, o3, c3, rfl, e3, _⟩ := (HW.out.same HB.out.block).at (w := wo) (q + 1) (by have := HLW.out; omega)
          obtain ⟨b4, o4, c4, rfl, e4, _⟩ := (HO.out).ints.at (w := wo) (k - q) (by rw [dul_length]; omega)
          rw [← getD_at] at e3 e4
          have d3 := HBW.out (q + 1) (by omega)
          have d4 := dul_bitAt ws k (k - q)
          have dx0 := dsum_bit ws (dul ws k) (k + 1) q
          have hstep : dsum ws (dul ws k) (k + 1) (q + 1) = (dsum ws (dul ws k) (k + 1) q + ws.getD (q + 1) 0 * (dul ws k).getD (k - q) 0) % 2 := by rw [dsum]; simp
          generalize ws.getD (q + 1) 0 = a at *
          generalize (dul ws k).getD (k - q) 0 = b at *
          generalize dsum ws (dul ws k) (k + 1) q = x at *
          have b3' := bit_bounds d3
          have b4' := bit_bounds d4
          rw [← xor_and dx0 d3 d4] at hstep
          have HST := Lib.hid hstep; clear hstep d3 d4 dx0
          have hl4 := dul_length ws k
          have hl3 := HLW.out
          go_wp2_with fail
          go_quiet (fail)
          go_wp2_with fail
          go_roundw
          case rel => exact ⟨q + 1, _, by omega, by go_num, by rw [HST.out], rfl⟩
          case measure => simp [intOf]; omega
        · obtain rfl : q = k + 1 := by omega
          have hs := HB.out.size
          have hl4 := dul_length ws k
          go_wp2_with (first | (at_builtin; refine append_int (w := wo.drewN c) rfl _ _ rfl _ _ _ _ (show OwnI (wo.drewN c) w1.heap.size _ (dul ws k) from HO.out) rfl (below_drewN c HB.out) hs _ rfl (by simp) (by omega) ?_; intro v' w' hown' hbl' _ _))
          go_roundw
          case rel => exact ⟨k + 1, by omega, by go_num, hown', hbl'⟩
          case measure => simp [intOf]; omega
    · obtain rfl : k = n := by omega
      go_wp2_with fail
      go_ret
      exact ⟨_, rfl, own_base hown hb1.size, hb1.trans (hbl.mono hb1.size)⟩
def duOf (n : Int) : List Int := if 1 ≤ n ∧ n ≤ 1000 then dul (whit n (n.toNat + 1)) n.toNat else []
theorem duOf_length (n : Int) : (duOf n).length ≤ 1001 := by
  unfold duOf; split
  · rw [dul_length]; omega
  · simp
/-- The last place of a 1 among the first k numbers. -/
def lastOne (l : List Int) : Nat → Nat
  | 0 => 0
  | k + 1 => if l.getD k 0 = 1 then k else lastOne l k
theorem lastOne_le (l : List Int) (k : Nat) : lastOne l k ≤ k := by
  induction k with
  | zero => exact Nat.le_refl _
  | succ k ih => unfold lastOne; split <;> omega
def gapOf (n : Int) : Int := if 1 ≤ n ∧ n ≤ 1000 then (lastOne (dul (whit n (n.toNat + 1)) n.toNat) (n.toNat + 1) : Nat) else 0
theorem dul_head (ws : List Int) (k : Nat) : (dul ws k).getD 0 0 = 1 := by
  induction k with
  | zero => rfl
  | succ k ih =>
    rw [dul, List.getD_eq_getElem?_getD, List.getElem?_append_left (by rw [dul_length]; omega), ← List.getD_eq_getElem?_getD]; exact ih
theorem specDualClasses_c (n : Int) (w : World) :
    Calls Try.prog 51 #[.int .i64 n] w fun e w' => ∃ v, e = .returned (.tuple #[v, .int .i64 (spc n)]) ∧ IntS w'.heap v (duOf n) ∧ Below w.heap.size w w' := by
  by_cases hr : 1 ≤ n ∧ n ≤ 1000
  · obtain ⟨m, rfl⟩ := Int.eq_ofNat_of_zero_le (show 0 ≤ n by omega)
    have t1 : (decide (1 ≤ (m : Int)) && decide ((m : Int) ≤ 1000)) = true := by simp; omega
    have es : spc m = 0 := by simp [spc, hr]
    have ew : duOf m = dul (whit m (m + 1)) m := by simp [duOf, hr]
    rw [es, ew]; clear es ew
    obtain ⟨hr1, hr2⟩ := hr
    go_enter Try.func51, Try.ntmps51
    go_wp2_with (first | (go_at_call 111; refine (l10Space_c _ _).mono ?_; rintro e w' ⟨rfl, rfl⟩) | (go_at_call 114; refine (l10Dual_c _ _ (by omega)).mono ?_; rintro e w1 ⟨v, rfl, hown1, hb1⟩))
    go_ret2
    exact ⟨_, rfl, hown1.ints, hb1⟩
  · have t1 : (decide (1 ≤ n) && decide (n ≤ 1000)) = false := by simp; omega
    have es : spc n = 2 := by simp [spc, hr]
    have ew : duOf n = [] := by simp [duOf, hr]
    rw [es, ew]; clear es ew hr
    go_enter Try.func51, Try.ntmps51
    go_wp2_with (first | (go_at_call 111; refine (l10Space_c _ _).mono ?_; rintro e w' ⟨rfl, rfl⟩))
    go_ret2
    exact ⟨_, rfl, IntS.nil _, Below.refl _ _⟩
theorem implDualClasses_c (n : Int) (w : World) :
    Calls Try.prog 50 #[.int .i64 n] w fun e w' => ∃ v, e = .returned (.tuple #[v, .int .i64 (spc n)]) ∧ OwnI w' w.heap.size v (duOf n) ∧ Below w.heap.size w w' := by
  by_cases hr : 1 ≤ n ∧ n ≤ 1000
  · obtain ⟨m, rfl⟩ := Int.eq_ofNat_of_zero_le (show 0 ≤ n by omega)
    have t1 : (decide (1 ≤ (m : Int)) && decide ((m : Int) ≤ 1000)) = true := by simp; omega
    have es : spc m = 0 := by simp [spc, hr]
    have ew : duOf m = dul (whit m (m + 1)) m := by simp [duOf, hr]
    rw [es, ew]; clear es ew
    obtain ⟨hr1, hr2⟩ := hr
    go_enter Try.func50, Try.ntmps50
    go_wp2_with (first | (go_at_call 109; refine (isSpace_c _ _).mono ?_; rintro e w' ⟨rfl, rfl⟩) | (go_at_call 113; refine (dualClasses_c _ _ (by omega)).mono ?_; rintro e w1 ⟨v, rfl, hown1, hb1⟩))
    go_ret2
    exact ⟨_, rfl, hown1, hb1⟩
  · have t1 : (decide (1 ≤ n) && decide (n ≤ 1000)) = false := by simp; omega
    have es : spc n = 2 := by simp [spc, hr]
    have ew : duOf n = [] := by simp [duOf, hr]
    rw [es, ew]; clear es ew hr
    go_enter Try.func50, Try.ntmps50
    go_wp2_with (first | (go_at_call 109; refine (isSpace_c _ _).mono ?_; rintro e w' ⟨rfl, rfl⟩))
    go_ret2
    exact ⟨_, rfl, OwnI.nil _ _, Below.refl _ _⟩
theorem specImmersionGap_c (n : Int) (w : World) :
    Calls Try.prog 55 #[.int .i64 n] w fun e w' => e = .returned (.tuple #[.int .i64 (gapOf n), .int .i64 (spc n)]) ∧ Below w.heap.size w w' := by
  by_cases hr : 1 ≤ n ∧ n ≤ 1000
  · obtain ⟨m, rfl⟩ := Int.eq_ofNat_of_zero_le (show 0 ≤ n by omega)
    have t1 : (decide (1 ≤ (m : Int)) && decide ((m : Int) ≤ 1000)) = true := by simp; omega
    have es : spc m = 0 := by simp [spc, hr]
    have ew : gapOf m = (lastOne (dul (whit m (m + 1)) m) (m + 1) : Nat) := by simp [gapOf, hr]
    rw [es, ew]; clear es ew
    obtain ⟨hr1, hr2⟩ := hr
    have hS := fun w => l10Dual_c m w (by omega)
    obtain ⟨ds, hds⟩ : ∃ ds, ds = dul (whit m (m + 1)) m := ⟨_, rfl⟩
    rw [← hds] at hS ⊢
    have hl : ds.length = m + 1 := by rw [hds, dul_length]
    have HS := Lib.hid hS; have HL := Lib.hid hl; clear hS hl hds
    go_enter Try.func55, Try.ntmps55
    go_wp2_with (first | (go_at_call 111; refine (l10Space_c _ _).mono ?_; rintro e w' ⟨rfl, rfl⟩) | (go_at_call 114; refine (HS.out _).mono ?_; rintro e w1 ⟨v, rfl, hown1, hb1⟩))
    have HO := Lib.hid hown1.ints; clear hown1
    go_loop [5, 6] (fun g i => ∃ k : Nat, k ≤ m + 1 ∧ i = .int .i64 k ∧ g = .int .i64 (lastOne ds k : Nat)) (fun _ i => m + 1 - (intOf i).toNat)
    case atStart => exact ⟨0, Nat.zero_le _, rfl, rfl⟩
    case round =>
      obtain ⟨k, hk, rfl, rfl⟩ := hrel
      by_cases hlt : k < m + 1
      · obtain ⟨b3, o3, c3, rfl, e3, _⟩ := HO.out.at (w := w1) k (by have := HL.out; omega)
        rw [← getD_at] at e3
        have hl := HL.out
        by_cases h1 : ds.getD k 0 = 1
        · have hst : lastOne ds (k + 1) = k := by rw [lastOne, if_pos h1]
          have HST := Lib.hid hst; clear hst
          rw [h1] at e3
          clear h1
          go_wp2_with fail
          go_round
          case rel => exact ⟨k + 1, by omega, by go_num, by rw [HST.out]⟩
          case measure => simp [intOf]; omega
        · have hst : lastOne ds (k + 1) = lastOne ds k := by rw [lastOne, if_neg h1]
          have HST := Lib.hid hst; clear hst
          have hb := (neB h1).1
          generalize ds.getD k 0 = x at *
          clear h1
          go_wp2_with fail
          go_round
          case rel => exact ⟨k + 1, by omega, by go_num, by rw [HST.out]⟩
          case measure => simp [intOf]; omega
      · obtain rfl : k = m + 1 := by omega
        go_wp2_with fail
        go_ret2
        exact ⟨rfl, hb1⟩
  · have t1 : (decide (1 ≤ n) && decide (n ≤ 1000)) = false := by simp; omega
    have es : spc n = 2 := by simp [spc, hr]
    have ew : gapOf n = 0 := by simp [gapOf, hr]
    rw [es, ew]; clear es ew hr
    go_enter Try.func55, Try.ntmps55
    go_wp2_with (first | (go_at_call 111; refine (l10Space_c _ _).mono ?_; rintro e w' ⟨rfl, rfl⟩))
    go_ret2
    exact ⟨rfl, Below.refl _ _⟩
theorem implImmersionGap_c (n : Int) (w : World) :
    Calls Try.prog 54 #[.int .i64 n] w fun e w' => e = .returned (.tuple #[.int .i64 (gapOf n), .int .i64 (spc n)]) ∧ Below w.heap.size w w' := by
  by_cases hr : 1 ≤ n ∧ n ≤ 1000
  · obtain ⟨m, rfl⟩ := Int.eq_ofNat_of_zero_le (show 0 ≤ n by omega)
    have t1 : (decide (1 ≤ (m : Int)) && decide ((m : Int) ≤ 1000)) = true := by simp; omega
    have es : spc m = 0 := by simp [spc, hr]
    have ew : gapOf m = (lastOne (dul (whit m (m + 1)) m) (m + 1) : Nat) := by simp [gapOf, hr]
    rw [es, ew]; clear es ew
    obtain ⟨hr1, hr2⟩ := hr
    have hS := fun w => dualClasses_c m w (by omega)
    obtain ⟨ds, hds⟩ : ∃ ds, ds = dul (whit m (m + 1)) m := ⟨_, rfl⟩
    rw [← hds] at hS ⊢
    have hl : ds.length = m + 1 := by rw [hds, dul_length]
    have h0 : ds.getD 0 0 = 1 := by rw [hds, dul_head]
    have hbit : ∀ k, Bit (ds.getD k 0) := fun k => by rw [hds]; exact dul_bitAt _ _ _
    have HS := Lib.hid hS; have HL := Lib.hid hl; have H0 := Lib.hid h0; have HB := Lib.hid hbit; clear hS hl hds h0 hbit
    go_enter Try.func54, Try.ntmps54
    go_wp2_with (first | (go_at_call 109; refine (isSpace_c _ _).mono ?_; rintro e w' ⟨rfl, rfl⟩) | (go_at_call 113; refine (HS.out _).mono ?_; rintro e w1 ⟨v, rfl, hown1, hb1⟩))
    have HO := Lib.hid hown1.ints; clear hown1
    go_loop [5] (fun i => ∃ k : Nat, k ≤ m ∧ i = .int .i64 k ∧ Hid (lastOne ds (m + 1) = lastOne ds (k + 1))) (fun i => (intOf i).toNat)
    case atStart => exact ⟨m, Nat.le_refl _, rfl, rfl⟩
    case round =>
      obtain ⟨k, hk, rfl, hst⟩ := hrel
      obtain ⟨b3, o3, c3, rfl, e3, _⟩ := HO.out.at (w := w1) k (by have := HL.out; omega)
      rw [← getD_at] at e3
      have hl := HL.out
      rcases HB.out k with h1 | h1
      · have hk0 : 1 ≤ k := by
          rcases Nat.eq_zero_or_pos k with e | e
          · subst e; have := H0.out; omega
          · exact e
        have hs2 : lastOne ds (m + 1) = lastOne ds (k - 1 + 1) := by
          rw [hst.out, lastOne, if_neg (by omega), Nat.sub_add_cancel hk0]
        have HS2 := Lib.hid hs2
        rw [h1] at e3
        clear h1 hs2
        go_wp2_with fail
        go_round
        case rel => exact ⟨k - 1, by omega, by go_num, HS2⟩
        case measure => simp [intOf]; omega
      · have hs2 : lastOne ds (m + 1) = k := by
          rw [hst.out, lastOne, if_pos h1]
        have HS2 := Lib.hid hs2
        rw [h1] at e3
        clear h1 hs2
        go_wp2_with fail
        go_ret2
        rw [HS2.out]
        exact ⟨rfl, hb1⟩
  · have t1 : (decide (1 ≤ n) && decide (n ≤ 1000)) = false := by simp; omega
    have es : spc n = 2 := by simp [spc, hr]
    have ew : gapOf n = 0 := by simp [gapOf, hr]
    rw [es, ew]; clear es ew hr
    go_enter Try.func54, Try.ntmps54
    go_wp2_with (first | (go_at_call 109; refine (isSpace_c _ _).mono ?_; rintro e w' ⟨rfl, rfl⟩))
    go_ret2
    exact ⟨rfl, Below.refl _ _⟩
end Go.Proofs.Ytmnkccjddahcjaa

/- oddOnes, sumOf and their like, of the program. -/
import Derived.Test.YtalbbjhonkcbgaaGreatBase4
import Derived.Test.YtalbbjhonkcbgaaGreatLRef
import Derived.Test.YtalbbjhonkcbgaaGreatLCmp
import Derived.Test.YtalbbjhonkcbgaaGreatFn
namespace Go.Proofs.YtalbbjhonkcbgaaGreat
open Go.RowKit Go.Sort

theorem copyOfSS_c (v : Value) (xss : List (List Int)) (w : World) (h : IntSS w.heap v xss) (hl : xss.length ≤ 4398046511104) :
    Calls Tryz.prog 78 #[v] w fun e w' => ∃ r us, e = .returned r ∧ RefR w' w.heap.size w.heap r us xss ∧ Below w.heap.size w w' := by
  have H := Lib.hid (h.at2 (alloc_old w (.cells #[] 22)))
  clear h
  have hsz : w.heap.size ≤ (w.alloc (.cells #[] 22)).heap.size := by simp
  go_enter Tryz.func78, Tryz.ntmps78
  go_wp2_with (first | (at_builtin; refine append_refs rfl _ _ rfl w.heap.size w.heap _ _ [] [] xss (ref_empty _ (Nat.le_refl _)) rfl H.out rfl ((Below.refl _ _).alloc (Nat.le_refl _) _) hsz (by simpa using hl) ?_; intro v' us' w' hown' hbl' _ _; obtain ⟨q1, q2, q3, rfl⟩ := own_shape hown'.row))
  go_ret
  exact ⟨_, _, rfl, hown', hbl'⟩
theorem take_eq_of (xs ys : List Int) (k : Nat) (hl : xs.length = ys.length) (h : ∀ i, i < k → xs.getD i 0 = ys.getD i 0) (hk : k = xs.length) : xs = ys := by
  subst hk
  apply List.ext_getElem hl
  intro i h1 h2
  have := h i h1
  simpa [h1, h2] using this
set_option maxHeartbeats 400000 in
theorem equalI_c (v1 v2 : Value) (xs ys : List Int) (w : World) (h1 : IntS w.heap v1 xs) (h2 : IntS w.heap v2 ys) :
    Calls Tryz.prog 80 #[v1, v2] w fun e w' => e = .returned (.bool (decide (xs = ys))) ∧ ∃ n, w' = w.drewN n := by
  obtain ⟨a1, c1, rfl, m1⟩ := h1.len
  obtain ⟨a2, c2, rfl, m2⟩ := h2.len
  have H1 := Lib.hid h1; clear h1
  have H2 := Lib.hid h2; clear h2
  by_cases hl : xs.length = ys.length
  · have hb := (eqB (a := (xs.length : Int)) (b := ys.length) (by omega)).2
    have hb1 := (eqB (a := (xs.length : Int)) (b := ys.length) (by omega)).1
    have HL := Lib.hid hl
    clear hl
    go_enter Tryz.func80, Tryz.ntmps80
    go_wp2
    clear hb hb1
    go_loopw [13] (fun i wr => ∃ k n : Nat, k ≤ xs.length ∧ i = .int .i64 k ∧ wr = w.drewN n ∧ ∀ i, i < k → xs.getD i 0 = ys.getD i 0) (fun i _ => xs.length - (intOf i).toNat)
    case atStart => exact ⟨0, 0, Nat.zero_le _, rfl, rfl, fun i hi => by omega⟩
    case round =>
      obtain ⟨k, n, hk, rfl, rfl, hpre⟩ := hrel
      have HP := Lib.hid hpre; clear hpre
      by_cases hlt : k < xs.length
      · have hlt2 : k < ys.length := by have := HL.out; omega
        obtain ⟨b1, o1, d1, hv1, hc1, -⟩ := H1.out.at k hlt
        obtain ⟨b2, o2, d2, hv2, hc2, -⟩ := H2.out.at k hlt2
        simp only [Value.slice.injEq, true_and] at hv1 hv2
        obtain ⟨rfl, rfl⟩ := hv1
        obtain ⟨rfl, rfl⟩ := hv2
        have hi1 : (k : Int) < xs.length := by omega
        have hi2 : (k : Int) < ys.length := by omega
        by_cases he : xs[k] = ys[k]
        · have HS : Hid (∀ i, i < k + 1 → xs.getD i 0 = ys.getD i 0) := fun i hi => by
            by_cases e : i = k
            · subst e; simpa [hlt, hlt2] using he
            · exact HP.out i (by omega)
          have t1 := (eqB he).2
          generalize xs[k] = x at *
          generalize ys[k] = y at *
          clear he
          go_wp2_with fail
          go_quiet (fail)
          go_wp2_with fail
          go_roundw
          case rel => exact ⟨k + 1, _, by omega, by go_num, by first | rfl | (simp only [World.drewN_drewN]; rfl), HS.out⟩
          case measure => simp [intOf]; omega
        · have hd : Hid (decide (xs = ys) = false) := by
            show _ = _
            simp only [decide_eq_false_iff_not]
            rintro rfl; exact he rfl
          have t1 := (neB he).2
          generalize xs[k] = x at *
          generalize ys[k] = y at *
          clear he
          go_wp2_with fail
          go_quiet (fail)
          go_wp2_with fail
          go_ret
          exact ⟨by rw [hd.out]; rfl, _, by first | rfl | (simp only [World.drewN_drewN]; rfl)⟩
      · have hd : Hid (decide (xs = ys) = true) := by
          show _ = _
          simp only [decide_eq_true_eq]
          exact take_eq_of xs ys k HL.out HP.out (by omega)
        obtain rfl : k = xs.length := by omega
        go_wp2_with fail
        go_ret
        exact ⟨by rw [hd.out]; rfl, n, rfl⟩
  · have hd : decide (xs = ys) = false := by simp; rintro rfl; exact hl rfl
    have hb := (neB (a := (xs.length : Int)) (b := ys.length) (by omega)).2
    have hb1 := (neB (a := (xs.length : Int)) (b := ys.length) (by omega)).1
    go_enter Tryz.func80, Tryz.ntmps80
    go_wp2
    go_ret
    exact ⟨by rw [hd]; rfl, 0, rfl⟩
/-- One run of equals more. -/
theorem odd_run (ys : List (List Int)) (x k : Nat) (hxk : x < k) (hk : k ≤ ys.length) (hr : ∀ t, x ≤ t → t < k → ys.getD t [] = ys.getD x []) (hlt : ∀ t, t < x → ltL (ys.getD t []) (ys.getD x []) = true) :
    oddL (ys.take k) = oddL (ys.take x) ++ if (k - x) % 2 = 1 then [ys.getD x []] else [] := by
  have ht : ys.take k = ys.take x ++ List.replicate (k - x) (ys.getD x []) := by
    apply List.ext_getElem
    · simp; omega
    · intro i h1 h2
      simp only [List.length_take] at h1
      rw [List.getElem_take]
      by_cases hi : i < x
      · rw [List.getElem_append_left (by simp; omega), List.getElem_take]
      · rw [List.getElem_append_right (by simp; omega), List.getElem_replicate, ← hr i (by omega) (by omega)]
        simp [show i < ys.length by omega]
  have hmem : ∀ z ∈ oddL (ys.take x), ltL z (ys.getD x []) = true := fun z hz => by
    rw [mem_oddL] at hz
    have hz2 : z ∈ ys.take x := List.count_pos_iff.1 (by omega)
    obtain ⟨t, ht, rfl⟩ := List.getElem_of_mem hz2
    simp only [List.length_take] at ht
    rw [List.getElem_take]
    have := hlt t (by omega)
    simpa [show t < ys.length by omega] using this
  refine Asc.ext (asc_oddL _) ?_ fun z => ?_
  · split
    · refine List.pairwise_append.2 ⟨asc_oddL _, List.pairwise_singleton .., fun a ha b hb => ?_⟩
      rw [List.mem_singleton] at hb
      rw [hb]; exact hmem a ha
    · rw [List.append_nil]; exact asc_oddL _
  · rw [mem_oddL, ht, List.count_append, List.count_replicate]
    by_cases e : ys.getD x [] = z
    · have hc : (ys.take x).count z = 0 := List.count_eq_zero.2 fun hz => by
        obtain ⟨t, ht, e2⟩ := List.getElem_of_mem hz
        simp only [List.length_take] at ht
        rw [List.getElem_take] at e2
        have := hlt t (by omega)
        rw [show ys.getD t [] = ys[t]'(by omega) by simp [show t < ys.length by omega], e2, e, ltL_irrefl] at this
        cases this
      have hn : z ∉ oddL (ys.take x) := fun hz => by rw [mem_oddL, hc] at hz; omega
      rw [hc, if_pos (by simpa using e), Nat.zero_add]
      rw [List.getD_eq_getElem?_getD] at e
      by_cases ho : (k - x) % 2 = 1
      · simp [ho, e]
      · simp [ho, hn]
    · rw [if_neg (by simpa using e), Nat.add_zero, List.mem_append, mem_oddL]
      by_cases ho : (k - x) % 2 = 1
      · rw [if_pos ho, List.mem_singleton]; exact ⟨fun h => .inl h, fun h => h.elim id fun h => absurd h.symm e⟩
      · rw [if_neg ho]; simp
theorem joined_c (v u : Value) (xss yss : List (List Int)) (w : World) (h : IntSS w.heap v xss) (hu : IntSS w.heap u yss) (hl : xss.length + yss.length ≤ 4398046511104) :
    Calls Tryz.prog 76 #[v, u] w fun e w' => ∃ r us, e = .returned r ∧ RefR w' w.heap.size w.heap r us (xss ++ yss) ∧ Below w.heap.size w w' := by
  have C := Lib.hid (copyOfSS_c v xss w h (by omega))
  have HU := Lib.hid hu
  obtain ⟨ao, c, rfl, -⟩ := h.len
  obtain ⟨bo, d, rfl, -⟩ := hu.len
  clear h hu
  go_enter Tryz.func76, Tryz.ntmps76
  go_wp2_with (first | (go_at_call 78; refine C.out.mono ?_; rintro e w1 ⟨r, us, rfl, hR, hb1⟩; obtain ⟨ra, rn, rc, rfl⟩ := own_shape hR.row) | (at_builtin; refine append_refs rfl _ _ rfl w.heap.size w.heap _ _ us xss yss hR rfl (HU.out.at2 hb1.block) rfl hb1 hb1.size hl ?_; intro v' us' w' hown' hbl' _ _; obtain ⟨q1, q2, q3, rfl⟩ := own_shape hown'.row))
  go_ret
  exact ⟨_, _, rfl, hown', hbl'⟩
end Go.Proofs.YtalbbjhonkcbgaaGreat

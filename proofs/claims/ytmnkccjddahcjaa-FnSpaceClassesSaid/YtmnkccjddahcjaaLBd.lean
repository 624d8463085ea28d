/- IsBoundary, of the program and of the reference. -/
import Derived.Test.YtmnkccjddahcjaaL10
namespace Go.Proofs.Ytmnkccjddahcjaa
open Go.RowKit

/-- t is a sum of numbers from 1 to m of which c holds. -/
def Reach (c : Nat → Bool) (m t : Nat) : Prop := ∃ l : List Nat, (∀ x, x ∈ l → 1 ≤ x ∧ x ≤ m ∧ c x = true) ∧ l.sum = t

theorem Reach.zero (c : Nat → Bool) (m : Nat) : Reach c m 0 := ⟨[], by simp, rfl⟩
theorem Reach.add {c : Nat → Bool} {m t x : Nat} (h : Reach c m t) (h1 : 1 ≤ x) (h2 : x ≤ m) (h3 : c x = true) : Reach c m (t + x) := by
  obtain ⟨l, hl, rfl⟩ := h
  refine ⟨x :: l, ?_, by simp; omega⟩
  intro y hy
  rcases List.mem_cons.1 hy with rfl | hy
  · exact ⟨h1, h2, h3⟩
  · exact hl y hy
theorem Reach.part {c : Nat → Bool} {m t : Nat} (h : Reach c m t) (h0 : 1 ≤ t) : ∃ x, 1 ≤ x ∧ x ≤ m ∧ x ≤ t ∧ c x = true ∧ Reach c m (t - x) := by
  obtain ⟨l, hl, rfl⟩ := h
  cases l with
  | nil => simp at h0
  | cons x l =>
    obtain ⟨a, b, d⟩ := hl x (by simp)
    exact ⟨x, a, b, by simp, d, l, fun y hy => hl y (by simp [hy]), by simp⟩
theorem Reach.mono {c : Nat → Bool} {m m' t : Nat} (h : Reach c m t) (k : m ≤ m') : Reach c m' t := by
  obtain ⟨l, hl, rfl⟩ := h
  exact ⟨l, fun y hy => ⟨(hl y hy).1, Nat.le_trans (hl y hy).2.1 k, (hl y hy).2.2⟩, rfl⟩
/-- With one number more: it is taken or it is not. -/
theorem Reach.succ {c : Nat → Bool} {m t : Nat} : Reach c (m + 1) t ↔ Reach c m t ∨ (m + 1 ≤ t ∧ c (m + 1) = true ∧ Reach c (m + 1) (t - (m + 1))) := by
  constructor
  · rintro ⟨l, hl, rfl⟩
    by_cases hm : (m + 1) ∈ l
    · right
      obtain ⟨l1, l2, rfl⟩ := List.append_of_mem hm
      refine ⟨by simp; omega, (hl _ (by simp)).2.2, l1 ++ l2, fun y hy => hl y ?_, by simp; omega⟩
      simp at hy ⊢; rcases hy with h | h <;> simp [h]
    · left
      refine ⟨l, fun y hy => ?_, rfl⟩
      obtain ⟨a, b, d⟩ := hl y hy
      exact ⟨a, by have : y ≠ m + 1 := (fun e => hm (e ▸ hy)); omega, d⟩
  · rintro (h | ⟨h1, h2, h3⟩)
    · exact h.mono (by omega)
    · have := h3.add (x := m + 1) (by omega) (Nat.le_refl _) h2
      rwa [Nat.sub_add_cancel h1] at this

/-- The reference's table: right below k, false from k on. -/
def T0 (c : Nat → Bool) (m : Nat) (bs : List Bool) (k : Nat) : Prop := (∀ t, t < k → (bs.getD t false = true ↔ Reach c m t)) ∧ ∀ t, k ≤ t → bs.getD t false = false
def T1 (c : Nat → Bool) (m : Nat) (bs : List Bool) (k q : Nat) : Prop :=
  (∀ t, t < k → (bs.getD t false = true ↔ Reach c m t)) ∧ (bs.getD k false = true ↔ ∃ j, 1 ≤ j ∧ j < q ∧ c j = true ∧ Reach c m (k - j)) ∧ ∀ t, k < t → bs.getD t false = false

theorem getD_set_bool (bs : List Bool) (k t : Nat) (b : Bool) : (bs.set k b).getD t false = if k = t ∧ k < bs.length then b else bs.getD t false := by
  simp only [List.getD_eq_getElem?_getD, List.getElem?_set]
  by_cases h : k = t
  · subst h; by_cases h2 : k < bs.length
    · simp [h2]
    · simp [h2]
  · simp [h]

theorem T0.start (c : Nat → Bool) (m n : Nat) (h : 0 < n) : T0 c m ((List.replicate n false).set 0 true) 1 := by
  refine ⟨fun t ht => ?_, fun t ht => ?_⟩
  · obtain rfl : t = 0 := by omega
    rw [getD_set_bool]; simp [h, Reach.zero]
  · rw [getD_set_bool, if_neg (by omega)]
    simp only [List.getD_eq_getElem?_getD, List.getElem?_replicate]; split <;> rfl
theorem T0.in {c : Nat → Bool} {m : Nat} {bs : List Bool} {k : Nat} (h : T0 c m bs k) : T1 c m bs k 1 :=
  ⟨h.1, ⟨fun e => absurd e (by rw [h.2 k (Nat.le_refl _)]; simp), fun ⟨j, a, b, _⟩ => by omega⟩, fun t ht => h.2 t (by omega)⟩
theorem T1.step {c : Nat → Bool} {m : Nat} {bs : List Bool} {k q : Nat} (h : T1 c m bs k q) (hk : k < bs.length) (h1 : 1 ≤ q) (h2 : q ≤ k) : T1 c m (bs.set k (bs.getD k false || (c q && bs.getD (k - q) false))) k (q + 1) := by
  refine ⟨fun t ht => ?_, ?_, fun t ht => ?_⟩
  · rw [getD_set_bool, if_neg (by omega)]; exact h.1 t ht
  · rw [getD_set_bool, if_pos ⟨rfl, hk⟩]
    simp only [Bool.or_eq_true, Bool.and_eq_true]
    rw [h.2.1, h.1 (k - q) (by omega)]
    constructor
    · rintro (⟨j, a, b, d⟩ | d)
      · exact ⟨j, a, by omega, d⟩
      · exact ⟨q, h1, by omega, d⟩
    · rintro ⟨j, a, b, d⟩
      by_cases e : j = q
      · subst e; exact .inr d
      · exact .inl ⟨j, a, by omega, d⟩
  · rw [getD_set_bool, if_neg (by omega)]; exact h.2.2 t ht
theorem T1.out {c : Nat → Bool} {m : Nat} {bs : List Bool} {k : Nat} (h : T1 c m bs k (k + 1)) (h1 : 1 ≤ k) (h2 : k ≤ m) : T0 c m bs (k + 1) := by
  refine ⟨fun t ht => ?_, fun t ht => h.2.2 t (by omega)⟩
  by_cases e : t = k
  · subst e
    rw [h.2.1]
    constructor
    · rintro ⟨j, a, b, d, r⟩
      have := r.add a (by omega) d
      rwa [Nat.sub_add_cancel (by omega)] at this
    · intro r
      obtain ⟨x, a, b, d, e, f⟩ := r.part h1
      exact ⟨x, a, by omega, e, f⟩
  · exact h.1 t (by omega)

/-- The program's table. -/
def R0 (c : Nat → Bool) (m : Nat) (bs : List Bool) (i : Nat) : Prop := ∀ t, t ≤ m → (bs.getD t false = true ↔ Reach c (i - 1) t)
def R1 (c : Nat → Bool) (m : Nat) (bs : List Bool) (i q : Nat) : Prop := (∀ t, t < q → t ≤ m → (bs.getD t false = true ↔ Reach c i t)) ∧ ∀ t, q ≤ t → t ≤ m → (bs.getD t false = true ↔ Reach c (i - 1) t)
theorem R0.start (c : Nat → Bool) (m n : Nat) (h : 0 < n) : R0 c m ((List.replicate n false).set 0 true) 1 := by
  intro t _
  rw [getD_set_bool]
  by_cases e : t = 0
  · subst e; simp [h, Reach.zero]
  · rw [if_neg (by omega)]
    simp only [List.getD_eq_getElem?_getD, List.getElem?_replicate]
    constructor
    · intro x; split at x <;> cases x
    · rintro ⟨l, hl, rfl⟩
      cases l with
      | nil => simp at e
      | cons x l => have := hl x (by simp); omega
theorem R0.in {c : Nat → Bool} {m : Nat} {bs : List Bool} {i : Nat} (h : R0 c m bs i) (h1 : 1 ≤ i) : R1 c m bs i i := by
  refine ⟨fun t ht hm => ?_, fun t _ hm => h t hm⟩
  rw [h t hm]
  obtain ⟨j, rfl⟩ : ∃ j, i = j + 1 := ⟨i - 1, by omega⟩
  rw [Reach.succ]
  simp only [Nat.add_sub_cancel]
  exact ⟨.inl, fun x => x.resolve_right (by omega)⟩
theorem R1.step {c : Nat → Bool} {m : Nat} {bs : List Bool} {i q : Nat} (h : R1 c m bs i q) (hm : m < bs.length) (h0 : 1 ≤ i) (h1 : i ≤ q) (h2 : q ≤ m) : R1 c m (bs.set q (bs.getD q false || (c i && bs.getD (q - i) false))) i (q + 1) := by
  refine ⟨fun t ht hm => ?_, fun t ht hm => ?_⟩
  · rw [getD_set_bool]
    by_cases e : t = q
    · subst e
      rw [if_pos ⟨rfl, by omega⟩]
      obtain ⟨j, rfl⟩ : ∃ j, i = j + 1 := ⟨i - 1, by omega⟩
      rw [Reach.succ]
      simp only [Bool.or_eq_true, Bool.and_eq_true]
      rw [h.2 t (Nat.le_refl _) hm, h.1 (t - (j + 1)) (by omega) (by omega)]
      simp only [Nat.add_sub_cancel]
      constructor
      · rintro (a | ⟨a, b⟩)
        · exact .inl a
        · exact .inr ⟨h1, a, b⟩
      · rintro (a | ⟨_, a, b⟩)
        · exact .inl a
        · exact .inr ⟨a, b⟩
    · rw [if_neg (by omega)]; exact h.1 t (by omega) hm
  · rw [getD_set_bool, if_neg (by omega)]; exact h.2 t (by omega) hm
theorem R1.out {c : Nat → Bool} {m : Nat} {bs : List Bool} {i : Nat} (h : R1 c m bs i (m + 1)) : R0 c m bs (i + 1) := fun t hm => by
  rw [h.1 t (by omega) hm, Nat.add_sub_cancel]

open Classical in
noncomputable def bdry (n : Nat) : Bool := decide (Reach (fun k => par ((n : Int) + 1) (k : Nat)) n n)
theorem bdry_of {n : Nat} {b : Bool} (h : b = true ↔ Reach (fun k => par ((n : Int) + 1) (k : Nat)) n n) : b = bdry n := by
  unfold bdry
  rw [Bool.eq_iff_iff, h]; simp

theorem specIsBoundary_no (n : Int) (w : World) (hr : ¬ (1 ≤ n ∧ n ≤ 40)) :
    Calls Try.prog 61 #[.int .i64 n] w fun e w' => e = .returned (.tuple #[.bool false, .int .i64 2]) ∧ w = w' := by
  have t1 : (decide (1 ≤ n) && decide (n ≤ 40)) = false := by simp; omega
  go_enter Try.func61, Try.ntmps61
  go_wp2_with (first | (go_at_call 82; refine (l01In_c _ _ _ _).mono ?_; rintro e w' ⟨rfl, rfl⟩))
  all_goals (go_ret2; exact ⟨rfl, rfl⟩)
theorem specIsBoundary_c (m : Nat) (w : World) (h1 : 1 ≤ m) (h2 : m ≤ 40) :
    Calls Try.prog 61 #[.int .i64 m] w fun e w' => e = .returned (.tuple #[.bool (!bdry m), .int .i64 0]) ∧ Below w.heap.size w w' := by
  have t1 : decide ((1 : Int) ≤ m) = true := by simp; omega
  have t2 : decide ((m : Int) ≤ 40) = true := by simp; omega
  have hmk := fun w => make_run (P := Try.prog) 97 4 _ 1 info_bool Try.underlying97 rfl (by omega) (m + 1) (by omega) .i64 .i64 _ _ (wrapN ((m : Int) + 1) (m + 1) (by omega) (by omega)) (wrapN ((m : Int) + 1) (m + 1) (by omega) (by omega)) w
  go_enter Try.func61, Try.ntmps61
  go_upto_region 3 with (first | (go_at_call 82; refine (l01In_c _ _ _ _).mono ?_; rintro e w' ⟨rfl, rfl⟩))
  go_cut [4, 5] (fun v4 v5 wr => OwnI wr w.heap.size v4 (whit m (m + 1)) ∧ wr.ownsRow w.heap.size 4 1 v5 (m + 1) (List.replicate (m + 1) (.bool false)) ∧ v4.ownBlock ≠ v5.ownBlock ∧ Below w.heap.size w wr)
  case first =>
    go_region_with (first | (go_at_call 112; refine (l10Whitney_c _ _ (by omega)).mono ?_; rintro e w1 ⟨v, rfl, hown1, hb1⟩))
    · go_wp2
      go_meet
      case rel =>
        exact ⟨hown1.same (alloc_old _ _), made_own w1 w.heap.size _ (m + 1) _ hb1.size (by omega), own_ne_new hown1 (.inr (Nat.le_refl _)) _ _,
          (Below.refl _ w).drew.trans (hb1.alloc hb1.size _)⟩
    · go_wp2
      go_meet
      case rel =>
        have k1 := made_own w w.heap.size 4 (m + 1) (.bool false) (Nat.le_refl _) (by omega)
        have k2 := own_same (w' := w1) k1 hb1.block
        refine ⟨own_base hown1 (by simp), k2, own_ne_new hown1 (.inl (by simp)) _ _, ?_⟩
        exact ((Below.refl _ w).alloc (Nat.le_refl _) (.cells (madeCells #[.bool false] (m + 1)) 4)).drew.trans (hb1.mono (B' := w.heap.size) (by simp))
  case rest =>
    clear hmk
    obtain ⟨hI, hb, hne, hbl⟩ := hcut
    obtain ⟨g, cap, rfl, hg⟩ := own_open hb (by omega)
    have hc0 := hb.frozenAt 0
    have hx0 : wc.cell? ⟨g, 0, none⟩ = some (.bool false) := by rw [hb.cellAt 0 (by omega)]; simp
    have hb' := (hb.stored 0 (.bool true)).1
    have hI' := own_setCell_other hI ⟨g, 0, none⟩ (by simpa [Value.ownBlock] using hne) (.bool true)
    have hbl' := hbl.setCell (p := ⟨g, 0, none⟩) hg (.bool true)
    go_wp2_with fail
    clear hb hI hbl hx0 hc0
    go_loopw [6] (fun i wr => ∃ (k : Nat) (bs : List Bool), 1 ≤ k ∧ k ≤ m + 1 ∧ i = .int .i64 k ∧ Hid (bs.length = m + 1) ∧ wr.ownsRow w.heap.size 4 1 (.slice (some ⟨g, 0, none⟩) (m + 1) cap) (m + 1) (bs.map Value.bool) ∧ OwnI wr w.heap.size u4 (whit m (m + 1)) ∧ Below w.heap.size w wr ∧ T0 (fun j => par ((m : Int) + 1) (j : Nat)) m bs k) (fun i _ => m + 1 - (intOf i).toNat)
    case atStart =>
      refine ⟨1, (List.replicate (m + 1) false).set 0 true, by omega, by omega, rfl, by simp [Hid], ?_, hI', hbl', T0.start _ _ _ (by omega)⟩
      simpa [List.map_set] using hb'
    case round =>
      clear hb' hI' hbl'
      obtain ⟨k, bs, hk1, hk2, rfl, hL, hb, hI, hbl, hT⟩ := hrel
      by_cases hlt : k ≤ m
      · go_wp2_with fail
        obtain ⟨wo, rfl⟩ : ∃ wo : World, wo = wr := ⟨_, rfl⟩
        go_loopw [7] (fun i wr => ∃ (q : Nat) (bs : List Bool), 1 ≤ q ∧ q ≤ k + 1 ∧ i = .int .i64 q ∧ Hid (bs.length = m + 1) ∧ wr.ownsRow w.heap.size 4 1 (.slice (some ⟨g, 0, none⟩) (m + 1) cap) (m + 1) (bs.map Value.bool) ∧ OwnI wr w.heap.size u4 (whit m (m + 1)) ∧ Below w.heap.size w wr ∧ T1 (fun j => par ((m : Int) + 1) (j : Nat)) m bs k q) (fun i _ => k + 1 - (intOf i).toNat)
        case atStart => exact ⟨1, bs, by omega, by omega, rfl, hL, hb, hI, hbl, hT.in⟩
        case round =>
          clear hL hb hI hbl hT
          obtain ⟨q, bs, hq1, hq2, rfl, hL, hb, hI, hbl, hT⟩ := hrel
          by_cases hqk : q ≤ k
          · have ex := own_bool_at hb k (by omega)
            have ez := own_bool_at hb (k - q) (by omega)
            have hf := hb.frozenAt k
            have hl4 := whit_length m (m + 1)
            obtain ⟨g4, cap4, rfl, hg4, hc4⟩ := hI.open (by omega)
            have ew := hc4 q (by omega)
            have hw4 : (whit m (m + 1))[q]'(by omega) = parI ((m : Int) + 1) q := by simp [whit]
            rw [hw4] at ew
            clear hc4 hw4
            have hst := fun b => own_bool_set hb k b
            have hI2 := fun b => own_setCell_other hI ⟨g, k, none⟩ (by simpa [Value.ownBlock] using hne) (.bool b)
            have hbl2 := fun b => hbl.setCell (p := ⟨g, k, none⟩) hg (.bool b)
            have hT2 := hT.step (by have := hL.out; omega) hq1 hqk
            have hL2 : ∀ b, Hid ((bs.set k b).length = m + 1) := fun b => by unfold Hid; rw [List.length_set]; exact hL.out
            clear hL hb hI hbl hT hg4
            have G := Lib.hid (And.intro hst (And.intro hI2 (And.intro hbl2 (And.intro hT2 hL2)))); clear hst hI2 hbl2 hT2 hL2
            have hz0 : (k : Int) - q = ((k - q : Nat) : Int) := by omega
            have HZ := Lib.hid hz0; clear hz0
            have fin : ∀ (b : Bool) (v : Bool), Hid (b = (bs.getD k false || (par ((m : Int) + 1) q && bs.getD (k - q) false))) → v = b → (∃ (q' : Nat) (bs' : List Bool), 1 ≤ q' ∧ q' ≤ k + 1 ∧ Value.int .i64 ((q : Int) + 1) = .int .i64 q' ∧ Hid (bs'.length = m + 1) ∧ (wr.setCell ⟨g, k, none⟩ (.bool v)).ownsRow w.heap.size 4 1 (.slice (some ⟨g, 0, none⟩) (m + 1) cap) (m + 1) (bs'.map Value.bool) ∧ OwnI (wr.setCell ⟨g, k, none⟩ (.bool v)) w.heap.size (.slice (some ⟨g4, 0, none⟩) (whit m (m + 1)).length cap4) (whit m (m + 1)) ∧ Below w.heap.size w (wr.setCell ⟨g, k, none⟩ (.bool v)) ∧ T1 (fun j => par ((m : Int) + 1) (j : Nat)) m bs' k q') := by
              intro b v hb hv
              subst hv
              obtain ⟨a1, a2, a3, a4, a5⟩ := G.out
              rw [← hb.out] at a4
              exact ⟨q + 1, bs.set k v, by omega, by omega, by go_num, a5 _, a1 _, a2 _, a3 _, a4⟩
            have FIN := Lib.hid fin; clear fin
            cases hx : bs.getD k false
            · rw [hx] at ex
              cases hy : par ((m : Int) + 1) q
              · have ey : parI ((m : Int) + 1) q = 0 := by simp [parI, hy]
                rw [ey] at ew
                have HX := Lib.hid hx; have HY := Lib.hid hy; clear hx hy ey
                go_wp2_with fail
                go_roundw
                case rel => exact FIN.out false _ (by unfold Hid; rw [HX.out, HY.out]; rfl) rfl
                case measure => simp [intOf]; omega
              · have ey : parI ((m : Int) + 1) q = 1 := by simp [parI, hy]
                rw [ey] at ew
                obtain ⟨z, hz⟩ : ∃ z, bs.getD (k - q) false = z := ⟨_, rfl⟩
                rw [hz] at ez
                have HX := Lib.hid hx; have HY := Lib.hid hy; have HZZ := Lib.hid hz; clear hx hy hz ey
                go_wp2_with fail
                go_roundw
                case rel => exact FIN.out z _ (by unfold Hid; rw [HX.out, HY.out, HZZ.out]; rfl) rfl
                case measure => simp [intOf]; omega
            · rw [hx] at ex
              have HX := Lib.hid hx; clear hx
              go_wp2_with fail
              go_roundw
              case rel => exact FIN.out true _ (by unfold Hid; rw [HX.out]; rfl) rfl
              case measure => simp [intOf]; omega
          · obtain rfl : q = k + 1 := by omega
            go_wp2_with fail
            go_roundw
            case rel => exact ⟨k + 1, bs, by omega, by omega, by go_num, hL, hb, hI, hbl, hT.out hk1 hlt⟩
            case measure => simp [intOf]; omega
      · obtain rfl : k = m + 1 := by omega
        have hx := own_bool_at hb m (by omega)
        have hR := hT.1 m (by omega)
        have hbd := bdry_of hR
        have HB := Lib.hid hbd; clear hbd hR hT
        go_wp2_with fail
        go_ret2
        rw [← HB.out]
        exact ⟨rfl, hbl⟩
theorem implIsBoundary_no (n : Int) (w : World) (hr : ¬ (1 ≤ n ∧ n ≤ 40)) :
    Calls Try.prog 60 #[.int .i64 n] w fun e w' => e = .returned (.tuple #[.bool false, .int .i64 2]) ∧ w = w' := by
  have t1 : (decide (1 ≤ n) && decide (n ≤ 40)) = false := by simp; omega
  go_enter Try.func60, Try.ntmps60
  go_wp2_with (first | (go_at_call 94; refine (in_c _ _ _ _).mono ?_; rintro e w' ⟨rfl, rfl⟩))
  all_goals (go_ret2; exact ⟨rfl, rfl⟩)
theorem implIsBoundary_c (m : Nat) (w : World) (h1 : 1 ≤ m) (h2 : m ≤ 40) :
    Calls Try.prog 60 #[.int .i64 m] w fun e w' => e = .returned (.tuple #[.bool (!bdry m), .int .i64 0]) ∧ Below w.heap.size w w' := by
  have t1 : decide ((1 : Int) ≤ m) = true := by simp; omega
  have t2 : decide ((m : Int) ≤ 40) = true := by simp; omega
  have hmk := fun w => make_run (P := Try.prog) 97 4 _ 1 info_bool Try.underlying97 rfl (by omega) (m + 1) (by omega) .i64 .i64 _ _ (wrapN ((m : Int) + 1) (m + 1) (by omega) (by omega)) (wrapN ((m : Int) + 1) (m + 1) (by omega) (by omega)) w
  go_enter Try.func60, Try.ntmps60
  go_upto_region 3 with (first | (go_at_call 94; refine (in_c _ _ _ _).mono ?_; rintro e w' ⟨rfl, rfl⟩))
  go_cut [4, 5] (fun v4 v5 wr => OwnI wr w.heap.size v4 (whit m (m + 1)) ∧ wr.ownsRow w.heap.size 4 1 v5 (m + 1) (List.replicate (m + 1) (.bool false)) ∧ v4.ownBlock ≠ v5.ownBlock ∧ Below w.heap.size w wr)
  case first =>
    go_region_with (first | (go_at_call 110; refine (whitney_c _ _ (by omega)).mono ?_; rintro e w1 ⟨v, rfl, hown1, hb1⟩))
    · go_wp2
      go_meet
      case rel =>
        exact ⟨hown1.same (alloc_old _ _), made_own w1 w.heap.size _ (m + 1) _ hb1.size (by omega), own_ne_new hown1 (.inr (Nat.le_refl _)) _ _,
          (Below.refl _ w).drew.trans (hb1.alloc hb1.size _)⟩
    · go_wp2
      go_meet
      case rel =>
        have k1 := made_own w w.heap.size 4 (m + 1) (.bool false) (Nat.le_refl _) (by omega)
        have k2 := own_same (w' := w1) k1 hb1.block
        refine ⟨own_base hown1 (by simp), k2, own_ne_new hown1 (.inl (by simp)) _ _, ?_⟩
        exact ((Below.refl _ w).alloc (Nat.le_refl _) (.cells (madeCells #[.bool false] (m + 1)) 4)).drew.trans (hb1.mono (B' := w.heap.size) (by simp))
  case rest =>
    clear hmk
    obtain ⟨hI, hb, hne, hbl⟩ := hcut
    obtain ⟨g, cap, rfl, hg⟩ := own_open hb (by omega)
    have hc0 := hb.frozenAt 0
    have hx0 : wc.cell? ⟨g, 0, none⟩ = some (.bool false) := by rw [hb.cellAt 0 (by omega)]; simp
    have hb' := (hb.stored 0 (.bool true)).1
    have hI' := own_setCell_other hI ⟨g, 0, none⟩ (by simpa [Value.ownBlock] using hne) (.bool true)
    have hbl' := hbl.setCell (p := ⟨g, 0, none⟩) hg (.bool true)
    go_wp2_with fail
    clear hb hI hbl hx0 hc0
    go_loopw [6] (fun i wr => ∃ (k : Nat) (bs : List Bool), 1 ≤ k ∧ k ≤ m + 1 ∧ i = .int .i64 k ∧ Hid (bs.length = m + 1) ∧ wr.ownsRow w.heap.size 4 1 (.slice (some ⟨g, 0, none⟩) (m + 1) cap) (m + 1) (bs.map Value.bool) ∧ OwnI wr w.heap.size u4 (whit m (m + 1)) ∧ Below w.heap.size w wr ∧ R0 (fun j => par ((m : Int) + 1) (j : Nat)) m bs k) (fun i _ => m + 1 - (intOf i).toNat)
    case atStart =>
      refine ⟨1, (List.replicate (m + 1) false).set 0 true, by omega, by omega, rfl, by simp [Hid], ?_, hI', hbl', R0.start _ _ _ (by omega)⟩
      simpa [List.map_set] using hb'
    case round =>
      clear hb' hI' hbl'
      obtain ⟨k, bs, hk1, hk2, rfl, hL, hb, hI, hbl, hT⟩ := hrel
      by_cases hlt : k ≤ m
      · go_wp2_with fail
        obtain ⟨wo, rfl⟩ : ∃ wo : World, wo = wr := ⟨_, rfl⟩
        go_loopw [7] (fun i wr => ∃ (q : Nat) (bs : List Bool), k ≤ q ∧ q ≤ m + 1 ∧ i = .int .i64 q ∧ Hid (bs.length = m + 1) ∧ wr.ownsRow w.heap.size 4 1 (.slice (some ⟨g, 0, none⟩) (m + 1) cap) (m + 1) (bs.map Value.bool) ∧ OwnI wr w.heap.size u4 (whit m (m + 1)) ∧ Below w.heap.size w wr ∧ R1 (fun j => par ((m : Int) + 1) (j : Nat)) m bs k q) (fun i _ => m + 1 - (intOf i).toNat)
        case atStart => exact ⟨k, bs, by omega, by omega, rfl, hL, hb, hI, hbl, hT.in hk1⟩
        case round =>
          clear hL hb hI hbl hT
          obtain ⟨q, bs, hq1, hq2, rfl, hL, hb, hI, hbl, hT⟩ := hrel
          by_cases hqk : q ≤ m
          · have ex := own_bool_at hb q (by omega)
            have ez := own_bool_at hb (q - k) (by omega)
            have hf := hb.frozenAt q
            have hl4 := whit_length m (m + 1)
            obtain ⟨g4, cap4, rfl, hg4, hc4⟩ := hI.open (by omega)
            have ew := hc4 k (by omega)
            have hw4 : (whit m (m + 1))[k]'(by omega) = parI ((m : Int) + 1) k := by simp [whit]
            rw [hw4] at ew
            clear hc4 hw4
            have hst := fun b => own_bool_set hb q b
            have hI2 := fun b => own_setCell_other hI ⟨g, q, none⟩ (by simpa [Value.ownBlock] using hne) (.bool b)
            have hbl2 := fun b => hbl.setCell (p := ⟨g, q, none⟩) hg (.bool b)
            have hT2 := hT.step (by have := hL.out; omega) hk1 hq1 hqk
            have hL2 : ∀ b, Hid ((bs.set q b).length = m + 1) := fun b => by unfold Hid; rw [List.length_set]; exact hL.out
            clear hL hb hI hbl hT hg4
            have G := Lib.hid (And.intro hst (And.intro hI2 (And.intro hbl2 (And.intro hT2 hL2)))); clear hst hI2 hbl2 hT2 hL2
            have hz0 : (q : Int) - k = ((q - k : Nat) : Int) := by omega
            have HZ := Lib.hid hz0; clear hz0
            have fin : ∀ (b : Bool) (v : Bool), Hid (b = (bs.getD q false || (par ((m : Int) + 1) k && bs.getD (q - k) false))) → v = b → (∃ (q' : Nat) (bs' : List Bool), k ≤ q' ∧ q' ≤ m + 1 ∧ Value.int .i64 ((q : Int) + 1) = .int .i64 q' ∧ Hid (bs'.length = m + 1) ∧ (wr.setCell ⟨g, q, none⟩ (.bool v)).ownsRow w.heap.size 4 1 (.slice (some ⟨g, 0, none⟩) (m + 1) cap) (m + 1) (bs'.map Value.bool) ∧ OwnI (wr.setCell ⟨g, q, none⟩ (.bool v)) w.heap.size (.slice (some ⟨g4, 0, none⟩) (whit m (m + 1)).length cap4) (whit m (m + 1)) ∧ Below w.heap.size w (wr.setCell ⟨g, q, none⟩ (.bool v)) ∧ R1 (fun j => par ((m : Int) + 1) (j : Nat)) m bs' k q') := by
              intro b v hb hv
              subst hv
              obtain ⟨a1, a2, a3, a4, a5⟩ := G.out
              rw [← hb.out] at a4
              exact ⟨q + 1, bs.set q v, by omega, by omega, by go_num, a5 _, a1 _, a2 _, a3 _, a4⟩
            have FIN := Lib.hid fin; clear fin
            cases hx : bs.getD q false
            · rw [hx] at ex
              cases hy : par ((m : Int) + 1) k
              · have ey : parI ((m : Int) + 1) k = 0 := by simp [parI, hy]
                rw [ey] at ew
                have HX := Lib.hid hx; have HY := Lib.hid hy; clear hx hy ey
                go_wp2_with fail
                go_roundw
                case rel => exact FIN.out false _ (by unfold Hid; rw [HX.out, HY.out]; rfl) rfl
                case measure => simp [intOf]; omega
              · have ey : parI ((m : Int) + 1) k = 1 := by simp [parI, hy]
                rw [ey] at ew
                obtain ⟨z, hz⟩ : ∃ z, bs.getD (q - k) false = z := ⟨_, rfl⟩
                rw [hz] at ez
                have HX := Lib.hid hx; have HY := Lib.hid hy; have HZZ := Lib.hid hz; clear hx hy hz ey
                go_wp2_with fail
                go_roundw
                case rel => exact FIN.out z _ (by unfold Hid; rw [HX.out, HY.out, HZZ.out]; rfl) rfl
                case measure => simp [intOf]; omega
            · rw [hx] at ex
              have HX := Lib.hid hx; clear hx
              go_wp2_with fail
              go_roundw
              case rel => exact FIN.out true _ (by unfold Hid; rw [HX.out]; rfl) rfl
              case measure => simp [intOf]; omega
          · obtain rfl : q = m + 1 := by omega
            go_wp2_with fail
            go_roundw
            case rel => exact ⟨k + 1, bs, by omega, by omega, by go_num, hL, hb, hI, hbl, hT.out⟩
            case measure => simp [intOf]; omega
      · obtain rfl : k = m + 1 := by omega
        have hx := own_bool_at hb m (by omega)
        have hR := hT m (Nat.le_refl _)
        rw [Nat.add_sub_cancel] at hR
        have hbd := bdry_of hR
        have HB := Lib.hid hbd; clear hbd hR hT
        go_wp2_with fail
        go_ret2
        rw [← HB.out]
        exact ⟨rfl, hbl⟩
end Go.Proofs.Ytmnkccjddahcjaa

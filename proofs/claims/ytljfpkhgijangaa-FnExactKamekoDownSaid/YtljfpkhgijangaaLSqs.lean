/- Sums of squares: of the program and of the reference. -/
import Derived.Test.YtljfpkhgijangaaLMil
import Derived.Test.YtljfpkhgijangaaLTab
import Derived.Test.YtljfpkhgijangaaLMilArg
namespace Go.Proofs.Ytljfpkhgijangaa
open Go.RowKit Go.Sort

def letB (x : Int) : Bool := decide (1 ≤ x) && decide (x ≤ 40)
def wordB (r : List Int) : Bool := decide (r.length ≤ 20) && r.all letB && decide (r.sum ≤ 40)
def sumB (xss : List (List Int)) : Bool := xss.all fun r => r.sum == (xss.getD 0 []).sum
/-- The terms of a sum of squares. -/
def sqT (xss : List (List Int)) : Bool := decide (xss.length ≤ 2000) && ascB xss && xss.all wordB && sumB xss
theorem letB_in {x : Int} (h : letB x = true) : 1 ≤ x ∧ x ≤ 40 := by simp only [letB, Bool.and_eq_true, decide_eq_true_eq] at h; exact h
theorem letters_sm {r : List Int} (h : r.all letB = true) : Sm 1000000000000000 r := fun x hx => by
  have := letB_in (List.all_eq_true.1 h x hx); omega
theorem wordB_all {r : List Int} (h : wordB r = true) : r.all letB = true := by simp only [wordB, Bool.and_eq_true] at h; exact h.1.2
theorem wordB_len {r : List Int} (h : wordB r = true) : r.length ≤ 20 := by simp only [wordB, Bool.and_eq_true, decide_eq_true_eq] at h; exact h.1.1
theorem wordB_let {r : List Int} (h : wordB r = true) : ∀ x ∈ r, 1 ≤ x ∧ x ≤ 40 := fun x hx => letB_in (List.all_eq_true.1 (wordB_all h) x hx)
theorem sqT_rows {xss : List (List Int)} (h : sqT xss = true) : ∀ r ∈ xss, wordB r = true := by
  simp only [sqT, Bool.and_eq_true, List.all_eq_true] at h
  exact h.1.2
theorem isWord1_c (x : Int) (w : World) : Calls Try.prog 205 #[.int .i64 x] w fun e w' => e = .returned (.bool (letB x)) ∧ w = w' := by
  go_enter Try.func205, Try.ntmps205
  go_wp2_with (go_at_call 88; refine (in_c _ _ _ _).mono ?_; rintro e w' ⟨rfl, rfl⟩)
  go_ret
  exact ⟨rfl, rfl⟩
theorem enters_isWord1 : Enters Try.prog 205 := fun args w => by kernel_rfl
theorem isWord_c (v : Value) (r : List Int) (w : World) (h : IntS w.heap v r) :
    Calls Try.prog 176 #[v] w fun e w' => e = .returned (.bool (wordB r)) ∧ Below w.heap.size w w' := by
  have C := all_c v r 205 #[] letB w h enters_isWord1 (fun w1 _ x _ => (isWord1_c x w1).mono fun _ _ ⟨he, hw⟩ => ⟨he, 0, by rw [← hw]; rfl⟩)
  have S := fun (hs : r.all letB = true) (hl : r.length ≤ 20) => Lib.hid (fun (w : World) (h : IntS w.heap v r) => sumS_c v r w h (letters_sm hs) (by omega))
  have HB : Hid (wordB r = (decide (r.length ≤ 20) && r.all letB && decide (r.sum ≤ 40))) := rfl
  obtain ⟨ao, c, rfl, hm⟩ := h.len
  have HC := Lib.hid C; clear C
  have H := Lib.hid h; clear h
  generalize wordB r = q at *
  by_cases hl : r.length ≤ 20
  · have t1 : decide (r.length ≤ 20) = true := by simpa using hl
    rw [t1, Bool.true_and] at HB
    cases ha : r.all letB
    · rw [ha] at HC HB
      obtain rfl : q = false := HB.out
      clear ha HB S
      go_enter Try.func176, Try.ntmps176
      go_wp2_with (first | (go_at_call 79; refine HC.out.mono ?_; rintro e w1 ⟨rfl, hb⟩))
      go_ret
      exact ⟨rfl, hb⟩
    · have S := S ha hl
      rw [ha] at HC HB
      rw [Bool.true_and] at HB
      clear ha
      generalize r.sum = s at *
      go_enter Try.func176, Try.ntmps176
      go_wp2_with (first | (go_at_call 79; refine HC.out.mono ?_; rintro e w1 ⟨rfl, hb⟩; have HB1 := Lib.hid hb; clear hb) | (go_at_call 178; refine (S.out _ (H.out.same HB1.out.block)).mono ?_; rintro e w2 ⟨rfl, rfl⟩))
      go_ret
      exact ⟨by rw [HB.out]; rfl, HB1.out⟩
  · have t1 : decide (r.length ≤ 20) = false := by simpa using hl
    have t2 : decide ((r.length : Int) ≤ 20) = false := by simp; omega
    rw [t1] at HB
    obtain rfl : q = false := by have := HB.out; simpa using this
    clear HB S hl
    go_enter Try.func176, Try.ntmps176
    go_wp2_with fail
    go_ret
    exact ⟨rfl, Below.refl _ _⟩
theorem enters_isWord : Enters Try.prog 176 := fun args w => by kernel_rfl
theorem enters_sum : Enters Try.prog 178 := fun args w => by kernel_rfl
theorem sumW_c (v : Value) (r : List Int) (w : World) (h : IntS w.heap v r) (hE : wordB r = true) :
    Calls Try.prog 178 #[v] w fun e w' => e = .returned (.int .i64 r.sum) ∧ w = w' :=
  sumS_c v r w h (letters_sm (wordB_all hE)) (by have := wordB_len hE; omega)
theorem sameSum1_c (u v : Value) (r : List Int) (xss : List (List Int)) (g h0 : Nat) (w : World) (h : IntS w.heap u r) (hX : IntSS w.heap v xss) (h1 : w.cell? ⟨g, 0, none⟩ = some (.func (.func 178) #[] #[])) (h2 : w.cell? ⟨h0, 0, none⟩ = some v)
    (hr : wordB r = true) (hl : 0 < xss.length) (hx : wordB (xss.getD 0 []) = true) :
    Calls Try.prog 206 #[u, .pointer (some ⟨g, 0, none⟩), .pointer (some ⟨h0, 0, none⟩)] w fun e w' => e = .returned (.bool (r.sum == (xss.getD 0 []).sum)) ∧ ∃ n, w' = w.drewN n := by
  obtain ⟨b, off, cap, u0, rfl, hc, hu0, hm⟩ := hX.at 0 hl
  rw [show xss[0] = xss.getD 0 [] by simp [hl]] at hu0
  have D1 := Lib.hid (fun (w : World) (h : IntS w.heap u r) => sumW_c _ r w h hr)
  have D2 := Lib.hid (fun (w : World) (h : IntS w.heap u0 (xss.getD 0 [])) => sumW_c _ _ w h hx)
  obtain ⟨a1, c1, rfl, m1⟩ := h.len
  obtain ⟨a2, c2, rfl, m2⟩ := hu0.len
  have HU := Lib.hid h; have HU0 := Lib.hid hu0; have HX := Lib.hid hX
  have hcf := enters_sum
  unfold Enters at hcf
  clear h hu0 hX hr hx
  have e0 : off + 0 = off := rfl
  rw [e0] at hc
  clear e0
  generalize xss.getD 0 [] = s at *
  generalize r.sum = d at *
  generalize s.sum = d' at *
  have hl1 : (0 : Int) < (xss.length : Int) := by omega
  have hl2 : decide (0 < xss.length) = true := by simpa using hl
  go_enter Try.func206, Try.ntmps206
  go_wp2_with fail
  go_quiet ((go_at_call 178; first | ((with_reducible refine quiet_same (D1.out _ ?_)); exact HU.out) | ((with_reducible refine quiet_same (D2.out _ ?_)); exact HU0.out)))
  go_wp2_with fail
  go_ret
  exact ⟨rfl, _, rfl⟩
theorem sameSum_c (v : Value) (xss : List (List Int)) (w : World) (h : IntSS w.heap v xss) (hE : ∀ r ∈ xss, wordB r = true) :
    Calls Try.prog 177 #[v, .func (.func 178) #[] #[]] w fun e w' => e = .returned (.bool (sumB xss)) ∧ Below w.heap.size w w' := by
  obtain ⟨ao, c, hv, hm⟩ := h.len
  have hb : Below w.heap.size w ((w.alloc (.cells #[v] 36)).alloc (.cells #[.func (.func 178) #[] #[]] 103)) := ((Below.refl _ _).alloc (Nat.le_refl _) _).alloc (by simp) _
  have C := allSS_c v xss 206 #[.pointer (some ⟨w.heap.size + 1, 0, none⟩), .pointer (some ⟨w.heap.size, 0, none⟩)] (fun r => r.sum == (xss.getD 0 []).sum) ((w.alloc (.cells #[v] 36)).alloc (.cells #[.func (.func 178) #[] #[]] 103))
    (h.same hb.block) enters_sameDegree1 (fun w1 hb1 u xs hx hu => by
      have hl : 0 < xss.length := List.length_pos_of_mem hx
      refine (sameSum1_c u v xs xss (w.heap.size + 1) w.heap.size w1 hu ((h.same hb.block).same hb1.block) ?_ ?_ (hE xs hx) hl (hE _ ?_)).mono fun _ _ ⟨he, n, hn⟩ => ⟨he, by rw [hn]; exact below_drewN n (Below.refl _ _)⟩
      · rw [World.cell?_of_block (hb1.block _ (by simp)), World.cell?]
        simp only [show ∀ (W : World) (o : Obj), W.heap.size = w.heap.size + 1 → (W.alloc o).heap[w.heap.size + 1]? = some o from fun W o hW => by rw [← hW]; exact heap_alloc_new W o, size_alloc_w]
        rfl
      · rw [World.cell?_of_block (hb1.block _ (by simp; omega)), World.cell?]
        rw [alloc_old _ _ _ (by simp), heap_alloc_new]
        rfl
      · rw [show xss.getD 0 [] = xss[0] by simp [hl]]; exact List.getElem_mem _)
  subst hv
  have HC := Lib.hid C; have HB := Lib.hid hb; clear C h hE hb
  unfold sumB
  go_enter Try.func177, Try.ntmps177
  go_wp2_with (go_at_call 97; refine HC.out.mono ?_; rintro e w1 ⟨rfl, hb1⟩)
  go_ret
  exact ⟨rfl, HB.out.trans (hb1.mono HB.out.size)⟩
theorem isSquares_c (v : Value) (xss : List (List Int)) (w : World) (h : IntSS w.heap v xss) :
    Calls Try.prog 134 #[.agg #[v]] w fun e w' => e = .returned (.bool (sqT xss)) ∧ Below w.heap.size w w' := by
  have hb : Below w.heap.size w (w.alloc (.cells #[v] 72)) := (Below.refl _ _).alloc (Nat.le_refl _) _
  have hA := h.same hb.block
  have R := Lib.hid (fun (w : World) (h : IntSS w.heap v xss) => rising_c v xss w h)
  have A := Lib.hid (fun (w : World) (h : IntSS w.heap v xss) => allSS_c v xss 176 #[] wordB w h enters_isWord (fun w1 _ u xs _ hu => isWord_c u xs w1 hu))
  have hS : xss.all wordB = true → Hid (∀ (w : World), IntSS w.heap v xss → Calls Try.prog 177 #[v, .func (.func 178) #[] #[]] w fun e w' => e = .returned (.bool (sumB xss)) ∧ Below w.heap.size w w') := fun ha => Lib.hid fun w h => sameSum_c v xss w h fun r hr => List.all_eq_true.1 ha r hr
  have HT : Hid (sqT xss = (decide (xss.length ≤ 2000) && ascB xss && xss.all wordB && sumB xss)) := rfl
  have k0 := (Cell1.new w v 72).c0
  obtain ⟨ao, c, rfl, hm⟩ := h.len
  have H := Lib.hid hA; have HB0 := Lib.hid hb; clear h hA hb
  generalize sqT xss = q at *
  by_cases hl : xss.length ≤ 2000
  · have t1 : decide (xss.length ≤ 2000) = true := by simpa using hl
    have t2 : decide ((xss.length : Int) ≤ 2000) = true := by simp; omega
    rw [t1, Bool.true_and] at HT
    cases hr : ascB xss
    · rw [hr] at R HT
      obtain rfl : q = false := by have := HT.out; simpa using this
      clear hr hS HT
      go_enter Try.func134, Try.ntmps134
      go_wp2_with fail
      refine (R.out _ H.out).mono ?_
      rintro e w2 ⟨rfl, n, rfl⟩
      go_wp2_with fail
      go_ret
      exact ⟨rfl, below_drewN n HB0.out⟩
    · rw [hr] at R HT
      rw [Bool.true_and] at HT
      clear hr
      cases ha : xss.all wordB
      · rw [ha] at A HT
        obtain rfl : q = false := by have := HT.out; simpa using this
        clear ha hS HT
        go_enter Try.func134, Try.ntmps134
        go_wp2_with fail
        refine (R.out _ H.out).mono ?_
        rintro e w2 ⟨rfl, n, rfl⟩
        have HB2 := Lib.hid (below_drewN n HB0.out)
        have H2 := Lib.hid (H.out.same (fun _ _ => rfl) : IntSS ((w.alloc (.cells #[.slice ao xss.length c] 72)).drewN n).heap (.slice ao xss.length c) xss)
        go_wp2_with fail
        refine (A.out _ H2.out).mono ?_
        rintro e w3 ⟨rfl, hb3⟩
        have HB3 := Lib.hid (HB2.out.trans (hb3.mono HB2.out.size)); clear hb3
        go_wp2_with fail
        go_ret
        exact ⟨rfl, HB3.out⟩
      · have S := hS ha
        rw [ha] at A HT
        rw [Bool.true_and] at HT
        clear ha hS
        generalize sumB xss = sb at *
        obtain rfl : q = sb := HT.out
        clear HT
        go_enter Try.func134, Try.ntmps134
        go_wp2_with fail
        refine (R.out _ H.out).mono ?_
        rintro e w2 ⟨rfl, n, rfl⟩
        have HB2 := Lib.hid (below_drewN n HB0.out)
        have H2 := Lib.hid (H.out.same (fun _ _ => rfl) : IntSS ((w.alloc (.cells #[.slice ao xss.length c] 72)).drewN n).heap (.slice ao xss.length c) xss)
        go_wp2_with fail
        refine (A.out _ H2.out).mono ?_
        rintro e w3 ⟨rfl, hb3⟩
        have H3 := Lib.hid (H2.out.same hb3.block)
        have k3 := (hb3.cell (p := ⟨w.heap.size, 0, none⟩) (by simp)).trans k0
        have HB3 := Lib.hid (HB2.out.trans (hb3.mono HB2.out.size)); clear hb3
        go_wp2_with fail
        refine (S.out _ H3.out).mono ?_
        rintro e w4 ⟨rfl, hb4⟩
        have HB4 := Lib.hid (HB3.out.trans (hb4.mono HB3.out.size)); clear hb4
        go_wp2_with fail
        go_ret
        exact ⟨rfl, HB4.out⟩
  · have t1 : decide (xss.length ≤ 2000) = false := by simpa using hl
    have t2 : decide ((xss.length : Int) ≤ 2000) = false := by simp; omega
    rw [t1] at HT
    obtain rfl : q = false := by have := HT.out; simpa using this
    clear hS HT hl
    go_enter Try.func134, Try.ntmps134
    go_wp2_with fail
    go_ret
    exact ⟨rfl, HB0.out⟩
theorem l03Degree_c (v : Value) (r : List Int) (w : World) (h : IntS w.heap v r) (hs : Sm 1000000000000000 r) (hl : r.length ≤ 1000) :
    Calls Try.prog 173 #[v] w fun e w' => e = .returned (.int .i64 r.sum) ∧ w = w' := by
  obtain ⟨ao, c, rfl, hm⟩ := h.len
  have H := Lib.hid h; have HS := Lib.hid hs; clear h hs
  go_enter Try.func173, Try.ntmps173
  go_wp2_with fail
  go_loop [3, 4] (fun s i => ∃ (k : Nat) (t : Int), k ≤ r.length ∧ i = .int .i64 k ∧ s = .int .i64 t ∧ Hid (t = (r.take k).sum ∧ 0 ≤ t ∧ t ≤ k * 1000000000000000)) (fun _ i => r.length - (intOf i).toNat)
  case atStart => exact ⟨0, 0, Nat.zero_le _, rfl, rfl, by simp, by omega, by omega⟩
  case round =>
    obtain ⟨k, t, hk, rfl, rfl, he⟩ := hrel
    by_cases hlt : k < r.length
    · obtain ⟨b1, o1, c1', hv1, hc1, _⟩ := (H.out).at k hlt
      simp only [Value.slice.injEq, true_and] at hv1
      obtain ⟨rfl, rfl⟩ := hv1
      have hx := HS.out _ (List.getElem_mem hlt)
      have HE : Hid (t + r[k] = (r.take (k + 1)).sum) := by
        show _ = _
        rw [List.take_succ_eq_append_getElem hlt, List.sum_append, ← he.out.1]; simp
      obtain ⟨-, he1, he2⟩ := he.out
      have hx0 := hx.1; have hx1 := hx.2
      clear he hx
      generalize r[k] = x at *
      go_wp2_with fail
      go_round
      case rel => exact ⟨k + 1, t + x, by omega, by go_num, by go_num, HE.out, by omega, by omega⟩
      case measure => simp [intOf]; omega
    · obtain rfl : k = r.length := by omega
      go_wp2_with fail
      go_ret
      exact ⟨by rw [he.out.1, List.take_length]; rfl, rfl⟩
theorem l03DegreeE_c (v : Value) (r : List Int) (w : World) (h : IntS w.heap v r) (hE : wordB r = true) :
    Calls Try.prog 173 #[v] w fun e w' => e = .returned (.int .i64 r.sum) ∧ w = w' :=
  l03Degree_c v r w h (letters_sm (wordB_all hE)) (by have := wordB_len hE; omega)
theorem wordB_no (r : List Int) (k : Nat) (hk : k < r.length) (h : letB r[k] = false) : wordB r = false := by
  cases e : wordB r
  · rfl
  · have := List.all_eq_true.1 (wordB_all e) _ (List.getElem_mem hk)
    rw [h] at this; cases this
theorem all_let (r : List Int) (h : ∀ j, j < r.length → letB (r.getD j 0) = true) : r.all letB = true := by
  rw [List.all_eq_true]
  intro x hx
  obtain ⟨j, hj, rfl⟩ := List.getElem_of_mem hx
  have := h j hj
  simpa [hj] using this
theorem l03Word_c (v : Value) (r : List Int) (w : World) (h : IntS w.heap v r) :
    Calls Try.prog 172 #[v] w fun e w' => e = .returned (.bool (wordB r)) ∧ w = w' := by
  have D := fun (hs : r.all letB = true) (hl : r.length ≤ 20) => Lib.hid (fun (w : World) (h : IntS w.heap v r) => l03Degree_c v r w h (letters_sm hs) (by omega))
  obtain ⟨ao, c, rfl, hm⟩ := h.len
  have H := Lib.hid h; clear h
  by_cases hl : r.length ≤ 20
  · have t1 : decide (20 < r.length) = false := by simp; omega
    have t2 : decide ((20 : Int) < (r.length : Int)) = false := by simp; omega
    go_enter Try.func172, Try.ntmps172
    go_wp2_with fail
    go_loop [3] (fun i => ∃ k : Nat, k ≤ r.length ∧ i = .int .i64 k ∧ Hid (∀ j, j < k → letB (r.getD j 0) = true)) (fun i => r.length - (intOf i).toNat)
    case atStart => exact ⟨0, Nat.zero_le _, rfl, fun j hj => absurd hj (Nat.not_lt_zero _)⟩
    case round =>
      obtain ⟨k, hk, rfl, hp⟩ := hrel
      by_cases hlt : k < r.length
      · obtain ⟨b1, o1, c1', hv1, hc1, _⟩ := (H.out).at k hlt
        simp only [Value.slice.injEq, true_and] at hv1
        obtain ⟨rfl, rfl⟩ := hv1
        have N := Lib.hid (wordB_no r k hlt)
        have IN := Lib.hid (l01In_c r[k] 1 40 w)
        have HP : Hid (letB r[k] = true → ∀ j, j < k + 1 → letB (r.getD j 0) = true) := fun h j hj => by
          by_cases e : j = k
          · subst e; simpa [hlt] using h
          · exact hp.out j (by omega)
        clear hp D
        cases hb : letB r[k]
        · have e : Hid (wordB r = false) := N.out hb
          rw [show (decide (1 ≤ r[k]) && decide (r[k] ≤ 40)) = false from hb] at IN
          clear hb N HP
          generalize r[k] = x at *
          go_wp2_with (go_at_call 76; refine IN.out.mono ?_; rintro e w' ⟨rfl, rfl⟩)
          go_ret
          exact ⟨by rw [e.out]; rfl, rfl⟩
        · have HP2 := Lib.hid (HP.out hb)
          rw [show (decide (1 ≤ r[k]) && decide (r[k] ≤ 40)) = true from hb] at IN
          clear hb N HP
          generalize r[k] = x at *
          go_wp2_with (go_at_call 76; refine IN.out.mono ?_; rintro e w' ⟨rfl, rfl⟩)
          go_round
          case rel => exact ⟨k + 1, by omega, by go_num, HP2⟩
          case measure => simp [intOf]; omega
      · obtain rfl : k = r.length := by omega
        have ha := all_let r hp.out
        have D := D ha hl
        have HB : Hid (wordB r = decide (r.sum ≤ 40)) := by show _ = _; unfold wordB; rw [ha, decide_eq_true hl]; rfl
        clear hp ha
        generalize r.sum = s at *
        go_wp2_with (go_at_call 173; refine (D.out _ H.out).mono ?_; rintro e w' ⟨rfl, rfl⟩)
        go_ret
        exact ⟨by rw [HB.out]; rfl, rfl⟩
  · have e : wordB r = false := by unfold wordB; rw [decide_eq_false hl]; rfl
    have t1 : decide (20 < r.length) = true := by simp; omega
    have t2 : decide ((20 : Int) < (r.length : Int)) = true := by simp; omega
    rw [e]
    clear e D
    go_enter Try.func172, Try.ntmps172
    go_wp2_with fail
    go_ret
    exact ⟨rfl, rfl⟩
theorem sqT_yes (xss : List (List Int)) (h1 : xss.length ≤ 2000) (h2 : ascB xss = true) (h3 : ∀ j, j < xss.length → wordB (xss.getD j []) = true ∧ (xss.getD j []).sum = (xss.getD 0 []).sum) : sqT xss = true := by
  simp only [sqT, sumB, h2, h1, decide_true, Bool.true_and, Bool.and_eq_true, List.all_eq_true]
  constructor
  · intro r hr
    obtain ⟨j, hj, rfl⟩ := List.getElem_of_mem hr
    have := (h3 j hj).1
    simpa [hj] using this
  · intro r hr
    obtain ⟨j, hj, rfl⟩ := List.getElem_of_mem hr
    have := (h3 j hj).2
    rw [show xss.getD j [] = xss[j] by simp [hj]] at this
    simpa using this
theorem sqT_no (xss : List (List Int)) (j : Nat) (hj : j < xss.length) (h : wordB (xss.getD j []) = false ∨ (xss.getD j []).sum ≠ (xss.getD 0 []).sum) : sqT xss = false := by
  cases e : sqT xss
  · rfl
  · have hm : xss.getD j [] ∈ xss := by rw [show xss.getD j [] = xss[j] by simp [hj]]; exact List.getElem_mem _
    have h1 := sqT_rows e _ hm
    rcases h with h | h
    · rw [h1] at h; cases h
    · simp only [sqT, sumB, Bool.and_eq_true, List.all_eq_true, beq_iff_eq] at e
      exact absurd (e.2 _ hm) h
set_option maxRecDepth 100000 in
theorem l03Is_c (v : Value) (xss : List (List Int)) (w : World) (h : IntSS w.heap v xss) :
    Calls Try.prog 131 #[.agg #[v]] w fun e w' => e = .returned (.bool (sqT xss)) ∧ Below w.heap.size w w' := by
  have hb : Below w.heap.size w (w.alloc (.cells #[v] 72)) := (Below.refl _ _).alloc (Nat.le_refl _) _
  have hA := h.same hb.block
  have C := Lib.hid (l01Ascending_c v xss _ hA)
  obtain ⟨ao, c, rfl, hm⟩ := h.len
  have H := Lib.hid hA
  have HB := Lib.hid hb; clear hb h hA
  by_cases hl : xss.length ≤ 2000
  · have t1 : decide (2000 < xss.length) = false := by simp; omega
    cases ha : ascB xss
    · have HR : Hid (sqT xss = false) := by show _ = _; simp [sqT, ha]
      rw [ha] at C
      clear ha
      go_enter Try.func131, Try.ntmps131
      go_wp2_with (go_at_call 154; refine C.out.mono ?_; rintro e w1 ⟨rfl, n, rfl⟩)
      go_ret
      exact ⟨by rw [HR.out]; rfl, below_drewN n HB.out⟩
    · rw [ha] at C
      have HY := Lib.hid (sqT_yes xss hl ha); clear ha
      go_enter Try.func131, Try.ntmps131
      go_wp2_with (go_at_call 154; refine C.out.mono ?_; rintro e w1 ⟨rfl, n0, rfl⟩)
      go_loopw [3] (fun i wr => ∃ k n : Nat, k ≤ xss.length ∧ i = .int .i64 k ∧ wr = (w.alloc (.cells #[.slice ao xss.length c] 72)).drewN n ∧ Hid (∀ j, j < k → wordB (xss.getD j []) = true ∧ (xss.getD j []).sum = (xss.getD 0 []).sum)) (fun i _ => xss.length - (intOf i).toNat)
      case atStart => exact ⟨0, n0, Nat.zero_le _, rfl, rfl, fun j hj => absurd hj (Nat.not_lt_zero _)⟩
      case round =>
        obtain ⟨k, n, hk, rfl, rfl, hp⟩ := hrel
        by_cases hlt : k < xss.length
        · obtain ⟨b1, o1, c1, u1, hv1, hc1, hu1, -⟩ := H.out.at k hlt
          obtain ⟨b2, o2, c2, u2, hv2, hc2, hu2, -⟩ := H.out.at 0 (by omega)
          simp only [Value.slice.injEq, true_and] at hv1 hv2
          obtain ⟨rfl, rfl⟩ := hv1
          obtain ⟨hv2, -⟩ := hv2
          simp only [Option.some.injEq, Addr.mk.injEq, and_true] at hv2
          obtain ⟨rfl, rfl⟩ := hv2
          rw [show xss[k] = xss.getD k [] by simp [hlt]] at hu1
          rw [show xss[0] = xss.getD 0 [] by simp [show 0 < xss.length by omega]] at hu2
          have e0 : o1 + 0 = o1 := rfl
          rw [e0] at hc2
          clear e0
          have HN := Lib.hid (sqT_no xss k hlt)
          have HP2 : Hid (wordB (xss.getD k []) = true → (xss.getD k []).sum = (xss.getD 0 []).sum → ∀ j, j < k + 1 → wordB (xss.getD j []) = true ∧ (xss.getD j []).sum = (xss.getD 0 []).sum) := fun h1 h2 j hj => by
            by_cases e : j = k
            · subst e; exact ⟨h1, h2⟩
            · exact hp.out j (by omega)
          have H0 : Hid (wordB (xss.getD k []) = true → wordB (xss.getD 0 []) = true) := fun h => by
            by_cases e : k = 0
            · subst e; exact h
            · exact (hp.out 0 (by omega)).1
          obtain ⟨a1, d1, rfl, m1⟩ := hu1.len
          obtain ⟨a2, d2, rfl, m2⟩ := hu2.len
          have HU1 := Lib.hid hu1; have HU2 := Lib.hid hu2
          clear hu1 hu2 hp
          have CE := Lib.hid (fun (w : World) (h : IntS w.heap (.slice a1 (xss.getD k []).length d1) (xss.getD k [])) => l03Word_c _ _ w h)
          have D1 := fun he => Lib.hid (fun (w : World) (h : IntS w.heap (.slice a1 (xss.getD k []).length d1) (xss.getD k [])) => l03DegreeE_c _ _ w h he)
          have D2 := fun he => Lib.hid (fun (w : World) (h : IntS w.heap (.slice a2 (xss.getD 0 []).length d2) (xss.getD 0 [])) => l03DegreeE_c _ _ w h he)
          have hz : decide (0 < xss.length) = true := by simp; omega
          generalize xss.getD k [] = xs at *
          generalize xss.getD 0 [] = ys at *
          cases hE : wordB xs
          · have HR : Hid (sqT xss = false) := HN.out (.inl hE)
            rw [hE] at CE
            clear hE D1 D2
            go_wp2_with fail
            go_quiet ((go_at_call 172; (with_reducible refine quiet_behind_same (CE.out _ ?_)); exact HU1.out))
            go_wp2_with fail
            go_ret
            exact ⟨by rw [HR.out]; rfl, by first | exact below_drewN _ HB.out | (simp only [World.drewN_drewN]; exact below_drewN _ HB.out)⟩
          · have D1 := D1 hE
            have D2 := D2 (H0.out hE)
            have HP3 := Lib.hid (HP2.out hE)
            rw [hE] at CE
            clear hE HP2 H0
            generalize hd1 : xs.sum = d at *
            generalize hd2 : ys.sum = d' at *
            clear hd1 hd2
            by_cases hdd : d = d'
            · have HH := Lib.hid (HP3.out hdd)
              have t3 := (eqB hdd).2
              clear hdd
              go_wp2_with fail
              go_quiet (first | (go_at_call 172; (with_reducible refine quiet_behind_same (CE.out _ ?_)); exact HU1.out) | (go_at_call 173; first | ((with_reducible refine quiet_behind_same (D1.out _ ?_)); exact HU1.out) | ((with_reducible refine quiet_behind_same (D2.out _ ?_)); exact HU2.out)))
              go_wp2_with fail
              go_roundw
              case rel => exact ⟨k + 1, _, by omega, by go_num, rfl, HH⟩
              case measure => simp [intOf]; omega
            · have HR : Hid (sqT xss = false) := HN.out (.inr hdd)
              have t3 := (neB hdd).2
              clear hdd
              go_wp2_with fail
              go_quiet (first | (go_at_call 172; (with_reducible refine quiet_behind_same (CE.out _ ?_)); exact HU1.out) | (go_at_call 173; first | ((with_reducible refine quiet_behind_same (D1.out _ ?_)); exact HU1.out) | ((with_reducible refine quiet_behind_same (D2.out _ ?_)); exact HU2.out)))
              go_wp2_with fail
              go_ret
              exact ⟨by rw [HR.out]; rfl, by first | exact below_drewN _ HB.out | (simp only [World.drewN_drewN]; exact below_drewN _ HB.out)⟩
        · obtain rfl : k = xss.length := by omega
          have HR : Hid (sqT xss = true) := HY.out hp.out
          go_wp2_with fail
          go_ret
          exact ⟨by rw [HR.out]; rfl, below_drewN _ HB.out⟩
  · have t1 : decide (2000 < xss.length) = true := by simp; omega
    have HR : Hid (sqT xss = false) := by show _ = _; simp [sqT, hl]
    go_enter Try.func131, Try.ntmps131
    go_wp2_with fail
    go_ret
    exact ⟨by rw [HR.out]; rfl, HB.out⟩
end Go.Proofs.Ytljfpkhgijangaa

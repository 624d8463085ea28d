/- Polynomials: what they are, and IsPoly of the program. -/
import Derived.Test.YtljfpkhgijangaaLSqs
import Derived.Test.YtljfpkhgijangaaBaseM
import Derived.Test.YtljfpkhgijangaaLMil
namespace Go.Proofs.Ytljfpkhgijangaa
open Go.RowKit Go.Sort

def degB (x : Int) : Bool := decide (0 ≤ x) && decide (x ≤ 40)
def monB (k : Int) (r : List Int) : Bool := ((r.length : Int) == k) && (r.all degB && decide (r.sum ≤ 40))
/-- What the program reckons: its sum may wrap for lists that are too long. -/
def monW (k : Int) (r : List Int) : Bool := ((r.length : Int) == k) && (r.all degB && decide (r.foldl (fun s x => wrap64 (s + x)) 0 ≤ 40))
def varB (k : Int) : Bool := decide (1 ≤ k) && decide (k ≤ 4)
/-- A number of variables and terms that are a polynomial. -/
def polT (k : Int) (xss : List (List Int)) : Bool := varB k && (decide (xss.length ≤ 2000) && (xss.all (monB k) && (ascB xss && sumB xss)))
theorem degB_in {x : Int} (h : degB x = true) : 0 ≤ x ∧ x ≤ 40 := by simpa [degB] using h
theorem degs_sm {r : List Int} (h : r.all degB = true) : Sm 1000000000000000 r := fun x hx => by
  have := degB_in (List.all_eq_true.1 h x hx); omega
theorem monW_eq {k : Int} (hk : varB k = true) (r : List Int) : monW k r = monB k r := by
  simp only [varB, Bool.and_eq_true, decide_eq_true_eq] at hk
  unfold monW monB
  by_cases h : (r.length : Int) = k
  · cases ha : r.all degB
    · simp
    · rw [foldl_sum r 0 1000000000000000 (by omega) (by omega) (degs_sm ha), Int.zero_add]
  · have : ((r.length : Int) == k) = false := by simpa using h
    rw [this]; rfl
theorem polT_W (k : Int) (xss : List (List Int)) : polT k xss = (varB k && (decide (xss.length ≤ 2000) && (xss.all (monW k) && (ascB xss && sumB xss)))) := by
  unfold polT
  cases h : varB k
  · rfl
  · rw [show monW k = monB k from funext fun r => monW_eq h r]
theorem monB_all {k : Int} {r : List Int} (h : monB k r = true) : r.all degB = true := by simp only [monB, Bool.and_eq_true] at h; exact h.2.1
theorem monB_len {k : Int} {r : List Int} (h : monB k r = true) : (r.length : Int) = k := by simp only [monB, Bool.and_eq_true, beq_iff_eq] at h; exact h.1
theorem polT_var {k : Int} {xss : List (List Int)} (h : polT k xss = true) : 1 ≤ k ∧ k ≤ 4 := by
  simp only [polT, varB, Bool.and_eq_true, decide_eq_true_eq] at h; exact h.1
theorem polT_len {k : Int} {xss : List (List Int)} (h : polT k xss = true) : xss.length ≤ 2000 := by
  simp only [polT, Bool.and_eq_true, decide_eq_true_eq] at h; exact h.2.1
theorem polT_asc {k : Int} {xss : List (List Int)} (h : polT k xss = true) : Asc xss := by
  simp only [polT, Bool.and_eq_true, decide_eq_true_eq] at h; exact ascB_asc _ h.2.2.2.1
theorem polT_rows {k : Int} {xss : List (List Int)} (h : polT k xss = true) : ∀ r ∈ xss, r.length ≤ 4 ∧ ∀ x ∈ r, 0 ≤ x ∧ x ≤ 40 := fun r hr => by
  have hv := polT_var h
  simp only [polT, Bool.and_eq_true, List.all_eq_true] at h
  have hm := h.2.2.1 r hr
  have hl := monB_len hm
  exact ⟨by omega, fun x hx => degB_in (List.all_eq_true.1 (monB_all hm) x hx)⟩
theorem polT_same {k : Int} {xss : List (List Int)} (h : polT k xss = true) : ∀ r ∈ xss, (r.length : Int) = k := fun r hr => by
  simp only [polT, Bool.and_eq_true, List.all_eq_true] at h
  exact monB_len (h.2.2.1 r hr)
theorem isDegreeK_c (x : Int) (w : World) : Calls Try.prog 85 #[.int .i64 x] w fun e w' => e = .returned (.bool (degB x)) ∧ w = w' := by
  go_enter Try.func85, Try.ntmps85
  go_wp2_with (go_at_call 88; refine (in_c _ _ _ _).mono ?_; rintro e w' ⟨rfl, rfl⟩)
  go_ret
  exact ⟨rfl, rfl⟩
theorem enters_isDegreeK : Enters Try.prog 85 := fun args w => by kernel_rfl
theorem isCount_c (x : Int) (w : World) : Calls Try.prog 184 #[.int .i64 x] w fun e w' => e = .returned (.bool (varB x)) ∧ w = w' := by
  go_enter Try.func184, Try.ntmps184
  go_wp2_with (go_at_call 88; refine (in_c _ _ _ _).mono ?_; rintro e w' ⟨rfl, rfl⟩)
  go_ret
  exact ⟨rfl, rfl⟩
theorem isMonomial_c (k : Int) (v : Value) (r : List Int) (w : World) (h : IntS w.heap v r) :
    Calls Try.prog 183 #[v, .int .i64 k] w fun e w' => e = .returned (.bool (monW k r)) ∧ Below w.heap.size w w' := by
  have C := all_c v r 85 #[] degB w h enters_isDegreeK (fun w1 _ x _ => (isDegreeK_c x w1).mono fun _ _ ⟨he, hw⟩ => ⟨he, 0, by rw [← hw]; rfl⟩)
  have S := Lib.hid (fun (w : World) (h : IntS w.heap v r) => sum_c v r w h)
  have HB : Hid (monW k r = (((r.length : Int) == k) && (r.all degB && decide (r.foldl (fun s x => wrap64 (s + x)) 0 ≤ 40)))) := rfl
  obtain ⟨ao, c, rfl, hm⟩ := h.len
  have HC := Lib.hid C; clear C
  have H := Lib.hid h; clear h
  generalize monW k r = q at *
  generalize r.foldl (fun s x => wrap64 (s + x)) 0 = s at *
  cases hl : ((r.length : Int) == k)
  · rw [hl] at HB
    obtain rfl : q = false := HB.out
    clear HB S
    go_enter Try.func183, Try.ntmps183
    go_wp2_with fail
    go_ret
    exact ⟨rfl, Below.refl _ _⟩
  · rw [hl, Bool.true_and] at HB
    cases ha : r.all degB
    · rw [ha] at HC HB
      obtain rfl : q = false := HB.out
      clear ha HB S
      go_enter Try.func183, Try.ntmps183
      go_wp2_with (first | (go_at_call 79; refine HC.out.mono ?_; rintro e w1 ⟨rfl, hb⟩))
      go_ret
      exact ⟨rfl, hb⟩
    · rw [ha] at HC HB
      rw [Bool.true_and] at HB
      clear ha
      go_enter Try.func183, Try.ntmps183
      go_wp2_with (first | (go_at_call 79; refine HC.out.mono ?_; rintro e w1 ⟨rfl, hb⟩; have HB1 := Lib.hid hb; clear hb) | (go_at_call 178; refine (S.out _ (H.out.same HB1.out.block)).mono ?_; rintro e w2 ⟨rfl, rfl⟩))
      go_ret
      exact ⟨by rw [HB.out]; rfl, HB1.out⟩
theorem isPoly1_c (k : Int) (u : Value) (r : List Int) (g : Nat) (w : World) (h : IntS w.heap u r) (h1 : w.cell? ⟨g, 0, none⟩ = some (.int .i64 k)) :
    Calls Try.prog 182 #[u, .pointer (some ⟨g, 0, none⟩)] w fun e w' => e = .returned (.bool (monW k r)) ∧ Below w.heap.size w w' := by
  have C := Lib.hid (isMonomial_c k u r w h)
  obtain ⟨ao, c, rfl, hm⟩ := h.len
  clear h
  go_enter Try.func182, Try.ntmps182
  go_wp2_with (go_at_call 183; refine C.out.mono ?_; rintro e w1 ⟨rfl, hb⟩)
  go_ret
  exact ⟨rfl, hb⟩
theorem enters_isPoly1 : Enters Try.prog 182 := fun args w => by kernel_rfl
theorem sameSumK1_c (u v : Value) (r : List Int) (xss : List (List Int)) (g h0 : Nat) (w : World) (h : IntS w.heap u r) (hX : IntSS w.heap v xss) (h1 : w.cell? ⟨g, 0, none⟩ = some (.func (.func 178) #[] #[])) (h2 : w.cell? ⟨h0, 0, none⟩ = some v)
    (hr : r.all degB = true ∧ r.length ≤ 1000) (hl : 0 < xss.length) (hx : (xss.getD 0 []).all degB = true ∧ (xss.getD 0 []).length ≤ 1000) :
    Calls Try.prog 206 #[u, .pointer (some ⟨g, 0, none⟩), .pointer (some ⟨h0, 0, none⟩)] w fun e w' => e = .returned (.bool (r.sum == (xss.getD 0 []).sum)) ∧ ∃ n, w' = w.drewN n := by
  obtain ⟨b, off, cap, u0, rfl, hc, hu0, hm⟩ := hX.at 0 hl
  rw [show xss[0] = xss.getD 0 [] by simp [hl]] at hu0
  have D1 := Lib.hid (fun (w : World) (h : IntS w.heap u r) => sumS_c _ r w h (degs_sm hr.1) hr.2)
  have D2 := Lib.hid (fun (w : World) (h : IntS w.heap u0 (xss.getD 0 [])) => sumS_c _ _ w h (degs_sm hx.1) hx.2)
  obtain ⟨a1, c1, rfl, m1⟩ := h.len
  obtain ⟨a2, c2, rfl, m2⟩ := hu0.len
  have HU := Lib.hid h; have HU0 := Lib.hid hu0; have HX := Lib.hid hX
  have hcf := enters_sum
  unfold Enters at hcf
  clear h hu0 hX hr hx
  have e0 : off + 0 = off := rfl
  rw [e0] at hc
  clear e0
  generalize xss.getD 0 [] = s at *
  generalize r.sum = d at *
  generalize s.sum = d' at *
  have hl1 : (0 : Int) < (xss.length : Int) := by omega
  have hl2 : decide (0 < xss.length) = true := by simpa using hl
  go_enter Try.func206, Try.ntmps206
  go_wp2_with fail
  go_quiet ((go_at_call 178; first | ((with_reducible refine quiet_same (D1.out _ ?_)); exact HU.out) | ((with_reducible refine quiet_same (D2.out _ ?_)); exact HU0.out)))
  go_wp2_with fail
  go_ret
  exact ⟨rfl, _, rfl⟩
theorem sameSumK_c (v : Value) (xss : List (List Int)) (w : World) (h : IntSS w.heap v xss) (hE : ∀ r ∈ xss, r.all degB = true ∧ r.length ≤ 1000) :
    Calls Try.prog 177 #[v, .func (.func 178) #[] #[]] w fun e w' => e = .returned (.bool (sumB xss)) ∧ Below w.heap.size w w' := by
  obtain ⟨ao, c, hv, hm⟩ := h.len
  have hb : Below w.heap.size w ((w.alloc (.cells #[v] 36)).alloc (.cells #[.func (.func 178) #[] #[]] 103)) := ((Below.refl _ _).alloc (Nat.le_refl _) _).alloc (by simp) _
  have C := allSS_c v xss 206 #[.pointer (some ⟨w.heap.size + 1, 0, none⟩), .pointer (some ⟨w.heap.size, 0, none⟩)] (fun r => r.sum == (xss.getD 0 []).sum) ((w.alloc (.cells #[v] 36)).alloc (.cells #[.func (.func 178) #[] #[]] 103))
    (h.same hb.block) enters_sameDegree1 (fun w1 hb1 u xs hx hu => by
      have hl : 0 < xss.length := List.length_pos_of_mem hx
      refine (sameSumK1_c u v xs xss (w.heap.size + 1) w.heap.size w1 hu ((h.same hb.block).same hb1.block) ?_ ?_ (hE xs hx) hl (hE _ ?_)).mono fun _ _ ⟨he, n, hn⟩ => ⟨he, by rw [hn]; exact below_drewN n (Below.refl _ _)⟩
      · rw [World.cell?_of_block (hb1.block _ (by simp)), World.cell?]
        simp only [show ∀ (W : World) (o : Obj), W.heap.size = w.heap.size + 1 → (W.alloc o).heap[w.heap.size + 1]? = some o from fun W o hW => by rw [← hW]; exact heap_alloc_new W o, size_alloc_w]
        rfl
      · rw [World.cell?_of_block (hb1.block _ (by simp; omega)), World.cell?]
        rw [alloc_old _ _ _ (by simp), heap_alloc_new]
        rfl
      · rw [show xss.getD 0 [] = xss[0] by simp [hl]]; exact List.getElem_mem _)
  subst hv
  have HC := Lib.hid C; have HB := Lib.hid hb; clear C h hE hb
  unfold sumB
  go_enter Try.func177, Try.ntmps177
  go_wp2_with (go_at_call 97; refine HC.out.mono ?_; rintro e w1 ⟨rfl, hb1⟩)
  go_ret
  exact ⟨rfl, HB.out.trans (hb1.mono HB.out.size)⟩
theorem isPoly_c (k : Int) (v : Value) (xss : List (List Int)) (w : World) (h : IntSS w.heap v xss) :
    Calls Try.prog 140 #[.agg #[.int .i64 k, v]] w fun e w' => e = .returned (.bool (polT k xss)) ∧ Below w.heap.size w w' := by
  have hb : Below w.heap.size w (w.alloc (.cells #[.int .i64 k, v] 82)) := (Below.refl _ _).alloc (Nat.le_refl _) _
  have hA := h.same hb.block
  have V := two_new w (.int .i64 k) v 82
  have A := Lib.hid (allSS_c v xss 182 #[.pointer (some ⟨w.heap.size, 0, none⟩)] (monW k) _ hA enters_isPoly1 (fun w1 hb1 u xs _ hu => isPoly1_c k u xs w.heap.size w1 hu ((hb1.cell (World.block_lt_of_cell? _ _ V.1)).trans V.1)))
  have R := Lib.hid (fun (w : World) (h : IntSS w.heap v xss) => rising_c v xss w h)
  have hS : varB k = true → xss.all (monW k) = true → Hid (∀ (w : World), IntSS w.heap v xss → Calls Try.prog 177 #[v, .func (.func 178) #[] #[]] w fun e w' => e = .returned (.bool (sumB xss)) ∧ Below w.heap.size w w') := fun hv ha => Lib.hid fun w h => sameSumK_c v xss w h fun r hr => by
    have hm := List.all_eq_true.1 ha r hr
    rw [monW_eq hv] at hm
    have hl := monB_len hm
    simp only [varB, Bool.and_eq_true, decide_eq_true_eq] at hv
    exact ⟨monB_all hm, by omega⟩
  have HT : Hid (polT k xss = (varB k && (decide (xss.length ≤ 2000) && (xss.all (monW k) && (ascB xss && sumB xss))))) := polT_W k xss
  have k1 := V.1; have k2 := V.2
  clear V
  obtain ⟨ao, c, rfl, hm⟩ := h.len
  have H := Lib.hid hA; have HB0 := Lib.hid hb; clear h hA hb
  generalize polT k xss = q at *
  generalize hmw : xss.all (monW k) = ab at *
  clear hmw
  have C := Lib.hid (fun (w : World) => isCount_c k w)
  cases hv : varB k
  · rw [hv] at HT C
    obtain rfl : q = false := HT.out
    clear hv hS HT
    go_enter Try.func140, Try.ntmps140
    go_wp2_with (first | (go_at_call 97; refine A.out.mono ?_; rintro e w1 ⟨rfl, hb1⟩; have j1 := (hb1.cell (World.block_lt_of_cell? _ _ k1)).trans k1; have j2 := (hb1.cell (World.block_lt_of_cell? _ _ k2)).trans k2; have HB1 := Lib.hid (HB0.out.trans (hb1.mono HB0.out.size)); clear hb1) | (go_at_call 184; refine (C.out _).mono ?_; rintro e w2 ⟨rfl, rfl⟩))
    go_ret
    exact ⟨rfl, HB1.out⟩
  · have hS := hS hv
    rw [hv] at HT C
    rw [Bool.true_and] at HT
    clear hv
    by_cases hl : xss.length ≤ 2000
    · have t1 : decide (xss.length ≤ 2000) = true := by simpa using hl
      have t2 : decide ((xss.length : Int) ≤ 2000) = true := by simp; omega
      rw [t1, Bool.true_and] at HT
      cases ab
      · obtain rfl : q = false := by have := HT.out; simpa using this
        clear hS HT
        go_enter Try.func140, Try.ntmps140
        go_wp2_with (first | (go_at_call 97; refine A.out.mono ?_; rintro e w1 ⟨rfl, hb1⟩; have j1 := (hb1.cell (World.block_lt_of_cell? _ _ k1)).trans k1; have j2 := (hb1.cell (World.block_lt_of_cell? _ _ k2)).trans k2; have HB1 := Lib.hid (HB0.out.trans (hb1.mono HB0.out.size)); clear hb1) | (go_at_call 184; refine (C.out _).mono ?_; rintro e w2 ⟨rfl, rfl⟩))
        go_ret
        exact ⟨rfl, HB1.out⟩
      · have S := hS rfl
        clear hS
        rw [Bool.true_and] at HT
        cases hr : ascB xss
        · rw [hr] at R HT
          obtain rfl : q = false := by have := HT.out; simpa using this
          clear hr HT
          go_enter Try.func140, Try.ntmps140
          go_wp2_with (first | (go_at_call 97; refine A.out.mono ?_; rintro e w1 ⟨rfl, hb1⟩; have j1 := (hb1.cell (World.block_lt_of_cell? _ _ k1)).trans k1; have j2 := (hb1.cell (World.block_lt_of_cell? _ _ k2)).trans k2; have HB1 := Lib.hid (HB0.out.trans (hb1.mono HB0.out.size)); have H1 := Lib.hid (H.out.same hb1.block); clear hb1) | (go_at_call 184; refine (C.out _).mono ?_; rintro e w2 ⟨rfl, rfl⟩) | (go_at_call 99; refine (R.out _ H1.out).mono ?_; rintro e w3 ⟨rfl, n, rfl⟩))
          go_ret
          exact ⟨rfl, below_drewN n HB1.out⟩
        · rw [hr] at R HT
          rw [Bool.true_and] at HT
          clear hr
          generalize sumB xss = sb at *
          obtain rfl : q = sb := HT.out
          clear HT
          go_enter Try.func140, Try.ntmps140
          go_wp2_with (first | (go_at_call 97; refine A.out.mono ?_; rintro e w1 ⟨rfl, hb1⟩; have j1 := (hb1.cell (World.block_lt_of_cell? _ _ k1)).trans k1; have j2 := (hb1.cell (World.block_lt_of_cell? _ _ k2)).trans k2; have HB1 := Lib.hid (HB0.out.trans (hb1.mono HB0.out.size)); have H1 := Lib.hid (H.out.same hb1.block); clear hb1) | (go_at_call 184; refine (C.out _).mono ?_; rintro e w2 ⟨rfl, rfl⟩) | (go_at_call 99; refine (R.out _ H1.out).mono ?_; rintro e w3 ⟨rfl, n, rfl⟩; have HB2 := Lib.hid (below_drewN n HB1.out); have H2 : Hid (IntSS (w1.drewN n).heap (.slice ao xss.length c) xss) := H1.out) | (go_at_call 177; refine (S.out _ H2.out).mono ?_; rintro e w4 ⟨rfl, hb4⟩; have HB4 := Lib.hid (HB2.out.trans (hb4.mono HB2.out.size)); clear hb4))
          go_ret
          exact ⟨rfl, HB4.out⟩
    · have t1 : decide (xss.length ≤ 2000) = false := by simpa using hl
      have t2 : decide ((xss.length : Int) ≤ 2000) = false := by simp; omega
      rw [t1] at HT
      obtain rfl : q = false := by have := HT.out; simpa using this
      clear hS HT hl
      go_enter Try.func140, Try.ntmps140
      go_wp2_with (first | (go_at_call 97; refine A.out.mono ?_; rintro e w1 ⟨rfl, hb1⟩; have j1 := (hb1.cell (World.block_lt_of_cell? _ _ k1)).trans k1; have j2 := (hb1.cell (World.block_lt_of_cell? _ _ k2)).trans k2; have HB1 := Lib.hid (HB0.out.trans (hb1.mono HB0.out.size)); clear hb1) | (go_at_call 184; refine (C.out _).mono ?_; rintro e w2 ⟨rfl, rfl⟩))
      go_ret
      exact ⟨rfl, HB1.out⟩
end Go.Proofs.Ytljfpkhgijangaa

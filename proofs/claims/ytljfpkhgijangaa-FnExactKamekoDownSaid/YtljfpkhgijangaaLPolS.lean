/- IsPoly of the reference (l08Is). -/
import Derived.Test.YtljfpkhgijangaaLPol
namespace Go.Proofs.Ytljfpkhgijangaa
open Go.RowKit Go.Sort

theorem monB_no (k : Int) (r : List Int) (q : Nat) (hq : q < r.length) (h : degB r[q] = false) : monB k r = false := by
  cases e : monB k r
  · rfl
  · have := List.all_eq_true.1 (monB_all e) _ (List.getElem_mem hq)
    rw [h] at this; cases this
theorem all_deg (r : List Int) (h : ∀ j, j < r.length → degB (r.getD j 0) = true) : r.all degB = true := by
  rw [List.all_eq_true]
  intro x hx
  obtain ⟨j, hj, rfl⟩ := List.getElem_of_mem hx
  have := h j hj
  simpa [hj] using this
theorem polT_yes (k : Int) (xss : List (List Int)) (h0 : varB k = true) (h1 : xss.length ≤ 2000) (h2 : ascB xss = true) (h3 : ∀ j, j < xss.length → monB k (xss.getD j []) = true ∧ (xss.getD j []).sum = (xss.getD 0 []).sum) : polT k xss = true := by
  simp only [polT, sumB, h0, h2, h1, decide_true, Bool.true_and, Bool.and_eq_true, List.all_eq_true]
  constructor
  · intro r hr
    obtain ⟨j, hj, rfl⟩ := List.getElem_of_mem hr
    have := (h3 j hj).1
    simpa [hj] using this
  · intro r hr
    obtain ⟨j, hj, rfl⟩ := List.getElem_of_mem hr
    have := (h3 j hj).2
    rw [show xss.getD j [] = xss[j] by simp [hj]] at this
    simpa using this
theorem polT_no (k : Int) (xss : List (List Int)) (j : Nat) (hj : j < xss.length) (h : monB k (xss.getD j []) = false ∨ (xss.getD j []).sum ≠ (xss.getD 0 []).sum) : polT k xss = false := by
  cases e : polT k xss
  · rfl
  · have hm : xss.getD j [] ∈ xss := by rw [show xss.getD j [] = xss[j] by simp [hj]]; exact List.getElem_mem _
    simp only [polT, sumB, Bool.and_eq_true, List.all_eq_true, beq_iff_eq] at e
    have h1 := e.2.2.1 _ hm
    rcases h with h | h
    · rw [h1] at h; cases h
    · exact absurd (e.2.2.2.2 _ hm) h
set_option maxRecDepth 100000 in
set_option maxHeartbeats 1000000 in
theorem l08Is_c (n : Int) (v : Value) (xss : List (List Int)) (w : World) (h : IntSS w.heap v xss) :
    Calls Try.prog 139 #[.agg #[.int .i64 n, v]] w fun e w' => e = .returned (.bool (polT n xss)) ∧ Below w.heap.size w w' := by
  have hb : Below w.heap.size w (w.alloc (.cells #[.int .i64 n, v] 82)) := (Below.refl _ _).alloc (Nat.le_refl _) _
  have hA := h.same hb.block
  have V := two_new w (.int .i64 n) v 82
  have C := Lib.hid (l01Ascending_c v xss _ hA)
  have LI : Hid (∀ W, Calls Try.prog 76 #[.int .i64 n, .int .i64 1, .int .i64 4] W fun e w' => e = .returned (.bool (varB n)) ∧ W = w') := fun W => l01In_c n 1 4 W
  obtain ⟨ao, c, rfl, hm⟩ := h.len
  have H := Lib.hid hA
  have HB := Lib.hid hb; clear hb h hA
  have k1 := V.1; have k2 := V.2
  have HV := Lib.hid V
  clear V
  cases hv : varB n
  · have HR : Hid (polT n xss = false) := by show _ = _; simp [polT, hv]
    rw [hv] at LI
    clear hv C
    go_enter Try.func139, Try.ntmps139
    go_wp2_with (go_at_call 76; refine (LI.out _).mono ?_; rintro e w1 ⟨rfl, rfl⟩)
    go_ret
    exact ⟨by rw [HR.out]; rfl, HB.out⟩
  · by_cases hl : xss.length ≤ 2000
    · have t1 : decide (2000 < xss.length) = false := by simp; omega
      have t1b : decide ((2000 : Int) < (xss.length : Int)) = false := by simp; omega
      cases ha : ascB xss
      · have HR : Hid (polT n xss = false) := by show _ = _; simp [polT, ha]
        rw [ha] at C; rw [hv] at LI
        clear ha hv
        go_enter Try.func139, Try.ntmps139
        go_wp2_with (first | (go_at_call 76; refine (LI.out _).mono ?_; rintro e w1 ⟨rfl, rfl⟩) | (go_at_call 154; refine C.out.mono ?_; rintro e w1 ⟨rfl, nn, rfl⟩))
        go_ret
        exact ⟨by rw [HR.out]; rfl, below_drewN nn HB.out⟩
      · rw [ha] at C; rw [hv] at LI
        have HY := Lib.hid (polT_yes n xss hv hl ha)
        have HVV : Hid (1 ≤ n ∧ n ≤ 4) := by simp only [varB, Bool.and_eq_true, decide_eq_true_eq] at hv; exact hv
        clear ha hv
        go_enter Try.func139, Try.ntmps139
        go_wp2_with (first | (go_at_call 76; refine (LI.out _).mono ?_; rintro e w1 ⟨rfl, rfl⟩) | (go_at_call 154; refine C.out.mono ?_; rintro e w1 ⟨rfl, nn, rfl⟩))
        obtain ⟨W0, hW0⟩ : ∃ W0, W0 = w.alloc (.cells #[.int .i64 n, .slice ao xss.length c] 82) := ⟨_, rfl⟩
        have HB00 : Hid (Below w.heap.size w W0) := by show Below _ _ _; rw [hW0]; exact HB.out
        have H00 : Hid (IntSS W0.heap (.slice ao xss.length c) xss) := by show IntSS _ _ _; rw [hW0]; exact H.out
        have HV00 : Hid (W0.cell? ⟨w.heap.size, 0, none⟩ = some (.int .i64 n) ∧ W0.cell? ⟨w.heap.size, 1, none⟩ = some (.slice ao xss.length c)) := by show _ ∧ _; rw [hW0]; exact HV.out
        rw [← hW0]
        clear hW0 k1 k2 H HB HV C LI
        go_loopw [3] (fun i wr => ∃ k : Nat, k ≤ xss.length ∧ i = .int .i64 k ∧ Below W0.heap.size W0 wr ∧ Hid (∀ j, j < k → monB n (xss.getD j []) = true ∧ (xss.getD j []).sum = (xss.getD 0 []).sum)) (fun i _ => xss.length - (intOf i).toNat)
        case atStart => exact ⟨0, Nat.zero_le _, rfl, below_drewN nn (Below.refl _ _), fun j hj => absurd hj (Nat.not_lt_zero _)⟩
        case round =>
          obtain ⟨k, hk, rfl, hbl, hp⟩ := hrel
          have k1 := (hbl.cell (World.block_lt_of_cell? _ _ HV00.out.1)).trans HV00.out.1
          have k2 := (hbl.cell (World.block_lt_of_cell? _ _ HV00.out.2)).trans HV00.out.2
          have HX := Lib.hid (H00.out.same hbl.block)
          have HBL := Lib.hid hbl
          clear hbl
          by_cases hlt : k < xss.length
          · obtain ⟨b1, o1, c1, u1, hv1, hc1, hu1, -⟩ := HX.out.at k hlt
            obtain ⟨b2, o2, c2, u2, hv2, hc2, hu2, -⟩ := HX.out.at 0 (by omega)
            simp only [Value.slice.injEq, true_and] at hv1 hv2
            obtain ⟨rfl, rfl⟩ := hv1
            obtain ⟨hv2, -⟩ := hv2
            simp only [Option.some.injEq, Addr.mk.injEq, and_true] at hv2
            obtain ⟨rfl, rfl⟩ := hv2
            rw [show xss[k] = xss.getD k [] by simp [hlt]] at hu1
            rw [show xss[0] = xss.getD 0 [] by simp [show 0 < xss.length by omega]] at hu2
            have e0 : o1 + 0 = o1 := rfl
            rw [e0] at hc2
            clear e0
            have HN := Lib.hid (polT_no n xss k hlt)
            have HP2 : Hid (monB n (xss.getD k []) = true → (xss.getD k []).sum = (xss.getD 0 []).sum → ∀ j, j < k + 1 → monB n (xss.getD j []) = true ∧ (xss.getD j []).sum = (xss.getD 0 []).sum) := fun h1 h2 j hj => by
              by_cases e : j = k
              · subst e; exact ⟨h1, h2⟩
              · exact hp.out j (by omega)
            have H0 : Hid (monB n (xss.getD k []) = true → monB n (xss.getD 0 []) = true) := fun h => by
              by_cases e : k = 0
              · subst e; exact h
              · exact (hp.out 0 (by omega)).1
            obtain ⟨a1, d1, rfl, m1⟩ := hu1.len
            obtain ⟨a2, d2, rfl, m2⟩ := hu2.len
            have HU1 := Lib.hid hu1; have HU2 := Lib.hid hu2
            clear hu1 hu2 hp
            have hz : decide (0 < xss.length) = true := by simp; omega
            generalize xss.getD k [] = xs at *
            generalize xss.getD 0 [] = ys at *
            by_cases hxl : (xs.length : Int) = n
            · have t3 := (eqB hxl).2
              go_wp2_with fail
              go_quiet (fail)
              have HX2 : Hid (xs.length ≤ 4) := by show _ ≤ _; have := HVV.out; omega
              go_wp2_with fail
              go_loop [4] (fun q => ∃ m : Nat, m ≤ xs.length ∧ q = .int .i64 m ∧ Hid (∀ p, p < m → degB (xs.getD p 0) = true)) (fun q => xs.length - (intOf q).toNat)
              case atStart => exact ⟨0, Nat.zero_le _, rfl, fun j hj => absurd hj (Nat.not_lt_zero _)⟩
              case round =>
                obtain ⟨m, hm2, rfl, hd⟩ := hrel
                by_cases hmlt : m < xs.length
                · obtain ⟨b3, o3, c3, hv3, hc3, -⟩ := HU1.out.at m hmlt
                  simp only [Value.slice.injEq, true_and] at hv3
                  obtain ⟨rfl, rfl⟩ := hv3
                  have HND := Lib.hid (fun (h : degB xs[m] = false) => HN.out (.inl (monB_no n xs m hmlt h)))
                  have HDS : Hid (degB xs[m] = true → ∀ p, p < m + 1 → degB (xs.getD p 0) = true) := fun h p hp => by
                    by_cases e : p = m
                    · subst e; simpa [hmlt] using h
                    · exact hd.out p (by omega)
                  have LD : Hid (∀ W, Calls Try.prog 76 #[.int .i64 xs[m], .int .i64 0, .int .i64 40] W fun e w' => e = .returned (.bool (degB xs[m])) ∧ W = w') := fun W => l01In_c xs[m] 0 40 W
                  clear hd
                  generalize xs[m] = x at *
                  cases hdx : degB x
                  · have HR : Hid (polT n xss = false) := HND.out hdx
                    rw [hdx] at LD
                    clear hdx HND HDS
                    go_wp2_with (go_at_call 76; refine (LD.out _).mono ?_; rintro e w3 ⟨rfl, rfl⟩)
                    go_ret
                    exact ⟨by rw [HR.out]; rfl, HB00.out.trans ((below_drewN _ HBL.out).mono HB00.out.size)⟩
                  · have HD2 := Lib.hid (HDS.out hdx)
                    rw [hdx] at LD
                    clear hdx HND HDS
                    go_wp2_with (go_at_call 76; refine (LD.out _).mono ?_; rintro e w3 ⟨rfl, rfl⟩)
                    go_round
                    case rel => exact ⟨m + 1, by omega, by go_num, HD2⟩
                    case measure => simp [intOf]; omega
                · obtain rfl : m = xs.length := by omega
                  have ha := all_deg xs hd.out
                  have HS : monB n xs = decide (xs.sum ≤ 40) := by unfold monB; rw [(eqB hxl).1, ha]; rfl
                  have D1 := Lib.hid (fun (w : World) (h : IntS w.heap (.slice a1 xs.length d1) xs) => l03Degree_c _ xs w h (degs_sm ha) (by have := HX2.out; omega))
                  clear hd ha
                  by_cases h40 : xs.sum ≤ 40
                  · have hmon : monB n xs = true := by rw [HS]; simpa using h40
                    have HP3 := Lib.hid (HP2.out hmon)
                    have hmy := H0.out hmon
                    have D2 := Lib.hid (fun (w : World) (h : IntS w.heap (.slice a2 ys.length d2) ys) => l03Degree_c _ ys w h (degs_sm (monB_all hmy)) (by have := monB_len hmy; have := HVV.out; omega))
                    clear hmon hmy HS HP2 H0
                    generalize hd1 : xs.sum = d at *
                    generalize hd2 : ys.sum = d' at *
                    have HD2 := Lib.hid hd2
                    clear hd1 hd2
                    have t40 : decide (40 < d) = false := by simp; omega
                    by_cases hdd : d = d'
                    · have HH := Lib.hid (HP3.out hdd)
                      have t5 := (eqB hdd).2
                      clear hdd
                      go_wp2_with (go_at_call 173; first | ((with_reducible refine Calls.mono (D1.out _ ?_) ?_); (exact HU1.out); (rintro e w3 ⟨rfl, rfl⟩)) | ((with_reducible refine Calls.mono (D2.out _ ?_) ?_); (exact HU2.out); (rintro e w3 ⟨rfl, rfl⟩)))
                      go_roundw
                      case rel => exact ⟨k + 1, by omega, by go_num, below_drewN _ HBL.out, by rw [HD2.out]; exact HH⟩
                      case measure => simp [intOf]; omega
                    · have HR : Hid (polT n xss = false) := HN.out (.inr hdd)
                      have t5 := (neB hdd).2
                      clear hdd
                      go_wp2_with (go_at_call 173; first | ((with_reducible refine Calls.mono (D1.out _ ?_) ?_); (exact HU1.out); (rintro e w3 ⟨rfl, rfl⟩)) | ((with_reducible refine Calls.mono (D2.out _ ?_) ?_); (exact HU2.out); (rintro e w3 ⟨rfl, rfl⟩)))
                      go_ret
                      exact ⟨by rw [HR.out]; rfl, HB00.out.trans ((below_drewN _ HBL.out).mono HB00.out.size)⟩
                  · have HR : Hid (polT n xss = false) := HN.out (.inl (by rw [HS]; simpa using h40))
                    have t40 : decide (40 < xs.sum) = true := by simp; omega
                    clear HS HN HP2 H0
                    generalize xs.sum = d at *
                    go_wp2_with (go_at_call 173; (refine (D1.out _ (by exact HU1.out)).mono ?_; rintro e w3 ⟨rfl, rfl⟩))
                    go_ret
                    exact ⟨by rw [HR.out]; rfl, HB00.out.trans ((below_drewN _ HBL.out).mono HB00.out.size)⟩
            · have HR : Hid (polT n xss = false) := HN.out (.inl (by unfold monB; rw [(neB hxl).1]; rfl))
              have t3 := (neB hxl).2
              go_wp2_with fail
              go_quiet (fail)
              go_wp2_with fail
              go_ret
              exact ⟨by rw [HR.out]; rfl, HB00.out.trans ((below_drewN _ HBL.out).mono HB00.out.size)⟩
          · obtain rfl : k = xss.length := by omega
            have HR : Hid (polT n xss = true) := HY.out hp.out
            go_wp2_with fail
            go_ret
            exact ⟨by rw [HR.out]; rfl, HB00.out.trans (HBL.out.mono HB00.out.size)⟩
    · have t1 : decide (2000 < xss.length) = true := by simp; omega
      have t1b : decide ((2000 : Int) < (xss.length : Int)) = true := by simp; omega
      have HR : Hid (polT n xss = false) := by show _ = _; simp [polT, hl]
      rw [hv] at LI
      clear hv C hl
      go_enter Try.func139, Try.ntmps139
      go_wp2_with (go_at_call 76; refine (LI.out _).mono ?_; rintro e w1 ⟨rfl, rfl⟩)
      go_ret
      exact ⟨by rw [HR.out]; rfl, HB.out⟩
end Go.Proofs.Ytljfpkhgijangaa

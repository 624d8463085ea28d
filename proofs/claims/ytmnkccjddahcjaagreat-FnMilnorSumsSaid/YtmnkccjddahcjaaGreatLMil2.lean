/- Looking up a list among terms; pairings. -/
import Derived.Test.YtmnkccjddahcjaaGreatLMil
namespace Go.Proofs.YtmnkccjddahcjaaGreat
open Go.RowKit Go.Sort

theorem l06Is_c (v : Value) (xss : List (List Int)) (w : World) (h : IntSS w.heap v xss) :
    Calls Tryz.prog 98 #[.agg #[v]] w fun e w' => e = .returned (.bool (arT xss)) ∧ Below w.heap.size w w' := by
  have hb : Below w.heap.size w (w.alloc (.cells #[v] 28)) := (Below.refl _ _).alloc (Nat.le_refl _) _
  have HC := Lib.hid (l04Is_c v xss _ (h.same hb.block))
  obtain ⟨ao, c, rfl, hm⟩ := h.len
  have HB := Lib.hid hb; clear hb h
  go_enter Tryz.func98, Tryz.ntmps98
  go_wp2_with (go_at_call 97; refine HC.out.mono ?_; rintro e w1 ⟨rfl, hb1⟩)
  go_ret
  exact ⟨rfl, HB.out.trans (hb1.mono HB.out.size)⟩
/-- The place of a list among lists, or -1. -/
def placeL (xss : List (List Int)) (xs : List Int) : Int := if xs ∈ xss then (xss.idxOf xs : Int) else -1
theorem placeL_in {xss : List (List Int)} {xs : List Int} (h : xs ∈ xss) : 0 ≤ placeL xss xs ∧ placeL xss xs < xss.length := by
  rw [placeL, if_pos h]; have := List.idxOf_lt_length_of_mem h; omega
theorem placeL_out {xss : List (List Int)} {xs : List Int} (h : xs ∉ xss) : placeL xss xs = -1 := by rw [placeL, if_neg h]
theorem placeL_at {xss : List (List Int)} {xs : List Int} (k : Nat) (hk : k < xss.length) (h1 : xss.getD k [] = xs) (h2 : ∀ j, j < k → xss.getD j [] ≠ xs) : placeL xss xs = k := by
  have hm : xs ∈ xss := by rw [← h1, show xss.getD k [] = xss[k] by simp [hk]]; exact List.getElem_mem _
  rw [placeL, if_pos hm]
  have hlt := List.idxOf_lt_length_of_mem hm
  have hge : ¬ xss.idxOf xs < k := fun hlt2 => h2 _ hlt2 (by
    simp [hlt])
  have hle : ¬ k < xss.idxOf xs := fun hlt2 => by
    have := List.not_of_lt_findIdx (p := (· == xs)) (xs := xss) (i := k) hlt2
    rw [show xss.getD k [] = xss[k] by simp [hk]] at h1
    simp [h1] at this
  omega
theorem l01Place_c (v u : Value) (xss : List (List Int)) (xs : List Int) (w : World) (h : IntSS w.heap v xss) (hu : IntS w.heap u xs) :
    Calls Tryz.prog 100 #[v, u] w fun e w' => e = .returned (.int .i64 (placeL xss xs)) ∧ ∃ n, w' = w.drewN n := by
  obtain ⟨ao, c, rfl, hm⟩ := h.len
  obtain ⟨bo, d, rfl, hn⟩ := hu.len
  have H := Lib.hid h; have HU := Lib.hid hu; clear h hu
  go_enter Tryz.func100, Tryz.ntmps100
  go_wp2_with fail
  go_loopw [5] (fun i wr => ∃ k n : Nat, k ≤ xss.length ∧ i = .int .i64 k ∧ wr = w.drewN n ∧ Hid (∀ j, j < k → xss.getD j [] ≠ xs)) (fun i _ => xss.length - (intOf i).toNat)
  case atStart => exact ⟨0, 0, Nat.zero_le _, rfl, rfl, fun j hj => absurd hj (Nat.not_lt_zero _)⟩
  case round =>
    obtain ⟨k, n, hk, rfl, rfl, hp⟩ := hrel
    by_cases hlt : k < xss.length
    · obtain ⟨b1, o1, c1, u1, hv1, hc1, hu1, -⟩ := H.out.at k hlt
      simp only [Value.slice.injEq, true_and] at hv1
      obtain ⟨rfl, rfl⟩ := hv1
      rw [show xss[k] = xss.getD k [] by simp [hlt]] at hu1
      obtain ⟨ra, rc, rfl, -⟩ := hu1.len
      have S := Lib.hid (l01Same_c _ _ _ _ (w.drewN n) (by exact hu1) (by exact HU.out))
      have HU1 := Lib.hid hu1; clear hu1
      by_cases he : xss.getD k [] = xs
      · have HP := Lib.hid (placeL_at k hlt he hp.out)
        rw [decide_eq_true he] at S
        clear he
        generalize xss.getD k [] = ys at *
        go_wp2_with (go_at_call 180; refine S.out.mono ?_; rintro e w1 ⟨rfl, m, rfl⟩)
        go_ret
        exact ⟨by rw [HP.out]; rfl, _, by first | rfl | (simp only [World.drewN_drewN]; rfl)⟩
      · have HP : Hid (∀ j, j < k + 1 → xss.getD j [] ≠ xs) := fun j hj => by
          by_cases e : j = k
          · subst e; exact he
          · exact hp.out j (by omega)
        rw [decide_eq_false he] at S
        clear he
        generalize xss.getD k [] = ys at *
        go_wp2_with (go_at_call 180; refine S.out.mono ?_; rintro e w1 ⟨rfl, m, rfl⟩)
        go_roundw
        case rel => exact ⟨k + 1, _, by omega, by go_num, rfl, HP⟩
        case measure => simp [intOf]; omega
    · obtain rfl : k = xss.length := by omega
      have HP : Hid (placeL xss xs = -1) := placeL_out fun hm => by
        obtain ⟨j, hj, e⟩ := List.getElem_of_mem hm
        exact hp.out j hj (by simpa [hj] using e)
      go_wp2_with fail
      go_ret
      exact ⟨by rw [HP.out]; rfl, _, rfl⟩
theorem enters_compare : Enters Tryz.prog 187 := fun args w => by kernel_rfl
theorem asc_getD {xss : List (List Int)} (h : Asc xss) (i j : Nat) (hij : i < j) (hj : j < xss.length) : ltL (xss.getD i []) (xss.getD j []) = true := by
  rw [show xss.getD i [] = xss[i] by simp [show i < xss.length by omega], show xss.getD j [] = xss[j] by simp [hj]]
  exact List.pairwise_iff_getElem.1 h i j _ _ hij
theorem binarySearch_c (v u : Value) (xss : List (List Int)) (xs : List Int) (w : World) (h : IntSS w.heap v xss) (hu : IntS w.heap u xs) (ha : Asc xss) (hlen : xss.length ≤ 4611686018427387904) :
    Calls Tryz.prog 186 #[v, u, .func (.func 187) #[] #[]] w fun e w' => (∃ i : Int, e = .returned (.tuple #[.int .i64 i, .bool (decide (xs ∈ xss))])) ∧ w = w' := by
  obtain ⟨ao, c, rfl, hm⟩ := h.len
  obtain ⟨bo, d, rfl, hn⟩ := hu.len
  have H := Lib.hid h; have HU := Lib.hid hu; have HA := Lib.hid ha; clear h hu ha
  have hcf := enters_compare
  unfold Enters at hcf
  go_enter Tryz.func186, Tryz.ntmps186
  go_wp2_with fail
  go_loop [9, 10] (fun i j => ∃ a b : Nat, a ≤ b ∧ b ≤ xss.length ∧ i = .int .i64 a ∧ j = .int .i64 b ∧ Hid ((∀ t, t < a → ltL (xss.getD t []) xs = true) ∧ (∀ t, b ≤ t → t < xss.length → ltL (xss.getD t []) xs = false))) (fun i j => (intOf j).toNat - (intOf i).toNat)
  case atStart => exact ⟨0, xss.length, Nat.zero_le _, Nat.le_refl _, rfl, rfl, fun t ht => absurd ht (Nat.not_lt_zero _), fun t h1 h2 => by omega⟩
  case round =>
    obtain ⟨a, b, hab, hbl, rfl, rfl, hp⟩ := hrel
    by_cases hlt : a < b
    · obtain ⟨m, hmd⟩ : ∃ m : Nat, m = (a + b) / 2 := ⟨_, rfl⟩
      have hm1 : a ≤ m := by omega
      have hm2 : m < b := by omega
      have hsm : ((a : Int) + (b : Int)) / 2 = m := by omega
      obtain ⟨b1, o1, c1, u1, hv1, hc1, hu1, -⟩ := H.out.at m (by omega)
      simp only [Value.slice.injEq, true_and] at hv1
      obtain ⟨rfl, rfl⟩ := hv1
      rw [show xss[m] = xss.getD m [] by simp [show m < xss.length by omega]] at hu1
      obtain ⟨ra, rc, rfl, -⟩ := hu1.len
      have S := Lib.hid (compare_c _ _ _ _ w hu1 HU.out)
      clear hu1 hmd
      cases hL : ltL (xss.getD m []) xs
      · have hq0 : 0 ≤ cmpL (xss.getD m []) xs := by have := cmpL_ge (xss.getD m []) xs; rw [hL] at this; simpa using this
        have t1 : decide (cmpL (xss.getD m []) xs < 0) = false := decide_eq_false (by omega)
        have HP : Hid ((∀ t, t < a → ltL (xss.getD t []) xs = true) ∧ (∀ t, m ≤ t → t < xss.length → ltL (xss.getD t []) xs = false)) := by
          refine ⟨hp.out.1, fun t h1 h2 => ?_⟩
          by_cases e : t = m
          · subst e; exact hL
          · cases hc : ltL (xss.getD t []) xs
            · rfl
            · rw [ltL_trans _ _ _ (asc_getD HA.out m t (by omega) h2) hc] at hL; cases hL
        clear hL
        generalize cmpL (xss.getD m []) xs = q at *
        generalize xss.getD m [] = ys at *
        go_wp2_with (go_at_call 187; refine S.out.mono ?_; rintro e w1 ⟨rfl, rfl⟩)
        go_round
        case rel => exact ⟨a, m, hm1, by omega, rfl, rfl, HP⟩
        case measure => simp [intOf]; omega
      · have hq0 : cmpL (xss.getD m []) xs = -1 := by unfold cmpL; rw [hL]; rfl
        have HP : Hid ((∀ t, t < m + 1 → ltL (xss.getD t []) xs = true) ∧ (∀ t, b ≤ t → t < xss.length → ltL (xss.getD t []) xs = false)) := by
          refine ⟨fun t h1 => ?_, hp.out.2⟩
          by_cases e : t = m
          · subst e; exact hL
          · exact ltL_trans _ _ _ (asc_getD HA.out t m (by omega) (by omega)) hL
        rw [hq0] at S
        clear hL hq0
        generalize xss.getD m [] = ys at *
        go_wp2_with (go_at_call 187; refine S.out.mono ?_; rintro e w1 ⟨rfl, rfl⟩)
        go_round
        case rel => exact ⟨m + 1, b, by omega, hbl, by go_num, rfl, HP⟩
        case measure => simp [intOf]; omega
    · obtain rfl : a = b := by omega
      by_cases hin : a < xss.length
      · obtain ⟨b1, o1, c1, u1, hv1, hc1, hu1, -⟩ := H.out.at a hin
        simp only [Value.slice.injEq, true_and] at hv1
        obtain ⟨rfl, rfl⟩ := hv1
        rw [show xss[a] = xss.getD a [] by simp [hin]] at hu1
        obtain ⟨ra, rc, rfl, -⟩ := hu1.len
        have S := Lib.hid (compare_c _ _ _ _ w hu1 HU.out)
        have HM : Hid ((cmpL (xss.getD a []) xs == 0) = decide (xs ∈ xss)) := by
          show _ = _
          by_cases e : xss.getD a [] = xs
          · rw [(cmpL_zero _ _).2 e]
            have : xs ∈ xss := by rw [← e, show xss.getD a [] = xss[a] by simp [hin]]; exact List.getElem_mem _
            rw [decide_eq_true this]; rfl
          · have hn : xs ∉ xss := fun hm => by
              obtain ⟨t, ht, e2⟩ := List.getElem_of_mem hm
              have e3 : xss.getD t [] = xs := by simpa [ht] using e2
              rcases Nat.lt_trichotomy t a with h | h | h
              · have := hp.out.1 t h; rw [e3, ltL_irrefl] at this; cases this
              · subst h; exact e e3
              · have h1 := asc_getD HA.out a t h ht
                rw [e3, hp.out.2 a (Nat.le_refl _) hin] at h1; cases h1
            have h0 : cmpL (xss.getD a []) xs ≠ 0 := fun h => e ((cmpL_zero _ _).1 h)
            rw [(neB h0).1, decide_eq_false hn]
        clear hu1
        generalize cmpL (xss.getD a []) xs = q at *
        generalize xss.getD a [] = ys at *
        have t2 : decide (a < xss.length) = true := by simpa using hin
        go_wp2_with (go_at_call 187; refine S.out.mono ?_; rintro e w1 ⟨rfl, rfl⟩)
        go_ret2
        exact ⟨⟨_, by rw [← HM.out]; rfl⟩, rfl⟩
      · obtain rfl : a = xss.length := by omega
        have HM : Hid (decide (xs ∈ xss) = false) := by
          show _ = _
          simp only [decide_eq_false_iff_not]
          intro hm
          obtain ⟨t, ht, e2⟩ := List.getElem_of_mem hm
          have e3 : xss.getD t [] = xs := by simpa [ht] using e2
          have := hp.out.1 t ht; rw [e3, ltL_irrefl] at this; cases this
        have t2 : decide (xss.length < xss.length) = false := by simp
        go_wp2_with fail
        go_ret2
        exact ⟨⟨_, by rw [HM.out]; rfl⟩, rfl⟩
theorem hasTerm_c (v u : Value) (xss : List (List Int)) (xs : List Int) (w : World) (h : IntSS w.heap v xss) (hu : IntS w.heap u xs) (ha : Asc xss) (hlen : xss.length ≤ 4611686018427387904) :
    Calls Tryz.prog 106 #[v, u] w fun e w' => e = .returned (.bool (decide (xs ∈ xss))) ∧ w = w' := by
  have B := Lib.hid (binarySearch_c v u xss xs w h hu ha hlen)
  obtain ⟨ao, c, rfl, hm⟩ := h.len
  obtain ⟨bo, d, rfl, hn⟩ := hu.len
  clear h hu ha
  generalize decide (xs ∈ xss) = r at *
  go_enter Tryz.func106, Tryz.ntmps106
  go_wp2_with (go_at_call 186; refine B.out.mono ?_; rintro e w1 ⟨⟨i, rfl⟩, rfl⟩)
  go_ret
  exact ⟨rfl, rfl⟩
end Go.Proofs.YtmnkccjddahcjaaGreat

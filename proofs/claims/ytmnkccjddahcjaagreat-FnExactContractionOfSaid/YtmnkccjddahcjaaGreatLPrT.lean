/- l06Before, l01Same2: of the reference. -/
import Derived.Test.YtmnkccjddahcjaaGreatLPrM
import Derived.Test.YtmnkccjddahcjaaGreatLSum
namespace Go.Proofs.YtmnkccjddahcjaaGreat
open Go.RowKit Go.Sort

theorem ltL_pairs {a c : List Int} (b d : List Int) (ha : ∀ x ∈ a, 0 ≤ x) (hc : ∀ x ∈ c, 0 ≤ x) : ltL (encP [a, b]) (encP [c, d]) = if a = c then ltL b d else ltL a c := by
  rw [encP_pair, encP_pair, ltL_enc _ _ _ _ ha hc]
  by_cases e : a = c
  · subst e; rw [if_pos rfl, ltL_irrefl]; simp
  · rw [if_neg e]
    cases h1 : ltL a c
    · cases h2 : ltL c a
      · exact absurd (ltL_total _ _ h1 h2) e
      · simp
    · simp
set_option maxRecDepth 100000 in
theorem l06Before_c (u v : Value) (p q : List (List Int)) (w : World) (h1 : IntSS w.heap u p) (h2 : IntSS w.heap v q) (hp : IsPr p) (hq : IsPr q) :
    Calls Tryz.prog 225 #[u, v] w fun e w' => e = .returned (.bool (ltL (encP p) (encP q))) ∧ ∃ n, w' = w.drewN n := by
  obtain ⟨a, b, rfl, ha⟩ := hp
  obtain ⟨c, d, rfl, hc⟩ := hq
  rw [ltL_pairs b d ha hc]
  obtain ⟨g1, f1, d1, xa, xc, ya, yc, rfl, k1, k2, i1, i2⟩ := h1.two
  obtain ⟨g2, f2, d2, za, zc, sa, sc, rfl, k3, k4, i3, i4⟩ := h2.two
  have I1 := Lib.hid i1; have I2 := Lib.hid i2; have I3 := Lib.hid i3; have I4 := Lib.hid i4
  have SM := Lib.hid (fun (W : World) (h : IntS W.heap (.slice xa a.length xc) a) (h2 : IntS W.heap (.slice za c.length zc) c) => l01Same_c _ _ a c W h h2)
  have LS1 := Lib.hid (fun (W : World) (h : IntS W.heap (.slice xa a.length xc) a) (h2 : IntS W.heap (.slice za c.length zc) c) => l01Less_c _ _ a c W h h2)
  have LS2 := Lib.hid (fun (W : World) (h : IntS W.heap (.slice ya b.length yc) b) (h2 : IntS W.heap (.slice sa d.length sc) d) => l01Less_c _ _ b d W h h2)
  clear h1 h2 i1 i2 i3 i4 ha hc
  by_cases e : a = c
  · rw [if_pos e]
    rw [show decide (a = c) = true from decide_eq_true e] at SM
    clear e LS1
    generalize ltL b d = lt at *
    go_enter Tryz.func225, Tryz.ntmps225
    go_wp2_with fail
    go_quiet ((go_at_call 180; first | exact quiet_behind (SM.out _ (by exact I1.out) (by exact I3.out)) | exact quiet_at (SM.out _ (by exact I1.out) (by exact I3.out)) | exact SM.out _ (by exact I1.out) (by exact I3.out)))
    go_wp2_with fail
    go_quiet ((go_at_call 181; first | exact quiet_behind (LS2.out _ (by exact I2.out) (by exact I4.out)) | exact quiet_at (LS2.out _ (by exact I2.out) (by exact I4.out)) | exact LS2.out _ (by exact I2.out) (by exact I4.out)))
    go_wp2_with fail
    go_ret
    exact ⟨rfl, _, by first | rfl | (simp only [World.drewN_drewN]; rfl)⟩
  · rw [if_neg e]
    rw [show decide (a = c) = false from decide_eq_false e] at SM
    clear e LS2
    generalize ltL a c = lt at *
    go_enter Tryz.func225, Tryz.ntmps225
    go_wp2_with fail
    go_quiet ((go_at_call 180; first | exact quiet_behind (SM.out _ (by exact I1.out) (by exact I3.out)) | exact quiet_at (SM.out _ (by exact I1.out) (by exact I3.out)) | exact SM.out _ (by exact I1.out) (by exact I3.out)))
    go_wp2_with fail
    go_quiet ((go_at_call 181; first | exact quiet_behind (LS1.out _ (by exact I1.out) (by exact I3.out)) | exact quiet_at (LS1.out _ (by exact I1.out) (by exact I3.out)) | exact LS1.out _ (by exact I1.out) (by exact I3.out)))
    go_wp2_with fail
    go_ret
    exact ⟨rfl, _, by first | rfl | (simp only [World.drewN_drewN]; rfl)⟩
theorem l01Same2_c (v1 v2 : Value) (xs ys : List (List Int)) (w : World) (h1 : IntSS w.heap v1 xs) (h2 : IntSS w.heap v2 ys) :
    Calls Tryz.prog 226 #[v1, v2] w fun e w' => e = .returned (.bool (decide (xs = ys))) ∧ ∃ n, w' = w.drewN n := by
  obtain ⟨a1, c1, rfl, m1⟩ := h1.len
  obtain ⟨a2, c2, rfl, m2⟩ := h2.len
  have H1 := Lib.hid h1; clear h1
  have H2 := Lib.hid h2; clear h2
  by_cases hl : xs.length = ys.length
  · have hb := (eqB (a := (xs.length : Int)) (b := ys.length) (by omega)).2
    have HL := Lib.hid hl
    clear hl
    go_enter Tryz.func226, Tryz.ntmps226
    go_wp2
    clear hb
    go_loopw [5] (fun i wr => ∃ k n : Nat, k ≤ xs.length ∧ i = .int .i64 k ∧ wr = w.drewN n ∧ ∀ j, j < k → xs[j]? = ys[j]?) (fun i _ => xs.length - (intOf i).toNat)
    case atStart => exact ⟨0, 0, Nat.zero_le _, rfl, rfl, by simp⟩
    case round =>
      obtain ⟨k, n, hk, rfl, rfl, hpre⟩ := hrel
      have HP := Lib.hid hpre; clear hpre
      by_cases hlt : k < xs.length
      · have hlt2 : k < ys.length := by have := HL.out; omega
        obtain ⟨b1, o1, c1', u1, hv1, hc1, hu1, _⟩ := (H1.out).at k hlt
        obtain ⟨b2, o2, c2', u2, hv2, hc2, hu2, _⟩ := (H2.out).at k hlt2
        simp only [Value.slice.injEq, true_and] at hv1 hv2
        obtain ⟨rfl, rfl⟩ := hv1
        obtain ⟨rfl, rfl⟩ := hv2
        have HX : Hid (xs[k]? = some xs[k] ∧ ys[k]? = some ys[k]) := ⟨List.getElem?_eq_getElem hlt, List.getElem?_eq_getElem hlt2⟩
        obtain ⟨xa, xc, rfl, -⟩ := hu1.len
        obtain ⟨ya, yc, rfl, -⟩ := hu2.len
        have I1 := Lib.hid hu1; have I2 := Lib.hid hu2
        clear hu1 hu2
        generalize xs[k] = x at *
        generalize ys[k] = y at *
        have SM := Lib.hid (fun (W : World) (h : IntS W.heap (.slice xa x.length xc) x) (h2 : IntS W.heap (.slice ya y.length yc) y) => l01Same_c _ _ x y W h h2)
        have hki : (k : Int) < xs.length := by omega
        by_cases e : x = y
        · rw [show decide (x = y) = true from decide_eq_true e] at SM
          have HN : Hid (∀ j, j < k + 1 → xs[j]? = ys[j]?) := fun j hj => by
            by_cases h : j = k
            · rw [h, HX.out.1, HX.out.2, e]
            · exact HP.out j (by omega)
          clear e
          go_wp2_with fail
          go_quiet ((go_at_call 180; first | exact quiet_behind (SM.out _ (by exact I1.out) (by exact I2.out)) | exact quiet_at (SM.out _ (by exact I1.out) (by exact I2.out)) | exact SM.out _ (by exact I1.out) (by exact I2.out)))
          go_wp2_with fail
          go_roundw
          case rel => exact ⟨k + 1, _, by omega, by go_num, by first | rfl | (simp only [World.drewN_drewN]; rfl), HN.out⟩
          case measure => simp [intOf]; omega
        · rw [show decide (x = y) = false from decide_eq_false e] at SM
          have HN : Hid (decide (xs = ys) = false) := decide_eq_false fun h => by
            have h3 := HX.out
            rw [h, h3.2] at h3
            exact e (Option.some.inj h3.1).symm
          clear e
          go_wp2_with fail
          go_quiet ((go_at_call 180; first | exact quiet_behind (SM.out _ (by exact I1.out) (by exact I2.out)) | exact quiet_at (SM.out _ (by exact I1.out) (by exact I2.out)) | exact SM.out _ (by exact I1.out) (by exact I2.out)))
          go_wp2_with fail
          go_ret
          exact ⟨by rw [HN.out]; rfl, _, by first | rfl | (simp only [World.drewN_drewN]; rfl)⟩
      · have hnlt : decide ((k : Int) < (xs.length : Int)) = false := decide_eq_false (by omega)
        go_wp2_with fail
        go_ret
        refine ⟨?_, _, rfl⟩
        have : xs = ys := List.ext_getElem? fun j => by
          by_cases hj : j < k
          · exact HP.out j hj
          · have := HL.out; rw [List.getElem?_eq_none (by omega), List.getElem?_eq_none (by omega)]
        simp [this]
  · have hd : decide (xs = ys) = false := by simp; rintro rfl; exact hl rfl
    have hb := (neB (a := (xs.length : Int)) (b := ys.length) (by omega)).2
    go_enter Tryz.func226, Tryz.ntmps226
    go_wp2
    go_ret
    exact ⟨by rw [hd]; rfl, 0, rfl⟩
end Go.Proofs.YtmnkccjddahcjaaGreat

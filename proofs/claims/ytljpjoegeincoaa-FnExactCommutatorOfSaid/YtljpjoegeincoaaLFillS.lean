/- Going through all tables: of the reference. -/
import Derived.Test.YtljpjoegeincoaaLRes
import Derived.Test.YtljpjoegeincoaaLPut
import Derived.Test.YtljpjoegeincoaaLCopy
import Derived.Test.YtljpjoegeincoaaLOdd2
import Derived.Deep.DeepCutAuto
namespace Go.Proofs.Ytljpjoegeincoaa
open Go.RowKit Go.Sort

/-- A step of the reference: a number is taken off both edges and laid in its place. -/
theorem TabOf.step {T : List (List Int)} {R S : List Int} {C : List (List Int)} (h : TabOf T R S C) (hC : C.length = R.length) (I J : Nat) (hI : I < R.length) (hJ : J < S.length) (hrow : ∀ x ∈ C, x.length = S.length) (a b x : Int) :
    TabOf ((T.set 0 ((T.getD 0 []).set (J + 1) b)).set (I + 1) (((T.getD (I + 1) []).set 0 a).set (J + 1) x)) (R.set I a) (S.set J b) (setC C I J x) := by
  have hl := h.len
  refine ⟨by simp [hl], fun i hi => ?_, fun i j hi hj => ?_⟩
  · simp only [List.length_set] at hi ⊢
    rw [List.getElem_set]
    split
    · simp only [List.length_set]
      rw [show T.getD (I + 1) [] = T[I + 1] by simp [show I + 1 < T.length by omega]]; exact h.row _ _
    · rw [List.getElem_set]
      split
      · rw [List.length_set, show T.getD 0 [] = T[0] by simp [show 0 < T.length by omega]]; exact h.row _ _
      · exact h.row _ _
  · simp only [List.length_set] at hi hj
    rw [List.getElem_set]
    by_cases e1 : I + 1 = i
    · rw [if_pos e1]
      subst e1
      have hr : (T.getD (I + 1) []).length = S.length + 1 := by
        rw [show T.getD (I + 1) [] = T[I + 1] by simp [show I + 1 < T.length by omega]]; exact h.row _ _
      have hat : (T.getD (I + 1) []).getD j 0 = tabAt R S C (I + 1) j := by
        rw [show T.getD (I + 1) [] = T[I + 1] by simp [show I + 1 < T.length by omega]]; exact h.at' _ _ _ hj
      by_cases e2 : J + 1 = j
      · subst e2
        have hcl := hrow _ (List.getElem_mem (show I < C.length by omega))
        rw [getD_set_self _ _ _ (by rw [List.length_set, hr]; omega)]
        simp [tabAt, setC, hJ, show I < C.length by omega, hcl]
      · by_cases e3 : j = 0
        · subst e3
          rw [List.getD_eq_getElem?_getD, List.getElem?_set_ne e2, ← List.getD_eq_getElem?_getD, getD_set_self _ _ _ (by rw [hr]; omega)]
          simp [tabAt, hI]
        · obtain ⟨p, rfl⟩ : ∃ p, j = p + 1 := ⟨j - 1, by omega⟩
          rw [List.getD_eq_getElem?_getD, List.getElem?_set_ne e2, List.getElem?_set_ne (by omega), ← List.getD_eq_getElem?_getD, hat]
          have hpj : J ≠ p := by omega
          simp [tabAt, setC, show I < C.length by omega, List.getElem?_set_ne hpj]
    · rw [if_neg e1, List.getElem_set]
      by_cases e2 : i = 0
      · subst e2
        rw [if_pos rfl]
        have hr : (T.getD 0 []).length = S.length + 1 := by
          rw [show T.getD 0 [] = T[0] by simp [show 0 < T.length by omega]]; exact h.row _ _
        have hat : (T.getD 0 []).getD j 0 = tabAt R S C 0 j := by
          rw [show T.getD 0 [] = T[0] by simp [show 0 < T.length by omega]]; exact h.at' _ _ _ hj
        by_cases e3 : J + 1 = j
        · subst e3
          rw [getD_set_self _ _ _ (by rw [hr]; omega)]
          simp [tabAt, hJ]
        · rw [List.getD_eq_getElem?_getD, List.getElem?_set_ne e3, ← List.getD_eq_getElem?_getD, hat]
          by_cases e4 : j = 0
          · simp [tabAt, e4]
          · obtain ⟨p, rfl⟩ : ∃ p, j = p + 1 := ⟨j - 1, by omega⟩
            have hpj : J ≠ p := by omega
            simp [tabAt, List.getElem?_set_ne hpj]
      · rw [if_neg (by omega), h.at' _ _ _ hj]
        obtain ⟨q, rfl⟩ : ∃ q, i = q + 1 := ⟨i - 1, by omega⟩
        have hqi : I ≠ q := by omega
        by_cases e4 : j = 0
        · simp [tabAt, e4, List.getElem?_set_ne hqi]
        · obtain ⟨p, rfl⟩ : ∃ p, j = p + 1 := ⟨j - 1, by omega⟩
          simp [tabAt, setC, List.getElem?_set_ne hqi]
theorem oddL_put_fin (L : List (List Int)) (m n : Nat) (R S : List Int) (C : List (List Int)) : oddL (L ++ finL m n R S C) = if finOk m n R S C then put (trim (finT m n R S C)) (oddL L) else oddL L := by
  unfold finL
  split
  · exact oddL_snoc _ _
  · rw [List.append_nil]
theorem OwnU.putI {w : World} {B : Nat} {v : Value} {us : List Value} {xss : List (List Int)} (h : OwnU w B v us xss) (i : Nat) (hi : i < xss.length) (g cap l : Nat) (hu : us[i]? = some (.slice (some ⟨g, 0, none⟩) l cap)) (j : Nat) (hj : j < (xss.getD i []).length) :
    B ≤ g ∧ w.cell? ⟨g, j, none⟩ = some (.int .i64 ((xss.getD i []).getD j 0)) ∧ w.frozen? ⟨g, j, none⟩ = false ∧ ∀ x, OwnU (w.setCell ⟨g, j, none⟩ (.int .i64 x)) B v us (xss.set i ((xss.getD i []).set j x)) := by
  have ho := h.each i _ _ hu (show xss[i]? = some (xss.getD i []) by simp [hi])
  have hl : l = (xss.getD i []).length := by have := ho.ints.len; obtain ⟨_, _, e, _⟩ := this; simp only [Value.slice.injEq] at e; exact e.2.1
  rw [hl] at ho hu
  refine ⟨own_base_le ho, own_int_at ho j hj, World.ownsRow.frozenAt ho j, fun x => h.set hu (grownBy_setCell w ⟨g, j, none⟩ _) ?_⟩
  have := own_int_set ho j x
  unfold OwnI; rw [List.length_set]; exact this
theorem OwnU.rowAt {w : World} {B : Nat} {v : Value} {us : List Value} {xss : List (List Int)} (h : OwnU w B v us xss) (i : Nat) (hi : i < xss.length) (h0 : 0 < (xss.getD i []).length) : ∃ g cap, us[i]? = some (.slice (some ⟨g, 0, none⟩) (xss.getD i []).length cap) := by
  have hl := h.len
  have hu : us[i]? = some us[i] := List.getElem?_eq_getElem (by omega)
  have ho := h.each i _ _ hu (show xss[i]? = some (xss.getD i []) by simp [hi])
  obtain ⟨g, cap, e, -⟩ := OwnI.open ho h0
  exact ⟨g, cap, by rw [hu, e]⟩
theorem trimF_len (m n : Nat) (R S : List Int) (C : List (List Int)) : (trim (finT m n R S C)).length ≤ m + n := by
  rw [trim_length]
  have h1 := trimN_le (finT m n R S C) (finT m n R S C).length
  have e : (finT m n R S C).length = m + n := by simp [finT]
  omega
set_option maxRecDepth 100000 in
set_option maxHeartbeats 4000000 in
theorem l04Fill_c {m n : Nat} (hm : m ≤ 20) (hn : n ≤ 20) : ∀ (f k i j : Nat) (T : List (List Int)) (R S : List Int) (C L : List (List Int)) (t o : Value) (w : World), (m + 1 - i) * (n + 1) + (n + 1 - j) < f → IntSS w.heap t T → IntSS w.heap o (oddL L) → TabOf T R S C →
    R.length = m → S.length = n → C.length = m → (∀ x ∈ C, x.length = n) → Sm 1000000000000 R → Sm 1000000000000 S → (∀ x ∈ C, Sm 1000000000000 x) → 1 ≤ i → i ≤ m + 1 → 1 ≤ j → j ≤ n + 1 → k = m * n - ((i - 1) * n + (j - 1)) → L.length + (fillT m n k R S C).length < 4398046511104 →
    Calls Try.prog 136 #[t, .int .i64 i, .int .i64 j, o] w fun e w' => ∃ r, e = .returned r ∧ IntSS w'.heap r (oddL (L ++ fillT m n k R S C)) ∧ Below w.heap.size w w' := by
  intro f
  induction f with
  | zero => exact fun k i j T R S C L t o w hf => absurd hf (by omega)
  | succ f ih => 
    intro k i j T R S C L t o w hf h ho hT hR hS hC hrow sR sS sC hi1 hi hj1 hj hk hl
    by_cases him : i = m + 1
    · have hk0 : k = 0 := by rw [him] at hk; simp at hk; omega
      subst hk0
      have RES := Lib.hid (l04Result_c t T R S C w h hT (by omega) (fun x hx => by rw [hrow x hx, hS]) (by omega) (by omega) sR sS sC)
      rw [hR, hS] at RES
      have HFN := Lib.hid (oddL_put_fin L m n R S C)
      have hTl := hT.len
      obtain ⟨ta, tc, rfl, -⟩ := h.len
      have t1 := (eqB (show (i : Int) = (T.length : Int) by omega)).1
      obtain ⟨r0, c0, rfl, -⟩ := ho.len
      have HOO := Lib.hid ho
      have HPU := Lib.hid (fun (r : Value) (W : World) (h1 : IntSS W.heap (.slice r0 (oddL L).length c0) (oddL L)) (h2 : IntS W.heap r (trim (finT m n R S C))) => l01Put_c (.slice r0 (oddL L).length c0) r (oddL L) (trim (finT m n R S C)) W h1 h2 (by have := oddL_length L; omega) (by have := trimF_len m n R S C; omega))
      clear h ho hT hrow sR sS sC hf hk hl ih hTl
      cases hok : finOk m n R S C
      · rw [hok] at RES HFN
        clear hok
        go_enter Try.func136, Try.ntmps136
        go_wp2_with (go_at_call 164; refine RES.out.mono ?_; rintro e w2 ⟨⟨r, rfl, -⟩, hb2⟩)
        go_ret
        exact ⟨_, rfl, by rw [show fillT m n 0 R S C = finL m n R S C from rfl, HFN.out]; exact HOO.out.same hb2.block, hb2⟩
      · rw [hok] at RES HFN
        clear hok
        go_enter Try.func136, Try.ntmps136
        go_wp2_with (first | (go_at_call 164; refine RES.out.mono ?_; rintro e w2 ⟨⟨r, rfl, hr⟩, hb2⟩; have HRR := Lib.hid (hr rfl); obtain ⟨ra, rc, rfl, -⟩ := (hr rfl).len; clear hr) | (go_at_call 165; refine (HPU.out _ _ (HOO.out.same hb2.block) HRR.out).mono ?_; rintro e w3 ⟨r3, rfl, hr3, hb3⟩; obtain ⟨pa, pc, rfl, -⟩ := hr3.len))
        go_ret
        exact ⟨_, rfl, by rw [show fillT m n 0 R S C = finL m n R S C from rfl, HFN.out]; exact hr3, hb2.trans (hb3.mono hb2.size)⟩
    · have hTl := hT.len
      have hz0 : 0 < T.length := by omega
      obtain ⟨b0, o0, c0, u0, rfl, hc0, hu0, -⟩ := h.at (w := w) 0 hz0
      obtain ⟨ua0, uc0, rfl, -⟩ := hu0.len
      have hrl0 := hT.row 0 hz0
      rw [show o0 + 0 = o0 from rfl, hrl0, hS] at hc0
      have t1 := (neB (show (i : Int) ≠ (T.length : Int) by omega)).1
      have hz1 : (0 : Int) < (T.length : Int) := by omega
      obtain ⟨r0, q0, rfl, -⟩ := ho.len
      have H := Lib.hid h; have HO := Lib.hid ho; have HT := Lib.hid hT; have HROW := Lib.hid hrow; have HSR := Lib.hid sR; have HSS := Lib.hid sS; have HSC := Lib.hid sC; have HL := Lib.hid hl; have HK := Lib.hid hk; have HF := Lib.hid hf
      by_cases hjn : j = n + 1
      · have hms : (m + 1 - (i + 1)) * (n + 1) + (n + 1 - 1) < f := by
          obtain ⟨d, hd⟩ : ∃ d, m + 1 - i = d + 1 := ⟨m - i, by omega⟩
          rw [hd, Nat.add_mul] at hf
          rw [show m + 1 - (i + 1) = d by omega]; omega
        have hke : k = m * n - ((i + 1 - 1) * n + (1 - 1)) := by
          obtain ⟨d, rfl⟩ : ∃ d, i = d + 1 := ⟨i - 1, by omega⟩
          rw [hk, hjn]; simp only [Nat.add_sub_cancel, Nat.add_mul]; omega
        have IHX := Lib.hid (ih k (i + 1) 1 T R S C L _ _ w hms h ho hT hR hS hC hrow sR sS sC (by omega) (by omega) (by omega) (by omega) hke hl)
        have t2 := (eqB (show (j : Int) = (n : Int) + 1 by omega)).1
        have hwi : IntKind.i64.wrap ((i : Int) + 1) = i + 1 := IntWalk.i64_in _ (by omega)
        clear h ho hT hrow sR sS sC hf hk hl ih hTl hms hke hu0 hrl0
        go_enter Try.func136, Try.ntmps136
        go_wp2_with (go_at_call 136; refine IHX.out.mono ?_; rintro e w2 ⟨r, rfl, hr, hb2⟩; obtain ⟨ra, rc, rfl, -⟩ := hr.len)
        go_ret
        exact ⟨_, rfl, hr, hb2⟩
      · obtain ⟨I, rfl⟩ : ∃ I, i = I + 1 := ⟨i - 1, by omega⟩
        obtain ⟨J, rfl⟩ : ∃ J, j = J + 1 := ⟨j - 1, by omega⟩
        simp only [Nat.add_sub_cancel] at hk
        have hI : I < m := by omega
        have hJ : J < n := by omega
        have hPl := place_lt hI hJ
        obtain ⟨k, rfl⟩ : ∃ k', k = k' + 1 := ⟨k - 1, by omega⟩
        have hpl := place I n J hJ
        have hpk : m * n - (k + 1) = I * n + J := by omega
        have hke : k = m * n - ((I + 1 - 1) * n + (J + 2 - 1)) := by rw [Nat.add_sub_cancel, show J + 2 - 1 = J + 1 by omega]; omega
        have HKE := Lib.hid hke
        clear hke
        have HFI : Hid (fillT m n (k + 1) R S C = (List.range (minX R S I J + 1)).flatMap fun (x : Nat) => fillT m n k (R.set I (R.getD I 0 - 2 ^ (J + 1) * (x : Int))) (S.set J (S.getD J 0 - x)) (setC C I J x)) := by
          show _ = _
          rw [fillT, hpk, hpl.1, hpl.2]
        have t2 := (neB (show ((J + 1 : Nat) : Int) ≠ (n : Int) + 1 by omega)).1
        have IH := Lib.hid ih
        clear h ho hT hrow sR sS sC hf hk hl hpl ih hu0 hrl0
        obtain ⟨st, hst⟩ : ∃ st : Int, st = 2 ^ (J + 1) := ⟨_, rfl⟩
        have hst2 : 2 ≤ st ∧ st ≤ 2199023255552 := by rw [hst]; exact pow_in J (by omega)
        have HST := Lib.hid hst
        have hx0 := HSR.out.at (by omega) I
        have hy0 := HSS.out.at (by omega) J
        obtain ⟨mx, hmx⟩ : ∃ mx : Nat, minX R S I J = mx := ⟨_, rfl⟩
        have HMX := Lib.hid hmx
        unfold minX at hmx
        rw [← hst] at hmx
        obtain ⟨q, hq⟩ : ∃ q : Nat, R.getD I 0 / st = q := ⟨(R.getD I 0 / st).toNat, by have := Int.ediv_nonneg hx0.1 (show 0 ≤ st by omega); omega⟩
        have hqx : (q : Int) ≤ R.getD I 0 := by rw [← hq]; exact Int.ediv_le_self _ hx0.1
        have HQ := Lib.hid hq
        rw [hq] at hmx
        have HP : Hid (∀ X : Nat, ((X : Int) * st ≤ R.getD I 0 ↔ (X : Int) ≤ q)) := fun X => by
          rw [← HQ.out]; exact (Int.le_ediv_iff_mul_le (by omega)).symm
        generalize hxr : R.getD I 0 = xr at *
        generalize hys : S.getD J 0 = ys at *
        have HXR := Lib.hid hxr; have HYS := Lib.hid hys
        have hmy : (mx : Int) ≤ ys := by omega
        have hmq : (mx : Int) ≤ q := by omega
        have hmo : (mx : Int) = q ∨ (mx : Int) = ys := by omega
        obtain ⟨F, hF⟩ : ∃ F : Nat → List (List Int), F = fun (X : Nat) => fillT m n k (R.set I (xr - st * (X : Int))) (S.set J (ys - X)) (setC C I J X) := ⟨_, rfl⟩
        have HFF : Hid (fillT m n (k + 1) R S C = (List.range (mx + 1)).flatMap F) := by
          show _ = _
          rw [HFI.out, hF]
          simp only [HMX.out, ← HST.out]
        have HFX := Lib.hid (fun X : Nat => congrFun hF X)
        have hlt0 : 0 < T.length := by omega
        have hltI : I + 1 < T.length := by omega
        have hr0 := HT.out.row 0 hlt0
        have hrI := HT.out.row (I + 1) hltI
        obtain ⟨b1, o1, c1, u1, hv1, hc1, hu1, -⟩ := H.out.at (w := w) (I + 1) hltI
        simp only [Value.slice.injEq, Option.some.injEq, Addr.mk.injEq, true_and, and_true] at hv1
        obtain ⟨⟨rfl, rfl⟩, rfl⟩ := hv1
        obtain ⟨ua1, uc1, rfl, -⟩ := hu1.len
        obtain ⟨b2, o2, c2, u2, hv2, hc2, hu2, -⟩ := H.out.at (w := w) 0 hlt0
        simp only [Value.slice.injEq, Option.some.injEq, Addr.mk.injEq, true_and, and_true] at hv2
        obtain ⟨⟨rfl, rfl⟩, rfl⟩ := hv2
        rw [show o0 + 0 = o0 from rfl, hc0] at hc2
        simp only [Option.some.injEq] at hc2
        subst hc2
        obtain ⟨b3, o3, c3, hv3, hc3, -⟩ := hu2.at (w := w) (J + 1) (by omega)
        obtain ⟨b4, o4, c4, hv4, hc4, -⟩ := hu1.at (w := w) 0 (by omega)
        simp only [Value.slice.injEq] at hv3 hv4
        obtain ⟨rfl, -, rfl⟩ := hv3
        obtain ⟨rfl, -, rfl⟩ := hv4
        rw [← getD_at', HT.out.at' 0 (J + 1) hlt0 (by omega), show tabAt R S C 0 (J + 1) = ys by rw [← HYS.out]; simp [tabAt]] at hc3
        rw [← getD_at', HT.out.at' (I + 1) 0 hltI (by omega), show tabAt R S C (I + 1) 0 = xr by rw [← HXR.out]; simp [tabAt], Nat.add_zero] at hc4
        have t1b := (neB (show (I : Int) + 1 ≠ (m : Int) + 1 by omega)).1
        have t2b := (neB (show (J : Int) + 1 ≠ (n : Int) + 1 by omega)).1
        rw [hrI, hS] at hc1
        have HC0 := Lib.hid hc0; have HC1 := Lib.hid hc1; have HC3 := Lib.hid hc3; have HC4 := Lib.hid hc4
        have HSW := Lib.hid (sh2_wrap J (by omega)); have HSL := Lib.hid hS
        have hTm : T.length = m + 1 := by omega
        rw [show ((I + 1 : Nat) : Int) = (I : Int) + 1 by omega, show ((J + 1 : Nat) : Int) = (J : Int) + 1 by omega, hTm]
        clear hxr hys hmx hq hF hqx hu1 hu2 hc1 hc3 hc4 hr0 hrI hst HFI HMX HQ t1 t2
        go_enter Try.func136, Try.ntmps136
        go_wp2_with fail
        go_loopw [3, 11] (fun o x wr => ∃ (X : Nat), X ≤ mx + 1 ∧ x = .int .i64 X ∧ IntSS wr.heap o (oddL (L ++ (List.range X).flatMap F)) ∧ Below w.heap.size w wr) (fun _ x _ => mx + 1 - (intOf x).toNat)
        case atStart => exact ⟨0, by omega, rfl, by simpa using HO.out, Below.refl _ _⟩
        case round =>
          obtain ⟨X, hX, rfl, hO1, hB1⟩ := hrel
          rename World => w1
          obtain ⟨r1, q1, rfl, -⟩ := hO1.len
          have HO1 := Lib.hid hO1; have HB1 := Lib.hid hB1
          have d0 := (hB1.cell (World.block_lt_of_cell? _ _ HC0.out)).trans HC0.out
          have d1 := (hB1.cell (World.block_lt_of_cell? _ _ HC1.out)).trans HC1.out
          have d3 := (hB1.cell (World.block_lt_of_cell? _ _ HC3.out)).trans HC3.out
          have d4 := (hB1.cell (World.block_lt_of_cell? _ _ HC4.out)).trans HC4.out
          clear hO1 hB1
          have hIi : (I : Int) + 1 < (T.length : Int) := by omega
          have hJi : (J : Int) + 1 < (n : Int) + 1 := by omega
          have hpb : 0 ≤ (X : Int) * st ∧ (X : Int) * st ≤ 1000000000000 + st := by
            refine ⟨Int.mul_nonneg (by omega) (by omega), ?_⟩
            have h1 := (HP.out mx).2 hmq
            have h2 : (X : Int) * st ≤ ((mx : Int) + 1) * st := Int.mul_le_mul_of_nonneg_right (by omega) (by omega)
            rw [Int.add_mul] at h2; omega
          obtain ⟨p, hp⟩ : ∃ p, (X : Int) * st = p := ⟨_, rfl⟩
          have HPX := HP.out X
          rw [hp] at hpb HPX
          have hpw : wrap64 ((X : Int) * 2 ^ (J + 1)) = p := by
            rw [← HST.out, hp]; unfold wrap64; omega
          have HPW := Lib.hid hpw
          clear hpw
          by_cases hXm : X ≤ mx
          · have hle : decide ((X : Int) ≤ ys) = true := decide_eq_true (by omega)
            have hpx := HPX.2 (by omega)
            have dle : decide (wrap64 ((X : Int) * 2 ^ (J + 1)) ≤ xr) = true := by rw [HPW.out]; exact decide_eq_true hpx
            have DLE := Lib.hid dle
            have H2 : Hid (IntSS w.heap (.slice (some ⟨b0, o0, none⟩) (m + 1) c0) T) := by show IntSS _ _ _; rw [← hTm]; exact H.out
            have OWN := Lib.hid (l01Own2_c _ T w1 (H2.out.same HB1.out.block) (by omega) (fun x hx => by
              obtain ⟨z, hz, rfl⟩ := List.getElem_of_mem hx
              rw [HT.out.row z hz]; omega))
            go_upto_region 12 with (go_at_call 64; refine OWN.out.mono ?_; rintro e w2 ⟨rn, us, rfl, hU, hb2⟩; obtain ⟨na, nn, nc, rfl⟩ := own_shape hU.row)
            obtain ⟨gn, cn, en, hgn⟩ := own_open hU.row (by omega)
            simp only [Value.slice.injEq] at en
            obtain ⟨rfl, rfl, rfl⟩ := en
            obtain ⟨g0, cap0, hu0⟩ := hU.rowAt 0 hlt0 (by rw [show T.getD 0 [] = T[0] by simp [hlt0], HT.out.row 0 hlt0]; omega)
            obtain ⟨g1, cap1, hu1⟩ := hU.rowAt (I + 1) hltI (by rw [show T.getD (I + 1) [] = T[I + 1] by simp [hltI], HT.out.row (I + 1) hltI]; omega)
            rw [show T.getD 0 [] = T[0] by simp [hlt0], HT.out.row 0 hlt0, HSL.out] at hu0
            rw [show T.getD (I + 1) [] = T[I + 1] by simp [hltI], HT.out.row (I + 1) hltI, HSL.out] at hu1
            have hne0 : us.length = T.length := hU.len
            have e0 := (World.ownsRow.cellAt hU.row 0 (by omega)).trans hu0
            have e1 := (World.ownsRow.cellAt hU.row (I + 1) (by omega)).trans hu1
            have HU2 := Lib.hid hU
            have HB2 := Lib.hid hb2
            have HU0 := Lib.hid hu0; have HU1 := Lib.hid hu1
            clear hU hb2 hu0 hu1 hne0 d0 d1 d3 d4
            go_quiet (fail)
            have HU3 := Lib.hid (HU2.out.drewN nq)
            have HB3 := Lib.hid (below_drewN nq HB2.out)
            generalize w2.drewN nq = w3 at *
            clear HU2 HB2 e0 e1 OWN
            obtain ⟨hg0, hp1, hp2, hp3⟩ := HU3.out.putI 0 hlt0 g0 cap0 (n + 1) HU0.out (J + 1) (by rw [show T.getD 0 [] = T[0] by simp [hlt0], HT.out.row 0 hlt0]; omega)
            rw [show T.getD 0 [] = T[0] by simp [hlt0], HT.out.at' 0 (J + 1) hlt0 (by omega), show tabAt R S C 0 (J + 1) = ys by rw [← HYS.out]; simp [tabAt]] at hp1
            have e4 : IntKind.i64.wrap (ys - (X : Int)) = ys - X := IntWalk.i64_in _ (by omega)
            have HU4 := Lib.hid (hp3 (ys - (X : Int)))
            have HB4 := Lib.hid (HB3.out.setCell (p := ⟨g0, J + 1, none⟩) hg0 (.int .i64 (ys - (X : Int))))
            clear hp3
            go_upto_region 14 with fail
            generalize w3.setCell ⟨g0, J + 1, none⟩ (.int .i64 (ys - (X : Int))) = w4 at *
            clear hp1 hp2 HU3 HB3
            have hlt4 : I + 1 < (T.set 0 ((T.getD 0 []).set (J + 1) (ys - (X : Int)))).length := by rw [List.length_set]; exact hltI
            have hrow4 : (T.set 0 ((T.getD 0 []).set (J + 1) (ys - (X : Int)))).getD (I + 1) [] = T.getD (I + 1) [] := by rw [List.getD_eq_getElem?_getD, List.getElem?_set_ne (by omega), ← List.getD_eq_getElem?_getD]
            have hlI : (T.getD (I + 1) []).length = n + 1 := by rw [show T.getD (I + 1) [] = T[I + 1] by simp [hltI], HT.out.row (I + 1) hltI]; omega
            obtain ⟨hg1, hp1, hp2, hp3⟩ := HU4.out.putI (I + 1) hlt4 g1 cap1 (n + 1) HU1.out 0 (by rw [hrow4, hlI]; omega)
            rw [hrow4, show T.getD (I + 1) [] = T[I + 1] by simp [hltI], HT.out.at' (I + 1) 0 hltI (by omega), show tabAt R S C (I + 1) 0 = xr by rw [← HXR.out]; simp [tabAt]] at hp1
            have e5 : IntKind.i64.wrap (xr - p) = xr - p := IntWalk.i64_in _ (by omega)
            have HP3 := Lib.hid hp3
            clear hp3 e4 e5
            go_upto_region 15 with fail
            clear dle hp1 hp2
            rw [HPW.out, show wrap64 (xr - p) = xr - p by unfold wrap64; omega]
            have HU5 := Lib.hid (HP3.out (xr - p))
            have HB5 := Lib.hid (HB4.out.setCell (p := ⟨g1, 0, none⟩) hg1 (.int .i64 (xr - p)))
            rw [hrow4] at HU5
            generalize w4.setCell ⟨g1, 0, none⟩ (.int .i64 (xr - p)) = w5 at *
            clear HP3 HU4 HB4
            generalize hT1 : T.set 0 ((T.getD 0 []).set (J + 1) (ys - (X : Int))) = T1 at *
            have hlt5 : I + 1 < (T1.set (I + 1) ((T.getD (I + 1) []).set 0 (xr - p))).length := by rw [List.length_set]; exact hlt4
            have hrow5 : (T1.set (I + 1) ((T.getD (I + 1) []).set 0 (xr - p))).getD (I + 1) [] = (T.getD (I + 1) []).set 0 (xr - p) := by simp [hlt4]
            obtain ⟨-, hp1, hp2, hp3⟩ := HU5.out.putI (I + 1) hlt5 g1 cap1 (n + 1) HU1.out (J + 1) (by rw [hrow5, List.length_set, hlI]; omega)
            have HU6 := Lib.hid (hp3 (X : Int))
            have HB6 := Lib.hid (HB5.out.setCell (p := ⟨g1, J + 1, none⟩) hg1 (.int .i64 (X : Int)))
            rw [hrow5, List.set_set] at HU6
            clear hp3
            generalize (List.getD (T1.set (I + 1) ((T.getD (I + 1) []).set 0 (xr - p))) (I + 1) []).getD (J + 1) 0 = zz at *
            go_upto_region 16 with fail
            generalize w5.setCell ⟨g1, J + 1, none⟩ (.int .i64 (X : Int)) = w6 at *
            clear hp1 hp2 HU5 HB5 hlt5 hrow5 hrow4 hlI hlt4
            have HTS := Lib.hid (HT.out.step (by omega) I J (by omega) (by omega) (fun x hx => by rw [HROW.out x hx, hS]) (xr - p) (ys - (X : Int)) (X : Int))
            rw [hT1] at HTS
            clear hT1
            have HFX1 := Lib.hid (HFX.out X)
            rw [Int.mul_comm, hp] at HFX1
            have hwJ : IntKind.i64.wrap ((J : Int) + 1 + 1) = J + 1 + 1 := IntWalk.i64_in _ (by omega)
            have CC := Lib.hid (IH.out k (I + 1) (J + 2) _ (R.set I (xr - p)) (S.set J (ys - (X : Int))) (setC C I J X) (L ++ (List.range X).flatMap F) (.slice (some ⟨gn, 0, none⟩) T.length nc) _ w6 (by have := HF.out; omega) HU6.out.ints (HO1.out.same HB6.out.block) HTS.out (by rw [List.length_set]; exact hR) (by rw [List.length_set]; exact hS) (by rw [setC_length]; exact hC) (setC_rows HROW.out I J X)
              (HSR.out.setI I _ (by omega) (by omega)) (HSS.out.setI J _ (by omega) (by omega)) (setC_sm HSC.out I J X (by omega) (by omega)) (by omega) (by omega) (by omega) (by omega) HKE.out (by
                rw [← HFX1.out, List.length_append]
                have h1 := flat_prefix F (mx + 1) X (by omega)
                have h2 := HL.out
                rw [HFF.out] at h2
                omega))
            rw [← HFX1.out, List.append_assoc, ← flat_succ] at CC
            rw [show ((J + 2 : Nat) : Int) = (J : Int) + 1 + 1 by omega, show ((I + 1 : Nat) : Int) = (I : Int) + 1 by omega, hTm] at CC
            have hXB : X ≤ 1000000000000 := by omega
            clear HU6 HTS HFX1 hpb hp HPX hpx hmo hmq hmy hx0 hy0 hst2 HU0 HU1 hg0 hg1 hgn hPl hpk hIi hJi H2 hle hlt0 hltI hc0 hi1 hj1 him hjn hTl hz0 hz1 hX
            go_wp2_with (go_at_call 136; (with_reducible refine CC.out.mono ?_); rintro e w7 ⟨r7, rfl, hr7, hb7⟩; obtain ⟨r8, r9, rfl, -⟩ := hr7.len)
            go_roundw
            case rel => exact ⟨X + 1, by omega, by go_num, by rw [show L ++ ((List.range X).flatMap F ++ F X) = L ++ (List.range (X + 1)).flatMap F by simp [List.range_succ]]; exact hr7, HB1.out.trans ((HB6.out.trans (hb7.mono HB6.out.size)).mono HB1.out.size)⟩
            case measure => simp [intOf]; omega
          · have hle2 : decide ((X : Int) ≤ ys) = false ∨ decide (wrap64 ((X : Int) * 2 ^ (J + 1)) ≤ xr) = false := by
              rcases hmo with e | e
              · right; rw [HPW.out]; exact decide_eq_false (fun h => by have := HPX.1 h; omega)
              · left; exact decide_eq_false (by omega)
            have HEX : Hid (X = mx + 1) := by show _ = _; omega
            have HX2 := Lib.hid hle2
            clear hle2
            by_cases hy : (X : Int) ≤ ys
            · have dle : decide (wrap64 ((X : Int) * 2 ^ (J + 1)) ≤ xr) = false := by
                rcases HX2.out with e | e
                · rw [decide_eq_true hy] at e; cases e
                · exact e
              go_wp2_with fail
              go_ret
              exact ⟨_, rfl, by rw [HFF.out, ← HEX.out]; exact HO1.out, HB1.out⟩
            · have dle : decide ((X : Int) ≤ ys) = false := decide_eq_false hy
              go_wp2_with fail
              go_ret
              exact ⟨_, rfl, by rw [HFF.out, ← HEX.out]; exact HO1.out, HB1.out⟩
end Go.Proofs.Ytljpjoegeincoaa

/- What a table gives: of the reference. -/
import Derived.Test.YtljpjoegeincoaaLFill0
namespace Go.Proofs.Ytljpjoegeincoaa
open Go.RowKit Go.Sort

/-- A table with its edges: rows and columns from 0 on. -/
structure TabOf (T : List (List Int)) (R S : List Int) (C : List (List Int)) : Prop where
  len : T.length = R.length + 1
  row : ∀ (i : Nat) (h : i < T.length), T[i].length = S.length + 1
  at' : ∀ (i j : Nat) (h : i < T.length), j ≤ S.length → T[i].getD j 0 = tabAt R S C i j
/-- The numbers of a diagonal in the first i rows of the table. -/
def sdiag (R S : List Int) (C : List (List Int)) (k i : Nat) : List Int := ((List.range i).filter fun p => decide (p ≤ k) && decide (k - p ≤ S.length)).map fun p => tabAt R S C p (k - p)
theorem sdiag_yes (R S : List Int) (C : List (List Int)) (k i : Nat) (h : i ≤ k) (h2 : k - i ≤ S.length) : sdiag R S C k (i + 1) = sdiag R S C k i ++ [tabAt R S C i (k - i)] := by
  unfold sdiag
  have hq : (decide (i ≤ k) && decide (k - i ≤ S.length)) = true := by simp only [Bool.and_eq_true, decide_eq_true_eq]; exact ⟨h, h2⟩
  rw [List.range_succ, List.filter_append, List.map_append, List.filter_cons, if_pos hq]; rfl
theorem sdiag_no (R S : List Int) (C : List (List Int)) (k i : Nat) (h : ¬ (i ≤ k ∧ k - i ≤ S.length)) : sdiag R S C k (i + 1) = sdiag R S C k i := by
  unfold sdiag
  rw [List.range_succ, List.filter_append, List.map_append]
  have hq : ¬ (decide (i ≤ k) && decide (k - i ≤ S.length)) = true := by simp only [Bool.and_eq_true, decide_eq_true_eq]; exact h
  rw [List.filter_cons, if_neg hq]; simp
theorem sdiag_length (R S : List Int) (C : List (List Int)) (k i : Nat) : (sdiag R S C k i).length ≤ i := by
  unfold sdiag
  rw [List.length_map]
  exact Nat.le_trans (List.length_filter_le _ _) (by simp)
theorem filter_range_min (g : Nat → Bool) (b : Nat) : ∀ a : Nat, (List.range a).filter (fun p => g p && decide (p < b)) = (List.range (min a b)).filter g
  | 0 => by simp
  | a + 1 => by
    rw [List.range_succ, List.filter_append, filter_range_min g b a]
    by_cases h : a < b
    · rw [show min (a + 1) b = min a b + 1 by omega, List.range_succ, List.filter_append]
      rw [show min a b = a by omega]
      congr 1
      simp only [List.filter_cons, List.filter_nil, decide_eq_true h, Bool.and_true]
    · rw [show min (a + 1) b = min a b by omega]
      simp only [List.filter_cons, List.filter_nil, decide_eq_false h, Bool.and_false]
      simp
theorem tabAt_out {R S : List Int} {C : List (List Int)} (hC : C.length = R.length) (hrow : ∀ x ∈ C, x.length = S.length) (i j : Nat) (h : R.length < i ∨ S.length < j) : tabAt R S C i j = 0 := by
  unfold tabAt
  by_cases h0 : i = 0
  · rw [if_pos h0]
    by_cases h1 : j = 0
    · rw [if_pos h1]
    · rw [if_neg h1]; simp [show S.length ≤ j - 1 by omega]
  · rw [if_neg h0]
    by_cases h1 : j = 0
    · rw [if_pos h1]; simp [show R.length ≤ i - 1 by omega]
    · rw [if_neg h1]
      by_cases h2 : i - 1 < C.length
      · rw [show C.getD (i - 1) [] = C[i - 1] by simp [h2]]
        have := hrow _ (List.getElem_mem h2)
        simp [show C[i - 1].length ≤ j - 1 by omega]
      · simp [show C.length ≤ i - 1 by omega]
theorem sdiag_filter {R S : List Int} {C : List (List Int)} (hC : C.length = R.length) (hrow : ∀ x ∈ C, x.length = S.length) (k : Nat) : (sdiag R S C k (R.length + 1)).filter (· != 0) = (diagL R S C k).filter (· != 0) := by
  unfold sdiag diagL
  rw [List.filter_map, List.filter_map, List.filter_filter]
  congr 1
  have e1 := filter_range_min (fun p => (tabAt R S C p (k - p) != 0) && decide (k - p ≤ S.length)) (k + 1) (R.length + 1)
  have e2 := filter_range_min (fun p => (tabAt R S C p (k - p) != 0) && decide (k - p ≤ S.length)) (R.length + 1) (k + 1)
  rw [show min (R.length + 1) (k + 1) = min (k + 1) (R.length + 1) by omega, ← e2] at e1
  refine Eq.trans (List.filter_congr fun p _ => ?_) (e1.trans (List.filter_congr fun p hp => ?_))
  · simp only [Function.comp]
    have : decide (p < k + 1) = decide (p ≤ k) := by simp; omega
    rw [this]
    cases tabAt R S C p (k - p) != 0 <;> cases decide (p ≤ k) <;> cases decide (k - p ≤ S.length) <;> rfl
  · simp only [Function.comp]
    by_cases h : p ≤ R.length ∧ k - p ≤ S.length
    · have h1 : decide (k - p ≤ S.length) = true := decide_eq_true h.2
      have h2 : decide (p < R.length + 1) = true := decide_eq_true (by omega)
      rw [h1, h2]; simp
    · rw [tabAt_out hC hrow p (k - p) (by omega)]; simp
theorem sdiag_apart {R S : List Int} {C : List (List Int)} (hC : C.length = R.length) (hrow : ∀ x ∈ C, x.length = S.length) (k : Nat) : apartL 0 (sdiag R S C k (R.length + 1)) = apartL 0 (diagL R S C k) := by
  rw [← apartL_filter, sdiag_filter hC hrow, apartL_filter]
theorem sdiag_sum {R S : List Int} {C : List (List Int)} (hC : C.length = R.length) (hrow : ∀ x ∈ C, x.length = S.length) (k : Nat) : (sdiag R S C k (R.length + 1)).sum = (diagL R S C k).sum := by
  rw [← sum_filter, sdiag_filter hC hrow, sum_filter]
theorem sdiag_sm {b : Int} {R S : List Int} {C : List (List Int)} (hb : 0 ≤ b) (sR : Sm b R) (sS : Sm b S) (sC : ∀ x ∈ C, Sm b x) (k i : Nat) : Sm b (sdiag R S C k i) := by
  intro x hx
  simp only [sdiag, List.mem_map] at hx
  obtain ⟨p, -, rfl⟩ := hx
  exact tabAt_sm hb sR sS sC _ _
theorem trim_step (l : List Int) (m : Nat) : trimN l (m + 1) = if l.getD m 0 = 0 then trimN l m else m + 1 := rfl
set_option maxRecDepth 100000 in
set_option maxHeartbeats 2000000 in
theorem l04Result_c (v : Value) (T : List (List Int)) (R S : List Int) (C : List (List Int)) (w : World) (h : IntSS w.heap v T) (hT : TabOf T R S C) (hC : C.length = R.length) (hrow : ∀ x ∈ C, x.length = S.length) (hm : R.length ≤ 300) (hn : S.length ≤ 300) (sR : Sm 1000000000000 R) (sS : Sm 1000000000000 S) (sC : ∀ x ∈ C, Sm 1000000000000 x) :
    Calls Try.prog 164 #[v] w fun e w' => (∃ r, e = .returned (.tuple #[r, .bool (finOk R.length S.length R S C)]) ∧ (finOk R.length S.length R S C = true → IntS w'.heap r (trim (finT R.length S.length R S C)))) ∧ Below w.heap.size w w' := by
  obtain ⟨ao, c, rfl, htl⟩ := h.len
  obtain ⟨b0, o0, c0', u0, hv0, hc0, hu0, -⟩ := h.at 0 (by rw [hT.len]; omega)
  simp only [Value.slice.injEq, true_and] at hv0
  obtain ⟨rfl, rfl⟩ := hv0
  obtain ⟨ua0, uc0, rfl, -⟩ := hu0.len
  rw [hT.row 0 (by rw [hT.len]; omega)] at hc0
  have H := Lib.hid h; have HT := Lib.hid hT
  have hTl := hT.len
  have hz0 : (0 : Int) < T.length := by omega
  rw [show o0 + 0 = o0 from rfl] at hc0
  have HSD := Lib.hid (fun k => sdiag_apart (R := R) (S := S) hC hrow k); have HSS := Lib.hid (fun k => sdiag_sum (R := R) (S := S) hC hrow k)
  have HSM := Lib.hid (fun k => sdiag_sm (by omega) sR sS sC k (R.length + 1))
  have HTL := Lib.hid hTl
  rw [hTl]
  have hz1 : (0 : Int) < (R.length : Int) + 1 := by omega
  clear h hT hC hrow sR sS sC hu0 hz0 htl hTl
  go_enter Try.func164, Try.ntmps164
  go_wp2_with fail
  go_loopw [5, 6] (fun o i wr => ∃ k : Nat, k ≤ R.length + S.length ∧ i = .int .i64 ((k : Int) + 1) ∧ OwnI wr w.heap.size o ((List.range k).map fun k => (diagL R S C (k + 1)).sum) ∧ Below w.heap.size w wr ∧ Hid (∀ j, j < k → apartL 0 (diagL R S C (j + 1)) = true)) (fun _ i _ => R.length + S.length + 1 - (intOf i).toNat)
  case atStart => exact ⟨0, by omega, rfl, ownI_empty (Nat.le_refl _), (Below.refl _ _).alloc (Nat.le_refl _) _, fun j hj => by omega⟩
  case round =>
    obtain ⟨k, hk, rfl, hown, hbl, hap⟩ := hrel
    rename World => WA
    obtain ⟨va, vn, vc, rfl⟩ := own_shape hown
    have HOW := Lib.hid hown; have HBL := Lib.hid hbl
    clear hown hbl
    by_cases hkm : k < R.length + S.length
    · have hki : decide ((k : Int) + 1 < (R.length : Int) + 1 + ((S.length : Int) + 1) - 1) = true := decide_eq_true (by omega)
      go_wp2_with fail
      go_loopw [7, 8] (fun o i wk => ∃ j : Nat, j ≤ R.length + 1 ∧ i = .int .i64 j ∧ OwnI wk WA.heap.size o (sdiag R S C (k + 1) j) ∧ Below WA.heap.size WA wk) (fun _ i _ => R.length + 1 - (intOf i).toNat)
      case atStart => exact ⟨0, by omega, rfl, ownI_empty (Nat.le_refl _), (Below.refl _ _).alloc (Nat.le_refl _) _⟩
      case round =>
        obtain ⟨j, hj, rfl, hown, hbl⟩ := hrel
        obtain ⟨ta, tn, tc, rfl⟩ := own_shape hown
        have HOD := Lib.hid hown; have HBD := Lib.hid hbl
        have HB1D := Lib.hid (HBL.out.trans (hbl.mono HBL.out.size))
        clear hown hbl
        by_cases hjl : j < R.length + 1
        · have hji : decide ((j : Int) < (R.length : Int) + 1) = true := decide_eq_true (by omega)
          have hji2 : (j : Int) < (R.length : Int) + 1 := by omega
          have HL : Hid ((sdiag R S C (k + 1) j).length ≤ 4398046511104) := by show _ ≤ _; have := sdiag_length R S C (k + 1) j; omega
          have hjT : j < T.length := by have := HTL.out; omega
          by_cases h1 : j ≤ k + 1
          · have hsub : IntKind.i64.wrap ((k : Int) + 1 - (j : Int)) = ((k + 1 - j : Nat) : Int) := by rw [IntWalk.i64_in _ (by omega)]; omega
            have hsub2 : ((k : Int) + 1 - (j : Int)) = ((k + 1 - j : Nat) : Int) := by omega
            have t1 : decide ((0 : Int) ≤ (k : Int) + 1 - (j : Int)) = true := decide_eq_true (by omega)
            obtain ⟨q, hq⟩ : ∃ q : Nat, k + 1 - j = q := ⟨_, rfl⟩
            rw [hq] at hsub hsub2
            have t1' : (0 : Int) ≤ (q : Int) := by omega
            obtain ⟨b1, o1, c1, u1, hv1, hc1, hu1, -⟩ := H.out.at j hjT
            simp only [Value.slice.injEq, Option.some.injEq, Addr.mk.injEq, true_and, and_true] at hv1
            obtain ⟨⟨rfl, rfl⟩, rfl⟩ := hv1
            have hcx := (HB1D.out.cell (World.block_lt_of_cell? _ _ hc1)).trans hc1
            obtain ⟨ua, uc, rfl, -⟩ := hu1.len
            have hrl := HT.out.row j hjT
            by_cases h2 : q ≤ S.length
            · obtain ⟨b2, o2, c2, hv2, hc2, -⟩ := hu1.at (w := w) q (by omega)
              simp only [Value.slice.injEq, true_and] at hv2
              obtain ⟨rfl, rfl⟩ := hv2
              have hcy := (HB1D.out.cell (World.block_lt_of_cell? _ _ hc2)).trans hc2
              rw [← getD_at', HT.out.at' j q hjT h2] at hcy
              have HS := Lib.hid (sdiag_yes R S C (k + 1) j h1 (by omega))
              rw [hq] at HS
              rw [hrl] at hcx
              have t2 : decide ((q : Int) < (S.length : Int) + 1) = true := decide_eq_true (by omega)
              have hq2 : (q : Int) < (S.length : Int) + 1 := by omega
              generalize tabAt R S C j q = x at *
              clear hc1 hc2 hu1 hrl hq
              go_wp2_with (at_builtin; refine append_int rfl _ _ rfl WA.heap.size _ _ x HOD.out rfl HBD.out HBD.out.size _ rfl (by simp) HL.out ?_; intro v' w' hown' hbl' _ _; obtain ⟨qa, qn, qc, rfl⟩ := own_shape hown')
              go_roundw
              case rel => exact ⟨j + 1, by omega, by go_num, by rw [HS.out]; exact hown', hbl'⟩
              case measure => simp [intOf]; omega
            · have HS := Lib.hid (sdiag_no R S C (k + 1) j (by omega))
              rw [hrl] at hcx
              have t2 : decide ((q : Int) < (S.length : Int) + 1) = false := decide_eq_false (by omega)
              clear hc1 hu1 hrl hq
              go_wp2_with fail
              go_roundw
              case rel => exact ⟨j + 1, by omega, by go_num, by rw [HS.out]; exact HOD.out, HBD.out⟩
              case measure => simp [intOf]; omega
          · have HS := Lib.hid (sdiag_no R S C (k + 1) j (by omega))
            have t1 : decide ((0 : Int) ≤ (k : Int) + 1 - (j : Int)) = false := decide_eq_false (by omega)
            go_wp2_with fail
            go_roundw
            case rel => exact ⟨j + 1, by omega, by go_num, by rw [HS.out]; exact HOD.out, HBD.out⟩
            case measure => simp [intOf]; omega
        · obtain rfl : j = R.length + 1 := by omega
          have htn : tn = (sdiag R S C (k + 1) (R.length + 1)).length := by
            obtain ⟨_, _, e, _⟩ := HOD.out.ints.len
            simp only [Value.slice.injEq] at e
            exact e.2.1
          subst htn
          have HLD := Lib.hid (sdiag_length R S C (k + 1) (R.length + 1))
          have AP := Lib.hid (l01Apart_c _ _ wr HOD.out.ints (fun x hx => by have := HSM.out (k + 1) x hx; omega))
          rw [HSD.out (k + 1)] at AP
          have hji : decide ((R.length : Int) + 1 < (R.length : Int) + 1) = false := by simp
          have HL : Hid (((List.range k).map fun k => (diagL R S C (k + 1)).sum).length ≤ 4398046511104) := by show _ ≤ _; simp; omega
          have HS := Lib.hid (range_map_succ (fun k => (diagL R S C (k + 1)).sum) k)
          have hsum := HSS.out (k + 1)
          cases hq : apartL 0 (diagL R S C (k + 1))
          · have HF : Hid (finOk R.length S.length R S C = false) := by
              show _ = _
              cases e : finOk R.length S.length R S C
              · rfl
              · unfold finOk at e
                rw [List.all_eq_true] at e
                rw [e k (List.mem_range.2 hkm)] at hq; cases hq
            rw [hq] at AP
            clear hq hsum
            generalize sdiag R S C (k + 1) (R.length + 1) = ds at *
            go_wp2_with (go_at_call 177; refine AP.out.mono ?_; rintro e w3 ⟨rfl, rfl⟩)
            go_ret2
            exact ⟨⟨_, by rw [HF.out]; rfl, fun h => by rw [HF.out] at h; cases h⟩, HB1D.out⟩
          · have HAP : Hid (∀ j, j < k + 1 → apartL 0 (diagL R S C (j + 1)) = true) := fun j hj => by
              by_cases e : j = k
              · rw [e]; exact hq
              · exact hap.out j (by omega)
            rw [hq] at AP
            have HSMD := Lib.hid (HSM.out (k + 1))
            have HSUM := Lib.hid hsum
            clear hq hsum
            generalize sdiag R S C (k + 1) (R.length + 1) = ds at *
            go_wp2_with (go_at_call 177; refine AP.out.mono ?_; rintro e w3 ⟨rfl, rfl⟩)
            go_loop [9, 10] (fun s i => ∃ t : Nat, t ≤ ds.length ∧ i = .int .i64 t ∧ s = .int .i64 (ds.take t).sum) (fun _ i => ds.length - (intOf i).toNat)
            case atStart => exact ⟨0, by omega, rfl, rfl⟩
            case round =>
              obtain ⟨t, ht, rfl, rfl⟩ := hrel
              by_cases htl : t < ds.length
              · obtain ⟨b2, o2, c2, hv2, hc2, -⟩ := HOD.out.ints.at (w := wr) t htl
                simp only [Value.slice.injEq, true_and] at hv2
                obtain ⟨rfl, rfl⟩ := hv2
                have HT2 : Hid ((ds.take (t + 1)).sum = (ds.take t).sum + ds[t]) := by
                  show _ = _
                  rw [List.take_succ_eq_append_getElem htl, List.sum_append]; simp
                have hs1 := Sm.sum (show Sm 1000000000000 (ds.take t) from fun x hx => HSMD.out x (List.mem_of_mem_take hx))
                have hs2 := HSMD.out _ (List.getElem_mem htl)
                have hs3 : ((ds.take t).length : Int) ≤ 400 := by rw [List.length_take]; have := HLD.out; omega
                have hs4 : (ds.take t).sum ≤ 400 * 1000000000000 := Int.le_trans hs1.2 (Int.mul_le_mul_of_nonneg_right hs3 (by omega))
                generalize (ds.take t).sum = z at *
                generalize ds[t] = x at *
                have hti : (t : Int) < ds.length := by omega
                have hld := HLD.out
                have hwz : IntKind.i64.wrap (z + x) = z + x := IntWalk.i64_in _ (by omega)
                clear hs1 hs3
                go_wp2_with fail
                go_round
                case rel => exact ⟨t + 1, by omega, by go_num, by rw [HT2.out]⟩
                case measure => simp [intOf]; omega
              · obtain rfl : t = ds.length := by omega
                rw [List.take_length, HSUM.out]
                generalize hz : (diagL R S C (k + 1)).sum = z at *
                go_wp2_with (at_builtin; refine append_int rfl _ _ rfl w.heap.size _ _ z (HOW.out.same HBD.out.block) rfl HB1D.out HB1D.out.size _ rfl (by simp) HL.out ?_; intro v' w' hown' hbl' _ _; obtain ⟨qa, qn, qc, rfl⟩ := own_shape hown')
                go_roundw
                case rel => exact ⟨k + 1, by omega, by go_num, by rw [HS.out]; exact hown', hbl', HAP⟩
                case measure => simp [intOf]; omega
    · obtain rfl : k = R.length + S.length := by omega
      have hki : decide ((R.length : Int) + S.length + 1 < (R.length : Int) + 1 + ((S.length : Int) + 1) - 1) = false := decide_eq_false (by omega)
      have HF : Hid (finOk R.length S.length R S C = true) := by
        show _ = _
        unfold finOk
        rw [List.all_eq_true]
        exact fun k hk => hap.out k (List.mem_range.1 hk)
      rw [show (List.range (R.length + S.length)).map (fun k => (diagL R S C (k + 1)).sum) = finT R.length S.length R S C from rfl] at HOW
      generalize hft : finT R.length S.length R S C = ft at *
      obtain ⟨ta, tc, htv, htl⟩ := HOW.out.ints.len
      simp only [Value.slice.injEq] at htv
      obtain ⟨rfl, rfl, rfl⟩ := htv
      have hcap : ft.length ≤ vc := by
        obtain ⟨a', c', hv', h1, _⟩ := SlAt.len HOW.out.ints
        simp only [Value.slice.injEq, List.length_map] at hv' h1
        omega
      clear hap
      go_wp2_with fail
      go_loop [5] (fun s => ∃ m : Nat, m ≤ ft.length ∧ s = .slice va m vc ∧ Hid (trimN ft ft.length = trimN ft m)) (fun s => match s with | .slice _ n _ => n | _ => 0)
      case atStart => exact ⟨ft.length, Nat.le_refl _, rfl, rfl⟩
      case round =>
        obtain ⟨q, hql, rfl, ht⟩ := hrel
        by_cases h0 : q = 0
        · subst h0
          go_wp2_with fail
          go_ret2
          exact ⟨⟨_, by rw [HF.out]; rfl, fun _ => by unfold trim; rw [ht.out]; exact HOW.out.ints.take 0 (by omega)⟩, HBL.out⟩
        · obtain ⟨p, rfl⟩ : ∃ p, q = p + 1 := ⟨q - 1, by omega⟩
          obtain ⟨b, off, cap, hv, hc, -⟩ := HOW.out.ints.at (w := WA) p (by omega)
          simp only [Value.slice.injEq, true_and] at hv
          obtain ⟨rfl, rfl⟩ := hv
          rw [← getD_at'] at hc
          by_cases hz : ft.getD p 0 = 0
          · have ht2 : Hid (trimN ft ft.length = trimN ft p) := by rw [ht.out, trimN, if_pos hz]; rfl
            rw [hz] at hc
            clear hz h0
            go_wp2_with fail
            go_round
            case rel => exact ⟨p, by omega, rfl, ht2⟩
            case measure => simp
          · have hb := (neB hz).1
            have ht2 : Hid (trimN ft ft.length = p + 1) := by rw [ht.out, trimN, if_neg hz]; rfl
            generalize ft.getD p 0 = x at *
            clear hz h0
            go_wp2_with fail
            go_ret2
            exact ⟨⟨_, by rw [HF.out]; rfl, fun _ => by unfold trim; rw [ht2.out]; exact HOW.out.ints.take (p + 1) (by omega)⟩, HBL.out⟩
end Go.Proofs.Ytljpjoegeincoaa

/- What a table gives: of the program. -/
import Derived.Test.YtalbbjhonkcbgaaGreatLTabM
import Derived.Test.YtalbbjhonkcbgaaGreatLHeld2
import Derived.Test.YtalbbjhonkcbgaaGreatLStep2
import Derived.Test.YtalbbjhonkcbgaaGreatLMil
namespace Go.Proofs.YtalbbjhonkcbgaaGreat
open Go.RowKit Go.Sort

set_option maxRecDepth 100000 in
set_option maxHeartbeats 1000000 in
theorem at_c {B D g : Nat} {rv sv cv ov : Value} {cus ous : List Value} {R S : List Int} {C O : List (List Int)} (i j k2 k3 kb : Nat) (w : World) (h : TabV w B D g rv sv cv ov cus ous R S C O)
    (h2 : w.cell? ⟨k2, 0, none⟩ = some (.int .i64 R.length)) (h3 : w.cell? ⟨k3, 0, none⟩ = some (.int .i64 S.length)) (hb : w.cell? ⟨kb, 0, none⟩ = some (.pointer (some ⟨g, 0, none⟩)))
    (hC : C.length = R.length) (hrow : ∀ x ∈ C, x.length = S.length) (hij : 0 < i + j) (hi : i ≤ 1000) (hj : j ≤ 1000) :
    Calls Tryz.prog 136 #[.int .i64 i, .int .i64 j, .pointer (some ⟨k2, 0, none⟩), .pointer (some ⟨k3, 0, none⟩), .pointer (some ⟨kb, 0, none⟩)] w fun e w' => e = .returned (.int .i64 (tabAt R S C i j)) ∧ w = w' := by
  have c0 := h.c0; have c1 := h.c1; have c2 := h.c2
  obtain ⟨ra, rc, rfl, hrl⟩ := h.r.ints.len
  obtain ⟨sa, sc, rfl, hsl⟩ := h.s.ints.len
  obtain ⟨ca, cc, rfl, hcl⟩ := h.c.ints.len
  have H := Lib.hid h; clear h
  by_cases hi1 : R.length < i
  · have e : tabAt R S C i j = 0 := by
      unfold tabAt
      rw [if_neg (by omega)]
      by_cases h0 : j = 0
      · rw [if_pos h0]; simp [show R.length ≤ i - 1 by omega]
      · rw [if_neg h0]; simp [show C.length ≤ i - 1 by omega]
    rw [e]
    have t1 : decide ((R.length : Int) < (i : Int)) = true := decide_eq_true (by omega)
    clear e hij hrow
    go_enter Tryz.func136, Tryz.ntmps136
    go_wp2_with fail
    go_ret
    exact ⟨rfl, rfl⟩
  · have t1 : decide ((R.length : Int) < (i : Int)) = false := decide_eq_false (by omega)
    by_cases hj1 : S.length < j
    · have e : tabAt R S C i j = 0 := by
        unfold tabAt
        by_cases h0 : i = 0
        · rw [if_pos h0, if_neg (by omega)]; simp [show S.length ≤ j - 1 by omega]
        · rw [if_neg h0, if_neg (by omega)]
          by_cases h1 : i - 1 < C.length
          · rw [show C.getD (i - 1) [] = C[i - 1] by simp [h1]]
            have := hrow _ (List.getElem_mem h1)
            simp [show C[i - 1].length ≤ j - 1 by omega]
          · simp [show C.length ≤ i - 1 by omega]
      rw [e]
      have t2 : decide ((S.length : Int) < (j : Int)) = true := decide_eq_true (by omega)
      clear e hij hrow
      go_enter Tryz.func136, Tryz.ntmps136
      go_wp2_with fail
      go_ret
      exact ⟨rfl, rfl⟩
    · have t2 : decide ((S.length : Int) < (j : Int)) = false := decide_eq_false (by omega)
      by_cases h0 : i = 0
      · have t3 := (eqB (show (i : Int) = 0 by omega)).1
        have hjj : j - 1 < S.length := by omega
        obtain ⟨b, off, cap, hv, hc, -⟩ := H.out.s.ints.at (w := w) (j - 1) hjj
        simp only [Value.slice.injEq, true_and] at hv
        obtain ⟨rfl, rfl⟩ := hv
        have e : tabAt R S C i j = S[j - 1] := by
          unfold tabAt
          rw [if_pos h0, if_neg (by omega)]; simp [hjj]
        rw [e]
        generalize S[j - 1] = x at *
        obtain ⟨q, hq⟩ : ∃ q : Nat, j - 1 = q := ⟨_, rfl⟩
        have hw : IntKind.i64.wrap ((j : Int) - 1) = q := by rw [IntWalk.i64_in _ (by omega)]; omega
        rw [hq] at hc
        have hql : (q : Int) < S.length := by omega
        clear e hij hrow h0 hq hjj
        go_enter Tryz.func136, Tryz.ntmps136
        go_wp2_with fail
        go_ret
        exact ⟨rfl, rfl⟩
      · have t3 := (neB (show (i : Int) ≠ 0 by omega)).1
        have hii : i - 1 < R.length := by omega
        by_cases h1 : j = 0
        · have t4 := (eqB (show (j : Int) = 0 by omega)).1
          obtain ⟨b, off, cap, hv, hc, -⟩ := H.out.r.ints.at (w := w) (i - 1) hii
          simp only [Value.slice.injEq, true_and] at hv
          obtain ⟨rfl, rfl⟩ := hv
          have e : tabAt R S C i j = R[i - 1] := by
            unfold tabAt
            rw [if_neg h0, if_pos h1]; simp [hii]
          rw [e]
          generalize R[i - 1] = x at *
          obtain ⟨q, hq⟩ : ∃ q : Nat, i - 1 = q := ⟨_, rfl⟩
          have hw : IntKind.i64.wrap ((i : Int) - 1) = q := by rw [IntWalk.i64_in _ (by omega)]; omega
          rw [hq] at hc
          have hql : (q : Int) < R.length := by omega
          clear e hij hrow h0 hq hii h1
          go_enter Tryz.func136, Tryz.ntmps136
          go_wp2_with fail
          go_ret
          exact ⟨rfl, rfl⟩
        · have t4 := (neB (show (j : Int) ≠ 0 by omega)).1
          have hjj : j - 1 < S.length := by omega
          have hci : i - 1 < C.length := by omega
          obtain ⟨b, off, cap, u, hv, hc, hu, -⟩ := H.out.c.ints.at (w := w) (i - 1) hci
          simp only [Value.slice.injEq, true_and] at hv
          obtain ⟨rfl, rfl⟩ := hv
          have hlr := hrow _ (List.getElem_mem hci)
          obtain ⟨b2, off2, cap2, rfl, hc2, -⟩ := hu.at (w := w) (j - 1) (by omega)
          have e : tabAt R S C i j = C[i - 1][j - 1] := by
            unfold tabAt
            rw [if_neg h0, if_neg h1, show C.getD (i - 1) [] = C[i - 1] by simp [hci]]; simp [show j - 1 < C[i - 1].length by omega]
          rw [e]
          generalize C[i - 1][j - 1] = x at *
          obtain ⟨q, hq⟩ : ∃ q : Nat, i - 1 = q := ⟨_, rfl⟩
          obtain ⟨p, hp⟩ : ∃ p : Nat, j - 1 = p := ⟨_, rfl⟩
          have hw : IntKind.i64.wrap ((i : Int) - 1) = q := by rw [IntWalk.i64_in _ (by omega)]; omega
          have hw2 : IntKind.i64.wrap ((j : Int) - 1) = p := by rw [IntWalk.i64_in _ (by omega)]; omega
          rw [hlr] at hc
          rw [hq] at hc
          rw [hp] at hc2
          have hql : (q : Int) < C.length := by omega
          have hpl : (p : Int) < S.length := by omega
          clear e hij hrow h0 hq hii h1 hjj hp hlr hu
          go_enter Tryz.func136, Tryz.ntmps136
          go_wp2_with fail
          go_ret
          exact ⟨rfl, rfl⟩
theorem fin_cut (w : World) (x y z : Value) (t t2 : Nat) : ((((w.alloc (.cells #[x] t)).alloc (.cells #[y] t2)).alloc (.cells #[z] t2)).drew).cell? ⟨w.heap.size + 1, 0, none⟩ = some y ∧ ((((w.alloc (.cells #[x] t)).alloc (.cells #[y] t2)).alloc (.cells #[z] t2)).drew).cell? ⟨w.heap.size + 1 + 1, 0, none⟩ = some z ∧
    Below w.heap.size w ((((w.alloc (.cells #[x] t)).alloc (.cells #[y] t2)).alloc (.cells #[z] t2)).drew) ∧ Cell1 ((((w.alloc (.cells #[x] t)).alloc (.cells #[y] t2)).alloc (.cells #[z] t2)).drew) w.heap.size x t := by
  have h1 := Cell1.new w x t
  have h2 := Cell1.new (w.alloc (.cells #[x] t)) y t2
  have h3 := Cell1.new ((w.alloc (.cells #[x] t)).alloc (.cells #[y] t2)) z t2
  have h2' := h2.kept (alloc_old _ (.cells #[z] t2))
  have h1' := (h1.kept (alloc_old _ (.cells #[y] t2))).kept (alloc_old _ (.cells #[z] t2))
  simp only [size_alloc_w] at h2' h3
  exact ⟨h2'.c0, h3.c0, below_drewN 1 ((((Below.refl _ _).alloc (Nat.le_refl _) _).alloc (by simp) _).alloc (by simp; omega) _), h1'⟩
theorem enters_trimmed : Enters Tryz.prog 138 := fun args w => by kernel_rfl
set_option maxRecDepth 100000 in
set_option maxHeartbeats 2000000 in
theorem finish_c {B D g : Nat} {rv sv cv ov : Value} {cus ous : List Value} {R S : List Int} {C O : List (List Int)} (w : World) (h : TabV w B D g rv sv cv ov cus ous R S C O)
    (hC : C.length = R.length) (hrow : ∀ x ∈ C, x.length = S.length) (hm : R.length ≤ 300) (hn : S.length ≤ 300) (sR : Sm 1000000000000 R) (sS : Sm 1000000000000 S) (sC : ∀ x ∈ C, Sm 1000000000000 x) (hO : O.length < 4398046511104) :
    Calls Tryz.prog 128 #[.pointer (some ⟨g, 0, none⟩)] w fun e w' => e = .returned (.tuple #[]) ∧ ∃ ov' ous', TabV w' B D g rv sv cv ov' cus ous' R S C (O ++ finL R.length S.length R S C) ∧ Below B w w' := by
  have hb1 : Below w.heap.size w (w.alloc (.cells #[.pointer (some ⟨g, 0, none⟩)] 99)) := (Below.refl _ _).alloc (Nat.le_refl _) _
  have K := Cell1.new w (.pointer (some ⟨g, 0, none⟩)) 99
  have H1 := h.kept hb1
  have c0 := H1.c0; have c1 := H1.c1; have kc := K.c0
  obtain ⟨ra, rc, rfl, hrl⟩ := h.r.ints.len
  obtain ⟨sa, sc, rfl, hsl⟩ := h.s.ints.len
  obtain ⟨oa, oc, rfl, hol⟩ := h.o.ints.len
  have HH := Lib.hid h; have hBw : B ≤ w.heap.size := by have := h.lD; have := h.gB; have := h.gD; omega
  clear h hb1 K H1
  go_enter Tryz.func128, Tryz.ntmps128
  go_upto_region 1 with fail
  go_cut [2, 3] (fun s2 s3 wx => ∃ (W : World) (k2 k3 : Nat), W = wx ∧ s2 = .pointer (some ⟨k2, 0, none⟩) ∧ s3 = .pointer (some ⟨k3, 0, none⟩) ∧ wx.cell? ⟨k2, 0, none⟩ = some (.int .i64 R.length) ∧ wx.cell? ⟨k3, 0, none⟩ = some (.int .i64 S.length) ∧ Below w.heap.size w wx ∧ Cell1 wx w.heap.size (.pointer (some ⟨g, 0, none⟩)) 99)
  case first =>
    go_region_held3 (fun W => W.cell? ⟨w.heap.size, 0, none⟩ = some (.pointer (some ⟨g, 0, none⟩)) ∧ W.cell? ⟨g, 0, none⟩ = some (.slice ra R.length rc) ∧ W.cell? ⟨g, 1, none⟩ = some (.slice sa S.length sc)) (go_keep) (fail)
    all_goals
      first | go_meet | (go_wp2_with fail; go_meet)
      first | exact ⟨_, _, _, rfl, rfl, rfl, (fin_cut _ _ _ _ _ _).1, (fin_cut _ _ _ _ _ _).2.1, (fin_cut _ _ _ _ _ _).2.2.1, (fin_cut _ _ _ _ _ _).2.2.2⟩ | exact ⟨_, _, _, rfl, rfl, rfl, (fin_cut _ _ _ _ _ _).2.1, (fin_cut _ _ _ _ _ _).1, (fin_cut _ _ _ _ _ _).2.2.1, (fin_cut _ _ _ _ _ _).2.2.2⟩
  case rest =>
    obtain ⟨W1, k2, k3, hWe, rfl, rfl, hk2, hk3, hx, hkb⟩ := hcut
    subst hWe
    have HB := Lib.hid hx; have HT := Lib.hid (HH.out.kept hx)
    have kb1 := hkb.c0
    have HKB := Lib.hid hkb
    have hentry : Enters Tryz.prog 136 := fun args w => by kernel_rfl
    unfold Enters at hentry
    have K2 := Lib.hid hk2; have K3 := Lib.hid hk3
    have A := Lib.hid (fun (i j : Nat) (W : World) (hT : TabV W B D g (.slice ra R.length rc) (.slice sa S.length sc) cv (.slice oa O.length oc) cus ous R S C O) (h2 : W.cell? ⟨k2, 0, none⟩ = some (.int .i64 R.length)) (h3 : W.cell? ⟨k3, 0, none⟩ = some (.int .i64 S.length)) (hb : W.cell? ⟨w.heap.size, 0, none⟩ = some (.pointer (some ⟨g, 0, none⟩))) (hij : 0 < i + j) (hi : i ≤ 1000) (hj : j ≤ 1000) => at_c i j k2 k3 w.heap.size W hT h2 h3 hb hC hrow hij hi hj)
    have HSM := Lib.hid (fun k => diagL_sm (by omega) sR sS sC k)
    have hmn : IntKind.i64.wrap ((R.length : Int) + S.length) = (R.length : Int) + S.length := IntWalk.i64_in _ (by omega)
    have HO := Lib.hid hO
    clear hx hkb HH hC hrow sR sS sC hk2 hk3 kb1 hO kc c0 c1
    go_wp2_with fail
    go_loopw [5, 6] (fun o i wr => ∃ k : Nat, k ≤ R.length + S.length ∧ i = .int .i64 ((k : Int) + 1) ∧ OwnI wr W1.heap.size o ((List.range k).map fun k => (diagL R S C (k + 1)).sum) ∧ Below W1.heap.size W1 wr ∧ Hid (∀ j, j < k → apartL 0 (diagL R S C (j + 1)) = true)) (fun _ i _ => R.length + S.length + 1 - (intOf i).toNat)
    case atStart => exact ⟨0, by omega, rfl, ownI_empty (Nat.le_refl _), (Below.refl _ _).alloc (Nat.le_refl _) _, fun j hj => by omega⟩
    case round =>
      obtain ⟨k, hk, rfl, hown, hbl, hap⟩ := hrel
      rename World => WA
      obtain ⟨va, vn, vc, rfl⟩ := own_shape hown
      have HOW := Lib.hid hown; have HBL := Lib.hid hbl
      have ck2 := (hbl.cell (World.block_lt_of_cell? _ _ K2.out)).trans K2.out
      have ck3 := (hbl.cell (World.block_lt_of_cell? _ _ K3.out)).trans K3.out
      clear hown hbl
      by_cases hkm : k < R.length + S.length
      · have hki : (k : Int) + 1 ≤ (R.length : Int) + S.length := by omega
        go_wp2_with fail
        go_loopw [7, 8] (fun o i wk => ∃ j : Nat, j ≤ k + 2 ∧ i = .int .i64 j ∧ OwnI wk WA.heap.size o ((diagL R S C (k + 1)).take j) ∧ Below WA.heap.size WA wk) (fun _ i _ => k + 2 - (intOf i).toNat)
        case atStart => exact ⟨0, by omega, rfl, ownI_empty (Nat.le_refl _), (Below.refl _ _).alloc (Nat.le_refl _) _⟩
        case round =>
          obtain ⟨j, hj, rfl, hown, hbl⟩ := hrel
          obtain ⟨ta, tn, tc, rfl⟩ := own_shape hown
          have HOD := Lib.hid hown; have HBD := Lib.hid hbl
          have HB1D := Lib.hid (HBL.out.trans (hbl.mono HBL.out.size))
          clear hown hbl
          by_cases hjl : j < k + 2
          · have HS := Lib.hid (diagL_take R S C (k + 1) j (by omega))
            have HL : Hid (((diagL R S C (k + 1)).take j).length ≤ 4398046511104) := by show _ ≤ _; rw [List.length_take, diagL_length]; omega
            have AT := Lib.hid (A.out j (k + 1 - j) wr (HT.out.kept HB1D.out) ((HB1D.out.cell (World.block_lt_of_cell? _ _ K2.out)).trans K2.out) ((HB1D.out.cell (World.block_lt_of_cell? _ _ K3.out)).trans K3.out) (HKB.out.kept HB1D.out.block).c0 (by omega) (by omega) (by omega))
            have hsub : IntKind.i64.wrap ((k : Int) + 1 - (j : Int)) = ((k + 1 - j : Nat) : Int) := by rw [IntWalk.i64_in _ (by omega)]; omega
            have hji : (j : Int) ≤ (k : Int) + 1 := by omega
            generalize tabAt R S C j (k + 1 - j) = x at *
            go_wp2_with (first | (go_at_call 136; refine AT.out.mono ?_; rintro e w3 ⟨rfl, rfl⟩) | (at_builtin; refine append_int rfl _ _ rfl WA.heap.size _ _ x HOD.out rfl HBD.out HBD.out.size _ rfl (by simp) HL.out ?_; intro v' w' hown' hbl' _ _; obtain ⟨qa, qn, qc, rfl⟩ := own_shape hown'))
            go_roundw
            case rel => exact ⟨j + 1, by omega, by go_num, by rw [HS.out]; exact hown', hbl'⟩
            case measure => simp [intOf]; omega
          · obtain rfl : j = k + 2 := by omega
            rw [List.take_of_length_le (by rw [diagL_length]; omega)] at HOD
            have AP := Lib.hid (apart_c _ _ wr HOD.out.ints (fun x hx => by have := HSM.out (k + 1) x hx; omega))
            have SU := Lib.hid (sumS_c _ _ wr HOD.out.ints (fun x hx => by have := HSM.out (k + 1) x hx; omega) (by rw [diagL_length]; omega))
            have hji : (k : Int) + 1 < (k + 2 : Nat) := by omega
            have HL : Hid (((List.range k).map fun k => (diagL R S C (k + 1)).sum).length ≤ 4398046511104) := by show _ ≤ _; simp; omega
            have HS := Lib.hid (range_map_succ (fun k => (diagL R S C (k + 1)).sum) k)
            cases hq : apartL 0 (diagL R S C (k + 1))
            · have HF := Lib.hid (finOk_false (m := R.length) (n := S.length) k hkm hq)
              rw [hq] at AP
              clear hq
              generalize diagL R S C (k + 1) = ds at *
              go_wp2_with (go_at_call 137; refine AP.out.mono ?_; rintro e w3 ⟨rfl, rfl⟩)
              refine bodyPost_ret (results_none rfl _ _ _) rfl ?_
              exact ⟨rfl, _, ous, by rw [HF.out, List.append_nil]; exact HT.out.kept HB1D.out, (HB.out.mono hBw).trans (HB1D.out.mono (Nat.le_trans hBw HB.out.size))⟩
            · have HAP : Hid (∀ j, j < k + 1 → apartL 0 (diagL R S C (j + 1)) = true) := fun j hj => by
                by_cases e : j = k
                · rw [e]; exact hq
                · exact hap.out j (by omega)
              rw [hq] at AP
              clear hq
              generalize hds : diagL R S C (k + 1) = ds at *
              generalize hsm : ds.sum = z at *
              go_wp2_with (first | (go_at_call 137; refine AP.out.mono ?_; rintro e w3 ⟨rfl, rfl⟩) | (go_at_call 68; refine SU.out.mono ?_; rintro e w4 ⟨rfl, rfl⟩) | (at_builtin; refine append_int rfl _ _ rfl W1.heap.size _ _ z (HOW.out.same HBD.out.block) rfl HB1D.out HB1D.out.size _ rfl (by simp) HL.out ?_; intro v' w' hown' hbl' _ _; obtain ⟨qa, qn, qc, rfl⟩ := own_shape hown'))
              go_roundw
              case rel => exact ⟨k + 1, by omega, by go_num, by rw [HS.out]; exact hown', hbl', HAP⟩
              case measure => simp [intOf]; omega
      · obtain rfl : k = R.length + S.length := by omega
        have HF := Lib.hid (finOk_true (m := R.length) (n := S.length) (R := R) (S := S) (C := C) hap.out)
        rw [show (List.range (R.length + S.length)).map (fun k => (diagL R S C (k + 1)).sum) = finT R.length S.length R S C from rfl] at HOW
        generalize hft : finT R.length S.length R S C = ft at *
        obtain ⟨ta, tc, htv, htl⟩ := HOW.out.ints.len
        simp only [Value.slice.injEq] at htv
        obtain ⟨rfl, rfl, rfl⟩ := htv
        have TR := Lib.hid (fun (W : World) (h : IntS W.heap (.slice va ft.length vc) ft) => trimmed_c va vc ft W h)
        have HTR := Lib.hid (HOW.out.take (trimN ft ft.length) (trimN_le ft ft.length))
        rw [show ft.take (trimN ft ft.length) = trim ft from rfl] at HTR
        have kb2 := (HKB.out.kept HBL.out.block).c0
        have HT2 := Lib.hid (HT.out.kept HBL.out)
        have c3 := HT2.out.c3; have f3 := HT2.out.free 3
        have HN1 : Hid (some w.heap.size ≠ (Value.slice oa O.length oc).ownBlock) := fun e => own_ne_block (cs := []) HT2.out.o.row (HKB.out.kept HBL.out.block) (by decide) e.symm
        clear hap A
        have hki2 : decide ((R.length : Int) + S.length + 1 ≤ (R.length : Int) + S.length) = false := decide_eq_false (by omega)
        go_wp2_with fail
        have c3a : ∀ o, ((WA.alloc o).drew).cell? ⟨g, 3, none⟩ = some (.slice oa O.length oc) := fun o => Go.Lib.cell?_alloc_some o c3
        have c3b : WA.drew.cell? ⟨g, 3, none⟩ = some (.slice oa O.length oc) := c3
        have kb3a : ∀ o, ((WA.alloc o).drew).cell? ⟨w.heap.size, 0, none⟩ = some (.pointer (some ⟨g, 0, none⟩)) := fun o => Go.Lib.cell?_alloc_some o kb2
        have kb3b : WA.drew.cell? ⟨w.heap.size, 0, none⟩ = some (.pointer (some ⟨g, 0, none⟩)) := kb2
        go_region_law
          (first | (refine step_call1 (by rfl) 138 (.tmp 56) 22 (by rfl) (.slice va (trimN ft ft.length) vc) enters_trimmed (by exact TR.out _ (by exact HOW.out.ints)) ?_) | (refine step_append_rowU (w0 := W1) (wE := W1) (by rfl) (.tmp 55) (.tmp 58) (by rfl) D (.slice oa O.length oc) (.slice va (trimN ft ft.length) vc) ous O (trim ft) HT.out.o (by rfl) (by exact OwnI.same HTR.out (alloc_old _ _)) (by exact (below_drewN 1 HBL.out).alloc HBL.out.size _) (by exact Below.refl D W1) (by exact HT.out.lD) WA.heap.size (by rfl) (by exact heap_alloc_new _ _) HO.out ?_; intro v3 w3 hU3 hb3 hs3 hk4; obtain ⟨sa', sn, sc', rfl⟩ := own_shape hU3.row; have kb4 := held1G (kb3a _) hk4 HN1.out; have f4 := HT.out.free3 hb3 3; have c4 := HT.out.cell3 hb3))
        all_goals
          go_end0
          exact ⟨rfl, _, _, by rw [HF.out]; exact HT.out.newO hb3 hU3, ((HB.out.mono hBw).trans (hb3.mono (by have := HT.out.gB; have := HT.out.gD; omega))).setCell (by exact HT.out.gB) _⟩
end Go.Proofs.YtalbbjhonkcbgaaGreat

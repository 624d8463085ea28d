/- ProfileOfElement of the program and of the reference. -/
import Derived.Test.YthclhbjbimncpaaLProf
import Derived.Lib.SliceRun
namespace Go.Proofs.Ythclhbjbimncpaa
open Go.RowKit Go.Sort

set_option maxRecDepth 100000 in
theorem implProfileOfElement_c (v : Value) (xss : List (List Int)) (w : World) (h : IntSS w.heap v xss) :
    Calls Try.prog 35 #[.agg #[v]] w fun e w' => ∃ r, e = .returned (.tuple #[r, .int .i64 (pfC xss)]) ∧ OwnI w' w.heap.size r (pfOf xss) ∧ Below w.heap.size w w' := by
  have hb : Below w.heap.size w (w.alloc (.cells #[v] 42)) := (Below.refl _ _).alloc (Nat.le_refl _) _
  have hA := h.same hb.block
  have M := Lib.hid (isMilnor_c v xss _ hA)
  have K0 := Lib.hid (Cell1.new w v 42).c0
  obtain ⟨ao, c, rfl, hm⟩ := h.len
  have H := Lib.hid hA
  have HB := Lib.hid hb; clear hb h hA
  cases hT : arT xss
  · have e1 : pfC xss = 1 := by simp [pfC, hT]
    have e2 : pfOf xss = [] := by simp [pfOf, hT]
    rw [e1, e2]
    rw [hT] at M
    clear e1 e2 hT
    go_enter Try.func35, Try.ntmps35
    go_wp2_with (go_at_call 95; refine M.out.mono ?_; rintro e w1 ⟨rfl, hb1⟩; have HB1 := Lib.hid (HB.out.trans (hb1.mono HB.out.size)); clear hb1)
    go_ret2
    exact ⟨_, rfl, OwnI.nil _ _, HB1.out⟩
  · have e1 : pfC xss = 0 := by simp [pfC, hT]
    have e2 : pfOf xss = trim (pfL xss 10) := by simp [pfOf, hT]
    rw [e1, e2]
    rw [hT] at M
    have HT := Lib.hid hT
    clear e1 e2 hT
    have hmk := fun w => make_run (P := Try.prog) 25 2 _ 8 info_int64 Try.underlying25 rfl (by omega) 10 (by omega) .i64 .i64 10 10 rfl rfl w
    go_enter Try.func35, Try.ntmps35
    go_wp2_with (go_at_call 95; refine M.out.mono ?_; rintro e w1 ⟨rfl, hb1⟩; have k1 := (hb1.cell (p := ⟨w.heap.size, 0, none⟩) (by simp)).trans K0.out; have k2 := Go.Lib.cell?_alloc_some (.cells (madeCells #[.int .i64 0] 10) 2) k1; have H1 := Lib.hid (H.out.same hb1.block); have HB1 := Lib.hid (HB.out.trans (hb1.mono HB.out.size)); clear hb1)
    clear hmk k1 k2
    go_loopw [16] (fun i wr => ∃ k : Nat, k ≤ xss.length ∧ i = .int .i64 k ∧ wr.ownsRow w1.heap.size 2 1 (.slice (some ⟨w1.heap.size, 0, none⟩) 10 10) 10 ((pfL (xss.take k) 10).map (Value.int .i64)) ∧ Below w1.heap.size w1 wr) (fun i _ => xss.length - (intOf i).toNat)
    case atStart =>
      refine ⟨0, Nat.zero_le _, rfl, ?_, (Below.refl _ _).alloc (Nat.le_refl _) _⟩
      have := made_own w1 w1.heap.size 2 10 (.int .i64 0) (Nat.le_refl _) (by omega)
      simpa [pfL, pf, List.map_const'] using this
    case round =>
      obtain ⟨k, hk, rfl, hown, hbl⟩ := hrel
      by_cases hlt : k < xss.length
      · obtain ⟨b, off, cap, u, hv, hc1, hu, -⟩ := H1.out.at k hlt
        have hc := (hbl.cell (World.block_lt_of_cell? _ _ hc1)).trans hc1
        clear hc1
        simp only [Value.slice.injEq, true_and] at hv
        obtain ⟨rfl, rfl⟩ := hv
        have hex := (arT_row HT.out _ (List.getElem_mem hlt)).1
        have hl10 := exp_len hex
        have HN := Lib.hid (arT_num HT.out _ (List.getElem_mem hlt))
        have HR := Lib.hid (pfI_row xss k 10 hlt)
        have HS := Lib.hid (fun i => pf_succ xss k i hlt)
        obtain ⟨ra, rc, rfl, -⟩ := hu.len
        have HU := Lib.hid hu
        have HO := Lib.hid hown; have HBL := Lib.hid hbl
        clear hown hbl hu hex
        rw [← pfI_zero] at HO
        generalize xss[k] = r at *
        go_wp2_with fail
        clear hc
        go_loopw [22] (fun i wr => ∃ j : Nat, j ≤ r.length ∧ i = .int .i64 j ∧ wr.ownsRow w1.heap.size 2 1 (.slice (some ⟨w1.heap.size, 0, none⟩) 10 10) 10 ((pfI xss k j 10).map (Value.int .i64)) ∧ Below w1.heap.size w1 wr) (fun i _ => r.length - (intOf i).toNat)
        case atStart => exact ⟨0, Nat.zero_le _, rfl, HO.out, HBL.out⟩
        case round =>
          obtain ⟨j, hj, rfl, hown, hbl⟩ := hrel
          by_cases hlt2 : j < r.length
          · obtain ⟨b2, o2, c2, hv2, hc2, -⟩ := (HU.out.same hbl.block).at (w := wr) j hlt2
            simp only [Value.slice.injEq, true_and] at hv2
            obtain ⟨rfl, rfl⟩ := hv2
            rw [← getD_at'] at hc2
            have hx := HN.out j hlt2
            obtain ⟨x, hxe⟩ : ∃ x : Nat, r.getD j 0 = x := ⟨(r.getD j 0).toNat, by omega⟩
            rw [hxe] at hc2 hx
            have hx40 : x ≤ 40 := by omega
            have hj10 : j < 10 := by omega
            have hcc := own_int_at hown j hj10
            rw [pfI_at _ _ _ _ hj10] at hcc
            have hf := hown.frozenAt j
            have hst := own_int_set hown j ((max (pf (xss.take k) j) (blN x) : Nat) : Int)
            have hps : max (pf (xss.take k) j) (blN x) = pf (xss.take (k + 1)) j := by rw [HS.out j]; unfold pfR; rw [hxe]; rfl
            rw [hps, pfI_set _ _ _ _ hj10, ← hps] at hst
            have hbl' := hbl.setCell (p := ⟨w1.heap.size, j, none⟩) (Nat.le_refl _) (.int .i64 ((max (pf (xss.take k) j) (blN x) : Nat) : Int))
            have L := Lib.hid (fun w => len64_c x w hx40)
            have hbx := blN_le x
            have hbp := pf_le (xss.take k) j
            have G := Lib.hid (And.intro hst hbl'); clear hst hbl' hps hown hbl
            generalize pf (xss.take k) j = y at *
            generalize blN x = z at *
            have hmax : ((max y z : Nat) : Int) = if y < z then (z : Int) else (y : Int) := by split <;> omega
            rw [hmax] at G
            clear hmax
            have hji : (j : Int) < 10 := by omega
            have hux : IntKind.u64.wrap (x : Int) = x := IntWalk.u64_in _ (by omega)
            go_wp2_with fail
            go_region_law (first | (go_simp; go_at_call 96; refine (L.out _).mono ?_; rintro e w' ⟨rfl, rfl⟩))
            all_goals
              go_wp2_with fail
              go_roundw
              case rel => exact ⟨j + 1, by omega, by go_num, own_same G.out.1 (fun _ _ => rfl), below_drewN 1 G.out.2⟩
              case measure => simp [intOf]; omega
          · obtain rfl : j = r.length := by omega
            rw [HR.out] at hown
            go_wp2_with fail
            go_roundw
            case rel => exact ⟨k + 1, by omega, by go_num, hown, hbl⟩
            case measure => simp [intOf]; omega
      · obtain rfl : k = xss.length := by omega
        rw [List.take_length] at hown
        have hown' : OwnI wr w1.heap.size (.slice (some ⟨w1.heap.size, 0, none⟩) (pfL xss 10).length 10) (pfL xss 10) := by unfold OwnI; rw [show (pfL xss 10).length = 10 by simp [pfL]]; exact hown
        have h6 : (pfL xss 10).length = 10 := by simp [pfL]
        have TC := Lib.hid (trimmed_c (some ⟨w1.heap.size, 0, none⟩) 10 (pfL xss 10) wr hown'.ints)
        have HT2 := Lib.hid (copyOf_c (.slice (some ⟨w1.heap.size, 0, none⟩) (trimN (pfL xss 10) (pfL xss 10).length) 10) (trim (pfL xss 10)) wr (by have := (hown'.take (trimN (pfL xss 10) (pfL xss 10).length) (trimN_le _ _)).ints; exact this) (by rw [trim_length]; have := trimN_le (pfL xss 10) (pfL xss 10).length; omega))
        rw [h6] at TC HT2
        have HBL := Lib.hid hbl
        clear hown hown' h6 hbl
        go_wp2_with (first | (go_at_call 98; refine TC.out.mono ?_; rintro e w' ⟨rfl, rfl⟩) | (go_at_call 97; refine HT2.out.mono ?_; rintro e w2 ⟨r2, rfl, hr2, hb2⟩; have hr3 := own_shape hr2; obtain ⟨q1, q2, q3, rfl⟩ := hr3))
        go_ret2
        exact ⟨_, rfl, own_base hr2 (Nat.le_trans HB1.out.size HBL.out.size), (HB1.out.trans (HBL.out.mono HB1.out.size)).trans (hb2.mono (Nat.le_trans HB1.out.size HBL.out.size))⟩
/-- The length of the longest row. -/
def ml (xss : List (List Int)) : Nat := xss.foldl (fun m r => max m r.length) 0
theorem ml_succ (xss : List (List Int)) (k : Nat) (h : k < xss.length) : ml (xss.take (k + 1)) = max (ml (xss.take k)) xss[k].length := by
  unfold ml; rw [List.take_succ_eq_append_getElem h, List.foldl_append]; rfl
theorem ml_le {xss : List (List Int)} (n : Nat) (h : ∀ r ∈ xss, r.length ≤ n) : ml xss ≤ n := by
  unfold ml
  have : ∀ (l : List (List Int)) (m : Nat), m ≤ n → (∀ r ∈ l, r.length ≤ n) → l.foldl (fun m r => max m r.length) m ≤ n := by
    intro l
    induction l with
    | nil => intro m h _; exact h
    | cons r l ih => intro m h k; exact ih _ (Nat.max_le.2 ⟨h, k r (List.mem_cons_self ..)⟩) (fun x hx => k x (List.mem_cons_of_mem _ hx))
  exact this xss 0 (Nat.zero_le _) h
theorem ml_max (xss : List (List Int)) : ∀ r ∈ xss, r.length ≤ ml xss := by
  unfold ml
  have mono : ∀ (l : List (List Int)) (m : Nat), m ≤ l.foldl (fun m r => max m r.length) m := by
    intro l
    induction l with
    | nil => intro m; exact Nat.le_refl _
    | cons r l ih => intro m; exact Nat.le_trans (Nat.le_max_left _ _) (ih _)
  have : ∀ (l : List (List Int)) (m : Nat), ∀ r ∈ l, r.length ≤ l.foldl (fun m r => max m r.length) m := by
    intro l
    induction l with
    | nil => intro m r hr; cases hr
    | cons x l ih =>
      intro m r hr
      rcases List.mem_cons.1 hr with e | e
      · rw [e]; exact Nat.le_trans (Nat.le_max_right _ _) (mono _ _)
      · exact ih _ r e
  exact this xss 0
theorem pf_over (xss : List (List Int)) (i : Nat) (h : ml xss ≤ i) : pf xss i = 0 := by
  unfold pf
  have : ∀ (l : List (List Int)), (∀ r ∈ l, r.length ≤ i) → l.foldl (fun m r => max m (pfR r i)) 0 = 0 := by
    intro l
    induction l with
    | nil => intro _; rfl
    | cons r l ih => intro h; rw [List.foldl_cons, pfR_over r i (h r (List.mem_cons_self ..))]; exact ih fun x hx => h x (List.mem_cons_of_mem _ hx)
  exact this xss fun r hr => Nat.le_trans (ml_max xss r hr) h
theorem pfI_grow (xss : List (List Int)) (k c n : Nat) (h1 : c ≤ n) (h2 : pf (xss.take k) n = 0) : pfI xss k c n ++ [0] = pfI xss k c (n + 1) := by
  simp [pfI, List.range_succ, show ¬ n < c by omega, h2]
theorem set_self (l : List Int) (k : Nat) : l.set k (l.getD k 0) = l := by
  apply List.ext_getElem?
  intro i
  rw [List.getElem?_set]
  by_cases e : k = i
  · subst e
    by_cases h : k < l.length
    · simp [h]
    · simp [h]
  · rw [if_neg e]
theorem pfOf_ml {xss : List (List Int)} (h : arT xss = true) : pfOf xss = trim (pfL xss (ml xss)) := by
  rw [pfOf, h]
  exact trim_range _ _ _ (ml_le 10 fun r hr => exp_len (arT_row h r hr).1) fun i h1 _ => by rw [pf_over xss i h1]; rfl
def cellN (w : World) (p : Addr) : Nat := match w.cell? p with | some (.int _ n) => n.toNat | _ => 0
theorem cellN_of {w : World} {p : Addr} {n : Int} (h : w.cell? p = some (.int .i64 n)) : cellN w p = n.toNat := by unfold cellN; rw [h]
theorem pow6 (m : Nat) (h : m ≤ 6) : (2 : Int) ^ m ≤ 64 := by
  have : m = 0 ∨ m = 1 ∨ m = 2 ∨ m = 3 ∨ m = 4 ∨ m = 5 ∨ m = 6 := by omega
  rcases this with rfl | rfl | rfl | rfl | rfl | rfl | rfl <;> decide
theorem cellN_lt {w w' : World} {p : Addr} {m : Nat} (h : cellN w p = ((m : Int)).toNat) (h2 : w'.cell? p = some (.int .i64 ((m : Int) + 1))) (h6 : m ≤ 6) : 7 - cellN w' p < 7 - cellN w p := by
  rw [h, cellN_of h2]; omega
theorem shl_run (m : Nat) (h : m ≤ 6) : Op.shift BinOp.shl IntKind.i64 1 IntKind.u64 (m : Int) = pure (.int .i64 (2 ^ m)) := by
  have : m = 0 ∨ m = 1 ∨ m = 2 ∨ m = 3 ∨ m = 4 ∨ m = 5 ∨ m = 6 := by omega
  rcases this with rfl | rfl | rfl | rfl | rfl | rfl | rfl <;> rfl
set_option maxRecDepth 100000 in
set_option maxHeartbeats 1000000 in
theorem specProfileOfElement_c (v : Value) (xss : List (List Int)) (w : World) (h : IntSS w.heap v xss) :
    Calls Try.prog 33 #[.agg #[v]] w fun e w' => ∃ r, e = .returned (.tuple #[r, .int .i64 (pfC xss)]) ∧ OwnI w' w.heap.size r (pfOf xss) ∧ Below w.heap.size w w' := by
  have hb : Below w.heap.size w (w.alloc (.cells #[v] 42)) := (Below.refl _ _).alloc (Nat.le_refl _) _
  have hA := h.same hb.block
  have M := Lib.hid (l04Is_c v xss _ hA)
  have K0 := Lib.hid (Cell1.new w v 42).c0
  obtain ⟨ao, c, rfl, hm⟩ := h.len
  have H := Lib.hid hA
  have HB := Lib.hid hb; clear hb h hA
  cases hT : arT xss
  · have e1 : pfC xss = 1 := by simp [pfC, hT]
    have e2 : pfOf xss = [] := by simp [pfOf, hT]
    rw [e1, e2]
    rw [hT] at M
    clear e1 e2 hT
    go_enter Try.func33, Try.ntmps33
    go_wp2_with (go_at_call 92; refine M.out.mono ?_; rintro e w1 ⟨rfl, hb1⟩; have HB1 := Lib.hid (HB.out.trans (hb1.mono HB.out.size)); clear hb1)
    go_ret2
    exact ⟨_, rfl, OwnI.nil _ _, HB1.out⟩
  · have e1 : pfC xss = 0 := by simp [pfC, hT]
    have e2 := pfOf_ml hT
    rw [e1, e2]
    rw [hT] at M
    have HT := Lib.hid hT
    clear e1 e2 hT
    go_enter Try.func33, Try.ntmps33
    go_wp2_with (go_at_call 92; refine M.out.mono ?_; rintro e w1 ⟨rfl, hb1⟩; have HK1 := Lib.hid ((hb1.cell (p := ⟨w.heap.size, 0, none⟩) (by simp)).trans K0.out); have H1 := Lib.hid (H.out.same hb1.block); have HB1 := Lib.hid (HB.out.trans (hb1.mono HB.out.size)); clear hb1)
    go_loopw [4, 5] (fun o i wr => ∃ k : Nat, k ≤ xss.length ∧ i = .int .i64 k ∧ OwnI wr w1.heap.size o (pfL (xss.take k) (ml (xss.take k))) ∧ Below w1.heap.size w1 wr) (fun _ i _ => xss.length - (intOf i).toNat)
    case atStart => exact ⟨0, Nat.zero_le _, rfl, ownI_empty (Nat.le_refl _), (Below.refl _ _).alloc (Nat.le_refl _) _⟩
    case round =>
      obtain ⟨k, hk, rfl, hown, hbl⟩ := hrel
      have kb := (hbl.cell (World.block_lt_of_cell? _ _ HK1.out)).trans HK1.out
      obtain ⟨va, vn, vc, rfl⟩ := own_shape hown
      by_cases hlt : k < xss.length
      · obtain ⟨b, off, cap, u, hv, hc1, hu, -⟩ := H1.out.at k hlt
        have HC1 := Lib.hid hc1
        simp only [Value.slice.injEq, true_and] at hv
        obtain ⟨rfl, rfl⟩ := hv
        clear hc1
        have hex := (arT_row HT.out _ (List.getElem_mem hlt)).1
        have hl10 := exp_len hex
        have hml : ml (xss.take k) ≤ 10 := ml_le 10 fun r hr => exp_len (arT_row HT.out r (List.mem_of_mem_take hr)).1
        have HN := Lib.hid (arT_num HT.out _ (List.getElem_mem hlt))
        have HR := Lib.hid (fun n => pfI_row xss k n hlt)
        have HS := Lib.hid (fun i => pf_succ xss k i hlt)
        have HM := Lib.hid (ml_succ xss k hlt)
        have HZ := Lib.hid (fun i => pf_over (xss.take k) i)
        obtain ⟨ra, rc, rfl, -⟩ := hu.len
        have HU := Lib.hid hu
        rw [← pfI_zero, show ml (xss.take k) = max (ml (xss.take k)) 0 by omega] at hown
        have HO := Lib.hid hown; have HBL := Lib.hid hbl
        clear hown hbl hu hex
        generalize xss[k] = r at *
        generalize ml (xss.take k) = q at *
        have hci := (HBL.out.cell (World.block_lt_of_cell? _ _ HC1.out)).trans HC1.out
        have hp0 : (0 : Int) < 1 := by omega
        clear hp0
        go_wp2_with fail
        clear kb hci
        go_loopw [4, 6] (fun o i wr => ∃ j : Nat, j ≤ r.length ∧ i = .int .i64 j ∧ OwnI wr w1.heap.size o (pfI xss k j (max q j)) ∧ Below w1.heap.size w1 wr) (fun _ i _ => r.length - (intOf i).toNat)
        case atStart => exact ⟨0, Nat.zero_le _, rfl, HO.out, HBL.out⟩
        case round =>
          obtain ⟨j, hj, rfl, hown, hbl⟩ := hrel
          have kb := (hbl.cell (World.block_lt_of_cell? _ _ HK1.out)).trans HK1.out
          have hci := (hbl.cell (World.block_lt_of_cell? _ _ HC1.out)).trans HC1.out
          obtain ⟨va, vn, vc, rfl⟩ := own_shape hown
          have hvn : vn = max q j := by
            obtain ⟨_, _, hv, _⟩ := hown.ints.len
            simp only [Value.slice.injEq, pfI_len] at hv
            exact hv.2.1
          subst hvn
          have HO := Lib.hid hown; have HBL := Lib.hid hbl
          clear hown hbl
          by_cases hlt2 : j < r.length
          · by_cases hqj : j < q
            · have t0 := (neB (show ((j : Nat) : Int) ≠ ((max q j : Nat) : Int) by omega)).1
              obtain ⟨n, hn⟩ : ∃ n, n = max q j := ⟨_, rfl⟩
              have HEQ : Hid (n = max q (j + 1)) := by show _ = _; omega
              have hjn : j < n := by omega
              rw [← hn] at HO t0 ⊢
              clear hn
              go_wp2_with fail
              clear kb hci
              obtain ⟨wr0, hw0⟩ : ∃ wr0, wr0 = wr := ⟨_, rfl⟩
              rw [← hw0] at HO HBL ⊢
              have HO3 := HO; have HBL3 := HBL; clear HO HBL hw0 t0
              obtain ⟨g, cp, hvg, hgB⟩ := own_open (show wr0.ownsRow w1.heap.size 2 1 (.slice va n vc) n ((pfI xss k j n).map (Value.int .i64)) by have := HO3.out; unfold OwnI at this; rwa [pfI_len] at this) (by omega)
              simp only [Value.slice.injEq, true_and] at hvg
              obtain ⟨rfl, rfl⟩ := hvg
              have hx := HN.out j hlt2
              obtain ⟨x, hxe⟩ : ∃ x : Nat, r.getD j 0 = x := ⟨(r.getD j 0).toNat, by omega⟩
              have HXE := Lib.hid hxe
              rw [hxe] at hx
              have hx40 : x < 41 := by omega
              have HSJ : Hid (pf (xss.take (k + 1)) j = max (pf (xss.take k) j) (blN x)) := by show _ = _; rw [HS.out j]; unfold pfR; rw [hxe]; rfl
              have HBX := Lib.hid (blN_le x)
              have HBY := Lib.hid (pf_le (xss.take k) j)
              have HLT := Lib.hid (blN_lt x hx40)
              clear hx hxe
              have HEND : Hid ((pfI xss k j n).set j ((max (pf (xss.take k) j) (blN x) : Nat) : Int) = pfI xss k (j + 1) n) := by show _ = _; rw [← HSJ.out]; exact pfI_set _ _ _ _ hjn
              have HBEG : Hid ((pfI xss k j n).set j ((pf (xss.take k) j : Nat) : Int) = pfI xss k j n) := by show _ = _; rw [← pfI_at xss k j n hjn]; exact set_self _ _
              have HLEN : Hid ((pfI xss k j n).length = n) := pfI_len _ _ _ _
              clear HSJ
              generalize pf (xss.take k) j = y at *
              generalize blN x = z at *
              go_loopw [] (fun wr => ∃ m : Nat, Hid (y ≤ m ∧ m ≤ max y z) ∧ OwnI wr w1.heap.size (.slice (some ⟨g, 0, none⟩) n vc) ((pfI xss k j n).set j (m : Int)) ∧ Below w1.heap.size w1 wr) (fun wr => 7 - cellN wr ⟨g, j, none⟩)
              case atStart => exact ⟨y, ⟨Nat.le_refl _, Nat.le_max_left _ _⟩, by rw [HBEG.out]; exact HO3.out, HBL3.out⟩
              case round =>
                obtain ⟨m, hmb, hown, hbl⟩ := hrel
                have hrow : wr.ownsRow w1.heap.size 2 1 (.slice (some ⟨g, 0, none⟩) n vc) n (((pfI xss k j n).set j (m : Int)).map (Value.int .i64)) := by unfold OwnI at hown; rwa [List.length_set, pfI_len] at hown
                have hcc := own_int_at hrow j hjn
                rw [show ((pfI xss k j n).set j (m : Int)).getD j 0 = m by simp [pfI_len, hjn]] at hcc
                have hcn := cellN_of hcc
                have hf := hrow.frozenAt j
                have hst := own_int_set hrow j ((m : Int) + 1)
                rw [List.set_set] at hst
                have kb := (hbl.cell (World.block_lt_of_cell? _ _ HK1.out)).trans HK1.out
                have hci := (hbl.cell (World.block_lt_of_cell? _ _ HC1.out)).trans HC1.out
                obtain ⟨b2, o2, c2, hv2, hc2, -⟩ := (HU.out.same hbl.block).at (w := wr) j hlt2
                simp only [Value.slice.injEq, true_and] at hv2
                obtain ⟨rfl, rfl⟩ := hv2
                rw [← getD_at', HXE.out] at hc2
                have hm6 : m ≤ 6 := by have := hmb.out; have := HBX.out; have := HBY.out; omega
                have hw : wrap64 (2 ^ min (IntKind.u64.wrap (m : Int)).toNat 64) = 2 ^ m := by rw [IntWalk.u64_in _ (by omega), show min ((m : Int)).toNat 64 = m by omega]; have h1 := pow1 m; have h2 := pow6 m hm6; unfold wrap64; omega
                have hlt3 := HLT.out m (by omega)
                have hbl' := hbl.setCell (p := ⟨g, j, none⟩) hgB (.int .i64 ((m : Int) + 1))
                have HM6 := Lib.hid hm6; have HCN := Lib.hid hcn
                have G := Lib.hid (And.intro hst hbl')
                have HOW := Lib.hid hown; have HBL4 := Lib.hid hbl
                clear hst hbl' hown hbl hrow hm6 hcn
                by_cases hmz : m < z
                · have t1 : decide (wrap64 (2 ^ min (IntKind.u64.wrap (m : Int)).toNat 64) ≤ (x : Int)) = true := by rw [hw, hlt3]; simpa using hmz
                  clear hlt3 hw
                  go_wp2_with fail
                  go_quiet (fail)
                  have hm6 := HM6.out
                  go_wp2_with fail
                  go_roundw
                  case rel => exact ⟨m + 1, Lib.hid (by have := hmb.out; omega), by have := own_same G.out.1 (fun _ _ => rfl); unfold OwnI; rw [List.length_set, HLEN.out]; exact this, below_drewN _ G.out.2⟩
                  case measure =>
                    have h1 := own_int_at G.out.1 j hjn
                    rw [show ((pfI xss k j n).set j ((m : Int) + 1)).getD j 0 = (m : Int) + 1 by simp [HLEN.out, hjn]] at h1
                    exact cellN_lt HCN.out h1 hm6
                · have t1 : decide (wrap64 (2 ^ min (IntKind.u64.wrap (m : Int)).toNat 64) ≤ (x : Int)) = false := by rw [hw, hlt3]; simpa using hmz
                  clear hlt3 hw
                  have HMM : Hid (m = max y z) := by show _ = _; have := hmb.out; omega
                  go_wp2_with fail
                  go_quiet (fail)
                  go_wp2_with fail
                  go_roundw
                  case rel => exact ⟨j + 1, by omega, by go_num, by rw [← HEQ.out, ← HEND.out, ← HMM.out]; exact HOW.out, below_drewN _ HBL4.out⟩
                  case measure => simp [intOf]; omega
            · have hn0 : max q j = j := by omega
              rw [hn0] at HO ⊢
              have hz := HZ.out j (by omega)
              have HG := Lib.hid (pfI_grow xss k j j (Nat.le_refl _) hz)
              obtain ⟨n, hn⟩ : ∃ n, n = j + 1 := ⟨_, rfl⟩
              have HEQ : Hid (n = max q (j + 1)) := by show _ = _; omega
              have hjn : j < n := by omega
              have hln : (pfI xss k j j).length ≤ 4398046511104 := by rw [pfI_len]; omega
              have hsz := HBL.out.size
              have HNJ := Lib.hid hn
              clear hz hn0 hqj hn
              go_wp2_with (first | (at_builtin; refine append_int rfl _ _ rfl w1.heap.size _ (pfI xss k j j) 0 HO.out rfl HBL.out hsz _ rfl (by simp) hln ?_; intro v' wr0 hown' hbl' _ _; obtain ⟨va2, vn2, vc2, hv2⟩ := own_shape hown'; subst hv2))
              clear kb hci hsz hln HO HBL
              rw [HG.out, ← HNJ.out] at hown'
              have hvn2 : vn2 = n := by
                obtain ⟨_, _, hv, _⟩ := hown'.ints.len
                simp only [Value.slice.injEq, pfI_len] at hv
                exact hv.2.1
              subst hvn2
              have HO3 := Lib.hid hown'; have HBL3 := Lib.hid hbl'
              clear hown' hbl'
              obtain ⟨g, cp, hvg, hgB⟩ := own_open (show wr0.ownsRow w1.heap.size 2 1 (.slice va2 vn2 vc2) vn2 ((pfI xss k j vn2).map (Value.int .i64)) by have := HO3.out; unfold OwnI at this; rwa [pfI_len] at this) (by omega)
              simp only [Value.slice.injEq, true_and] at hvg
              obtain ⟨rfl, rfl⟩ := hvg
              have hx := HN.out j hlt2
              obtain ⟨x, hxe⟩ : ∃ x : Nat, r.getD j 0 = x := ⟨(r.getD j 0).toNat, by omega⟩
              have HXE := Lib.hid hxe
              rw [hxe] at hx
              have hx40 : x < 41 := by omega
              have HSJ : Hid (pf (xss.take (k + 1)) j = max (pf (xss.take k) j) (blN x)) := by show _ = _; rw [HS.out j]; unfold pfR; rw [hxe]; rfl
              have HBX := Lib.hid (blN_le x)
              have HBY := Lib.hid (pf_le (xss.take k) j)
              have HLT := Lib.hid (blN_lt x hx40)
              clear hx hxe
              have HEND : Hid ((pfI xss k j vn2).set j ((max (pf (xss.take k) j) (blN x) : Nat) : Int) = pfI xss k (j + 1) vn2) := by show _ = _; rw [← HSJ.out]; exact pfI_set _ _ _ _ hjn
              have HBEG : Hid ((pfI xss k j vn2).set j ((pf (xss.take k) j : Nat) : Int) = pfI xss k j vn2) := by show _ = _; rw [← pfI_at xss k j vn2 hjn]; exact set_self _ _
              have HLEN : Hid ((pfI xss k j vn2).length = vn2) := pfI_len _ _ _ _
              clear HSJ
              generalize pf (xss.take k) j = y at *
              generalize blN x = z at *
              go_loopw [] (fun wr => ∃ m : Nat, Hid (y ≤ m ∧ m ≤ max y z) ∧ OwnI wr w1.heap.size (.slice (some ⟨g, 0, none⟩) vn2 vc2) ((pfI xss k j vn2).set j (m : Int)) ∧ Below w1.heap.size w1 wr) (fun wr => 7 - cellN wr ⟨g, j, none⟩)
              case atStart => exact ⟨y, ⟨Nat.le_refl _, Nat.le_max_left _ _⟩, by rw [HBEG.out]; exact HO3.out, HBL3.out⟩
              case round =>
                obtain ⟨m, hmb, hown, hbl⟩ := hrel
                have hrow : wr.ownsRow w1.heap.size 2 1 (.slice (some ⟨g, 0, none⟩) vn2 vc2) vn2 (((pfI xss k j vn2).set j (m : Int)).map (Value.int .i64)) := by unfold OwnI at hown; rwa [List.length_set, pfI_len] at hown
                have hcc := own_int_at hrow j hjn
                rw [show ((pfI xss k j vn2).set j (m : Int)).getD j 0 = m by simp [pfI_len, hjn]] at hcc
                have hcn := cellN_of hcc
                have hf := hrow.frozenAt j
                have hst := own_int_set hrow j ((m : Int) + 1)
                rw [List.set_set] at hst
                have kb := (hbl.cell (World.block_lt_of_cell? _ _ HK1.out)).trans HK1.out
                have hci := (hbl.cell (World.block_lt_of_cell? _ _ HC1.out)).trans HC1.out
                obtain ⟨b2, o2, c2, hv2, hc2, -⟩ := (HU.out.same hbl.block).at (w := wr) j hlt2
                simp only [Value.slice.injEq, true_and] at hv2
                obtain ⟨rfl, rfl⟩ := hv2
                rw [← getD_at', HXE.out] at hc2
                have hm6 : m ≤ 6 := by have := hmb.out; have := HBX.out; have := HBY.out; omega
                have hw : wrap64 (2 ^ min (IntKind.u64.wrap (m : Int)).toNat 64) = 2 ^ m := by rw [IntWalk.u64_in _ (by omega), show min ((m : Int)).toNat 64 = m by omega]; have h1 := pow1 m; have h2 := pow6 m hm6; unfold wrap64; omega
                have hlt3 := HLT.out m (by omega)
                have hbl' := hbl.setCell (p := ⟨g, j, none⟩) hgB (.int .i64 ((m : Int) + 1))
                have HM6 := Lib.hid hm6; have HCN := Lib.hid hcn
                have G := Lib.hid (And.intro hst hbl')
                have HOW := Lib.hid hown; have HBL4 := Lib.hid hbl
                clear hst hbl' hown hbl hrow hm6 hcn
                by_cases hmz : m < z
                · have t1 : decide (wrap64 (2 ^ min (IntKind.u64.wrap (m : Int)).toNat 64) ≤ (x : Int)) = true := by rw [hw, hlt3]; simpa using hmz
                  clear hlt3 hw
                  go_wp2_with fail
                  go_quiet (fail)
                  have hm6 := HM6.out
                  go_wp2_with fail
                  go_roundw
                  case rel => exact ⟨m + 1, Lib.hid (by have := hmb.out; omega), by have := own_same G.out.1 (fun _ _ => rfl); unfold OwnI; rw [List.length_set, HLEN.out]; exact this, below_drewN _ G.out.2⟩
                  case measure =>
                    have h1 := own_int_at G.out.1 j hjn
                    rw [show ((pfI xss k j vn2).set j ((m : Int) + 1)).getD j 0 = (m : Int) + 1 by simp [HLEN.out, hjn]] at h1
                    exact cellN_lt HCN.out h1 hm6
                · have t1 : decide (wrap64 (2 ^ min (IntKind.u64.wrap (m : Int)).toNat 64) ≤ (x : Int)) = false := by rw [hw, hlt3]; simpa using hmz
                  clear hlt3 hw
                  have HMM : Hid (m = max y z) := by show _ = _; have := hmb.out; omega
                  go_wp2_with fail
                  go_quiet (fail)
                  go_wp2_with fail
                  go_roundw
                  case rel => exact ⟨j + 1, by omega, by go_num, by rw [← HEQ.out, ← HEND.out, ← HMM.out]; exact HOW.out, below_drewN _ HBL4.out⟩
                  case measure => simp [intOf]; omega
          · obtain rfl : j = r.length := by omega
            have HO2 : Hid (OwnI wr w1.heap.size (.slice va (max q r.length) vc) (pfL (xss.take (k + 1)) (ml (xss.take (k + 1))))) := by
              show OwnI _ _ _ _
              rw [HM.out, ← HR.out]
              exact HO.out
            go_wp2_with fail
            go_roundw
            case rel => exact ⟨k + 1, by omega, by go_num, HO2.out, HBL.out⟩
            case measure => simp [intOf]; omega
      · obtain rfl : k = xss.length := by omega
        rw [List.take_length] at hown
        have hvn : vn = (pfL xss (ml xss)).length := by
          obtain ⟨_, _, hv, _⟩ := hown.ints.len
          simp only [Value.slice.injEq] at hv
          exact hv.2.1
        subst hvn
        have hml : ml xss ≤ 10 := ml_le 10 fun r hr => exp_len (arT_row HT.out r hr).1
        have TC := Lib.hid (l07Trim_c va vc (pfL xss (ml xss)) wr hown.ints (by simp [pfL]; omega))
        have HBL := Lib.hid hbl
        clear hown hbl
        go_wp2_with (first | (go_at_call 93; refine TC.out.mono ?_; rintro e w2 ⟨r2, rfl, hr2, hb2⟩; have hr3 := own_shape hr2; obtain ⟨q1, q2, q3, rfl⟩ := hr3))
        go_ret2
        exact ⟨_, rfl, own_base hr2 (Nat.le_trans HB1.out.size HBL.out.size), (HB1.out.trans (HBL.out.mono HB1.out.size)).trans (hb2.mono (Nat.le_trans HB1.out.size HBL.out.size))⟩
end Go.Proofs.Ythclhbjbimncpaa

/- The admissible form of a product of two squares: of the reference. -/
import Derived.Test.YtljfpkhgijangaaLPut
import Derived.Test.YtljfpkhgijangaaLSum
import Derived.Test.YtljfpkhgijangaaL10
import Derived.Test.YtljfpkhgijangaaLMs2
namespace Go.Proofs.Ytljfpkhgijangaa
open Go.RowKit Go.Sort

def frontL (i : Int) (word : List Int) : List Int := if i = 0 then word else i :: word
theorem l03Front_c (i : Int) (v : Value) (word : List Int) (w : World) (h : IntS w.heap v word) (hl : word.length ≤ 1000) :
    Calls Try.prog 238 #[.int .i64 i, v] w fun e w' => ∃ r, e = .returned r ∧ OwnI w' w.heap.size r (frontL i word) ∧ Below w.heap.size w w' := by
  by_cases hi : i = 0
  · have t1 := (eqB hi).1
    rw [frontL, if_pos hi]
    have C := Lib.hid (l01Own_c v word w h (by omega))
    obtain ⟨vo, vc, hvv, -⟩ := h.len
    subst hvv
    clear hi h
    go_enter Try.func238, Try.ntmps238
    go_wp2_with (go_at_call 123; refine C.out.mono ?_; rintro e w1 ⟨r, rfl, hr, hb1⟩; obtain ⟨ra, rn, rc, rfl⟩ := own_shape hr)
    go_ret
    exact ⟨_, rfl, hr, hb1⟩
  · have t1 := (neB hi).1
    rw [frontL, if_neg hi]
    have ho : OwnI (w.alloc (.cells #[.int .i64 i] 2)) w.heap.size (.slice (some ⟨w.heap.size, 0, none⟩) 1 1) [i] := World.ownsRow_lit (e := 2) (size := 1) w #[.int .i64 i] 1 (Nat.le_refl _) (by unfold maxLen; omega) rfl
    have hx := h.same (alloc_old w (.cells #[.int .i64 i] 2))
    obtain ⟨vo, vc, hvv, -⟩ := h.len
    subst hvv
    have HO := Lib.hid ho; have HX := Lib.hid hx
    clear hi h ho hx
    have hs : w.heap.size ≤ (w.alloc (.cells #[.int .i64 i] 2)).heap.size := by simp
    go_enter Try.func238, Try.ntmps238
    go_wp2_with (at_builtin; refine append_ints rfl _ _ rfl w.heap.size _ _ [i] word HO.out rfl HX.out rfl ((Below.refl _ _).alloc (Nat.le_refl _) _) hs (by simp; omega) ?_; intro v' w' hown' hbl' _ _; obtain ⟨ra, rn, rc, rfl⟩ := own_shape hown')
    go_ret
    exact ⟨_, rfl, by simpa using hown', hbl'⟩
theorem l01ParityN_c (n k : Nat) (w : World) (hn : n ≤ 1000) (hk : k ≤ 1000) : Calls Try.prog 77 #[.int .i64 n, .int .i64 k] w fun e w' => e = .returned (.int .i64 (if n &&& k = k then 1 else 0)) ∧ w = w' := by
  by_cases h : k ≤ n
  · refine (l01Parity_c n k w (by omega) (by omega)).mono fun e w' ⟨he, hw⟩ => ⟨?_, hw⟩
    rw [he]
    refine ret_int ?_
    unfold parI par
    rw [i64_and_nat n k (by omega) (by omega)]
    by_cases e : n &&& k = k
    · rw [if_pos e, if_pos (by rw [e]; simp)]
    · rw [if_neg e, if_neg (by simp; omega)]
  · have e : ¬ n &&& k = k := fun e => h (by rw [← e]; exact Nat.and_le_left)
    rw [if_neg e]
    have t1 : decide ((k : Int) < 0) = false := by simp
    have t2 : decide ((n : Int) < (k : Int)) = true := by simp; omega
    have t3 : decide (n < k) = true := by simp; omega
    go_enter Try.func77, Try.ntmps77
    go_wp2
    go_ret
    exact ⟨rfl, rfl⟩
theorem put_one (x : List Int) : put x [] = [x] := rfl
/-- Sq^i times one admissible word that stays so. -/
def stays (i : Int) (word : List Int) : Prop := i = 0 ∨ word = [] ∨ 2 * word.getD 0 0 ≤ i
set_option maxRecDepth 100000 in
set_option maxHeartbeats 1000000 in
theorem l03LeftOne_c (i : Int) (v : Value) (word : List Int) (w : World) (h : IntSS w.heap v [word]) (hl : word.length ≤ 1000) (hs : stays i word) (hb : ∀ x ∈ word, -1000 ≤ x ∧ x ≤ 1000) :
    Calls Try.prog 227 #[.int .i64 i, v] w fun e w' => ∃ r, e = .returned r ∧ IntSS w'.heap r [frontL i word] ∧ Below w.heap.size w w' := by
  have F := Lib.hid (fun (u : Value) (W : World) (h : IntS W.heap u word) => l03Front_c i u word W h hl)
  have PT := Lib.hid (fun (x y : Value) (W : World) (h : IntSS W.heap x []) (hu : IntS W.heap y (frontL i word)) => l01Put_c x y [] (frontL i word) W h hu (by simp) (by unfold frontL; split; omega; simp; omega))
  simp only [put_one] at PT
  obtain ⟨ao, c, hv, -⟩ := h.len
  subst hv
  have H := Lib.hid h; clear h
  go_enter Try.func227, Try.ntmps227
  go_wp2_with fail
  go_loopw [5, 6] (fun o k wr => ∃ n : Nat, n ≤ 1 ∧ k = .int .i64 n ∧ IntSS wr.heap o (if n = 0 then [] else [frontL i word]) ∧ Below w.heap.size w wr) (fun _ k _ => 1 - (intOf k).toNat)
  case atStart => exact ⟨0, by omega, rfl, (ownII_empty (Nat.le_refl _)).ints, (Below.refl _ _).alloc (Nat.le_refl _) _⟩
  case round =>
    obtain ⟨n, hn, rfl, ho, hbl⟩ := hrel
    obtain ⟨va, vc, hv, -⟩ := ho.len
    subst hv
    rcases n with _ | n
    · simp only [if_true, List.length_nil] at ho ⊢
      obtain ⟨b1, o1, c1, u, hv1, hc1, hu, -⟩ := (H.out.same hbl.block).at (w := wr) 0 (by simp)
      simp only [Value.slice.injEq, true_and] at hv1
      obtain ⟨rfl, rfl⟩ := hv1
      simp only [List.getElem_cons_zero] at hu
      obtain ⟨ua, uc, rfl, -⟩ := hu.len
      have HU := Lib.hid hu; have HO := Lib.hid ho; have HBL := Lib.hid hbl
      have hci : Hid (0 < word.length → ∃ b o, ua = some ⟨b, o, none⟩ ∧ wr.cell? ⟨b, o, none⟩ = some (.int .i64 (word.getD 0 0))) := fun h0 => by
        obtain ⟨b, o, c, hv, hc, -⟩ := HU.out.at 0 h0
        simp only [Value.slice.injEq, true_and] at hv
        exact ⟨b, o, hv.1, by rw [Nat.add_zero] at hc; rw [hc]; simp [h0]⟩
      rw [Nat.add_zero] at hc1
      clear hu ho hbl
      have hlen1 : ([word] : List (List Int)).length = 1 := rfl
      have hl1 : decide ((0 : Int) < (([word] : List (List Int)).length : Int)) = true := by simp
      simp only [List.length_singleton] at hl1 H ⊢
      by_cases e1 : i = 0
      · have t1 := (eqB e1).1
        clear e1 hs hci hlen1
        go_wp2_with (first | (go_at_call 238; refine (F.out _ _ HU.out).mono ?_; rintro e w2 ⟨r2, rfl, hr2, hb2⟩; obtain ⟨ra, rn, rc, rfl⟩ := own_shape hr2; have HR2 := Lib.hid hr2.ints; have HB2 := Lib.hid hb2; clear hr2 hb2) | (go_at_call 151; refine (PT.out _ _ _ (HO.out.same HB2.out.block) HR2.out).mono ?_; rintro e w3 ⟨r3, rfl, hr3, hb3⟩; obtain ⟨sa, sc, rfl, -⟩ := hr3.len))
        go_roundw
        case rel => exact ⟨1, by omega, by go_num, by simpa using hr3, HBL.out.trans ((HB2.out.trans (hb3.mono HB2.out.size)).mono HBL.out.size)⟩
        case measure => simp [intOf]
      · have t1 := (neB e1).1
        by_cases e2 : word.length = 0
        · obtain rfl : word = [] := List.eq_nil_of_length_eq_zero e2
          clear e1 hs hci hlen1 e2
          go_wp2_with (first | (go_at_call 238; refine (F.out _ _ HU.out).mono ?_; rintro e w2 ⟨r2, rfl, hr2, hb2⟩; obtain ⟨ra, rn, rc, rfl⟩ := own_shape hr2; have HR2 := Lib.hid hr2.ints; have HB2 := Lib.hid hb2; clear hr2 hb2) | (go_at_call 151; refine (PT.out _ _ _ (HO.out.same HB2.out.block) HR2.out).mono ?_; rintro e w3 ⟨r3, rfl, hr3, hb3⟩; obtain ⟨sa, sc, rfl, -⟩ := hr3.len))
          go_roundw
          case rel => exact ⟨1, by omega, by go_num, by simpa using hr3, HBL.out.trans ((HB2.out.trans (hb3.mono HB2.out.size)).mono HBL.out.size)⟩
          case measure => simp [intOf]
        · have h0 : 0 < word.length := by omega
          obtain ⟨b, o, rfl, hcx⟩ := hci.out h0
          have hx := hb (word.getD 0 0) (by rw [getD_at' _ _ h0]; exact List.getElem_mem _)
          have h2 : 2 * word.getD 0 0 ≤ i := by
            rcases hs with h | h | h
            · exact absurd h e1
            · rw [h] at h0; simp at h0
            · exact h
          have t2 := (neB (show ((word.length : Nat) : Int) ≠ 0 by omega)).1
          have t3 : decide (2 * word.getD 0 0 ≤ i) = true := by simpa using h2
          have hli : (0 : Int) < word.length := by omega
          clear e1 hs hci hlen1 e2 h2
          generalize word.getD 0 0 = x at *
          go_wp2_with (first | (go_at_call 238; refine (F.out _ _ HU.out).mono ?_; rintro e w2 ⟨r2, rfl, hr2, hb2⟩; obtain ⟨ra, rn, rc, rfl⟩ := own_shape hr2; have HR2 := Lib.hid hr2.ints; have HB2 := Lib.hid hb2; clear hr2 hb2) | (go_at_call 151; refine (PT.out _ _ _ (HO.out.same HB2.out.block) HR2.out).mono ?_; rintro e w3 ⟨r3, rfl, hr3, hb3⟩; obtain ⟨sa, sc, rfl, -⟩ := hr3.len))
          go_roundw
          case rel => exact ⟨1, by omega, by go_num, by simpa using hr3, HBL.out.trans ((HB2.out.trans (hb3.mono HB2.out.size)).mono HBL.out.size)⟩
          case measure => simp [intOf]
    · obtain rfl : n = 0 := by omega
      simp only [if_neg (show ¬ (0 + 1 = 0) by omega), List.length_singleton] at ho ⊢
      go_wp2_with fail
      go_ret
      exact ⟨_, rfl, ho, hbl⟩
/-- The word of a relation's j. -/
def pairW (a b j : Nat) : List Int := if j = 0 then [((a + b : Nat) : Int)] else [((a + b - j : Nat) : Int), (j : Int)]
def relWL (a b : Nat) (l : List Nat) : List (List Int) := (l.map (pairW a b)).reverse
theorem pairW_front (a b j : Nat) : frontL ((a + b - j : Nat) : Int) (frontL (j : Int) []) = if a + b - j = 0 then frontL (j : Int) [] else pairW a b j := by
  unfold frontL pairW
  by_cases h1 : a + b - j = 0
  · simp [h1]
  · rw [if_neg (by omega), if_neg h1]
    by_cases h2 : j = 0
    · subst h2; simp
    · rw [if_neg (by omega), if_neg h2]
theorem pairW_lt (a b j k : Nat) (h : j < k) (hk : k ≤ a + b) : ltL (pairW a b k) (pairW a b j) = true := by
  unfold pairW
  rw [if_neg (show ¬ k = 0 by omega)]
  by_cases h2 : j = 0
  · rw [if_pos h2, ltL, if_pos (by omega)]
  · rw [if_neg h2, ltL, if_pos (by omega)]
theorem mrg_front (x : List Int) : ∀ (l : List (List Int)), (∀ y ∈ l, ltL x y = true) → mrg l [x] = x :: l
  | [], _ => by rw [mrg]
  | y :: l, h => by
    have h1 := h y (List.mem_cons_self ..)
    rw [mrg, if_neg (by rw [ltL_asymm _ _ h1]; decide), if_pos h1, mrg_nil]
theorem relWL_snoc (a b j : Nat) (l : List Nat) (h : ∀ i ∈ l, i < j) (hj : j ≤ a + b) : mrg (relWL a b l) [pairW a b j] = relWL a b (l ++ [j]) := by
  rw [mrg_front]
  · simp [relWL]
  · intro y hy
    simp only [relWL, List.mem_reverse, List.mem_map] at hy
    obtain ⟨i, hi, rfl⟩ := hy
    exact pairW_lt a b i j (h i hi) hj
theorem relWL_len (a b : Nat) (l : List Nat) : (relWL a b l).length = l.length := by simp [relWL]
theorem relWL_rows (a b : Nat) (l : List Nat) : ∀ r ∈ relWL a b l, r.length ≤ 2 := by
  intro r hr
  simp only [relWL, List.mem_reverse, List.mem_map] at hr
  obtain ⟨i, _, rfl⟩ := hr
  unfold pairW; split <;> simp
/-- What the words of a relation make of a basis element. -/
theorem wordsM_rel (act : List (List Int)) (a b v : Nat) (l : List Nat) : wordsM act (relWL a b l) (2 ^ v) = fltS act a b v l := by
  induction l with
  | nil => rfl
  | cons j l ih =>
    have e : relWL a b (j :: l) = relWL a b l ++ [pairW a b j] := by simp [relWL]
    have e2 : wordM act (pairW a b j) (2 ^ v) = actZ act ((a + b - j : Nat) : Int) (actZ act (j : Int) (2 ^ v)) := by
      unfold pairW
      by_cases h : j = 0
      · subst h; simp [wordM, actZ]
      · rw [if_neg h]; rfl
    rw [e, wordsM, List.foldl_append]
    show wordsM act (relWL a b l) (2 ^ v) ^^^ wordM act (pairW a b j) (2 ^ v) = _
    rw [ih, e2, fltS, Nat.xor_comm]
set_option maxRecDepth 100000 in
set_option maxHeartbeats 2000000 in
theorem l03LeftPair_c (a b : Nat) (v : Value) (w : World) (h : IntSS w.heap v [[(b : Int)]]) (ha1 : 1 ≤ a) (ha : a ≤ 40) (hb1 : a / 2 + 1 ≤ b) (hb2 : b ≤ 40) :
    Calls Try.prog 227 #[.int .i64 a, v] w fun e w' => ∃ r, e = .returned r ∧ IntSS w'.heap r (relWL a b (relL a b)) ∧ Below w.heap.size w w' := by
  obtain ⟨ao, c, hv, -⟩ := h.len
  subst hv
  simp only [List.length_singleton] at h ⊢
  have H := Lib.hid h; clear h
  go_enter Try.func227, Try.ntmps227
  go_wp2_with fail
  go_loopw [5, 6] (fun o k wr => ∃ n : Nat, n ≤ 1 ∧ k = .int .i64 n ∧ IntSS wr.heap o (if n = 0 then [] else relWL a b (relL a b)) ∧ Below w.heap.size w wr) (fun _ k _ => 1 - (intOf k).toNat)
  case atStart => exact ⟨0, by omega, rfl, (ownII_empty (Nat.le_refl _)).ints, (Below.refl _ _).alloc (Nat.le_refl _) _⟩
  case round =>
    obtain ⟨n, hn, rfl, ho, hbl⟩ := hrel
    obtain ⟨va, vc, hv, -⟩ := ho.len
    subst hv
    rcases n with _ | n
    · simp only [if_true, List.length_nil] at ho ⊢
      rw [show (((0 : Nat)) : Int) = 0 from rfl]
      obtain ⟨b1, o1, c1, u, hv1, hc1, hu, -⟩ := (H.out.same hbl.block).at (w := wr) 0 (by simp)
      simp only [Value.slice.injEq, List.length_singleton, true_and] at hv1
      obtain ⟨rfl, rfl⟩ := hv1
      simp only [List.getElem_cons_zero, Nat.add_zero] at hu hc1
      obtain ⟨ub, uo, uc, rfl, hd0, -⟩ := hu.at 0 (by simp)
      simp only [List.getElem_cons_zero, Nat.add_zero, List.length_singleton] at hd0 hu hc1
      have HRS : Hid (IntS wr.heap (.slice (dropA (some ⟨ub, uo, none⟩) uc 1) 0 (uc - 1)) []) := IntS.drop (xs := [(b : Int)]) hu rfl 1 (Nat.le_refl _)
      have HO := Lib.hid ho; have HBL := Lib.hid hbl
      have hub := World.block_lt_of_cell? _ _ hd0
      simp only at hub
      clear hu ho hbl
      have t1 := (neB (show ((a : Nat) : Int) ≠ 0 by omega)).1
      have t3 : decide (2 * (b : Int) ≤ (a : Int)) = false := by simp; omega
      have t4 : decide (2 * b ≤ a) = false := by simp; omega
      by_cases huc : uc = 1
      · subst huc
        rw [show dropA (some ⟨ub, uo, none⟩) 1 1 = some ⟨ub, uo, none⟩ from rfl] at HRS
        have e1 : Hid (IntSS (wr.alloc (.cells #[.slice (some ⟨ub, uo, none⟩) 0 0] 27)).drew.heap (.slice (some ⟨wr.heap.size, 0, none⟩) 1 1) [[]]) := (ref_one HRS.out (Nat.le_refl _)).ints (alloc_old wr _)
        have e2 : Hid (Below w.heap.size w (wr.alloc (.cells #[.slice (some ⟨ub, uo, none⟩) 0 0] 27)).drew) := below_drewN 1 (HBL.out.alloc HBL.out.size _)
        have e3 : Hid (IntSS (wr.alloc (.cells #[.slice (some ⟨ub, uo, none⟩) 0 0] 27)).drew.heap (.slice va 0 vc) []) := HO.out.same (alloc_old wr _)
        obtain ⟨W1, hW1⟩ : ∃ W1, W1 = (wr.alloc (.cells #[.slice (some ⟨ub, uo, none⟩) 0 0] 27)).drew := ⟨_, rfl⟩
        rw [← hW1] at e1 e2 e3
        go_wp2_with fail
        go_region
        rw [← hW1]
        clear hW1
        go_wp2_with fail
        go_loopw [5, 10] (fun o j wr' => ∃ k : Nat, k ≤ a / 2 + 1 ∧ j = .int .i64 k ∧ IntSS wr'.heap o (relWL a b ((List.range k).filter (relB a b))) ∧ Below W1.heap.size W1 wr') (fun _ j _ => 41 - (intOf j).toNat)
        case atStart => exact ⟨0, by omega, rfl, e3.out, Below.refl _ _⟩
        case round =>
          obtain ⟨k, hk, rfl, ho, hbl⟩ := hrel
          obtain ⟨va, vc, hv, -⟩ := ho.len
          subst hv
          have HO := Lib.hid ho; have HBL := Lib.hid hbl
          have hln : (relWL a b ((List.range k).filter (relB a b))).length ≤ 21 := by rw [relWL_len]; have := relL_filter_len a b k; omega
          clear ho hbl
          by_cases hka : k ≤ a / 2
          · have hka2 : 2 * k ≤ a := by omega
            have t0 : decide (2 * (k : Int) ≤ (a : Int)) = true := by simp; omega
            have t1' : decide (2 * k ≤ a) = true := by simpa using hka2
            have PA := Lib.hid (fun (W : World) => l01ParityN_c (b - k - 1) (a - 2 * k) W (by omega) (by omega))
            rw [show ((b - k - 1 : Nat) : Int) = (b : Int) - k - 1 by omega, show ((a - 2 * k : Nat) : Int) = (a : Int) - 2 * k by omega] at PA
            cases hr : relB a b k
            · have h2 : ¬ ((b - k - 1) &&& (a - 2 * k) = a - 2 * k) := by simpa [relB, hka2] using hr
              rw [if_neg h2] at PA
              have HS : Hid ((List.range (k + 1)).filter (relB a b) = (List.range k).filter (relB a b)) := by show _ = _; rw [List.range_succ, List.filter_append]; simp [hr]
              clear hr h2
              go_wp2_with (go_at_call 77; refine (PA.out _).mono ?_; rintro e W2 ⟨rfl, rfl⟩)
              go_roundw
              case rel => exact ⟨k + 1, by omega, by go_num, by rw [HS.out]; exact HO.out, HBL.out⟩
              case measure => simp [intOf]; omega
            · have h2 : (b - k - 1) &&& (a - 2 * k) = a - 2 * k := by simpa [relB, hka2] using hr
              rw [if_pos h2] at PA
              have L1 := Lib.hid (fun (x : Value) (W : World) (h : IntSS W.heap x [[]]) => l03LeftOne_c (k : Int) x [] W h (by simp) (.inr (.inl rfl)) (by simp))
              have L2 := Lib.hid (fun (x : Value) (W : World) (h : IntSS W.heap x [frontL (k : Int) []]) => l03LeftOne_c ((a + b - k : Nat) : Int) x (frontL (k : Int) []) W h (by unfold frontL; split <;> simp) (by unfold frontL stays; split; exact .inr (.inl rfl); right; right; simp; omega) (by unfold frontL; split; simp; simp; omega))
              rw [pairW_front, if_neg (by omega), show ((a + b - k : Nat) : Int) = (a : Int) + b - k by omega] at L2
              have SM := Lib.hid (fun (x y : Value) (W : World) (h1 : IntSS W.heap x (relWL a b ((List.range k).filter (relB a b)))) (h2 : IntSS W.heap y [pairW a b k]) => l01Sum_c x y _ _ W h1 h2 (by rw [relWL_len]; have := relL_filter_len a b k; simp; omega) (fun r hr => by have := relWL_rows a b _ r hr; omega) (fun r hr => by rw [List.mem_singleton] at hr; rw [hr]; unfold pairW; split <;> simp))
              rw [relWL_snoc a b k _ (fun i hi => by simp only [List.mem_filter, List.mem_range] at hi; exact hi.1) (by omega), show (List.range k).filter (relB a b) ++ [k] = (List.range (k + 1)).filter (relB a b) by rw [List.range_succ, List.filter_append]; simp [hr]] at SM
              clear hr h2
              have hss := e1.out.same HBL.out.block
              have HSS := Lib.hid hss; clear hss
              go_wp2_with (first | (go_at_call 77; refine (PA.out _).mono ?_; rintro e W2 ⟨rfl, rfl⟩) | ((go_at_call 227; with_reducible refine (L1.out _ _ HSS.out).mono ?_); rintro e W3 ⟨r3, rfl, hr3, hb3⟩; obtain ⟨pa3, pc3, rfl, -⟩ := hr3.len; simp only [List.length_singleton] at hr3; have H3 := Lib.hid hr3; have B3 := Lib.hid hb3; clear hr3 hb3) | ((go_at_call 227; with_reducible refine (L2.out _ _ H3.out).mono ?_); rintro e W4 ⟨r4, rfl, hr4, hb4⟩; obtain ⟨pa4, pc4, rfl, -⟩ := hr4.len; simp only [List.length_singleton] at hr4; have H4 := Lib.hid hr4; have B4 := Lib.hid (B3.out.trans (hb4.mono B3.out.size)); clear hr4 hb4) | (go_at_call 96; refine (SM.out _ _ _ (HO.out.same B4.out.block) H4.out).mono ?_; rintro e W5 ⟨r5, rfl, ⟨us5, hr5⟩, hb5⟩; obtain ⟨pa5, pn5, pc5, rfl⟩ := own_shape hr5.row))
              go_roundw
              case rel => exact ⟨k + 1, by omega, by go_num, hr5.ints, HBL.out.trans ((B4.out.trans (hb5.mono B4.out.size)).mono HBL.out.size)⟩
              case measure => simp [intOf]; omega
          · obtain rfl : k = a / 2 + 1 := by omega
            have HE : Hid (relL a b = (List.range (a / 2 + 1)).filter (relB a b)) := by
              rcases relB_over a b (a / 2 + 1) (by omega) with h | h
              · exact h
              · exfalso; omega
            have t0 : decide (2 * ((a / 2 + 1 : Nat) : Int) ≤ (a : Int)) = false := by simp; omega
            generalize a / 2 + 1 = q at *
            go_wp2_with fail
            go_roundw
            case rel => exact ⟨1, by omega, by go_num, by rw [if_neg (by omega), HE.out]; exact HO.out, e2.out.trans (HBL.out.mono e2.out.size)⟩
            case measure => simp [intOf]
      · have hdr : dropA (some ⟨ub, uo, none⟩) uc 1 = some ⟨ub, uo + 1, none⟩ := by simp [dropA, huc, Addr.add]
        rw [hdr] at HRS
        clear hdr
        have e1 : Hid (IntSS (wr.alloc (.cells #[.slice (some ⟨ub, uo + 1, none⟩) 0 (uc - 1)] 27)).drew.heap (.slice (some ⟨wr.heap.size, 0, none⟩) 1 1) [[]]) := (ref_one HRS.out (Nat.le_refl _)).ints (alloc_old wr _)
        have e2 : Hid (Below w.heap.size w (wr.alloc (.cells #[.slice (some ⟨ub, uo + 1, none⟩) 0 (uc - 1)] 27)).drew) := below_drewN 1 (HBL.out.alloc HBL.out.size _)
        have e3 : Hid (IntSS (wr.alloc (.cells #[.slice (some ⟨ub, uo + 1, none⟩) 0 (uc - 1)] 27)).drew.heap (.slice va 0 vc) []) := HO.out.same (alloc_old wr _)
        obtain ⟨W1, hW1⟩ : ∃ W1, W1 = (wr.alloc (.cells #[.slice (some ⟨ub, uo + 1, none⟩) 0 (uc - 1)] 27)).drew := ⟨_, rfl⟩
        rw [← hW1] at e1 e2 e3
        go_wp2_with fail
        go_region
        rw [← hW1]
        clear hW1
        go_wp2_with fail
        go_loopw [5, 10] (fun o j wr' => ∃ k : Nat, k ≤ a / 2 + 1 ∧ j = .int .i64 k ∧ IntSS wr'.heap o (relWL a b ((List.range k).filter (relB a b))) ∧ Below W1.heap.size W1 wr') (fun _ j _ => 41 - (intOf j).toNat)
        case atStart => exact ⟨0, by omega, rfl, e3.out, Below.refl _ _⟩
        case round =>
          obtain ⟨k, hk, rfl, ho, hbl⟩ := hrel
          obtain ⟨va, vc, hv, -⟩ := ho.len
          subst hv
          have HO := Lib.hid ho; have HBL := Lib.hid hbl
          have hln : (relWL a b ((List.range k).filter (relB a b))).length ≤ 21 := by rw [relWL_len]; have := relL_filter_len a b k; omega
          clear ho hbl
          by_cases hka : k ≤ a / 2
          · have hka2 : 2 * k ≤ a := by omega
            have t0 : decide (2 * (k : Int) ≤ (a : Int)) = true := by simp; omega
            have t1' : decide (2 * k ≤ a) = true := by simpa using hka2
            have PA := Lib.hid (fun (W : World) => l01ParityN_c (b - k - 1) (a - 2 * k) W (by omega) (by omega))
            rw [show ((b - k - 1 : Nat) : Int) = (b : Int) - k - 1 by omega, show ((a - 2 * k : Nat) : Int) = (a : Int) - 2 * k by omega] at PA
            cases hr : relB a b k
            · have h2 : ¬ ((b - k - 1) &&& (a - 2 * k) = a - 2 * k) := by simpa [relB, hka2] using hr
              rw [if_neg h2] at PA
              have HS : Hid ((List.range (k + 1)).filter (relB a b) = (List.range k).filter (relB a b)) := by show _ = _; rw [List.range_succ, List.filter_append]; simp [hr]
              clear hr h2
              go_wp2_with (go_at_call 77; refine (PA.out _).mono ?_; rintro e W2 ⟨rfl, rfl⟩)
              go_roundw
              case rel => exact ⟨k + 1, by omega, by go_num, by rw [HS.out]; exact HO.out, HBL.out⟩
              case measure => simp [intOf]; omega
            · have h2 : (b - k - 1) &&& (a - 2 * k) = a - 2 * k := by simpa [relB, hka2] using hr
              rw [if_pos h2] at PA
              have L1 := Lib.hid (fun (x : Value) (W : World) (h : IntSS W.heap x [[]]) => l03LeftOne_c (k : Int) x [] W h (by simp) (.inr (.inl rfl)) (by simp))
              have L2 := Lib.hid (fun (x : Value) (W : World) (h : IntSS W.heap x [frontL (k : Int) []]) => l03LeftOne_c ((a + b - k : Nat) : Int) x (frontL (k : Int) []) W h (by unfold frontL; split <;> simp) (by unfold frontL stays; split; exact .inr (.inl rfl); right; right; simp; omega) (by unfold frontL; split; simp; simp; omega))
              rw [pairW_front, if_neg (by omega), show ((a + b - k : Nat) : Int) = (a : Int) + b - k by omega] at L2
              have SM := Lib.hid (fun (x y : Value) (W : World) (h1 : IntSS W.heap x (relWL a b ((List.range k).filter (relB a b)))) (h2 : IntSS W.heap y [pairW a b k]) => l01Sum_c x y _ _ W h1 h2 (by rw [relWL_len]; have := relL_filter_len a b k; simp; omega) (fun r hr => by have := relWL_rows a b _ r hr; omega) (fun r hr => by rw [List.mem_singleton] at hr; rw [hr]; unfold pairW; split <;> simp))
              rw [relWL_snoc a b k _ (fun i hi => by simp only [List.mem_filter, List.mem_range] at hi; exact hi.1) (by omega), show (List.range k).filter (relB a b) ++ [k] = (List.range (k + 1)).filter (relB a b) by rw [List.range_succ, List.filter_append]; simp [hr]] at SM
              clear hr h2
              have hss := e1.out.same HBL.out.block
              have HSS := Lib.hid hss; clear hss
              go_wp2_with (first | (go_at_call 77; refine (PA.out _).mono ?_; rintro e W2 ⟨rfl, rfl⟩) | ((go_at_call 227; with_reducible refine (L1.out _ _ HSS.out).mono ?_); rintro e W3 ⟨r3, rfl, hr3, hb3⟩; obtain ⟨pa3, pc3, rfl, -⟩ := hr3.len; simp only [List.length_singleton] at hr3; have H3 := Lib.hid hr3; have B3 := Lib.hid hb3; clear hr3 hb3) | ((go_at_call 227; with_reducible refine (L2.out _ _ H3.out).mono ?_); rintro e W4 ⟨r4, rfl, hr4, hb4⟩; obtain ⟨pa4, pc4, rfl, -⟩ := hr4.len; simp only [List.length_singleton] at hr4; have H4 := Lib.hid hr4; have B4 := Lib.hid (B3.out.trans (hb4.mono B3.out.size)); clear hr4 hb4) | (go_at_call 96; refine (SM.out _ _ _ (HO.out.same B4.out.block) H4.out).mono ?_; rintro e W5 ⟨r5, rfl, ⟨us5, hr5⟩, hb5⟩; obtain ⟨pa5, pn5, pc5, rfl⟩ := own_shape hr5.row))
              go_roundw
              case rel => exact ⟨k + 1, by omega, by go_num, hr5.ints, HBL.out.trans ((B4.out.trans (hb5.mono B4.out.size)).mono HBL.out.size)⟩
              case measure => simp [intOf]; omega
          · obtain rfl : k = a / 2 + 1 := by omega
            have HE : Hid (relL a b = (List.range (a / 2 + 1)).filter (relB a b)) := by
              rcases relB_over a b (a / 2 + 1) (by omega) with h | h
              · exact h
              · exfalso; omega
            have t0 : decide (2 * ((a / 2 + 1 : Nat) : Int) ≤ (a : Int)) = false := by simp; omega
            generalize a / 2 + 1 = q at *
            go_wp2_with fail
            go_roundw
            case rel => exact ⟨1, by omega, by go_num, by rw [if_neg (by omega), HE.out]; exact HO.out, e2.out.trans (HBL.out.mono e2.out.size)⟩
            case measure => simp [intOf]
    · obtain rfl : n = 0 := by omega
      simp only [if_neg (show ¬ (0 + 1 = 0) by omega)] at ho ⊢
      go_wp2_with fail
      go_ret
      exact ⟨_, rfl, ho, hbl⟩
set_option maxRecDepth 100000 in
set_option maxHeartbeats 1000000 in
theorem l03FormPair_c (a b : Nat) (v : Value) (w : World) (h : IntS w.heap v [(a : Int), (b : Int)]) (ha1 : 1 ≤ a) (ha : a ≤ 40) (hb1 : a / 2 + 1 ≤ b) (hb2 : b ≤ 40) :
    Calls Try.prog 198 #[v] w fun e w' => ∃ r, e = .returned r ∧ IntSS w'.heap r (relWL a b (relL a b)) ∧ Below w.heap.size w w' := by
  have L1 := Lib.hid (fun (x : Value) (W : World) (h : IntSS W.heap x [[]]) => l03LeftOne_c (b : Int) x [] W h (by simp) (.inr (.inl rfl)) (by simp))
  rw [show frontL (b : Int) [] = [(b : Int)] by rw [frontL, if_neg (by omega)]] at L1
  have L2 := Lib.hid (fun (x : Value) (W : World) (h : IntSS W.heap x [[(b : Int)]]) => l03LeftPair_c a b x W h ha1 ha hb1 hb2)
  obtain ⟨b1, o1, c, rfl, hc0, -⟩ := h.at 0 (by simp)
  obtain ⟨b2, o2, c2, hv2, hc1, -⟩ := h.at 1 (by simp)
  simp only [Value.slice.injEq, Option.some.injEq, Addr.mk.injEq, and_true, true_and] at hv2
  obtain ⟨⟨rfl, rfl⟩, -⟩ := hv2
  simp only [List.getElem_cons_zero, List.getElem_cons_succ, Nat.add_zero, List.length_cons, List.length_nil] at hc0 hc1 ⊢
  have HC0 := Lib.hid hc0; have HC1 := Lib.hid hc1
  clear h hc0 hc1
  have h0 : IntS (w.alloc (.cells #[] 2)).heap (.slice (some ⟨w.heap.size, 0, none⟩) 0 0) [] := (ownI_empty (Nat.le_refl _)).ints
  have h1 : Hid (IntSS ((w.alloc (.cells #[] 2)).alloc (.cells #[.slice (some ⟨w.heap.size, 0, none⟩) 0 0] 27)).heap (.slice (some ⟨w.heap.size + 1, 0, none⟩) 1 1) [[]]) := by
    have := (ref_one h0 (Nat.le_refl _)).ints (alloc_old (w.alloc (.cells #[] 2)) (.cells #[.slice (some ⟨w.heap.size, 0, none⟩) 0 0] 27))
    rw [size_alloc_w] at this
    exact this
  have hB : Hid (Below w.heap.size w ((w.alloc (.cells #[] 2)).alloc (.cells #[.slice (some ⟨w.heap.size, 0, none⟩) 0 0] 27))) := ((Below.refl _ _).alloc (Nat.le_refl _) _).alloc (by simp) _
  clear h0
  go_enter Try.func198, Try.ntmps198
  go_wp2_with fail
  go_loopw [3, 4] (fun o i wr => ∃ (x : Int), i = .int .i64 x ∧ (x = 1 ∧ IntSS wr.heap o [[]] ∨ x = 0 ∧ IntSS wr.heap o [[(b : Int)]] ∨ x = -1 ∧ IntSS wr.heap o (relWL a b (relL a b))) ∧ Below w.heap.size w wr) (fun _ i _ => (intOf i + 1).toNat)
  case atStart => exact ⟨1, rfl, .inl ⟨rfl, h1.out⟩, hB.out⟩
  case round =>
    obtain ⟨x, rfl, hx, hbl⟩ := hrel
    have c0 := (hbl.cell (World.block_lt_of_cell? _ _ HC0.out)).trans HC0.out
    have c1 := (hbl.cell (World.block_lt_of_cell? _ _ HC1.out)).trans HC1.out
    have HBL := Lib.hid hbl
    clear hbl
    rcases hx with ⟨rfl, ho⟩ | ⟨rfl, ho⟩ | ⟨rfl, ho⟩
    · obtain ⟨pa, pc, rfl, -⟩ := ho.len
      have HO := Lib.hid ho; clear ho
      go_wp2_with (go_at_call 227; refine (L1.out _ _ HO.out).mono ?_; rintro e W3 ⟨r3, rfl, hr3, hb3⟩; obtain ⟨pa3, pc3, rfl, -⟩ := hr3.len)
      go_roundw
      case rel => exact ⟨0, rfl, .inr (.inl ⟨rfl, hr3⟩), HBL.out.trans (hb3.mono HBL.out.size)⟩
      case measure => simp [intOf]
    · obtain ⟨pa, pc, rfl, -⟩ := ho.len
      have HO := Lib.hid ho; clear ho
      go_wp2_with (go_at_call 227; refine (L2.out _ _ HO.out).mono ?_; rintro e W3 ⟨r3, rfl, hr3, hb3⟩; obtain ⟨pa3, pc3, rfl, -⟩ := hr3.len)
      go_roundw
      case rel => exact ⟨-1, rfl, .inr (.inr ⟨rfl, hr3⟩), HBL.out.trans (hb3.mono HBL.out.size)⟩
      case measure => simp [intOf]
    · obtain ⟨pa, pc, rfl, -⟩ := ho.len
      have t0 : decide ((0 : Int) ≤ -1) = false := by decide
      go_wp2_with fail
      go_ret
      exact ⟨_, rfl, ho, HBL.out⟩
end Go.Proofs.Ytljfpkhgijangaa

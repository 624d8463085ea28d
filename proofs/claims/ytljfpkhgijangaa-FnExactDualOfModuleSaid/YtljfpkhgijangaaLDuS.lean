/- The dual of a module: of the reference. -/
import Derived.Test.YtljfpkhgijangaaLAnt
import Derived.Test.YtljfpkhgijangaaLMs2
import Derived.Test.YtljfpkhgijangaaLPut
import Derived.Test.YtljfpkhgijangaaLDuW
import Derived.Test.YtljfpkhgijangaaLModArg
namespace Go.Proofs.Ytljfpkhgijangaa
open Go.RowKit Go.Sort

theorem ownII_one {w : World} {B : Nat} {u : Value} {xs : List Int} (hu : OwnI w B u xs) (hB : B ≤ w.heap.size) : OwnII (w.alloc (.cells #[u] 27)) B (.slice (some ⟨w.heap.size, 0, none⟩) 1 1) [xs] :=
  ⟨[u], ⟨World.ownsRow_lit (e := 27) (size := 1) w #[u] 1 hB (by unfold maxLen; omega) rfl, fun i x ys hx hy => by
    match i, hx, hy with
    | 0, hx, hy =>
      simp at hx hy
      subst hx; subst hy
      exact OwnI.same hu (alloc_old _ _), fun i j x x' hij hx hx' => by
    match i, j, hij, hx, hx' with
    | 0, j + 1, _, _, hx' => simp at hx'⟩⟩
set_option maxRecDepth 100000 in
set_option maxHeartbeats 2000000 in
theorem l11Antipode_c (d a v : Value) (ds : List Int) (act : List (List Int)) (n m0 : Nat) (w : World) (h : ModS w.heap d a ds act) (hT : modT ds act = true) (hn : n ≤ 40) (hv : IntS w.heap v (bitsL ds.length m0)) :
    Calls Try.prog 166 #[.agg #[d, a], .int .i64 n, v] w fun e w' => ∃ r, e = .returned r ∧ IntS w'.heap r (bitsL ds.length (apX act m0 n)) ∧ Below w.heap.size w w' := by
  have hb : Below w.heap.size w (w.alloc (.cells #[d, a] 60)) := (Below.refl _ _).alloc (Nat.le_refl _) _
  have V := Var2.new w d a 60
  have hs16 := modT_len hT
  have A := Lib.hid (fun (n : Int) (x : Value) (m : Nat) (W : World) (h : ModS W.heap d a ds act) (hx : IntS W.heap x (bitsL ds.length m)) => l11Act_c d a x ds act n m W h hT hx)
  have P := Lib.hid (fun (x y : Value) (m n : Nat) (W : World) (h1 : IntS W.heap x (bitsL ds.length m)) (h2 : IntS W.heap y (bitsL ds.length n)) => l11Plus_c x y _ _ W h1 h2 (by rw [bitsL_length, bitsL_length]) (by rw [bitsL_length]; exact hs16) (bits01 _ _) (bits01 _ _))
  simp only [bitsL_length, plusL_bits] at P
  have hmk := fun w => make_run (P := Try.prog) 27 2 _ 8 info_int64 Try.underlying27 rfl (by omega) ds.length (by omega) .i64 .i64 (ds.length : Int) (ds.length : Int) rfl rfl w
  have C := Lib.hid (l01Own_c v _ _ (hv.same hb.block) (by rw [bitsL_length]; omega))
  obtain ⟨ao, ac, hdv, hm⟩ := h.1.len
  obtain ⟨bo, bc, hav, hm2⟩ := h.2.len
  subst hdv; subst hav
  obtain ⟨vo, vc, hvv, -⟩ := hv.len
  subst hvv
  rw [bitsL_length] at hv C ⊢
  have H0 := Lib.hid h; have HB := Lib.hid hb; have HVR := Lib.hid V
  clear h hT hv hb V
  go_enter Try.func166, Try.ntmps166
  go_wp2_with fail
  refine C.out.mono ?_
  rintro e w1 ⟨r1, rfl, ho1, hb1⟩
  obtain ⟨qa, qn, qc, rfl⟩ := own_shape ho1
  have HL0 := Lib.hid (ownII_one ho1 hb1.size)
  have HBL0 := Lib.hid (hb1.alloc hb1.size (.cells #[.slice qa qn qc] 27))
  have hs1 : w.heap.size + 1 ≤ w1.heap.size := by have := hb1.size; simpa using this
  clear ho1 hb1 C
  rw [size_alloc_w] at HL0 HBL0
  go_wp2_with fail
  go_loopw [7, 8] (fun o i wr => ∃ k : Nat, k ≤ n ∧ i = .int .i64 ((k : Int) + 1) ∧ OwnII wr (w.heap.size + 1) o ((apL act m0 k).map (bitsL ds.length)) ∧ Below (w.heap.size + 1) (w.alloc (.cells #[.slice ao ds.length ac, .slice bo act.length bc] 60)) wr) (fun _ i _ => n + 1 - (intOf i).toNat)
  case atStart => exact ⟨0, Nat.zero_le _, rfl, HL0.out, HBL0.out⟩
  case round =>
    clear HL0 HBL0
    obtain ⟨k, hk, rfl, ho, hbl⟩ := hrel
    obtain ⟨pa, pc, rfl, -⟩ := ho.ints.len
    have hll : ((apL act m0 k).map (bitsL ds.length)).length = k + 1 := by rw [List.length_map, apL_length]
    rw [hll] at ho ⊢
    have HLL := Lib.hid hll
    have HO := Lib.hid ho; have HBL := Lib.hid hbl
    have HV := Lib.hid (HVR.out.below hbl (by simp))
    clear ho hbl hll
    by_cases hlt : k < n
    · have tk : decide ((k : Int) + 1 ≤ (n : Int)) = true := by simp; omega
      have tk2 : decide (k + 1 ≤ n) = true := by simp; omega
      go_wp2_with fail
      clear tk tk2
      obtain ⟨WA, rfl⟩ : ∃ W : World, W = wr := ⟨_, rfl⟩
      go_loopw [9, 10] (fun o i wr => ∃ j : Nat, j ≤ k + 1 ∧ i = .int .i64 ((j : Int) + 1) ∧ OwnI wr WA.heap.size o (bitsL ds.length (apS act (apX act m0) (k + 1) j)) ∧ Below WA.heap.size WA wr) (fun _ i _ => k + 2 - (intOf i).toNat)
      case atStart =>
        refine ⟨0, Nat.zero_le _, rfl, ?_, (Below.refl _ _).alloc (Nat.le_refl _) _⟩
        have ho := made_own WA WA.heap.size 2 ds.length (.int .i64 0) (Nat.le_refl _) (by omega)
        unfold OwnI
        rw [bitsL_length, apS, bitsL_zero]
        simpa using ho
      case round =>
        obtain ⟨j, hj, rfl, hout, hbl⟩ := hrel
        obtain ⟨oa, on, oc, rfl⟩ := own_shape hout
        have HBI := Lib.hid hbl
        have HOUT := Lib.hid hout
        clear hbl hout
        by_cases hlj : j < k + 1
        · have tj : decide ((j : Int) + 1 ≤ (k : Int) + 1) = true := by simp; omega
          have tj2 : decide (j ≤ k) = true := by simp; omega
          obtain ⟨b1, o1, c1', u, hv1, hc1, hu, -⟩ := HO.out.ints.at (w := WA) (k - j) (by rw [HLL.out]; omega)
          simp only [Value.slice.injEq, HLL.out] at hv1
          obtain ⟨rfl, -, rfl⟩ := hv1
          rw [show ((apL act m0 k).map (bitsL ds.length))[k - j]'(by rw [HLL.out]; omega) = bitsL ds.length (apX act m0 (k - j)) from by
            rw [List.getElem_map, ← apL_get act m0 (k - j) k (by omega)]
            congr 1
            rw [List.getD_eq_getElem?_getD, List.getElem?_eq_getElem (by rw [apL_length]; omega)]; rfl] at hu
          have hc := (HBI.out.cell (World.block_lt_of_cell? _ _ hc1)).trans hc1
          have HU := Lib.hid (hu.same HBI.out.block)
          obtain ⟨ua, uc, rfl, -⟩ := hu.len
          rw [bitsL_length] at hc HU
          have V2 := HV.out.below HBI.out HV.out.lt
          have c0 := V2.c0; have c1 := V2.c1
          have HMW := Lib.hid (H0.out.same ((HB.out.trans (HBL.out.mono (by omega))).trans (HBI.out.mono (Nat.le_trans HB.out.size HBL.out.size))).block)
          have s1 : IntKind.i64.wrap ((k : Int) - j) = ((k - j : Nat) : Int) := by rw [IntWalk.i64_in _ (by omega)]; omega
          have s2 : IntKind.i64.wrap ((k : Int) + 1 - ((j : Int) + 1)) = ((k - j : Nat) : Int) := by rw [IntWalk.i64_in _ (by omega)]; omega
          have i1 : ((k - j : Nat) : Int) < (k : Int) + 1 := by omega
          have i2 : k - j < k + 1 := by omega
          have HS : Hid (apS act (apX act m0) (k + 1) (j + 1) = apS act (apX act m0) (k + 1) j ^^^ actZ act ((j : Int) + 1) (apX act m0 (k - j))) := by
            show _ = _
            rw [apS, show k + 1 - (j + 1) = k - j by omega, show (((j + 1 : Nat)) : Int) = (j : Int) + 1 by omega]
          clear V2 hc1 hu
          generalize apX act m0 (k - j) = X at *
          generalize apS act (apX act m0) (k + 1) j = Y at *
          generalize k - j = q at *
          go_wp2_with fail
          go_region_held3 (fun W => W.cell? ⟨w.heap.size, 0, none⟩ = some (.slice ao ds.length ac) ∧ W.cell? ⟨w.heap.size, 1, none⟩ = some (.slice bo act.length bc) ∧ W.cell? ⟨b1, o1 + q, none⟩ = some (.slice ua ds.length uc) ∧ Below wr.heap.size wr W)
            (first | exact ⟨c0, c1, hc, (Below.refl _ _).drew⟩ | exact heldC3 (by assumption) hx | exact heldC3 (by assumption) hxA | fail)
            (first | (go_at_call 127; refine (A.out _ _ X _ (HMW.out.same (heldC3X (by assumption)).block) (HU.out.same (heldC3X (by assumption)).block)).mono ?_; rintro e W3 ⟨r, rfl, hr, hxA⟩; obtain ⟨ra, rn, rc, rfl⟩ := own_shape hr) | (go_at_call 174; refine (P.out _ _ Y _ _ (HOUT.out.ints.same (heldC3X (by assumption)).block) hr.ints).mono ?_; rintro e W4 ⟨r4, rfl, hr4, hx⟩; obtain ⟨sa, sn, sc, rfl⟩ := own_shape hr4))
          all_goals
            rename_i hh
            have HB4 := Lib.hid hh.2.2.2
            have HZ := Lib.hid hxA.size
            clear hh hx hxA c0 c1 hc
            go_wp2_with fail
            go_roundw
            case rel => exact ⟨j + 1, by omega, by go_num, by rw [HS.out]; exact own_base hr4 (Nat.le_trans HBI.out.size HZ.out), HBI.out.trans (HB4.out.mono HBI.out.size)⟩
            case measure => simp [intOf]; omega
        · obtain rfl : j = k + 1 := by omega
          have tj : decide (((k + 1 : Nat) : Int) + 1 ≤ (k : Int) + 1) = false := decide_eq_false (by omega)
          have HS : Hid ((apL act m0 (k + 1)).map (bitsL ds.length) = (apL act m0 k).map (bitsL ds.length) ++ [bitsL ds.length (apS act (apX act m0) (k + 1) (k + 1))]) := by
            show _ = _
            rw [apL, List.map_append, List.map_singleton]
            congr 3
            exact apS_congr act _ _ _ (fun i hi => apL_get act m0 i k (by omega)) _ (Nat.le_refl _)
          have hBW := HBL.out.size
          rw [size_alloc_w] at hBW
          have hln : ((apL act m0 k).map (bitsL ds.length)).length ≤ 4398046511104 := by rw [HLL.out]; omega
          generalize apS act (apX act m0) (k + 1) (k + 1) = Y at *
          go_wp2_with (at_builtin; refine append_row (w := wr) (wE := WA) rfl _ _ rfl (w.heap.size + 1) _ _ _ _ HO.out rfl HOUT.out HBI.out HBL.out hBW _ rfl rfl hln ?_; intro v' w' hown' hbl' _ _; obtain ⟨us', hU'⟩ := hown'; obtain ⟨sa, sn, sc, rfl⟩ := own_shape hU'.row)
          go_roundw
          case rel => exact ⟨k + 1, by omega, by go_num, by rw [HS.out]; exact ⟨us', hU'⟩, hbl'⟩
          case measure => simp [intOf]; omega
    · obtain rfl : k = n := by omega
      have tk : decide ((k : Int) + 1 ≤ (k : Int)) = false := by simp; omega
      obtain ⟨b1, o1, c1', u, hv1, hc1, hu, -⟩ := HO.out.ints.at (w := wr) k (by rw [HLL.out]; omega)
      simp only [Value.slice.injEq, HLL.out] at hv1
      obtain ⟨rfl, -, rfl⟩ := hv1
      rw [show ((apL act m0 k).map (bitsL ds.length))[k]'(by rw [HLL.out]; omega) = bitsL ds.length (apX act m0 k) from by
        rw [List.getElem_map, ← apL_get act m0 k k (by omega)]
        congr 1
        rw [List.getD_eq_getElem?_getD, List.getElem?_eq_getElem (by rw [apL_length]; omega)]; rfl] at hu
      have HU := Lib.hid hu
      clear hu
      have i1 : (k : Int) < (k : Int) + 1 := by omega
      go_wp2_with fail
      go_ret
      exact ⟨_, rfl, HU.out, HB.out.trans (HBL.out.mono (by omega))⟩
theorem SlAt.otherV {w : World} {e g t j : Nat} {v : Value} {cs : Array Value} {us : List Value} (a : SlAt w.heap e v us) (k : w.heap[g]? = some (.cells cs t (0, 0))) (ne : e ≠ t) (u : Value) : SlAt (w.setCell ⟨g, j, none⟩ u).heap e v us := by
  rcases a with a | ⟨b, off, cap, cur, rfl, hb, r⟩
  · exact .inl a
  · refine .inr ⟨b, off, cap, cur, rfl, ?_, r⟩
    have hne : b ≠ g := by
      intro e1
      subst e1
      rw [k] at hb
      simp only [Option.some.injEq, Obj.cells.injEq] at hb
      exact ne hb.2.1.symm
    rw [Below.heap_setCell _ _ _ _ (by show b ≠ g; exact hne)]; exact hb
theorem IntSS.otherV {w : World} {g t j : Nat} {v : Value} {cs : Array Value} {xss : List (List Int)} (a : IntSS w.heap v xss) (k : w.heap[g]? = some (.cells cs t (0, 0))) (ne : 27 ≠ t) (ne2 : 2 ≠ t) (u : Value) : IntSS (w.setCell ⟨g, j, none⟩ u).heap v xss := by
  obtain ⟨us, h1, h2, h3⟩ := a
  exact ⟨us, h1.otherV k ne u, h2, fun i z xs hz hx => SlAt.otherV (h3 i z xs hz hx) k ne2 u⟩
theorem IntS.otherV {w : World} {g t j : Nat} {v : Value} {cs : Array Value} {xs : List Int} (a : IntS w.heap v xs) (k : w.heap[g]? = some (.cells cs t (0, 0))) (ne2 : 2 ≠ t) (u : Value) : IntS (w.setCell ⟨g, j, none⟩ u).heap v xs := SlAt.otherV a k ne2 u
theorem odd_step (l : List (List Int)) (x : List Int) : put x (oddL l) = oddL (l ++ [x]) := (oddL_snoc l x).symm
theorem duRB_succ (ds : List Int) (act : List (List Int)) (c b : Nat) : duRB ds act c (b + 1) = duRB ds act c b ++ duR ds act c b := rfl
theorem duRC_len (ds : List Int) (act : List (List Int)) (c : Nat) : ∀ b, (duRB ds act c b).length ≤ b
  | 0 => Nat.le_refl _
  | b + 1 => by
    rw [duRB, List.length_append]
    have := duRC_len ds act c b
    have h2 : (duR ds act c b).length ≤ 1 := by unfold duR; split <;> simp
    omega
theorem duRC_len2 (ds : List Int) (act : List (List Int)) : ∀ c, (duRC ds act c).length ≤ c * ds.length
  | 0 => by simp [duRC]
  | c + 1 => by
    rw [duRC, List.length_append, Nat.succ_mul]
    have := duRC_len2 ds act c
    have := duRC_len ds act c ds.length
    omega
theorem duR_rows {ds : List Int} {act : List (List Int)} {c : Nat} : ∀ b, ∀ x ∈ duRB ds act c b, x.length = 3
  | 0, x, hx => by simp [duRB] at hx
  | b + 1, x, hx => by
    rw [duRB] at hx
    rcases List.mem_append.1 hx with h | h
    · exact duR_rows b x h
    · obtain ⟨n, _, _, _, rfl⟩ := mem_duR h; rfl
theorem duC_rows {ds : List Int} {act : List (List Int)} : ∀ c, ∀ x ∈ duRC ds act c, x.length = 3
  | 0, x, hx => by simp [duRC] at hx
  | c + 1, x, hx => by
    rw [duRC] at hx
    rcases List.mem_append.1 hx with h | h
    · exact duC_rows c x h
    · exact duR_rows _ x h
theorem oddL_sub (l : List (List Int)) : ∀ x ∈ oddL l, x ∈ l := fun x hx => by
  have := (mem_oddL x l).1 hx
  exact List.count_pos_iff.1 (by omega)
set_option maxRecDepth 100000 in
set_option maxHeartbeats 4000000 in
theorem l11Dual_c (d a : Value) (ds : List Int) (act : List (List Int)) (w : World) (h : ModS w.heap d a ds act) (hT : modT ds act = true) :
    Calls Try.prog 115 #[.agg #[d, a]] w fun e w' => ∃ d a, e = .returned (.agg #[d, a]) ∧ ModS w'.heap d a (duD ds) (duA ds act) ∧ Below w.heap.size w w' := by
  have hl16 := modT_len hT
  have hb0 : Below w.heap.size w (w.alloc (.cells #[d, a] 60)) := (Below.refl _ _).alloc (Nat.le_refl _) _
  have hb1 : Below w.heap.size w ((w.alloc (.cells #[d, a] 60)).alloc (.cells #[.slice none 0 0, .slice none 0 0] 60)) := hb0.alloc (by simp) _
  have hb : Below w.heap.size w (((w.alloc (.cells #[d, a] 60)).alloc (.cells #[.slice none 0 0, .slice none 0 0] 60)).alloc (.cells #[.slice none 0 0, .slice none 0 0] 60)) := hb1.alloc (by simp; omega) _
  have V1 := ((Var2.new w d a 60).kept (alloc_old _ (.cells #[.slice none 0 0, .slice none 0 0] 60))).kept (alloc_old _ (.cells #[.slice none 0 0, .slice none 0 0] 60))
  have V2 := (Var2.new (w.alloc (.cells #[d, a] 60)) (.slice none 0 0) (.slice none 0 0) 60).kept (alloc_old _ (.cells #[.slice none 0 0, .slice none 0 0] 60))
  have V3 := Var2.new ((w.alloc (.cells #[d, a] 60)).alloc (.cells #[.slice none 0 0, .slice none 0 0] 60)) (.slice none 0 0) (.slice none 0 0) 60
  simp only [size_alloc_w] at V2 V3
  have U := Lib.hid (fun (v : Nat) (W : World) (hv : v < ds.length) => l11Unit_c ds.length v W hl16 hv)
  have X := Lib.hid (fun (v : Value) (n m0 : Nat) (W : World) (h : ModS W.heap d a ds act) (hn : n ≤ 40) (hv : IntS W.heap v (bitsL ds.length m0)) => l11Antipode_c d a v ds act n m0 W h hT hn hv)
  obtain ⟨ao, ac, hdv, hm⟩ := h.1.len
  obtain ⟨bo, bc, hav, hm2⟩ := h.2.len
  subst hdv; subst hav
  have H0 := Lib.hid h; have HT := Lib.hid hT
  obtain ⟨W3, hW3⟩ : ∃ W3, W3 = ((w.alloc (.cells #[.slice ao ds.length ac, .slice bo act.length bc] 60)).alloc (.cells #[.slice none 0 0, .slice none 0 0] 60)).alloc (.cells #[.slice none 0 0, .slice none 0 0] 60) := ⟨_, rfl⟩
  rw [← hW3] at hb V1 V2 V3
  have HW3 := Lib.hid hW3; have HB := Lib.hid hb; have HV1 := Lib.hid V1; have HV2 := Lib.hid V2; have HV3 := Lib.hid V3
  have hs3 : W3.heap.size = w.heap.size + 3 := by rw [hW3]; simp
  have HS3 := Lib.hid hs3
  clear h hT hb0 hb1 hb V1 V2 V3 hW3 hs3
  go_enter Try.func115, Try.ntmps115
  go_wp2_with fail
  rw [← HW3.out]
  clear HW3
  go_loopw [5] (fun i wr => ∃ (k : Nat) (x : Int) (o : Value), k ≤ ds.length ∧ x = (ds.length : Int) - 1 - k ∧ i = .int .i64 x ∧ OwnI wr W3.heap.size o ((duD ds).take k) ∧ Var2 wr (w.heap.size + 1 + 1) o (.slice none 0 0) 60 ∧ Below (w.heap.size + 2) W3 wr) (fun i _ => (intOf i + 1).toNat)
  case atStart => exact ⟨0, _, _, Nat.zero_le _, by simp, rfl, OwnI.nil _ _, HV3.out, Below.refl _ _⟩
  case round =>
    obtain ⟨k, x, o, hk, hx, rfl, hO, hV, hbl⟩ := hrel
    obtain ⟨va, vn, vc, rfl⟩ := own_shape hO
    have HO := Lib.hid hO; have HV := Lib.hid hV; have HBL := Lib.hid hbl; have hsz := hbl.size
    have hg4 := hV.lt
    have hv0 := hV.c0
    have hf0 := hV.free 0
    clear hO hV hbl
    by_cases hlt : k < ds.length
    · have tx : decide (0 ≤ x) = true := by simp; omega
      have HD := Lib.hid (H0.out.1.same HB.out.block)
      obtain ⟨b1, o1, c1', hv1, hd1, -⟩ := HD.out.at (w := W3) (ds.length - 1) (by omega)
      obtain ⟨b2, o2, c2', hv2, hd2, -⟩ := HD.out.at (w := W3) (ds.length - 1 - k) (by omega)
      have hb1lt : b1 < w.heap.size := by
        obtain ⟨b9, o9, c9, hv9, hd9, -⟩ := H0.out.1.at (w := w) (ds.length - 1) (by omega)
        simp only [Value.slice.injEq, true_and, hv1] at hv9
        obtain ⟨hv9, -⟩ := hv9
        simp only [Option.some.injEq, Addr.mk.injEq, and_true] at hv9
        have := World.block_lt_of_cell? _ _ hd9
        simp only at this
        omega
      simp only [Value.slice.injEq, true_and] at hv1 hv2
      obtain ⟨rfl, rfl⟩ := hv1
      obtain ⟨hv2, -⟩ := hv2
      simp only [Option.some.injEq, Addr.mk.injEq, and_true] at hv2
      obtain ⟨rfl, rfl⟩ := hv2
      rw [← getD_at'] at hd1 hd2
      have HS := Lib.hid (duD_succ ds k hlt)
      have st1 := modT_stem HT.out (ds.length - 1)
      have st2 := modT_stem HT.out (ds.length - 1 - k)
      obtain ⟨q2, hq2⟩ : ∃ q2, q2 = ds.length - 1 - k := ⟨_, rfl⟩
      obtain rfl : x = (q2 : Int) := by omega
      have s1 : IntKind.i64.wrap ((ds.length : Int) - 1) = ((ds.length - 1 : Nat) : Int) := by rw [IntWalk.i64_in _ (by omega)]; omega
      have i1 : ((ds.length - 1 : Nat) : Int) < ds.length := by omega
      have i2 : (q2 : Int) < ds.length := by omega
      have hln : ((duD ds).take k).length < 4398046511104 := by rw [List.length_take, duD_len]; omega
      have s3 : IntKind.i64.wrap (ds.getD (ds.length - 1) 0 - ds.getD (ds.length - 1 - k) 0) = ds.getD (ds.length - 1) 0 - ds.getD (ds.length - 1 - k) 0 := IntWalk.i64_in _ (by omega)
      obtain ⟨y, hy⟩ : ∃ y, y = ds.getD (ds.length - 1) 0 - ds.getD (ds.length - 1 - k) 0 := ⟨_, rfl⟩
      rw [← hy] at HS
      replace s3 : IntKind.i64.wrap (ds.getD (ds.length - 1) 0 - ds.getD (ds.length - 1 - k) 0) = y := by rw [s3, hy]
      have HQ2 := Lib.hid (show (q2 : Int) + k + 1 = ds.length by omega)
      rw [← hq2] at hd2 s3
      clear hy st1 st2 hq2 hx
      generalize ds.getD (ds.length - 1) 0 = y1 at *
      generalize ds.getD q2 0 = y2 at *
      generalize hq1 : ds.length - 1 = q1 at *
      clear hq1
      have F := Lib.hid (fun (W : World) (hb : Below (w.heap.size + 2) W3 W) => And.intro ((hb.cell (p := ⟨w.heap.size, 0, none⟩) (by show w.heap.size < _; omega)).trans HV1.out.c0) (And.intro ((hb.cell (p := ⟨b1, o1 + q1, none⟩) (by show b1 < _; omega)).trans hd1) ((hb.cell (p := ⟨b1, o1 + q2, none⟩) (by show b1 < _; omega)).trans hd2)))
      clear hd1 hd2
      obtain ⟨m1, m2, m3⟩ := F.out _ HBL.out
      have hs3 : W3.heap.size ≤ wr.heap.size := hsz
      have HOB := Lib.hid (Below.refl W3.heap.size wr)
      go_wp2_with fail
      go_region_law (first | (refine step_append_int (by rfl) _ _ (by rfl) W3.heap.size _ _ (by exact HO.out.same (alloc_old wr (.cells #[.int .i64 y] 2))) (by rfl) wr.heap.size y (by rfl) (by exact heap_alloc_new wr _) (by exact below_drewN 1 ((HOB.out).alloc hs3 _)) (by simp; omega) hln ?_; intro v' w' hown' hbl' _ hk'; obtain ⟨pv, nv, cv, rfl⟩ := own_shape hown'; have V5' := HV.out.same ((hk' _ (by have := HV.out.lt; simp; omega) (fun e => (own_ne_var HO.out HV.out (by decide)) e.symm)).trans (alloc_old wr _ _ HV.out.lt)); have d0' := V5'.c0; have fr := V5'.free 0; have HO' := Lib.hid hown'; have H5' := Lib.hid V5'; have HB' := Lib.hid (HBL.out.trans (hbl'.mono (by have := HS3.out; omega))); clear hown' V5' hbl' hk'))
      all_goals
        go_wp2_with fail
        go_roundw
        case rel => exact ⟨k + 1, (q2 : Int) - 1, .slice pv nv cv, by omega, by have := HQ2.out; omega, rfl, by rw [HS.out]; exact HO'.out.setVar H5'.out (by decide) _, H5'.out.set0 _, HB'.out.setCell (by show _ ≤ w.heap.size + 1 + 1; omega) _⟩
        case measure => simp [intOf]
    · obtain rfl : k = ds.length := by omega
      rw [show (duD ds).take ds.length = duD ds from by rw [← duD_len ds, List.take_length]] at HO
      have tx : decide (0 ≤ x) = false := by simp; omega
      have HKL := Lib.hid (fun c => duRC_len2 ds act c)
      have h16 : ds.length * ds.length ≤ 16 * 16 := Nat.mul_le_mul hl16 hl16
      have PU := Lib.hid (fun (v u : Value) (xss : List (List Int)) (xs : List Int) (W : World) (h : IntSS W.heap v xss) (hu : IntS W.heap u xs) (hl : xss.length ≤ 1000) (h3 : xs.length = 3) => l01Put_c v u xss xs W h hu (by omega) (by omega))
      clear hx
      go_wp2_with fail
      go_loopw [6] (fun i wr => ∃ (c : Nat) (o : Value), c ≤ ds.length ∧ i = .int .i64 c ∧ IntS wr.heap (.slice va vn vc) (duD ds) ∧ IntSS wr.heap o (oddL (duRC ds act c)) ∧ Var2 wr (w.heap.size + 1 + 1) (.slice va vn vc) o 60 ∧ Below (w.heap.size + 2) W3 wr) (fun i _ => ds.length - (intOf i).toNat)
      case atStart => exact ⟨0, .slice none 0 0, Nat.zero_le _, rfl, HO.out.ints, IntSS.nil _, HV.out, HBL.out⟩
      case round =>
        clear HO HV HBL hsz hg4 hv0 hf0
        obtain ⟨c, o, hc, rfl, hD, hA, hV, hbl⟩ := hrel
        have HD := Lib.hid hD; have HA := Lib.hid hA; have HV := Lib.hid hV; have HBL := Lib.hid hbl
        clear hD hA hV hbl
        by_cases hlc : c < ds.length
        · have hci : (c : Int) < ds.length := by omega
          go_wp2_with fail
          obtain ⟨WA, rfl⟩ : ∃ W : World, W = wr := ⟨_, rfl⟩
          go_loopw [7] (fun i wr => ∃ (b : Nat) (o : Value), b ≤ ds.length ∧ i = .int .i64 b ∧ IntS wr.heap (.slice va vn vc) (duD ds) ∧ IntSS wr.heap o (oddL (duRC ds act c ++ duRB ds act c b)) ∧ Var2 wr (w.heap.size + 1 + 1) (.slice va vn vc) o 60 ∧ Below (w.heap.size + 2) W3 wr) (fun i _ => ds.length - (intOf i).toNat)
          case atStart => exact ⟨0, o, Nat.zero_le _, rfl, HD.out, by simpa [duRB] using HA.out, HV.out, HBL.out⟩
          case round =>
            clear HD HA HV HBL
            obtain ⟨b, o, hb, rfl, hD, hA, hV, hbl⟩ := hrel
            have HD := Lib.hid hD; have HA := Lib.hid hA; have HV := Lib.hid hV; have HBL := Lib.hid hbl
            by_cases hlb : b < ds.length
            · obtain ⟨b1, o1, c1, hv1, hd1, -⟩ := hD.at (w := wr) c (by rw [duD_len]; exact hlc)
              obtain ⟨b2, o2, c2, hv2, hd2, -⟩ := hD.at (w := wr) b (by rw [duD_len]; exact hlb)
              simp only [Value.slice.injEq, duD_len] at hv1 hv2
              obtain ⟨rfl, rfl, rfl⟩ := hv1
              obtain ⟨hv2, -, -⟩ := hv2
              simp only [Option.some.injEq, Addr.mk.injEq, and_true] at hv2
              obtain ⟨rfl, rfl⟩ := hv2
              rw [← getD_at'] at hd1 hd2
              have e1 := duD_at ds c hlc
              have e2 := duD_at ds b hlb
              have st1 := modT_stem HT.out (ds.length - 1)
              have st2 := modT_stem HT.out (ds.length - 1 - c)
              have st3 := modT_stem HT.out (ds.length - 1 - b)
              have hso := modT_sorted HT.out (ds.length - 1) (ds.length - 1 - c) (by omega) (by omega)
              have hso2 := modT_sorted HT.out (ds.length - 1) (ds.length - 1 - b) (by omega) (by omega)
              have B1 : 0 ≤ (duD ds).getD c 0 ∧ (duD ds).getD c 0 ≤ 20 := by omega
              have B2 : 0 ≤ (duD ds).getD b 0 ∧ (duD ds).getD b 0 ≤ 20 := by omega
              have HR : Hid (duR ds act c b = if 1 ≤ (duD ds).getD c 0 - (duD ds).getD b 0 ∧ duB act ds.length ((duD ds).getD c 0 - (duD ds).getD b 0).toNat b c = true then [[(duD ds).getD c 0 - (duD ds).getD b 0, (b : Int), (c : Int)]] else []) := rfl
              clear e1 e2 st1 st2 st3 hso hso2
              have hv0 := hV.c0
              have hv1 := hV.c1
              have hvf := hV.free 1
              have hbi : (b : Int) < ds.length := by omega
              have s1 : IntKind.i64.wrap ((duD ds).getD c 0 - (duD ds).getD b 0) = (duD ds).getD c 0 - (duD ds).getD b 0 := IntWalk.i64_in _ (by omega)
              obtain ⟨nn, hnn⟩ : ∃ nn, nn = (duD ds).getD c 0 - (duD ds).getD b 0 := ⟨_, rfl⟩
              rw [← hnn] at HR
              replace s1 : IntKind.i64.wrap ((duD ds).getD c 0 - (duD ds).getD b 0) = nn := by rw [s1, hnn]
              have hn40 : nn ≤ 20 := by omega
              have HDS : Hid (duRC ds act c ++ duRB ds act c (b + 1) = (duRC ds act c ++ duRB ds act c b) ++ duR ds act c b) := by show _ = _; rw [duRB_succ, List.append_assoc]
              clear hnn B1 B2 hD hA hV
              generalize (duD ds).getD c 0 = y1 at *
              generalize (duD ds).getD b 0 = y2 at *
              by_cases hn1 : 1 ≤ nn
              · have tn : decide (nn < 1) = false := by simp; omega
                obtain ⟨n, rfl⟩ := Int.eq_ofNat_of_zero_le (show 0 ≤ nn by omega)
                rw [Int.toNat_natCast] at HR
                have hV1 := HV1.out.below hbl (by omega)
                have k0 := hV1.c0; have k1 := hV1.c1
                have HMW := Lib.hid (H0.out.same (HB.out.trans (hbl.mono (by omega))).block)
                obtain ⟨q, hq⟩ : ∃ q, q = ds.length - 1 - c := ⟨_, rfl⟩
                obtain ⟨q', hq'⟩ : ∃ q', q' = ds.length - 1 - b := ⟨_, rfl⟩
                have s2 : IntKind.i64.wrap ((ds.length : Int) - 1) = (ds.length : Int) - 1 := IntWalk.i64_in _ (by omega)
                have s4 : IntKind.i64.wrap ((ds.length : Int) - 1 - c) = (q : Int) := by rw [IntWalk.i64_in _ (by omega)]; omega
                have s5 : IntKind.i64.wrap ((ds.length : Int) - 1 - b) = (q' : Int) := by rw [IntWalk.i64_in _ (by omega)]; omega
                have i5 : (q' : Int) < ds.length := by omega
                have hqs : q < ds.length := by omega
                have hqs' : q' < ds.length := by omega
                have HY : Hid ((bitsL ds.length (apX act (2 ^ q) n)).getD q' 0 = if duB act ds.length n b c then 1 else 0) := by
                  show _ = _
                  rw [bitsL_at _ _ _ hqs', duB, ← hq, ← hq']
                have hlen : (oddL (duRC ds act c ++ duRB ds act c b)).length ≤ 1000 := by
                  have := oddL_length (duRC ds act c ++ duRB ds act c b)
                  rw [List.length_append] at this
                  have h1 := HKL.out c
                  have h2 := duRC_len ds act c b
                  have h3 : c * ds.length ≤ ds.length * ds.length := Nat.mul_le_mul_right _ hc
                  omega
                have HLEN := Lib.hid hlen
                clear hV1 hq hq' hlen
                go_wp2_with fail
                go_quiet (fail)
                rename_i nq
                go_wp2_with fail
                obtain ⟨W2, hW2⟩ : ∃ W2, W2 = wr.drewN nq := ⟨_, rfl⟩
                have HV2' := Lib.hid (HV.out.kept (w' := W2) (fun _ _ => by rw [hW2]; rfl))
                have HD2 := Lib.hid (HD.out.same (h' := W2.heap) (fun _ _ => by rw [hW2]; rfl))
                have HA2 := Lib.hid (HA.out.same (h' := W2.heap) (fun _ _ => by rw [hW2]; rfl))
                have HM2 := Lib.hid (HMW.out.same (h' := W2.heap) (fun _ _ => by rw [hW2]; rfl))
                have HB2' := Lib.hid (show Below (w.heap.size + 2) W3 W2 by rw [hW2]; exact below_drewN nq HBL.out)
                have j0 : W2.cell? ⟨w.heap.size, 0, none⟩ = some (.slice ao ds.length ac) := by rw [hW2]; exact k0
                have j1 : W2.cell? ⟨w.heap.size, 1, none⟩ = some (.slice bo act.length bc) := by rw [hW2]; exact k1
                rw [← hW2]
                clear hW2 hbl HBL HV HD HA HMW k0 k1 hv0 hv1 hvf hd1 hd2 s1
                cases hB : duB act ds.length n b c
                · rw [hB] at HR HY
                  rw [if_neg (by simp)] at HR
                  rw [if_neg (by simp)] at HY
                  rw [HR.out, List.append_nil] at HDS
                  clear HR hB
                  go_region_with (first | (go_at_call 128; refine (U.out q _ hqs).mono ?_; rintro e W4 ⟨r, rfl, hr, hxA⟩; obtain ⟨ra, rn, rc, rfl⟩ := own_shape hr; have l0 := (hxA.cell (World.block_lt_of_cell? _ _ (show W2.drew.cell? _ = _ from j0))).trans (show W2.drew.cell? _ = _ from j0); have l1 := (hxA.cell (World.block_lt_of_cell? _ _ (show W2.drew.cell? _ = _ from j1))).trans (show W2.drew.cell? _ = _ from j1)) | (go_at_call 166; refine (X.out _ n (2 ^ q) _ ((HM2.out.same (h' := W2.drew.heap) (fun _ _ => rfl)).same hxA.block) (by omega) hr.ints).mono ?_; rintro e W5 ⟨r4, rfl, hr4, hx⟩; obtain ⟨b9, o9, c9, rfl, hd9, -⟩ := hr4.at (w := W5) q' (by rw [bitsL_length]; exact hqs'); rw [← getD_at', HY.out] at hd9; rw [bitsL_length] at *))
                  all_goals
                    have HB4 := Lib.hid (show Below W2.heap.size W2 W5 from ((below_drewN 1 (Below.refl W2.heap.size W2)).trans hxA).trans (hx.mono (show W2.heap.size ≤ _ from hxA.size)))
                    clear hx hxA hd9 hr hr4 j0 j1 l0 l1
                    go_wp2_with fail
                    go_roundw
                    case rel => exact ⟨b + 1, o, by omega, by go_num, HD2.out.same HB4.out.block, by rw [HDS.out]; exact HA2.out.same HB4.out.block, HV2'.out.kept HB4.out.block, HB2'.out.trans (HB4.out.mono (Nat.le_trans (by have := HS3.out; omega) HB2'.out.size))⟩
                    case measure => simp [intOf]; omega
                · rw [hB] at HR HY
                  rw [if_pos ⟨by omega, rfl⟩] at HR
                  rw [if_pos rfl] at HY
                  rw [HR.out] at HDS
                  have HLE := Lib.hid (show (oddL (duRC ds act c ++ duRB ds act c b)).length ≤ 1000 from HLEN.out)
                  clear HR hB
                  go_region_with (first | (go_at_call 128; refine (U.out q _ hqs).mono ?_; rintro e W4 ⟨r, rfl, hr, hxA⟩; obtain ⟨ra, rn, rc, rfl⟩ := own_shape hr; have l0 := (hxA.cell (World.block_lt_of_cell? _ _ (show W2.drew.cell? _ = _ from j0))).trans (show W2.drew.cell? _ = _ from j0); have l1 := (hxA.cell (World.block_lt_of_cell? _ _ (show W2.drew.cell? _ = _ from j1))).trans (show W2.drew.cell? _ = _ from j1)) | (go_at_call 166; refine (X.out _ n (2 ^ q) _ ((HM2.out.same (h' := W2.drew.heap) (fun _ _ => rfl)).same hxA.block) (by omega) hr.ints).mono ?_; rintro e W5 ⟨r4, rfl, hr4, hx⟩; obtain ⟨b9, o9, c9, rfl, hd9, -⟩ := hr4.at (w := W5) q' (by rw [bitsL_length]; exact hqs'); rw [← getD_at', HY.out] at hd9; rw [bitsL_length] at *))
                  all_goals
                    have HB4 := Lib.hid (show Below W2.heap.size W2 W5 from ((below_drewN 1 (Below.refl W2.heap.size W2)).trans hxA).trans (hx.mono (show W2.heap.size ≤ _ from hxA.size)))
                    have hV5 := HV2'.out.kept HB4.out.block
                    have g1 := hV5.c1
                    have HV5 := Lib.hid hV5
                    have HD5 := Lib.hid (HD2.out.same HB4.out.block)
                    have HA5 := Lib.hid (HA2.out.same HB4.out.block)
                    have HB5 := Lib.hid (HB2'.out.trans (HB4.out.mono (Nat.le_trans (by have := HS3.out; omega) HB2'.out.size)))
                    obtain ⟨za, zc, hzv, -⟩ := HA5.out.len
                    have HP := Lib.hid (PU.out o (.slice (some ⟨W5.heap.size, 0, none⟩) 3 3) (oddL (duRC ds act c ++ duRB ds act c b)) [(n : Int), (b : Int), (c : Int)] (W5.alloc (.cells #[.int .i64 n, .int .i64 b, .int .i64 c] 2)) (HA5.out.same (alloc_old _ _)) (ownI_lit3 (Nat.zero_le _) _ _ _).ints HLE.out rfl)
                    subst hzv
                    clear hx hxA hd9 hr hr4 j0 j1 l0 l1 hV5
                    go_wp2_with fail
                    refine HP.out.mono ?_
                    rintro e W6 ⟨rz, rfl, hrz, hb6⟩
                    have hbz : Below W5.heap.size W5 W6 := ((Below.refl _ _).alloc (Nat.le_refl _) _).trans (hb6.mono (by rw [size_alloc_w]; omega))
                    have hV6 := HV5.out.kept hbz.block
                    have f1 := hV6.free 1
                    have g6 := hV6.c1
                    have HV6 := Lib.hid hV6
                    have HRZ := Lib.hid hrz
                    have HD6 := Lib.hid (HD5.out.same hbz.block)
                    have HB6 := Lib.hid (HB5.out.trans (hbz.mono (Nat.le_trans (by have := HS3.out; omega) HB5.out.size)))
                    obtain ⟨ya, yc, rfl, -⟩ := hrz.len
                    clear hrz hb6 hbz hV6 HP g1
                    generalize (put [(n : Int), (b : Int), (c : Int)] (oddL (duRC ds act c ++ duRB ds act c b))).length = yl at *
                    rw [odd_step] at HRZ
                    go_wp2_with fail
                    go_roundw
                    case rel => exact ⟨b + 1, .slice ya yl yc, by omega, by go_num, HD6.out.otherV HV6.out (by decide) _, by rw [HDS.out]; exact HRZ.out.otherV HV6.out (by decide) (by decide) _, HV6.out.set1 _, HB6.out.setCell (by show _ ≤ w.heap.size + 1 + 1; omega) _⟩
                    case measure => simp [intOf]; omega
              · have tn : decide (nn < 1) = true := by simp; omega
                rw [if_neg (fun h => hn1 h.1)] at HR
                rw [HR.out, List.append_nil] at HDS
                clear HR hbl
                go_wp2_with fail
                go_quiet (fail)
                go_wp2_with fail
                go_roundw
                case rel => exact ⟨b + 1, o, by omega, by go_num, HD.out, by rw [HDS.out]; exact HA.out, HV.out, below_drewN _ HBL.out⟩
                case measure => simp [intOf]; omega
            · obtain rfl : b = ds.length := by omega
              clear hbl
              go_wp2_with fail
              go_roundw
              case rel => exact ⟨c + 1, o, by omega, by go_num, HD.out, HA.out, HV.out, HBL.out⟩
              case measure => simp [intOf]; omega
        · obtain rfl : c = ds.length := by omega
          rw [duA_odd HT.out] at HA
          have d0 := HV.out.c0; have d1 := HV.out.c1
          have HR2 := Lib.hid (HV2.out.below HBL.out (by omega))
          have c0 := HR2.out.c0; have c1 := HR2.out.c1; have f0 := HR2.out.free 0; have f1 := HR2.out.free 1
          obtain ⟨za, zc, hzv, -⟩ := HA.out.len
          subst hzv
          go_wp2_with fail
          have W5 := HR2.out.set0 (.slice va vn vc)
          have g0 := (W5.set1 (.slice za (duA ds act).length zc)).c0
          have g1 := (W5.set1 (.slice za (duA ds act).length zc)).c1
          exact bodyPost_ret (v := .agg #[.slice va vn vc, .slice za (duA ds act).length zc]) (by simp [results, Try.results115, go_sem, g0, g1]) rfl
            ⟨_, _, rfl, ⟨(HD.out.otherV HR2.out (by decide) _).otherV W5 (by decide) _, (HA.out.otherV HR2.out (by decide) (by decide) _).otherV W5 (by decide) (by decide) _⟩, ((HB.out.trans (HBL.out.mono (by omega))).setCell (by show w.heap.size ≤ w.heap.size + 1; omega) _).setCell (by show w.heap.size ≤ w.heap.size + 1; omega) _⟩
end Go.Proofs.Ytljfpkhgijangaa

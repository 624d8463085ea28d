/- Words of squares by a table, and SquaresOnModule: of the program and of the reference. -/
import Derived.Test.YtljfpkhgijangaaLSqs
import Derived.Test.YtljfpkhgijangaaLSqm
import Derived.Test.YtljfpkhgijangaaLMs2
import Derived.Test.YtljfpkhgijangaaLModArg
namespace Go.Proofs.Ytljfpkhgijangaa
open Go.RowKit Go.Sort

theorem wordM_lt {ds : List Int} {act : List (List Int)} (h : modT ds act = true) (m : Nat) (hm : m < 2 ^ ds.length) : ∀ word, wordM act word m < 2 ^ ds.length
  | [] => hm
  | n :: word => actZ_lt h n _ (wordM_lt h m hm word)
theorem wordsM_lt {ds : List Int} {act : List (List Int)} (h : modT ds act = true) (m : Nat) (hm : m < 2 ^ ds.length) (words : List (List Int)) : ∀ k, wordsM act (words.take k) m < 2 ^ ds.length
  | 0 => Nat.two_pow_pos _
  | k + 1 => by
    by_cases hk : k < words.length
    · rw [wordsM_take act words m k hk]; exact Nat.xor_lt_two_pow (wordsM_lt h m hm words k) (wordM_lt h m hm _)
    · have := wordsM_lt h m hm words k
      rwa [List.take_of_length_le (by omega)] at this ⊢
set_option maxHeartbeats 1000000 in
theorem tword_c (g : Nat) (d u : Value) (us : List Value) (ds word : List Int) (act : List (List Int)) (B m : Nat) (w : World) (h : TabU w B g d us (tabL ds.length act)) (hT : modT ds act = true) (hm : m < 2 ^ ds.length) (hu : IntS w.heap u word) (hw : ∀ x ∈ word, 1 ≤ x ∧ x ≤ 40) :
    Calls Try.prog 181 #[.pointer (some ⟨g, 0, none⟩), u, .int .i64 m] w fun e w' => e = .returned (.int .i64 (wordM act word m : Nat)) ∧ w = w' := by
  obtain ⟨uo, uc, rfl, hul⟩ := hu.len
  have S := Lib.hid (fun (n v : Nat) (hv : v < 2 ^ ds.length) => square_c g d us ds act B n v w h hT hv)
  have HU := Lib.hid hu; have HW := Lib.hid hw
  have HL := Lib.hid (fun k => wordM_lt hT m hm (word.drop k))
  clear h hT hm hu hw
  go_enter Try.func181, Try.ntmps181
  go_wp2_with fail
  go_loop [2, 7] (fun v i => ∃ (k : Nat) (x : Int), k ≤ word.length ∧ x = (k : Int) - 1 ∧ i = .int .i64 x ∧ v = .int .i64 (wordM act (word.drop k) m : Nat)) (fun _ i => (intOf i + 1).toNat)
  case atStart => exact ⟨word.length, (word.length : Int) - 1, Nat.le_refl _, rfl, rfl, by rw [List.drop_length]; rfl⟩
  case round =>
    obtain ⟨k, x, hk, hx, rfl, rfl⟩ := hrel
    rcases k with _ | j
    · have t0 : decide (0 ≤ x) = false := by simp; omega
      go_wp2_with fail
      go_ret
      exact ⟨rfl, rfl⟩
    · obtain rfl : x = j := by omega
      have hj : j < word.length := by omega
      obtain ⟨b1, o1, c1, hv1, hc1, -⟩ := HU.out.at j hj
      simp only [Value.slice.injEq, true_and] at hv1
      obtain ⟨rfl, rfl⟩ := hv1
      have HS := Lib.hid (wordM_drop act word m j hj)
      have hn := HW.out _ (List.getElem_mem hj)
      obtain ⟨n, hnn⟩ := Int.eq_ofNat_of_zero_le (show 0 ≤ word[j] by omega)
      have SQ := Lib.hid (S.out n _ (HL.out (j + 1)))
      have hji : (j : Int) < word.length := by omega
      rw [hnn] at HS hc1
      clear hn hnn hx hk
      generalize wordM act (word.drop (j + 1)) m = q at *
      go_wp2_with (go_at_call 169; refine SQ.out.mono ?_; rintro e w' ⟨rfl, rfl⟩)
      go_round
      case rel => exact ⟨j, (j : Int) - 1, by omega, rfl, rfl, by rw [HS.out]⟩
      case measure => simp [intOf]
set_option maxHeartbeats 1000000 in
theorem twords_c (g : Nat) (d u : Value) (us : List Value) (ds : List Int) (act words : List (List Int)) (B m : Nat) (w : World) (h : TabU w B g d us (tabL ds.length act)) (hT : modT ds act = true) (hm : m < 2 ^ ds.length) (hu : IntSS w.heap u words) (hw : ∀ r ∈ words, ∀ x ∈ r, 1 ≤ x ∧ x ≤ 40) :
    Calls Try.prog 137 #[.pointer (some ⟨g, 0, none⟩), u, .int .i64 m] w fun e w' => e = .returned (.int .i64 (wordsM act words m : Nat)) ∧ w = w' := by
  obtain ⟨uo, uc, rfl, hul⟩ := hu.len
  have h16 := modT_len hT
  have hp : 2 ^ ds.length ≤ 2 ^ 16 := Nat.pow_le_pow_right (by omega) h16
  have S := Lib.hid (fun (x : Value) (r : List Int) (hx : IntS w.heap x r) (hr : r ∈ words) => tword_c g d x us ds r act B m w h hT hm hx (hw r hr))
  have HU := Lib.hid hu
  have HL := Lib.hid (wordsM_lt hT m hm words); have HL2 := Lib.hid (wordM_lt hT m hm)
  clear h hT hm hu hw
  go_enter Try.func137, Try.ntmps137
  go_wp2_with fail
  go_loop [7, 12] (fun v i => ∃ k : Nat, k ≤ words.length ∧ i = .int .i64 k ∧ v = .int .i64 (wordsM act (words.take k) m : Nat)) (fun _ i => words.length - (intOf i).toNat)
  case atStart => exact ⟨0, Nat.zero_le _, rfl, rfl⟩
  case round =>
    obtain ⟨k, hk, rfl, rfl⟩ := hrel
    by_cases hlt : k < words.length
    · obtain ⟨b1, o1, c1, x, hv1, hc1, hx, -⟩ := HU.out.at k hlt
      simp only [Value.slice.injEq, true_and] at hv1
      obtain ⟨rfl, rfl⟩ := hv1
      have HS := Lib.hid (wordsM_take act words m k hlt)
      have SQ := Lib.hid (S.out x _ hx (List.getElem_mem hlt))
      have b1 := HL.out k; have b2 := HL2.out words[k]
      have hxr := i64_xor_nat (wordsM act (words.take k) m) (wordM act words[k] m) (by omega) (by omega)
      obtain ⟨xa, xc, rfl, -⟩ := hx.len
      clear hx b1 b2
      generalize wordsM act (words.take k) m = p at *
      generalize wordM act words[k] m = q at *
      generalize words[k].length = xl at *
      go_wp2_with (go_at_call 181; refine SQ.out.mono ?_; rintro e w' ⟨rfl, rfl⟩)
      go_round
      case rel => exact ⟨k + 1, by omega, by go_num, by rw [HS.out]⟩
      case measure => simp [intOf]; omega
    · obtain rfl : k = words.length := by omega
      rw [List.take_length]
      go_wp2_with fail
      go_ret
      exact ⟨rfl, rfl⟩
def ssmC (ds : List Int) (act tss : List (List Int)) (xs : List Int) : Int := if isMod ds act && sqT tss then (if vecB ds xs then 0 else 2) else 1
def ssmL (ds : List Int) (act tss : List (List Int)) (xs : List Int) : List Int := if isMod ds act && sqT tss && vecB ds xs then bitsL ds.length (wordsM act tss (maskN xs xs.length)) else []
theorem ssmL_len (ds : List Int) (act tss : List (List Int)) (xs : List Int) : (ssmL ds act tss xs).length ≤ 16 := by
  unfold ssmL
  split
  · rename_i h
    simp only [Bool.and_eq_true] at h
    rw [bitsL_length]; exact modT_len (isMod_T h.1.1)
  · simp
theorem heldC3B {x1 x2 x3 : Value} {g1 g2 g3 : Addr} {w w0 W : World} {B : Nat} (k : Below B w w0) (h : W.cell? g1 = some x1 ∧ W.cell? g2 = some x2 ∧ W.cell? g3 = some x3 ∧ Below w0.heap.size w0 W) (hB : B ≤ w0.heap.size) : Below B w W := k.trans (h.2.2.2.mono hB)
set_option maxRecDepth 100000 in
set_option maxHeartbeats 1000000 in
theorem implSquaresOnModule_c (d a v t : Value) (ds : List Int) (act tss : List (List Int)) (xs : List Int) (w : World) (h : ModS w.heap d a ds act) (ht : IntSS w.heap t tss) (hv : IntS w.heap v xs) :
    Calls Try.prog 59 #[.agg #[d, a], .agg #[t], v] w fun e w' => ∃ r, e = .returned (.tuple #[r, .int .i64 (ssmC ds act tss xs)]) ∧ OwnI w' w.heap.size r (ssmL ds act tss xs) ∧ Below w.heap.size w w' := by
  have hb0 : Below w.heap.size w (w.alloc (.cells #[d, a] 60)) := (Below.refl _ _).alloc (Nat.le_refl _) _
  have hb : Below w.heap.size w ((w.alloc (.cells #[d, a] 60)).alloc (.cells #[t] 72)) := hb0.alloc (by simp) _
  have V := two_new w d a 60
  have k1 := Go.Lib.cell?_alloc_some (.cells #[t] 72) V.1
  have k2 := Go.Lib.cell?_alloc_some (.cells #[t] 72) V.2
  have k3 := (Cell1.new (w.alloc (.cells #[d, a] 60)) t 72).c0
  rw [size_alloc_w] at k3
  have Q := Lib.hid (isSquares_c t tss _ (ht.same hb.block))
  have I := Lib.hid (fun (W : World) (h : ModS W.heap d a ds act) (hv : IntS W.heap v xs) => acted_c d a v ds act xs W h hv)
  obtain ⟨ao, ac, hdv, hm⟩ := h.1.len
  obtain ⟨bo, bc, hav, hm2⟩ := h.2.len
  obtain ⟨vo, vc, hvv, hm3⟩ := hv.len
  obtain ⟨tp, tc, htv, hm4⟩ := ht.len
  subst hdv; subst hav; subst hvv; subst htv
  have H0 := Lib.hid h; have HV0 := Lib.hid hv; have HT0 := Lib.hid ht; have HB := Lib.hid hb; clear h hb V hv ht hb0
  cases hQ : sqT tss
  · have e1 : ssmL ds act tss xs = [] := by simp [ssmL, hQ]
    have e2 : ssmC ds act tss xs = 1 := by simp [ssmC, hQ]
    rw [hQ] at Q
    rw [e1, e2]
    clear hQ e1 e2 I
    go_enter Try.func59, Try.ntmps59
    go_wp2_with (go_at_call 134; refine Q.out.mono ?_; rintro e w1 ⟨rfl, hb1⟩)
    go_ret2
    exact ⟨_, rfl, OwnI.nil _ _, HB.out.trans (hb1.mono HB.out.size)⟩
  rw [hQ] at Q
  cases hT : isMod ds act
  · have e1 : ssmL ds act tss xs = [] := by simp [ssmL, hT]
    have e2 : ssmC ds act tss xs = 1 := by simp [ssmC, hT]
    rw [hT] at I
    simp only [Bool.false_eq_true, if_false] at I
    rw [e1, e2]
    clear hT hQ e1 e2
    go_enter Try.func59, Try.ntmps59
    go_wp2_with fail
    refine Q.out.mono ?_
    rintro e w1 ⟨rfl, hb1⟩
    have k4 := (hb1.cell (World.block_lt_of_cell? _ _ k1)).trans k1
    have k5 := (hb1.cell (World.block_lt_of_cell? _ _ k2)).trans k2
    have HB1 := Lib.hid (HB.out.trans (hb1.mono HB.out.size))
    clear hb1 k1 k2 k3 Q
    go_wp2_with fail
    refine (I.out _ (H0.out.same HB1.out.block) (HV0.out.same HB1.out.block)).mono ?_
    rintro e w2 ⟨rfl, hb2⟩
    go_wp2_with fail
    go_ret2
    exact ⟨_, rfl, OwnI.nil _ _, HB1.out.trans (hb2.mono HB1.out.size)⟩
  rw [hT] at I
  simp only [if_true] at I
  cases hV : vecB ds xs
  · have e1 : ssmL ds act tss xs = [] := by simp [ssmL, hV]
    have e2 : ssmC ds act tss xs = 2 := by simp [ssmC, hT, hV, hQ]
    rw [hV] at I
    simp only [Bool.false_eq_true, if_false] at I
    rw [e1, e2]
    clear hT hQ hV e1 e2
    go_enter Try.func59, Try.ntmps59
    go_wp2_with fail
    refine Q.out.mono ?_
    rintro e w1 ⟨rfl, hb1⟩
    have k4 := (hb1.cell (World.block_lt_of_cell? _ _ k1)).trans k1
    have k5 := (hb1.cell (World.block_lt_of_cell? _ _ k2)).trans k2
    have HB1 := Lib.hid (HB.out.trans (hb1.mono HB.out.size))
    clear hb1 k1 k2 k3 Q
    go_wp2_with fail
    refine (I.out _ (H0.out.same HB1.out.block) (HV0.out.same HB1.out.block)).mono ?_
    rintro e w2 ⟨rfl, hb2⟩
    go_wp2_with fail
    go_ret2
    exact ⟨_, rfl, OwnI.nil _ _, HB1.out.trans (hb2.mono HB1.out.size)⟩
  rw [hV] at I
  simp only [if_true] at I
  have hT1 := isMod_T hT
  have hm16 := modT_len hT1
  have hlen := vecB_len hV
  have e1 : ssmL ds act tss xs = bitsL ds.length (wordsM act tss (maskN xs xs.length)) := by simp [ssmL, hT, hV, hQ]
  have e2 : ssmC ds act tss xs = 0 := by simp [ssmC, hT, hV, hQ]
  have hlt : maskN xs xs.length < 2 ^ ds.length := by rw [← hlen]; exact maskN_lt xs _
  have hlt2 : wordsM act tss (maskN xs xs.length) < 2 ^ 16 := by
    have := wordsM_lt hT1 _ hlt tss tss.length
    rw [List.take_length] at this
    exact Nat.lt_of_lt_of_le this (Nat.pow_le_pow_right (by omega) hm16)
  have T := Lib.hid (fun (W : World) (h : ModS W.heap (.slice ao ds.length ac) (.slice bo act.length bc) ds act) => tableOf_c _ _ ds act W h hT1)
  have M := Lib.hid (fun (W : World) (h : IntS W.heap (.slice vo xs.length vc) xs) => maskOf_c _ xs W h (vecB_bit hV) (by omega))
  have S := Lib.hid (fun (g : Nat) (us : List Value) (B : Nat) (W : World) (h : TabU W B g (.slice ao ds.length ac) us (tabL ds.length act)) (hu : IntSS W.heap (.slice tp tss.length tc) tss) => twords_c g _ _ us ds act tss B _ W h hT1 hlt hu (fun r hr x hx => wordB_let (sqT_rows hQ r hr) x hx))
  have O := Lib.hid (fun (W : World) (h : IntS W.heap (.slice ao ds.length ac) ds) => vectorOf_c (.slice ao ds.length ac) (.slice bo act.length bc) ds _ W h hm16 hlt2)
  rw [e1, e2]
  clear hT hV hQ e1 e2 hT1 hlt hlt2 hm16 hlen
  generalize wordsM act tss (maskN xs xs.length) = Y at *
  generalize maskN xs xs.length = X at *
  go_enter Try.func59, Try.ntmps59
  go_wp2_with fail
  refine Q.out.mono ?_
  rintro e w1 ⟨rfl, hb1⟩
  have k4 := (hb1.cell (World.block_lt_of_cell? _ _ k1)).trans k1
  have k5 := (hb1.cell (World.block_lt_of_cell? _ _ k2)).trans k2
  have k6 := (hb1.cell (World.block_lt_of_cell? _ _ k3)).trans k3
  have HB1 := Lib.hid (HB.out.trans (hb1.mono HB.out.size))
  clear hb1 k1 k2 k3 Q
  go_wp2_with fail
  refine (I.out _ (H0.out.same HB1.out.block) (HV0.out.same HB1.out.block)).mono ?_
  rintro e w2 ⟨rfl, hb2⟩
  have k1 := (hb2.cell (World.block_lt_of_cell? _ _ k4)).trans k4
  have k2 := (hb2.cell (World.block_lt_of_cell? _ _ k5)).trans k5
  have k3 := (hb2.cell (World.block_lt_of_cell? _ _ k6)).trans k6
  have HB2 := Lib.hid (HB1.out.trans (hb2.mono HB1.out.size))
  clear hb2 k4 k5 k6 I HB HB1
  go_wp2_with fail
  go_region_held3 (fun W => W.cell? ⟨w.heap.size, 0, none⟩ = some (.slice ao ds.length ac) ∧ W.cell? ⟨w.heap.size, 1, none⟩ = some (.slice bo act.length bc) ∧ W.cell? ⟨w.heap.size + 1, 0, none⟩ = some (.slice tp tss.length tc) ∧ Below w2.heap.size w2 W)
    (first | exact ⟨k1, k2, k3, (Below.refl _ _).drew⟩ | exact heldC3 (by assumption) hx | exact heldC3 (by assumption) hx4 | assumption)
    (first | (go_at_call 117; refine (T.out _ (H0.out.same (heldC3B HB2.out (by assumption) HB2.out.size).block)).mono ?_; rintro e W2 ⟨g, us, rfl, htu, hx⟩) | (go_at_call 138; refine (M.out _ (HV0.out.same (heldC3B HB2.out (by assumption) HB2.out.size).block)).mono ?_; rintro e W3 ⟨rfl, rfl⟩) | (go_at_call 137; refine (S.out g us _ _ htu (HT0.out.same (heldC3B HB2.out (by assumption) HB2.out.size).block)).mono ?_; rintro e W3 ⟨rfl, rfl⟩) | (go_at_call 136; refine (O.out _ (H0.out.1.same (heldC3B HB2.out (by assumption) HB2.out.size).block)).mono ?_; rintro e W4 ⟨r, rfl, hr, hx4⟩; obtain ⟨ra, rn, rc, rfl⟩ := own_shape hr))
  all_goals
    rename_i hh
    have HB4 := Lib.hid (heldC3B HB2.out hh HB2.out.size)
    go_wp2_with fail
    go_ret2
    exact ⟨_, rfl, own_base hr (Nat.le_trans HB2.out.size hx.size), HB4.out⟩
set_option maxRecDepth 100000 in
set_option maxHeartbeats 1000000 in
theorem specSquaresOnModule_c (d a v t : Value) (ds : List Int) (act tss : List (List Int)) (xs : List Int) (w : World) (h : ModS w.heap d a ds act) (ht : IntSS w.heap t tss) (hv : IntS w.heap v xs) :
    Calls Try.prog 56 #[.agg #[d, a], .agg #[t], v] w fun e w' => ∃ r, e = .returned (.tuple #[r, .int .i64 (ssmC ds act tss xs)]) ∧ IntS w'.heap r (ssmL ds act tss xs) ∧ Below w.heap.size w w' := by
  have hb0 : Below w.heap.size w (w.alloc (.cells #[d, a] 60)) := (Below.refl _ _).alloc (Nat.le_refl _) _
  have hb : Below w.heap.size w ((w.alloc (.cells #[d, a] 60)).alloc (.cells #[t] 72)) := hb0.alloc (by simp) _
  have V := two_new w d a 60
  have k1 := Go.Lib.cell?_alloc_some (.cells #[t] 72) V.1
  have k2 := Go.Lib.cell?_alloc_some (.cells #[t] 72) V.2
  have k3 := (Cell1.new (w.alloc (.cells #[d, a] 60)) t 72).c0
  rw [size_alloc_w] at k3
  have I := Lib.hid (l11Is_c d a ds act _ (h.same hb.block))
  have Q := Lib.hid (fun (W : World) (h : IntSS W.heap t tss) => l03Is_c t tss W h)
  have J := Lib.hid (fun (W : World) (h : IntS W.heap d ds) (hv : IntS W.heap v xs) => l11Vector_c d a v ds xs W h hv)
  have C := Lib.hid (fun (W : World) (h : ModS W.heap d a ds act) (hT : modT ds act = true) (ht : IntSS W.heap t tss) (hv : IntS W.heap v (bitsL ds.length (maskN xs xs.length))) => l11Words_c d a v t ds act tss (maskN xs xs.length) W h hT ht hv)
  obtain ⟨ao, ac, hdv, hm⟩ := h.1.len
  obtain ⟨bo, bc, hav, hm2⟩ := h.2.len
  obtain ⟨vo, vc, hvv, hm3⟩ := hv.len
  obtain ⟨tp, tc, htv, hm4⟩ := ht.len
  subst hdv; subst hav; subst hvv; subst htv
  have H0 := Lib.hid h; have HV0 := Lib.hid hv; have HT0 := Lib.hid ht; have HB := Lib.hid hb; clear h hb V hv ht hb0
  cases hT : isMod ds act
  · have e1 : ssmL ds act tss xs = [] := by simp [ssmL, hT]
    have e2 : ssmC ds act tss xs = 1 := by simp [ssmC, hT]
    rw [hT] at I
    rw [e1, e2]
    clear hT e1 e2
    go_enter Try.func56, Try.ntmps56
    go_wp2_with fail
    refine I.out.mono ?_
    rintro e w1 ⟨rfl, hb1⟩
    go_wp2_with fail
    go_ret2
    exact ⟨_, rfl, IntS.nil _, HB.out.trans (hb1.mono HB.out.size)⟩
  rw [hT] at I
  cases hQ : sqT tss
  · have e1 : ssmL ds act tss xs = [] := by simp [ssmL, hQ]
    have e2 : ssmC ds act tss xs = 1 := by simp [ssmC, hQ]
    rw [hQ] at Q
    rw [e1, e2]
    clear hQ hT e1 e2
    go_enter Try.func56, Try.ntmps56
    go_wp2_with fail
    refine I.out.mono ?_
    rintro e w1 ⟨rfl, hb1⟩
    have k6 := (hb1.cell (World.block_lt_of_cell? _ _ k3)).trans k3
    have HB1 := Lib.hid (HB.out.trans (hb1.mono HB.out.size))
    clear hb1 k1 k2 k3 I
    go_wp2_with fail
    refine (Q.out _ (HT0.out.same HB1.out.block)).mono ?_
    rintro e w2 ⟨rfl, hb2⟩
    go_wp2_with fail
    go_ret2
    exact ⟨_, rfl, IntS.nil _, HB1.out.trans (hb2.mono HB1.out.size)⟩
  rw [hQ] at Q
  cases hV : vecB ds xs
  · have e1 : ssmL ds act tss xs = [] := by simp [ssmL, hV]
    have e2 : ssmC ds act tss xs = 2 := by simp [ssmC, hT, hV, hQ]
    rw [hV] at J
    rw [e1, e2]
    clear hT hQ hV e1 e2
    go_enter Try.func56, Try.ntmps56
    go_wp2_with fail
    refine I.out.mono ?_
    rintro e w1 ⟨rfl, hb1⟩
    have k4 := (hb1.cell (World.block_lt_of_cell? _ _ k1)).trans k1
    have k5 := (hb1.cell (World.block_lt_of_cell? _ _ k2)).trans k2
    have k6 := (hb1.cell (World.block_lt_of_cell? _ _ k3)).trans k3
    have HB1 := Lib.hid (HB.out.trans (hb1.mono HB.out.size))
    clear hb1 k1 k2 k3 I
    go_wp2_with fail
    refine (Q.out _ (HT0.out.same HB1.out.block)).mono ?_
    rintro e w2 ⟨rfl, hb2⟩
    have k1 := (hb2.cell (World.block_lt_of_cell? _ _ k4)).trans k4
    have k2 := (hb2.cell (World.block_lt_of_cell? _ _ k5)).trans k5
    have HB2 := Lib.hid (HB1.out.trans (hb2.mono HB1.out.size))
    clear hb2 k4 k5 k6 Q
    go_wp2_with fail
    refine (J.out _ (H0.out.1.same HB2.out.block) (HV0.out.same HB2.out.block)).mono ?_
    rintro e w3 ⟨rfl, hb3⟩
    go_wp2_with fail
    go_ret2
    exact ⟨_, rfl, IntS.nil _, HB2.out.trans (hb3.mono HB2.out.size)⟩
  rw [hV] at J
  have HT1 := Lib.hid (isMod_T hT)
  have e1 : ssmL ds act tss xs = bitsL ds.length (wordsM act tss (maskN xs xs.length)) := by simp [ssmL, hT, hV, hQ]
  have e2 : ssmC ds act tss xs = 0 := by simp [ssmC, hT, hV, hQ]
  rw [vecB_mask hV] at C
  rw [e1, e2]
  clear hT hV hQ e1 e2
  generalize bitsL ds.length (wordsM act tss (maskN xs xs.length)) = Y at *
  go_enter Try.func56, Try.ntmps56
  go_wp2_with fail
  refine I.out.mono ?_
  rintro e w1 ⟨rfl, hb1⟩
  have k4 := (hb1.cell (World.block_lt_of_cell? _ _ k1)).trans k1
  have k5 := (hb1.cell (World.block_lt_of_cell? _ _ k2)).trans k2
  have k6 := (hb1.cell (World.block_lt_of_cell? _ _ k3)).trans k3
  have HB1 := Lib.hid (HB.out.trans (hb1.mono HB.out.size))
  clear hb1 k1 k2 k3 I
  go_wp2_with fail
  refine (Q.out _ (HT0.out.same HB1.out.block)).mono ?_
  rintro e w2 ⟨rfl, hb2⟩
  have k1 := (hb2.cell (World.block_lt_of_cell? _ _ k4)).trans k4
  have k2 := (hb2.cell (World.block_lt_of_cell? _ _ k5)).trans k5
  have k3 := (hb2.cell (World.block_lt_of_cell? _ _ k6)).trans k6
  have HB2 := Lib.hid (HB1.out.trans (hb2.mono HB1.out.size))
  clear hb2 k4 k5 k6 Q
  go_wp2_with fail
  refine (J.out _ (H0.out.1.same HB2.out.block) (HV0.out.same HB2.out.block)).mono ?_
  rintro e w3 ⟨rfl, hb3⟩
  have k4 := (hb3.cell (World.block_lt_of_cell? _ _ k1)).trans k1
  have k5 := (hb3.cell (World.block_lt_of_cell? _ _ k2)).trans k2
  have k6 := (hb3.cell (World.block_lt_of_cell? _ _ k3)).trans k3
  have HB3 := Lib.hid (HB2.out.trans (hb3.mono HB2.out.size))
  clear hb3 k1 k2 k3 J
  go_wp2_with fail
  refine (C.out _ (H0.out.same HB3.out.block) HT1.out (HT0.out.same HB3.out.block) (HV0.out.same HB3.out.block)).mono ?_
  rintro e w4 ⟨r, rfl, hr, hb4⟩
  obtain ⟨ra, rc, rfl, -⟩ := hr.len
  generalize Y.length = yl at *
  go_wp2_with fail
  go_ret2
  exact ⟨_, rfl, hr, HB3.out.trans (hb4.mono HB3.out.size)⟩
end Go.Proofs.Ytljfpkhgijangaa

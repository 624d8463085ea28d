/- Words of squares on a module: of the reference. -/
import Derived.Test.YtljfpkhgijangaaLMs1
namespace Go.Proofs.Ytljfpkhgijangaa
open Go.RowKit Go.Sort

/-- What a word makes of a mask. -/
def wordM (act : List (List Int)) (word : List Int) (m : Nat) : Nat := word.foldr (fun n v => actZ act n v) m
theorem wordM_drop (act : List (List Int)) (word : List Int) (m k : Nat) (hk : k < word.length) : wordM act (word.drop k) m = actZ act word[k] (wordM act (word.drop (k + 1)) m) := by
  rw [List.drop_eq_getElem_cons hk]; rfl
/-- What words make of a mask. -/
def wordsM (act : List (List Int)) (words : List (List Int)) (m : Nat) : Nat := words.foldl (fun s x => s ^^^ wordM act x m) 0
theorem wordsM_take (act : List (List Int)) (words : List (List Int)) (m k : Nat) (hk : k < words.length) : wordsM act (words.take (k + 1)) m = wordsM act (words.take k) m ^^^ wordM act words[k] m := by
  unfold wordsM; rw [List.take_succ_eq_append_getElem hk, List.foldl_append]; rfl
set_option maxRecDepth 100000 in
set_option maxHeartbeats 2000000 in
theorem l11Word_c (d a v u : Value) (ds : List Int) (act : List (List Int)) (word : List Int) (m : Nat) (w : World) (h : ModS w.heap d a ds act) (hT : modT ds act = true) (hu : IntS w.heap u word) (hv : IntS w.heap v (bitsL ds.length m)) :
    Calls Try.prog 175 #[.agg #[d, a], u, v] w fun e w' => ∃ r, e = .returned r ∧ IntS w'.heap r (bitsL ds.length (wordM act word m)) ∧ Below w.heap.size w w' := by
  have hb : Below w.heap.size w (w.alloc (.cells #[d, a] 60)) := (Below.refl _ _).alloc (Nat.le_refl _) _
  have V := Var2.new w d a 60
  have A := Lib.hid (fun (n : Int) (x : Value) (m : Nat) (W : World) (h : ModS W.heap d a ds act) (hx : IntS W.heap x (bitsL ds.length m)) => l11Act_c d a x ds act n m W h hT hx)
  obtain ⟨ao, ac, hdv, hm⟩ := h.1.len
  obtain ⟨bo, bc, hav, hm2⟩ := h.2.len
  subst hdv; subst hav
  obtain ⟨uo, uc, huv, hul⟩ := hu.len
  subst huv
  obtain ⟨vo, vc, hvv, -⟩ := hv.len
  subst hvv
  rw [bitsL_length] at hv ⊢
  have H0 := Lib.hid h; have HU := Lib.hid hu; have HV := Lib.hid (hv.same hb.block); have HB := Lib.hid hb; have HVR := Lib.hid V
  have k1 := HVR.out.c0; have k2 := HVR.out.c1
  clear h hT hv hu hb V
  go_enter Try.func175, Try.ntmps175
  go_wp2_with fail
  go_loopw [2, 7] (fun v i wr => ∃ (k : Nat) (x : Int), k ≤ word.length ∧ x = (k : Int) - 1 ∧ i = .int .i64 x ∧ IntS wr.heap v (bitsL ds.length (wordM act (word.drop k) m)) ∧ Var2 wr w.heap.size (.slice ao ds.length ac) (.slice bo act.length bc) 60 ∧ Below w.heap.size w wr) (fun _ i _ => (intOf i + 1).toNat)
  case atStart => exact ⟨word.length, (word.length : Int) - 1, Nat.le_refl _, rfl, rfl, by rw [List.drop_length]; exact HV.out, HVR.out, HB.out⟩
  case round =>
    obtain ⟨k, x, hk, hx, rfl, hv, hV, hbl⟩ := hrel
    obtain ⟨pa, pc, rfl, -⟩ := hv.len
    rw [bitsL_length] at hv ⊢
    have c0 := hV.c0; have c1 := hV.c1
    rcases k with _ | j
    · have t0 : decide (0 ≤ x) = false := by simp; omega
      rw [List.drop_zero] at hv
      go_wp2_with fail
      go_ret
      exact ⟨_, rfl, hv, hbl⟩
    · obtain rfl : x = j := by omega
      have hj : j < word.length := by omega
      obtain ⟨b1, o1, c1', hv1, hc1, -⟩ := (HU.out.same hbl.block).at j hj
      simp only [Value.slice.injEq, true_and] at hv1
      obtain ⟨rfl, rfl⟩ := hv1
      have HS := Lib.hid (wordM_drop act word m j hj)
      have HA := Lib.hid (fun (W : World) (h1 : ModS W.heap (.slice ao ds.length ac) (.slice bo act.length bc) ds act) (h2 : IntS W.heap (.slice pa ds.length pc) (bitsL ds.length (wordM act (word.drop (j + 1)) m))) => A.out word[j] _ _ W h1 h2)
      have HIV := Lib.hid hv; have HV2 := Lib.hid hV; have HBL := Lib.hid hbl
      have hji : (j : Int) < word.length := by omega
      clear hx hv hV hbl hk
      generalize word[j] = n at *
      go_wp2_with fail
      go_still_tail 6, (by kernel_rfl)
      change wpList _ _ _ _ _ wr.drew
      obtain ⟨W2, hW2⟩ : ∃ W2, W2 = wr.drew := ⟨_, rfl⟩
      have e1 : Hid (ModS W2.heap (.slice ao ds.length ac) (.slice bo act.length bc) ds act) := by show ModS _ _ _ _ _; rw [hW2]; exact H0.out.same HBL.out.block
      have e2 : Hid (IntS W2.heap (.slice pa ds.length pc) (bitsL ds.length (wordM act (word.drop (j + 1)) m))) := by show IntS _ _ _; rw [hW2]; exact HIV.out
      have e3 : Hid (Var2 W2 w.heap.size (.slice ao ds.length ac) (.slice bo act.length bc) 60) := by show Var2 _ _ _ _ _; rw [hW2]; exact HV2.out
      have e4 : Hid (Below w.heap.size w W2) := by show Below _ _ _; rw [hW2]; exact below_drewN 1 HBL.out
      rw [← hW2]
      clear hW2 HIV HV2 HBL c0 c1 hc1
      go_wp2_with (go_at_call 127; refine (HA.out _ e1.out e2.out).mono ?_; rintro e W3 ⟨r, rfl, hr, hb3⟩; obtain ⟨ra, rn, rc, rfl⟩ := own_shape hr)
      go_roundw
      case rel => exact ⟨j, (j : Int) - 1, by omega, rfl, rfl, by rw [HS.out]; exact hr.ints, e3.out.kept hb3.block, e4.out.trans (hb3.mono e4.out.size)⟩
      case measure => simp [intOf]
theorem heldC3 {x1 x2 x3 : Value} {g1 g2 g3 : Addr} {w0 W W' : World} (h : W.cell? g1 = some x1 ∧ W.cell? g2 = some x2 ∧ W.cell? g3 = some x3 ∧ Below w0.heap.size w0 W) (hb : Below W.heap.size W W') : W'.cell? g1 = some x1 ∧ W'.cell? g2 = some x2 ∧ W'.cell? g3 = some x3 ∧ Below w0.heap.size w0 W' :=
  ⟨(hb.cell (World.block_lt_of_cell? _ _ h.1)).trans h.1, (hb.cell (World.block_lt_of_cell? _ _ h.2.1)).trans h.2.1, (hb.cell (World.block_lt_of_cell? _ _ h.2.2.1)).trans h.2.2.1, h.2.2.2.trans (hb.mono h.2.2.2.size)⟩
theorem heldC3X {x1 x2 x3 : Value} {g1 g2 g3 : Addr} {w0 W : World} (h : W.cell? g1 = some x1 ∧ W.cell? g2 = some x2 ∧ W.cell? g3 = some x3 ∧ Below w0.heap.size w0 W) : Below w0.heap.size w0 W := h.2.2.2
set_option maxRecDepth 100000 in
set_option maxHeartbeats 2000000 in
theorem l11Words_c (d a v u : Value) (ds : List Int) (act words : List (List Int)) (m : Nat) (w : World) (h : ModS w.heap d a ds act) (hT : modT ds act = true) (hu : IntSS w.heap u words) (hv : IntS w.heap v (bitsL ds.length m)) :
    Calls Try.prog 133 #[.agg #[d, a], u, v] w fun e w' => ∃ r, e = .returned r ∧ IntS w'.heap r (bitsL ds.length (wordsM act words m)) ∧ Below w.heap.size w w' := by
  have hb : Below w.heap.size w (w.alloc (.cells #[d, a] 60)) := (Below.refl _ _).alloc (Nat.le_refl _) _
  have V := Var2.new w d a 60
  have hs16 := modT_len hT
  have A := Lib.hid (fun (x y : Value) (word : List Int) (m : Nat) (W : World) (h : ModS W.heap d a ds act) (hy : IntS W.heap y word) (hx : IntS W.heap x (bitsL ds.length m)) => l11Word_c d a x y ds act word m W h hT hy hx)
  have P := Lib.hid (fun (x y : Value) (m n : Nat) (W : World) (h1 : IntS W.heap x (bitsL ds.length m)) (h2 : IntS W.heap y (bitsL ds.length n)) => l11Plus_c x y _ _ W h1 h2 (by rw [bitsL_length, bitsL_length]) (by rw [bitsL_length]; exact hs16) (bits01 _ _) (bits01 _ _))
  simp only [bitsL_length, plusL_bits] at P
  have hmk := fun w => make_run (P := Try.prog) 27 2 _ 8 info_int64 Try.underlying27 rfl (by omega) ds.length (by omega) .i64 .i64 (ds.length : Int) (ds.length : Int) rfl rfl w
  obtain ⟨ao, ac, hdv, hm⟩ := h.1.len
  obtain ⟨bo, bc, hav, hm2⟩ := h.2.len
  subst hdv; subst hav
  obtain ⟨uo, uc, huv, hul⟩ := hu.len
  subst huv
  obtain ⟨vo, vc, hvv, -⟩ := hv.len
  subst hvv
  rw [bitsL_length] at hv ⊢
  have H0 := Lib.hid h; have HU := Lib.hid hu; have HV := Lib.hid hv; have HB := Lib.hid hb; have HVR := Lib.hid V
  have k1 := HVR.out.c0; have k2 := HVR.out.c1
  clear h hT hv hu hb V
  go_enter Try.func133, Try.ntmps133
  go_wp2_with fail
  go_loopw [7, 8] (fun o i wr => ∃ k : Nat, k ≤ words.length ∧ i = .int .i64 k ∧ IntS wr.heap o (bitsL ds.length (wordsM act (words.take k) m)) ∧ Var2 wr w.heap.size (.slice ao ds.length ac) (.slice bo act.length bc) 60 ∧ Below w.heap.size w wr) (fun _ i _ => words.length - (intOf i).toNat)
  case atStart =>
    refine ⟨0, Nat.zero_le _, rfl, ?_, HVR.out.kept (alloc_old _ _), HB.out.alloc (by simp) _⟩
    have ho := made_own (w.alloc (.cells #[.slice ao ds.length ac, .slice bo act.length bc] 60)) (w.heap.size + 1) 2 ds.length (.int .i64 0) (by simp) (by omega)
    rw [size_alloc_w] at ho
    have ho2 : OwnI ((w.alloc (.cells #[.slice ao ds.length ac, .slice bo act.length bc] 60)).alloc (.cells (madeCells #[.int .i64 0] ds.length) 2)) (w.heap.size + 1) (.slice (some ⟨w.heap.size + 1, 0, none⟩) ds.length ds.length) (bitsL ds.length (wordsM act (words.take 0) m)) := by
      unfold OwnI
      rw [bitsL_length, List.take_zero, wordsM, List.foldl_nil, bitsL_zero]
      simpa using ho
    exact ho2.ints
  case round =>
    obtain ⟨k, hk, rfl, ho, hV, hbl⟩ := hrel
    obtain ⟨pa, pc, rfl, -⟩ := ho.len
    rw [bitsL_length] at ho ⊢
    have c0 := hV.c0; have c1 := hV.c1
    by_cases hlt : k < words.length
    · obtain ⟨b1, o1, c1', uk, hv1, hc1, huk, -⟩ := (HU.out.same hbl.block).at (w := wr) k hlt
      simp only [Value.slice.injEq, true_and] at hv1
      obtain ⟨rfl, rfl⟩ := hv1
      have HS := Lib.hid (wordsM_take act words m k hlt)
      have HO := Lib.hid ho; have HV2 := Lib.hid hV; have HBL := Lib.hid hbl; have HUK := Lib.hid huk
      obtain ⟨qa, qc, rfl, -⟩ := huk.len
      have hki : (k : Int) < words.length := by omega
      clear ho hV hbl hk huk
      generalize words[k] = word at *
      go_wp2_with fail
      go_region_held3 (fun W => W.cell? ⟨w.heap.size, 0, none⟩ = some (.slice ao ds.length ac) ∧ W.cell? ⟨w.heap.size, 1, none⟩ = some (.slice bo act.length bc) ∧ W.cell? ⟨b1, o1 + k, none⟩ = some (.slice qa word.length qc) ∧ Below wr.heap.size wr W)
        (first | exact ⟨c0, c1, hc1, (Below.refl _ _).drew⟩ | exact heldC3 (by assumption) hx)
        (first | (go_at_call 175; refine (A.out _ _ word m _ (H0.out.same (HBL.out.trans ((heldC3X (by assumption)).mono HBL.out.size)).block) (HUK.out.same (heldC3X (by assumption)).block) (HV.out.same (HBL.out.trans ((heldC3X (by assumption)).mono HBL.out.size)).block)).mono ?_; rintro e W3 ⟨r, rfl, hr, hx⟩; obtain ⟨ra, rc, rfl, -⟩ := hr.len) | (go_at_call 174; refine (P.out _ _ _ _ _ (HO.out.same (heldC3X (by assumption)).block) hr).mono ?_; rintro e W4 ⟨r4, rfl, hr4, hx⟩; obtain ⟨sa, sn, sc, rfl⟩ := own_shape hr4))
      all_goals
        rename_i hh
        have HB4 := Lib.hid hh.2.2.2
        clear hh hx c0 c1 hc1
        go_wp2_with fail
        go_roundw
        case rel => exact ⟨k + 1, by omega, by go_num, by rw [HS.out]; exact hr4.ints, HV2.out.kept HB4.out.block, HBL.out.trans (HB4.out.mono HBL.out.size)⟩
        case measure => simp [intOf]; omega
    · obtain rfl : k = words.length := by omega
      rw [List.take_length] at ho
      go_wp2_with fail
      go_ret
      exact ⟨_, rfl, ho, hbl⟩
end Go.Proofs.Ytljfpkhgijangaa

/- Texts that lie in one file here: LMs2 LAdm LMs3 LModArg LCnt LCopy LSus LTxM LRdN LRdO LRdT LShp. -/
import Derived.Test.YtalbbjhonkcbgaaGreatDoorLMs1
import Derived.Test.YtalbbjhonkcbgaaGreatDoorLPut
import Derived.Test.YtalbbjhonkcbgaaGreatDoorLSum
import Derived.Test.YtalbbjhonkcbgaaGreatDoorL10
import Derived.Test.YtalbbjhonkcbgaaGreatDoorLMt4
import Derived.Test.YtalbbjhonkcbgaaGreatDoorLHeld
import Derived.Test.YtalbbjhonkcbgaaGreatDoorLArg
import Derived.Test.YtalbbjhonkcbgaaGreatDoorBaseM
import Derived.Test.YtalbbjhonkcbgaaGreatDoorLMod
import Derived.Test.YtalbbjhonkcbgaaGreatDoorFn
import Derived.Test.YtalbbjhonkcbgaaGreatDoorBaseC
import Derived.Test.YtalbbjhonkcbgaaGreatDoorBase4
import Derived.Test.YtalbbjhonkcbgaaGreatDoorLStep
import Derived.Test.YtalbbjhonkcbgaaGreatDoorLGen
import Derived.Test.YtalbbjhonkcbgaaGreatDoorLTxS
import Derived.Test.YtalbbjhonkcbgaaGreatDoorLRdP
import Derived.Test.YtalbbjhonkcbgaaGreatDoorLRdI
import Derived.Deep.DeepCutAuto
import Derived.Test.YtalbbjhonkcbgaaGreatDoorLRdS
import Derived.Lib.SliceRun
import Derived.Deep.RegionLaw
import Derived.Test.YtalbbjhonkcbgaaGreatDoorLRdG
import Derived.Test.YtalbbjhonkcbgaaGreatDoorRows
import Derived.HandedShaped
import Derived.Handed
import Derived.LaidSub
import Derived.LaidMore
import Derived.MakeChecks
import Derived.Shelf.Vars
import Derived.Stop.LaidErr
import Derived.Lay
namespace Go.Proofs.YtalbbjhonkcbgaaGreatDoor
section
open Go.RowKit Go.Sort

/-- What a word makes of a mask. -/
def wordM (act : List (List Int)) (word : List Int) (m : Nat) : Nat := word.foldr (fun n v => actZ act n v) m
theorem wordM_drop (act : List (List Int)) (word : List Int) (m k : Nat) (hk : k < word.length) : wordM act (word.drop k) m = actZ act word[k] (wordM act (word.drop (k + 1)) m) := by
  rw [List.drop_eq_getElem_cons hk]; rfl
/-- What words make of a mask. -/
def wordsM (act : List (List Int)) (words : List (List Int)) (m : Nat) : Nat := words.foldl (fun s x => s ^^^ wordM act x m) 0
theorem wordsM_take (act : List (List Int)) (words : List (List Int)) (m k : Nat) (hk : k < words.length) : wordsM act (words.take (k + 1)) m = wordsM act (words.take k) m ^^^ wordM act words[k] m := by
  unfold wordsM; rw [List.take_succ_eq_append_getElem hk, List.foldl_append]; rfl
set_option maxRecDepth 100000 in
set_option maxHeartbeats 2000000 in
theorem l11Word_c (d a v u : Value) (ds : List Int) (act : List (List Int)) (word : List Int) (m : Nat) (w : World) (h : ModS w.heap d a ds act) (hT : modT ds act = true) (hu : IntS w.heap u word) (hv : IntS w.heap v (bitsL ds.length m)) :
    Calls Tryz.prog 70 #[.agg #[d, a], u, v] w fun e w' => ∃ r, e = .returned r ∧ IntS w'.heap r (bitsL ds.length (wordM act word m)) ∧ Below w.heap.size w w' := by
  have hb : Below w.heap.size w (w.alloc (.cells #[d, a] 32)) := (Below.refl _ _).alloc (Nat.le_refl _) _
  have V := Var2.new w d a 32
  have A := Lib.hid (fun (n : Int) (x : Value) (m : Nat) (W : World) (h : ModS W.heap d a ds act) (hx : IntS W.heap x (bitsL ds.length m)) => l11Act_c d a x ds act n m W h hT hx)
  obtain ⟨ao, ac, hdv, hm⟩ := h.1.len
  obtain ⟨bo, bc, hav, hm2⟩ := h.2.len
  subst hdv; subst hav
  obtain ⟨uo, uc, huv, hul⟩ := hu.len
  subst huv
  obtain ⟨vo, vc, hvv, -⟩ := hv.len
  subst hvv
  rw [bitsL_length] at hv ⊢
  have H0 := Lib.hid h; have HU := Lib.hid hu; have HV := Lib.hid (hv.same hb.block); have HB := Lib.hid hb; have HVR := Lib.hid V
  have k1 := HVR.out.c0; have k2 := HVR.out.c1
  clear h hT hv hu hb V
  go_enter Tryz.func70, Tryz.ntmps70
  go_wp2_with fail
  go_loopw [2, 7] (fun v i wr => ∃ (k : Nat) (x : Int), k ≤ word.length ∧ x = (k : Int) - 1 ∧ i = .int .i64 x ∧ IntS wr.heap v (bitsL ds.length (wordM act (word.drop k) m)) ∧ Var2 wr w.heap.size (.slice ao ds.length ac) (.slice bo act.length bc) 32 ∧ Below w.heap.size w wr) (fun _ i _ => (intOf i + 1).toNat)
  case atStart => exact ⟨word.length, (word.length : Int) - 1, Nat.le_refl _, rfl, rfl, by rw [List.drop_length]; exact HV.out, HVR.out, HB.out⟩
  case round =>
    obtain ⟨k, x, hk, hx, rfl, hv, hV, hbl⟩ := hrel
    obtain ⟨pa, pc, rfl, -⟩ := hv.len
    rw [bitsL_length] at hv ⊢
    have c0 := hV.c0; have c1 := hV.c1
    rcases k with _ | j
    · have t0 : decide (0 ≤ x) = false := by simp; omega
      rw [List.drop_zero] at hv
      go_wp2_with fail
      go_ret
      exact ⟨_, rfl, hv, hbl⟩
    · obtain rfl : x = j := by omega
      have hj : j < word.length := by omega
      obtain ⟨b1, o1, c1', hv1, hc1, -⟩ := (HU.out.same hbl.block).at j hj
      simp only [Value.slice.injEq, true_and] at hv1
      obtain ⟨rfl, rfl⟩ := hv1
      have HS := Lib.hid (wordM_drop act word m j hj)
      have HA := Lib.hid (fun (W : World) (h1 : ModS W.heap (.slice ao ds.length ac) (.slice bo act.length bc) ds act) (h2 : IntS W.heap (.slice pa ds.length pc) (bitsL ds.length (wordM act (word.drop (j + 1)) m))) => A.out word[j] _ _ W h1 h2)
      have HIV := Lib.hid hv; have HV2 := Lib.hid hV; have HBL := Lib.hid hbl
      have hji : (j : Int) < word.length := by omega
      clear hx hv hV hbl hk
      generalize word[j] = n at *
      go_wp2_with fail
      go_still_tail 6, (by kernel_rfl)
      change wpList _ _ _ _ _ wr.drew
      obtain ⟨W2, hW2⟩ : ∃ W2, W2 = wr.drew := ⟨_, rfl⟩
      have e1 : Hid (ModS W2.heap (.slice ao ds.length ac) (.slice bo act.length bc) ds act) := by show ModS _ _ _ _ _; rw [hW2]; exact H0.out.same HBL.out.block
      have e2 : Hid (IntS W2.heap (.slice pa ds.length pc) (bitsL ds.length (wordM act (word.drop (j + 1)) m))) := by show IntS _ _ _; rw [hW2]; exact HIV.out
      have e3 : Hid (Var2 W2 w.heap.size (.slice ao ds.length ac) (.slice bo act.length bc) 32) := by show Var2 _ _ _ _ _; rw [hW2]; exact HV2.out
      have e4 : Hid (Below w.heap.size w W2) := by show Below _ _ _; rw [hW2]; exact below_drewN 1 HBL.out
      rw [← hW2]
      clear hW2 HIV HV2 HBL c0 c1 hc1
      go_wp2_with (go_at_call 97; refine (HA.out _ e1.out e2.out).mono ?_; rintro e W3 ⟨r, rfl, hr, hb3⟩; obtain ⟨ra, rn, rc, rfl⟩ := own_shape hr)
      go_roundw
      case rel => exact ⟨j, (j : Int) - 1, by omega, rfl, rfl, by rw [HS.out]; exact hr.ints, e3.out.kept hb3.block, e4.out.trans (hb3.mono e4.out.size)⟩
      case measure => simp [intOf]
theorem heldC3 {x1 x2 x3 : Value} {g1 g2 g3 : Addr} {w0 W W' : World} (h : W.cell? g1 = some x1 ∧ W.cell? g2 = some x2 ∧ W.cell? g3 = some x3 ∧ Below w0.heap.size w0 W) (hb : Below W.heap.size W W') : W'.cell? g1 = some x1 ∧ W'.cell? g2 = some x2 ∧ W'.cell? g3 = some x3 ∧ Below w0.heap.size w0 W' :=
  ⟨(hb.cell (World.block_lt_of_cell? _ _ h.1)).trans h.1, (hb.cell (World.block_lt_of_cell? _ _ h.2.1)).trans h.2.1, (hb.cell (World.block_lt_of_cell? _ _ h.2.2.1)).trans h.2.2.1, h.2.2.2.trans (hb.mono h.2.2.2.size)⟩
theorem heldC3X {x1 x2 x3 : Value} {g1 g2 g3 : Addr} {w0 W : World} (h : W.cell? g1 = some x1 ∧ W.cell? g2 = some x2 ∧ W.cell? g3 = some x3 ∧ Below w0.heap.size w0 W) : Below w0.heap.size w0 W := h.2.2.2
set_option maxRecDepth 100000 in
set_option maxHeartbeats 2000000 in
theorem l11Words_c (d a v u : Value) (ds : List Int) (act words : List (List Int)) (m : Nat) (w : World) (h : ModS w.heap d a ds act) (hT : modT ds act = true) (hu : IntSS w.heap u words) (hv : IntS w.heap v (bitsL ds.length m)) :
    Calls Tryz.prog 71 #[.agg #[d, a], u, v] w fun e w' => ∃ r, e = .returned r ∧ IntS w'.heap r (bitsL ds.length (wordsM act words m)) ∧ Below w.heap.size w w' := by
  have hb : Below w.heap.size w (w.alloc (.cells #[d, a] 32)) := (Below.refl _ _).alloc (Nat.le_refl _) _
  have V := Var2.new w d a 32
  have hs16 := modT_len hT
  have A := Lib.hid (fun (x y : Value) (word : List Int) (m : Nat) (W : World) (h : ModS W.heap d a ds act) (hy : IntS W.heap y word) (hx : IntS W.heap x (bitsL ds.length m)) => l11Word_c d a x y ds act word m W h hT hy hx)
  have P := Lib.hid (fun (x y : Value) (m n : Nat) (W : World) (h1 : IntS W.heap x (bitsL ds.length m)) (h2 : IntS W.heap y (bitsL ds.length n)) => l11Plus_c x y _ _ W h1 h2 (by rw [bitsL_length, bitsL_length]) (by rw [bitsL_length]; exact hs16) (bits01 _ _) (bits01 _ _))
  simp only [bitsL_length, plusL_bits] at P
  have hmk := fun w => make_run (P := Tryz.prog) 30 2 _ 8 info_int64 Tryz.underlying30 rfl (by omega) ds.length (by omega) .i64 .i64 (ds.length : Int) (ds.length : Int) rfl rfl w
  obtain ⟨ao, ac, hdv, hm⟩ := h.1.len
  obtain ⟨bo, bc, hav, hm2⟩ := h.2.len
  subst hdv; subst hav
  obtain ⟨uo, uc, huv, hul⟩ := hu.len
  subst huv
  obtain ⟨vo, vc, hvv, -⟩ := hv.len
  subst hvv
  rw [bitsL_length] at hv ⊢
  have H0 := Lib.hid h; have HU := Lib.hid hu; have HV := Lib.hid hv; have HB := Lib.hid hb; have HVR := Lib.hid V
  have k1 := HVR.out.c0; have k2 := HVR.out.c1
  clear h hT hv hu hb V
  go_enter Tryz.func71, Tryz.ntmps71
  go_wp2_with fail
  go_loopw [7, 8] (fun o i wr => ∃ k : Nat, k ≤ words.length ∧ i = .int .i64 k ∧ IntS wr.heap o (bitsL ds.length (wordsM act (words.take k) m)) ∧ Var2 wr w.heap.size (.slice ao ds.length ac) (.slice bo act.length bc) 32 ∧ Below w.heap.size w wr) (fun _ i _ => words.length - (intOf i).toNat)
  case atStart =>
    refine ⟨0, Nat.zero_le _, rfl, ?_, HVR.out.kept (alloc_old _ _), HB.out.alloc (by simp) _⟩
    have ho := made_own (w.alloc (.cells #[.slice ao ds.length ac, .slice bo act.length bc] 32)) (w.heap.size + 1) 2 ds.length (.int .i64 0) (by simp) (by omega)
    rw [size_alloc_w] at ho
    have ho2 : OwnI ((w.alloc (.cells #[.slice ao ds.length ac, .slice bo act.length bc] 32)).alloc (.cells (madeCells #[.int .i64 0] ds.length) 2)) (w.heap.size + 1) (.slice (some ⟨w.heap.size + 1, 0, none⟩) ds.length ds.length) (bitsL ds.length (wordsM act (words.take 0) m)) := by
      unfold OwnI
      rw [bitsL_length, List.take_zero, wordsM, List.foldl_nil, bitsL_zero]
      simpa using ho
    exact ho2.ints
  case round =>
    obtain ⟨k, hk, rfl, ho, hV, hbl⟩ := hrel
    obtain ⟨pa, pc, rfl, -⟩ := ho.len
    rw [bitsL_length] at ho ⊢
    have c0 := hV.c0; have c1 := hV.c1
    by_cases hlt : k < words.length
    · obtain ⟨b1, o1, c1', uk, hv1, hc1, huk, -⟩ := (HU.out.same hbl.block).at (w := wr) k hlt
      simp only [Value.slice.injEq, true_and] at hv1
      obtain ⟨rfl, rfl⟩ := hv1
      have HS := Lib.hid (wordsM_take act words m k hlt)
      have HO := Lib.hid ho; have HV2 := Lib.hid hV; have HBL := Lib.hid hbl; have HUK := Lib.hid huk
      obtain ⟨qa, qc, rfl, -⟩ := huk.len
      have hki : (k : Int) < words.length := by omega
      clear ho hV hbl hk huk
      generalize words[k] = word at *
      go_wp2_with fail
      go_region_held3 (fun W => W.cell? ⟨w.heap.size, 0, none⟩ = some (.slice ao ds.length ac) ∧ W.cell? ⟨w.heap.size, 1, none⟩ = some (.slice bo act.length bc) ∧ W.cell? ⟨b1, o1 + k, none⟩ = some (.slice qa word.length qc) ∧ Below wr.heap.size wr W)
        (first | exact ⟨c0, c1, hc1, (Below.refl _ _).drew⟩ | exact heldC3 (by assumption) hx)
        (first | (go_at_call 70; refine (A.out _ _ word m _ (H0.out.same (HBL.out.trans ((heldC3X (by assumption)).mono HBL.out.size)).block) (HUK.out.same (heldC3X (by assumption)).block) (HV.out.same (HBL.out.trans ((heldC3X (by assumption)).mono HBL.out.size)).block)).mono ?_; rintro e W3 ⟨r, rfl, hr, hx⟩; obtain ⟨ra, rc, rfl, -⟩ := hr.len) | (go_at_call 98; refine (P.out _ _ _ _ _ (HO.out.same (heldC3X (by assumption)).block) hr).mono ?_; rintro e W4 ⟨r4, rfl, hr4, hx⟩; obtain ⟨sa, sn, sc, rfl⟩ := own_shape hr4))
      all_goals
        rename_i hh
        have HB4 := Lib.hid hh.2.2.2
        clear hh hx c0 c1 hc1
        go_wp2_with fail
        go_roundw
        case rel => exact ⟨k + 1, by omega, by go_num, by rw [HS.out]; exact hr4.ints, HV2.out.kept HB4.out.block, HBL.out.trans (HB4.out.mono HBL.out.size)⟩
        case measure => simp [intOf]; omega
    · obtain rfl : k = words.length := by omega
      rw [List.take_length] at ho
      go_wp2_with fail
      go_ret
      exact ⟨_, rfl, ho, hbl⟩
end
section
open Go.RowKit Go.Sort

def frontL (i : Int) (word : List Int) : List Int := if i = 0 then word else i :: word
theorem l03Front_c (i : Int) (v : Value) (word : List Int) (w : World) (h : IntS w.heap v word) (hl : word.length ≤ 1000) :
    Calls Tryz.prog 121 #[.int .i64 i, v] w fun e w' => ∃ r, e = .returned r ∧ OwnI w' w.heap.size r (frontL i word) ∧ Below w.heap.size w w' := by
  by_cases hi : i = 0
  · have t1 := (eqB hi).1
    rw [frontL, if_pos hi]
    have C := Lib.hid (l01Own_c v word w h (by omega))
    obtain ⟨vo, vc, hvv, -⟩ := h.len
    subst hvv
    clear hi h
    go_enter Tryz.func121, Tryz.ntmps121
    go_wp2_with (go_at_call 124; refine C.out.mono ?_; rintro e w1 ⟨r, rfl, hr, hb1⟩; obtain ⟨ra, rn, rc, rfl⟩ := own_shape hr)
    go_ret
    exact ⟨_, rfl, hr, hb1⟩
  · have t1 := (neB hi).1
    rw [frontL, if_neg hi]
    have ho : OwnI (w.alloc (.cells #[.int .i64 i] 2)) w.heap.size (.slice (some ⟨w.heap.size, 0, none⟩) 1 1) [i] := World.ownsRow_lit (e := 2) (size := 1) w #[.int .i64 i] 1 (Nat.le_refl _) (by unfold maxLen; omega) rfl
    have hx := h.same (alloc_old w (.cells #[.int .i64 i] 2))
    obtain ⟨vo, vc, hvv, -⟩ := h.len
    subst hvv
    have HO := Lib.hid ho; have HX := Lib.hid hx
    clear hi h ho hx
    have hs : w.heap.size ≤ (w.alloc (.cells #[.int .i64 i] 2)).heap.size := by simp
    go_enter Tryz.func121, Tryz.ntmps121
    go_wp2_with (at_builtin; refine append_ints rfl _ _ rfl w.heap.size _ _ [i] word HO.out rfl HX.out rfl ((Below.refl _ _).alloc (Nat.le_refl _) _) hs (by simp; omega) ?_; intro v' w' hown' hbl' _ _; obtain ⟨ra, rn, rc, rfl⟩ := own_shape hown')
    go_ret
    exact ⟨_, rfl, by simpa using hown', hbl'⟩
theorem l01ParityN_c (n k : Nat) (w : World) (hn : n ≤ 1000) (hk : k ≤ 1000) : Calls Tryz.prog 122 #[.int .i64 n, .int .i64 k] w fun e w' => e = .returned (.int .i64 (if n &&& k = k then 1 else 0)) ∧ w = w' := by
  by_cases h : k ≤ n
  · refine (l01Parity_c n k w (by omega) (by omega)).mono fun e w' ⟨he, hw⟩ => ⟨?_, hw⟩
    rw [he]
    refine ret_int ?_
    unfold parI par
    rw [i64_and_nat n k (by omega) (by omega)]
    by_cases e : n &&& k = k
    · rw [if_pos e, if_pos (by rw [e]; simp)]
    · rw [if_neg e, if_neg (by simp; omega)]
  · have e : ¬ n &&& k = k := fun e => h (by rw [← e]; exact Nat.and_le_left)
    rw [if_neg e]
    have t1 : decide ((k : Int) < 0) = false := by simp
    have t2 : decide ((n : Int) < (k : Int)) = true := by simp; omega
    have t3 : decide (n < k) = true := by simp; omega
    go_enter Tryz.func122, Tryz.ntmps122
    go_wp2
    go_ret
    exact ⟨rfl, rfl⟩
theorem put_one (x : List Int) : put x [] = [x] := rfl
/-- Sq^i times one admissible word that stays so. -/
def stays (i : Int) (word : List Int) : Prop := i = 0 ∨ word = [] ∨ 2 * word.getD 0 0 ≤ i
set_option maxRecDepth 100000 in
set_option maxHeartbeats 1000000 in
theorem l03LeftOne_c (i : Int) (v : Value) (word : List Int) (w : World) (h : IntSS w.heap v [word]) (hl : word.length ≤ 1000) (hs : stays i word) (hb : ∀ x ∈ word, -1000 ≤ x ∧ x ≤ 1000) :
    Calls Tryz.prog 96 #[.int .i64 i, v] w fun e w' => ∃ r, e = .returned r ∧ IntSS w'.heap r [frontL i word] ∧ Below w.heap.size w w' := by
  have F := Lib.hid (fun (u : Value) (W : World) (h : IntS W.heap u word) => l03Front_c i u word W h hl)
  have PT := Lib.hid (fun (x y : Value) (W : World) (h : IntSS W.heap x []) (hu : IntS W.heap y (frontL i word)) => l01Put_c x y [] (frontL i word) W h hu (by simp) (by unfold frontL; split; omega; simp; omega))
  simp only [put_one] at PT
  obtain ⟨ao, c, hv, -⟩ := h.len
  subst hv
  have H := Lib.hid h; clear h
  go_enter Tryz.func96, Tryz.ntmps96
  go_wp2_with fail
  go_loopw [5, 6] (fun o k wr => ∃ n : Nat, n ≤ 1 ∧ k = .int .i64 n ∧ IntSS wr.heap o (if n = 0 then [] else [frontL i word]) ∧ Below w.heap.size w wr) (fun _ k _ => 1 - (intOf k).toNat)
  case atStart => exact ⟨0, by omega, rfl, (ownII_empty (Nat.le_refl _)).ints, (Below.refl _ _).alloc (Nat.le_refl _) _⟩
  case round =>
    obtain ⟨n, hn, rfl, ho, hbl⟩ := hrel
    obtain ⟨va, vc, hv, -⟩ := ho.len
    subst hv
    rcases n with _ | n
    · simp only [if_true, List.length_nil] at ho ⊢
      obtain ⟨b1, o1, c1, u, hv1, hc1, hu, -⟩ := (H.out.same hbl.block).at (w := wr) 0 (by simp)
      simp only [Value.slice.injEq, true_and] at hv1
      obtain ⟨rfl, rfl⟩ := hv1
      simp only [List.getElem_cons_zero] at hu
      obtain ⟨ua, uc, rfl, -⟩ := hu.len
      have HU := Lib.hid hu; have HO := Lib.hid ho; have HBL := Lib.hid hbl
      have hci : Hid (0 < word.length → ∃ b o, ua = some ⟨b, o, none⟩ ∧ wr.cell? ⟨b, o, none⟩ = some (.int .i64 (word.getD 0 0))) := fun h0 => by
        obtain ⟨b, o, c, hv, hc, -⟩ := HU.out.at 0 h0
        simp only [Value.slice.injEq, true_and] at hv
        exact ⟨b, o, hv.1, by rw [Nat.add_zero] at hc; rw [hc]; simp [h0]⟩
      rw [Nat.add_zero] at hc1
      clear hu ho hbl
      have hlen1 : ([word] : List (List Int)).length = 1 := rfl
      have hl1 : decide ((0 : Int) < (([word] : List (List Int)).length : Int)) = true := by simp
      simp only [List.length_singleton] at hl1 H ⊢
      by_cases e1 : i = 0
      · have t1 := (eqB e1).1
        clear e1 hs hci hlen1
        go_wp2_with (first | (go_at_call 121; refine (F.out _ _ HU.out).mono ?_; rintro e w2 ⟨r2, rfl, hr2, hb2⟩; obtain ⟨ra, rn, rc, rfl⟩ := own_shape hr2; have HR2 := Lib.hid hr2.ints; have HB2 := Lib.hid hb2; clear hr2 hb2) | (go_at_call 120; refine (PT.out _ _ _ (HO.out.same HB2.out.block) HR2.out).mono ?_; rintro e w3 ⟨r3, rfl, hr3, hb3⟩; obtain ⟨sa, sc, rfl, -⟩ := hr3.len))
        go_roundw
        case rel => exact ⟨1, by omega, by go_num, by simpa using hr3, HBL.out.trans ((HB2.out.trans (hb3.mono HB2.out.size)).mono HBL.out.size)⟩
        case measure => simp [intOf]
      · have t1 := (neB e1).1
        by_cases e2 : word.length = 0
        · obtain rfl : word = [] := List.eq_nil_of_length_eq_zero e2
          clear e1 hs hci hlen1 e2
          go_wp2_with (first | (go_at_call 121; refine (F.out _ _ HU.out).mono ?_; rintro e w2 ⟨r2, rfl, hr2, hb2⟩; obtain ⟨ra, rn, rc, rfl⟩ := own_shape hr2; have HR2 := Lib.hid hr2.ints; have HB2 := Lib.hid hb2; clear hr2 hb2) | (go_at_call 120; refine (PT.out _ _ _ (HO.out.same HB2.out.block) HR2.out).mono ?_; rintro e w3 ⟨r3, rfl, hr3, hb3⟩; obtain ⟨sa, sc, rfl, -⟩ := hr3.len))
          go_roundw
          case rel => exact ⟨1, by omega, by go_num, by simpa using hr3, HBL.out.trans ((HB2.out.trans (hb3.mono HB2.out.size)).mono HBL.out.size)⟩
          case measure => simp [intOf]
        · have h0 : 0 < word.length := by omega
          obtain ⟨b, o, rfl, hcx⟩ := hci.out h0
          have hx := hb (word.getD 0 0) (by rw [getD_at' _ _ h0]; exact List.getElem_mem _)
          have h2 : 2 * word.getD 0 0 ≤ i := by
            rcases hs with h | h | h
            · exact absurd h e1
            · rw [h] at h0; simp at h0
            · exact h
          have t2 := (neB (show ((word.length : Nat) : Int) ≠ 0 by omega)).1
          have t3 : decide (2 * word.getD 0 0 ≤ i) = true := by simpa using h2
          have hli : (0 : Int) < word.length := by omega
          clear e1 hs hci hlen1 e2 h2
          generalize word.getD 0 0 = x at *
          go_wp2_with (first | (go_at_call 121; refine (F.out _ _ HU.out).mono ?_; rintro e w2 ⟨r2, rfl, hr2, hb2⟩; obtain ⟨ra, rn, rc, rfl⟩ := own_shape hr2; have HR2 := Lib.hid hr2.ints; have HB2 := Lib.hid hb2; clear hr2 hb2) | (go_at_call 120; refine (PT.out _ _ _ (HO.out.same HB2.out.block) HR2.out).mono ?_; rintro e w3 ⟨r3, rfl, hr3, hb3⟩; obtain ⟨sa, sc, rfl, -⟩ := hr3.len))
          go_roundw
          case rel => exact ⟨1, by omega, by go_num, by simpa using hr3, HBL.out.trans ((HB2.out.trans (hb3.mono HB2.out.size)).mono HBL.out.size)⟩
          case measure => simp [intOf]
    · obtain rfl : n = 0 := by omega
      simp only [if_neg (show ¬ (0 + 1 = 0) by omega), List.length_singleton] at ho ⊢
      go_wp2_with fail
      go_ret
      exact ⟨_, rfl, ho, hbl⟩
/-- The word of a relation's j. -/
def pairW (a b j : Nat) : List Int := if j = 0 then [((a + b : Nat) : Int)] else [((a + b - j : Nat) : Int), (j : Int)]
def relWL (a b : Nat) (l : List Nat) : List (List Int) := (l.map (pairW a b)).reverse
theorem pairW_front (a b j : Nat) : frontL ((a + b - j : Nat) : Int) (frontL (j : Int) []) = if a + b - j = 0 then frontL (j : Int) [] else pairW a b j := by
  unfold frontL pairW
  by_cases h1 : a + b - j = 0
  · simp [h1]
  · rw [if_neg (by omega), if_neg h1]
    by_cases h2 : j = 0
    · subst h2; simp
    · rw [if_neg (by omega), if_neg h2]
theorem pairW_lt (a b j k : Nat) (h : j < k) (hk : k ≤ a + b) : ltL (pairW a b k) (pairW a b j) = true := by
  unfold pairW
  rw [if_neg (show ¬ k = 0 by omega)]
  by_cases h2 : j = 0
  · rw [if_pos h2, ltL, if_pos (by omega)]
  · rw [if_neg h2, ltL, if_pos (by omega)]
theorem mrg_front (x : List Int) : ∀ (l : List (List Int)), (∀ y ∈ l, ltL x y = true) → mrg l [x] = x :: l
  | [], _ => by rw [mrg]
  | y :: l, h => by
    have h1 := h y (List.mem_cons_self ..)
    rw [mrg, if_neg (by rw [ltL_asymm _ _ h1]; decide), if_pos h1, mrg_nil]
theorem relWL_snoc (a b j : Nat) (l : List Nat) (h : ∀ i ∈ l, i < j) (hj : j ≤ a + b) : mrg (relWL a b l) [pairW a b j] = relWL a b (l ++ [j]) := by
  rw [mrg_front]
  · simp [relWL]
  · intro y hy
    simp only [relWL, List.mem_reverse, List.mem_map] at hy
    obtain ⟨i, hi, rfl⟩ := hy
    exact pairW_lt a b i j (h i hi) hj
theorem relWL_len (a b : Nat) (l : List Nat) : (relWL a b l).length = l.length := by simp [relWL]
theorem relWL_rows (a b : Nat) (l : List Nat) : ∀ r ∈ relWL a b l, r.length ≤ 2 := by
  intro r hr
  simp only [relWL, List.mem_reverse, List.mem_map] at hr
  obtain ⟨i, _, rfl⟩ := hr
  unfold pairW; split <;> simp
/-- What the words of a relation make of a basis element. -/
theorem wordsM_rel (act : List (List Int)) (a b v : Nat) (l : List Nat) : wordsM act (relWL a b l) (2 ^ v) = fltS act a b v l := by
  induction l with
  | nil => rfl
  | cons j l ih =>
    have e : relWL a b (j :: l) = relWL a b l ++ [pairW a b j] := by simp [relWL]
    have e2 : wordM act (pairW a b j) (2 ^ v) = actZ act ((a + b - j : Nat) : Int) (actZ act (j : Int) (2 ^ v)) := by
      unfold pairW
      by_cases h : j = 0
      · subst h; simp [wordM, actZ]
      · rw [if_neg h]; rfl
    rw [e, wordsM, List.foldl_append]
    show wordsM act (relWL a b l) (2 ^ v) ^^^ wordM act (pairW a b j) (2 ^ v) = _
    rw [ih, e2, fltS, Nat.xor_comm]
set_option maxRecDepth 100000 in
set_option maxHeartbeats 2000000 in
theorem l03LeftPair_c (a b : Nat) (v : Value) (w : World) (h : IntSS w.heap v [[(b : Int)]]) (ha1 : 1 ≤ a) (ha : a ≤ 40) (hb1 : a / 2 + 1 ≤ b) (hb2 : b ≤ 40) :
    Calls Tryz.prog 96 #[.int .i64 a, v] w fun e w' => ∃ r, e = .returned r ∧ IntSS w'.heap r (relWL a b (relL a b)) ∧ Below w.heap.size w w' := by
  obtain ⟨ao, c, hv, -⟩ := h.len
  subst hv
  simp only [List.length_singleton] at h ⊢
  have H := Lib.hid h; clear h
  go_enter Tryz.func96, Tryz.ntmps96
  go_wp2_with fail
  go_loopw [5, 6] (fun o k wr => ∃ n : Nat, n ≤ 1 ∧ k = .int .i64 n ∧ IntSS wr.heap o (if n = 0 then [] else relWL a b (relL a b)) ∧ Below w.heap.size w wr) (fun _ k _ => 1 - (intOf k).toNat)
  case atStart => exact ⟨0, by omega, rfl, (ownII_empty (Nat.le_refl _)).ints, (Below.refl _ _).alloc (Nat.le_refl _) _⟩
  case round =>
    obtain ⟨n, hn, rfl, ho, hbl⟩ := hrel
    obtain ⟨va, vc, hv, -⟩ := ho.len
    subst hv
    rcases n with _ | n
    · simp only [if_true, List.length_nil] at ho ⊢
      rw [show (((0 : Nat)) : Int) = 0 from rfl]
      obtain ⟨b1, o1, c1, u, hv1, hc1, hu, -⟩ := (H.out.same hbl.block).at (w := wr) 0 (by simp)
      simp only [Value.slice.injEq, List.length_singleton, true_and] at hv1
      obtain ⟨rfl, rfl⟩ := hv1
      simp only [List.getElem_cons_zero, Nat.add_zero] at hu hc1
      obtain ⟨ub, uo, uc, rfl, hd0, -⟩ := hu.at 0 (by simp)
      simp only [List.getElem_cons_zero, Nat.add_zero, List.length_singleton] at hd0 hu hc1
      have HRS : Hid (IntS wr.heap (.slice (dropA (some ⟨ub, uo, none⟩) uc 1) 0 (uc - 1)) []) := IntS.drop (xs := [(b : Int)]) hu rfl 1 (Nat.le_refl _)
      have HO := Lib.hid ho; have HBL := Lib.hid hbl
      have hub := World.block_lt_of_cell? _ _ hd0
      simp only at hub
      clear hu ho hbl
      have t1 := (neB (show ((a : Nat) : Int) ≠ 0 by omega)).1
      have t3 : decide (2 * (b : Int) ≤ (a : Int)) = false := by simp; omega
      have t4 : decide (2 * b ≤ a) = false := by simp; omega
      by_cases huc : uc = 1
      · subst huc
        rw [show dropA (some ⟨ub, uo, none⟩) 1 1 = some ⟨ub, uo, none⟩ from rfl] at HRS
        have e1 : Hid (IntSS (wr.alloc (.cells #[.slice (some ⟨ub, uo, none⟩) 0 0] 30)).drew.heap (.slice (some ⟨wr.heap.size, 0, none⟩) 1 1) [[]]) := (ref_one HRS.out (Nat.le_refl _)).ints (alloc_old wr _)
        have e2 : Hid (Below w.heap.size w (wr.alloc (.cells #[.slice (some ⟨ub, uo, none⟩) 0 0] 30)).drew) := below_drewN 1 (HBL.out.alloc HBL.out.size _)
        have e3 : Hid (IntSS (wr.alloc (.cells #[.slice (some ⟨ub, uo, none⟩) 0 0] 30)).drew.heap (.slice va 0 vc) []) := HO.out.same (alloc_old wr _)
        obtain ⟨W1, hW1⟩ : ∃ W1, W1 = (wr.alloc (.cells #[.slice (some ⟨ub, uo, none⟩) 0 0] 30)).drew := ⟨_, rfl⟩
        rw [← hW1] at e1 e2 e3
        go_wp2_with fail
        go_region
        rw [← hW1]
        clear hW1
        go_wp2_with fail
        go_loopw [5, 10] (fun o j wr' => ∃ k : Nat, k ≤ a / 2 + 1 ∧ j = .int .i64 k ∧ IntSS wr'.heap o (relWL a b ((List.range k).filter (relB a b))) ∧ Below W1.heap.size W1 wr') (fun _ j _ => 41 - (intOf j).toNat)
        case atStart => exact ⟨0, by omega, rfl, e3.out, Below.refl _ _⟩
        case round =>
          obtain ⟨k, hk, rfl, ho, hbl⟩ := hrel
          obtain ⟨va, vc, hv, -⟩ := ho.len
          subst hv
          have HO := Lib.hid ho; have HBL := Lib.hid hbl
          have hln : (relWL a b ((List.range k).filter (relB a b))).length ≤ 21 := by rw [relWL_len]; have := relL_filter_len a b k; omega
          clear ho hbl
          by_cases hka : k ≤ a / 2
          · have hka2 : 2 * k ≤ a := by omega
            have t0 : decide (2 * (k : Int) ≤ (a : Int)) = true := by simp; omega
            have t1' : decide (2 * k ≤ a) = true := by simpa using hka2
            have PA := Lib.hid (fun (W : World) => l01ParityN_c (b - k - 1) (a - 2 * k) W (by omega) (by omega))
            rw [show ((b - k - 1 : Nat) : Int) = (b : Int) - k - 1 by omega, show ((a - 2 * k : Nat) : Int) = (a : Int) - 2 * k by omega] at PA
            cases hr : relB a b k
            · have h2 : ¬ ((b - k - 1) &&& (a - 2 * k) = a - 2 * k) := by simpa [relB, hka2] using hr
              rw [if_neg h2] at PA
              have HS : Hid ((List.range (k + 1)).filter (relB a b) = (List.range k).filter (relB a b)) := by show _ = _; rw [List.range_succ, List.filter_append]; simp [hr]
              clear hr h2
              go_wp2_with (go_at_call 122; refine (PA.out _).mono ?_; rintro e W2 ⟨rfl, rfl⟩)
              go_roundw
              case rel => exact ⟨k + 1, by omega, by go_num, by rw [HS.out]; exact HO.out, HBL.out⟩
              case measure => simp [intOf]; omega
            · have h2 : (b - k - 1) &&& (a - 2 * k) = a - 2 * k := by simpa [relB, hka2] using hr
              rw [if_pos h2] at PA
              have L1 := Lib.hid (fun (x : Value) (W : World) (h : IntSS W.heap x [[]]) => l03LeftOne_c (k : Int) x [] W h (by simp) (.inr (.inl rfl)) (by simp))
              have L2 := Lib.hid (fun (x : Value) (W : World) (h : IntSS W.heap x [frontL (k : Int) []]) => l03LeftOne_c ((a + b - k : Nat) : Int) x (frontL (k : Int) []) W h (by unfold frontL; split <;> simp) (by unfold frontL stays; split; exact .inr (.inl rfl); right; right; simp; omega) (by unfold frontL; split; simp; simp; omega))
              rw [pairW_front, if_neg (by omega), show ((a + b - k : Nat) : Int) = (a : Int) + b - k by omega] at L2
              have SM := Lib.hid (fun (x y : Value) (W : World) (h1 : IntSS W.heap x (relWL a b ((List.range k).filter (relB a b)))) (h2 : IntSS W.heap y [pairW a b k]) => l01Sum_c x y _ _ W h1 h2 (by rw [relWL_len]; have := relL_filter_len a b k; simp; omega) (fun r hr => by have := relWL_rows a b _ r hr; omega) (fun r hr => by rw [List.mem_singleton] at hr; rw [hr]; unfold pairW; split <;> simp))
              rw [relWL_snoc a b k _ (fun i hi => by simp only [List.mem_filter, List.mem_range] at hi; exact hi.1) (by omega), show (List.range k).filter (relB a b) ++ [k] = (List.range (k + 1)).filter (relB a b) by rw [List.range_succ, List.filter_append]; simp [hr]] at SM
              clear hr h2
              have hss := e1.out.same HBL.out.block
              have HSS := Lib.hid hss; clear hss
              go_wp2_with (first | (go_at_call 122; refine (PA.out _).mono ?_; rintro e W2 ⟨rfl, rfl⟩) | ((go_at_call 96; with_reducible refine (L1.out _ _ HSS.out).mono ?_); rintro e W3 ⟨r3, rfl, hr3, hb3⟩; obtain ⟨pa3, pc3, rfl, -⟩ := hr3.len; simp only [List.length_singleton] at hr3; have H3 := Lib.hid hr3; have B3 := Lib.hid hb3; clear hr3 hb3) | ((go_at_call 96; with_reducible refine (L2.out _ _ H3.out).mono ?_); rintro e W4 ⟨r4, rfl, hr4, hb4⟩; obtain ⟨pa4, pc4, rfl, -⟩ := hr4.len; simp only [List.length_singleton] at hr4; have H4 := Lib.hid hr4; have B4 := Lib.hid (B3.out.trans (hb4.mono B3.out.size)); clear hr4 hb4) | (go_at_call 123; refine (SM.out _ _ _ (HO.out.same B4.out.block) H4.out).mono ?_; rintro e W5 ⟨r5, rfl, ⟨us5, hr5⟩, hb5⟩; obtain ⟨pa5, pn5, pc5, rfl⟩ := own_shape hr5.row))
              go_roundw
              case rel => exact ⟨k + 1, by omega, by go_num, hr5.ints, HBL.out.trans ((B4.out.trans (hb5.mono B4.out.size)).mono HBL.out.size)⟩
              case measure => simp [intOf]; omega
          · obtain rfl : k = a / 2 + 1 := by omega
            have HE : Hid (relL a b = (List.range (a / 2 + 1)).filter (relB a b)) := by
              rcases relB_over a b (a / 2 + 1) (by omega) with h | h
              · exact h
              · exfalso; omega
            have t0 : decide (2 * ((a / 2 + 1 : Nat) : Int) ≤ (a : Int)) = false := by simp; omega
            generalize a / 2 + 1 = q at *
            go_wp2_with fail
            go_roundw
            case rel => exact ⟨1, by omega, by go_num, by rw [if_neg (by omega), HE.out]; exact HO.out, e2.out.trans (HBL.out.mono e2.out.size)⟩
            case measure => simp [intOf]
      · have hdr : dropA (some ⟨ub, uo, none⟩) uc 1 = some ⟨ub, uo + 1, none⟩ := by simp [dropA, huc, Addr.add]
        rw [hdr] at HRS
        clear hdr
        have e1 : Hid (IntSS (wr.alloc (.cells #[.slice (some ⟨ub, uo + 1, none⟩) 0 (uc - 1)] 30)).drew.heap (.slice (some ⟨wr.heap.size, 0, none⟩) 1 1) [[]]) := (ref_one HRS.out (Nat.le_refl _)).ints (alloc_old wr _)
        have e2 : Hid (Below w.heap.size w (wr.alloc (.cells #[.slice (some ⟨ub, uo + 1, none⟩) 0 (uc - 1)] 30)).drew) := below_drewN 1 (HBL.out.alloc HBL.out.size _)
        have e3 : Hid (IntSS (wr.alloc (.cells #[.slice (some ⟨ub, uo + 1, none⟩) 0 (uc - 1)] 30)).drew.heap (.slice va 0 vc) []) := HO.out.same (alloc_old wr _)
        obtain ⟨W1, hW1⟩ : ∃ W1, W1 = (wr.alloc (.cells #[.slice (some ⟨ub, uo + 1, none⟩) 0 (uc - 1)] 30)).drew := ⟨_, rfl⟩
        rw [← hW1] at e1 e2 e3
        go_wp2_with fail
        go_region
        rw [← hW1]
        clear hW1
        go_wp2_with fail
        go_loopw [5, 10] (fun o j wr' => ∃ k : Nat, k ≤ a / 2 + 1 ∧ j = .int .i64 k ∧ IntSS wr'.heap o (relWL a b ((List.range k).filter (relB a b))) ∧ Below W1.heap.size W1 wr') (fun _ j _ => 41 - (intOf j).toNat)
        case atStart => exact ⟨0, by omega, rfl, e3.out, Below.refl _ _⟩
        case round =>
          obtain ⟨k, hk, rfl, ho, hbl⟩ := hrel
          obtain ⟨va, vc, hv, -⟩ := ho.len
          subst hv
          have HO := Lib.hid ho; have HBL := Lib.hid hbl
          have hln : (relWL a b ((List.range k).filter (relB a b))).length ≤ 21 := by rw [relWL_len]; have := relL_filter_len a b k; omega
          clear ho hbl
          by_cases hka : k ≤ a / 2
          · have hka2 : 2 * k ≤ a := by omega
            have t0 : decide (2 * (k : Int) ≤ (a : Int)) = true := by simp; omega
            have t1' : decide (2 * k ≤ a) = true := by simpa using hka2
            have PA := Lib.hid (fun (W : World) => l01ParityN_c (b - k - 1) (a - 2 * k) W (by omega) (by omega))
            rw [show ((b - k - 1 : Nat) : Int) = (b : Int) - k - 1 by omega, show ((a - 2 * k : Nat) : Int) = (a : Int) - 2 * k by omega] at PA
            cases hr : relB a b k
            · have h2 : ¬ ((b - k - 1) &&& (a - 2 * k) = a - 2 * k) := by simpa [relB, hka2] using hr
              rw [if_neg h2] at PA
              have HS : Hid ((List.range (k + 1)).filter (relB a b) = (List.range k).filter (relB a b)) := by show _ = _; rw [List.range_succ, List.filter_append]; simp [hr]
              clear hr h2
              go_wp2_with (go_at_call 122; refine (PA.out _).mono ?_; rintro e W2 ⟨rfl, rfl⟩)
              go_roundw
              case rel => exact ⟨k + 1, by omega, by go_num, by rw [HS.out]; exact HO.out, HBL.out⟩
              case measure => simp [intOf]; omega
            · have h2 : (b - k - 1) &&& (a - 2 * k) = a - 2 * k := by simpa [relB, hka2] using hr
              rw [if_pos h2] at PA
              have L1 := Lib.hid (fun (x : Value) (W : World) (h : IntSS W.heap x [[]]) => l03LeftOne_c (k : Int) x [] W h (by simp) (.inr (.inl rfl)) (by simp))
              have L2 := Lib.hid (fun (x : Value) (W : World) (h : IntSS W.heap x [frontL (k : Int) []]) => l03LeftOne_c ((a + b - k : Nat) : Int) x (frontL (k : Int) []) W h (by unfold frontL; split <;> simp) (by unfold frontL stays; split; exact .inr (.inl rfl); right; right; simp; omega) (by unfold frontL; split; simp; simp; omega))
              rw [pairW_front, if_neg (by omega), show ((a + b - k : Nat) : Int) = (a : Int) + b - k by omega] at L2
              have SM := Lib.hid (fun (x y : Value) (W : World) (h1 : IntSS W.heap x (relWL a b ((List.range k).filter (relB a b)))) (h2 : IntSS W.heap y [pairW a b k]) => l01Sum_c x y _ _ W h1 h2 (by rw [relWL_len]; have := relL_filter_len a b k; simp; omega) (fun r hr => by have := relWL_rows a b _ r hr; omega) (fun r hr => by rw [List.mem_singleton] at hr; rw [hr]; unfold pairW; split <;> simp))
              rw [relWL_snoc a b k _ (fun i hi => by simp only [List.mem_filter, List.mem_range] at hi; exact hi.1) (by omega), show (List.range k).filter (relB a b) ++ [k] = (List.range (k + 1)).filter (relB a b) by rw [List.range_succ, List.filter_append]; simp [hr]] at SM
              clear hr h2
              have hss := e1.out.same HBL.out.block
              have HSS := Lib.hid hss; clear hss
              go_wp2_with (first | (go_at_call 122; refine (PA.out _).mono ?_; rintro e W2 ⟨rfl, rfl⟩) | ((go_at_call 96; with_reducible refine (L1.out _ _ HSS.out).mono ?_); rintro e W3 ⟨r3, rfl, hr3, hb3⟩; obtain ⟨pa3, pc3, rfl, -⟩ := hr3.len; simp only [List.length_singleton] at hr3; have H3 := Lib.hid hr3; have B3 := Lib.hid hb3; clear hr3 hb3) | ((go_at_call 96; with_reducible refine (L2.out _ _ H3.out).mono ?_); rintro e W4 ⟨r4, rfl, hr4, hb4⟩; obtain ⟨pa4, pc4, rfl, -⟩ := hr4.len; simp only [List.length_singleton] at hr4; have H4 := Lib.hid hr4; have B4 := Lib.hid (B3.out.trans (hb4.mono B3.out.size)); clear hr4 hb4) | (go_at_call 123; refine (SM.out _ _ _ (HO.out.same B4.out.block) H4.out).mono ?_; rintro e W5 ⟨r5, rfl, ⟨us5, hr5⟩, hb5⟩; obtain ⟨pa5, pn5, pc5, rfl⟩ := own_shape hr5.row))
              go_roundw
              case rel => exact ⟨k + 1, by omega, by go_num, hr5.ints, HBL.out.trans ((B4.out.trans (hb5.mono B4.out.size)).mono HBL.out.size)⟩
              case measure => simp [intOf]; omega
          · obtain rfl : k = a / 2 + 1 := by omega
            have HE : Hid (relL a b = (List.range (a / 2 + 1)).filter (relB a b)) := by
              rcases relB_over a b (a / 2 + 1) (by omega) with h | h
              · exact h
              · exfalso; omega
            have t0 : decide (2 * ((a / 2 + 1 : Nat) : Int) ≤ (a : Int)) = false := by simp; omega
            generalize a / 2 + 1 = q at *
            go_wp2_with fail
            go_roundw
            case rel => exact ⟨1, by omega, by go_num, by rw [if_neg (by omega), HE.out]; exact HO.out, e2.out.trans (HBL.out.mono e2.out.size)⟩
            case measure => simp [intOf]
    · obtain rfl : n = 0 := by omega
      simp only [if_neg (show ¬ (0 + 1 = 0) by omega)] at ho ⊢
      go_wp2_with fail
      go_ret
      exact ⟨_, rfl, ho, hbl⟩
set_option maxRecDepth 100000 in
set_option maxHeartbeats 1000000 in
theorem l03FormPair_c (a b : Nat) (v : Value) (w : World) (h : IntS w.heap v [(a : Int), (b : Int)]) (ha1 : 1 ≤ a) (ha : a ≤ 40) (hb1 : a / 2 + 1 ≤ b) (hb2 : b ≤ 40) :
    Calls Tryz.prog 67 #[v] w fun e w' => ∃ r, e = .returned r ∧ IntSS w'.heap r (relWL a b (relL a b)) ∧ Below w.heap.size w w' := by
  have L1 := Lib.hid (fun (x : Value) (W : World) (h : IntSS W.heap x [[]]) => l03LeftOne_c (b : Int) x [] W h (by simp) (.inr (.inl rfl)) (by simp))
  rw [show frontL (b : Int) [] = [(b : Int)] by rw [frontL, if_neg (by omega)]] at L1
  have L2 := Lib.hid (fun (x : Value) (W : World) (h : IntSS W.heap x [[(b : Int)]]) => l03LeftPair_c a b x W h ha1 ha hb1 hb2)
  obtain ⟨b1, o1, c, rfl, hc0, -⟩ := h.at 0 (by simp)
  obtain ⟨b2, o2, c2, hv2, hc1, -⟩ := h.at 1 (by simp)
  simp only [Value.slice.injEq, Option.some.injEq, Addr.mk.injEq, and_true, true_and] at hv2
  obtain ⟨⟨rfl, rfl⟩, -⟩ := hv2
  simp only [List.getElem_cons_zero, List.getElem_cons_succ, Nat.add_zero, List.length_cons, List.length_nil] at hc0 hc1 ⊢
  have HC0 := Lib.hid hc0; have HC1 := Lib.hid hc1
  clear h hc0 hc1
  have h0 : IntS (w.alloc (.cells #[] 2)).heap (.slice (some ⟨w.heap.size, 0, none⟩) 0 0) [] := (ownI_empty (Nat.le_refl _)).ints
  have h1 : Hid (IntSS ((w.alloc (.cells #[] 2)).alloc (.cells #[.slice (some ⟨w.heap.size, 0, none⟩) 0 0] 30)).heap (.slice (some ⟨w.heap.size + 1, 0, none⟩) 1 1) [[]]) := by
    have := (ref_one h0 (Nat.le_refl _)).ints (alloc_old (w.alloc (.cells #[] 2)) (.cells #[.slice (some ⟨w.heap.size, 0, none⟩) 0 0] 30))
    rw [size_alloc_w] at this
    exact this
  have hB : Hid (Below w.heap.size w ((w.alloc (.cells #[] 2)).alloc (.cells #[.slice (some ⟨w.heap.size, 0, none⟩) 0 0] 30))) := ((Below.refl _ _).alloc (Nat.le_refl _) _).alloc (by simp) _
  clear h0
  go_enter Tryz.func67, Tryz.ntmps67
  go_wp2_with fail
  go_loopw [3, 4] (fun o i wr => ∃ (x : Int), i = .int .i64 x ∧ (x = 1 ∧ IntSS wr.heap o [[]] ∨ x = 0 ∧ IntSS wr.heap o [[(b : Int)]] ∨ x = -1 ∧ IntSS wr.heap o (relWL a b (relL a b))) ∧ Below w.heap.size w wr) (fun _ i _ => (intOf i + 1).toNat)
  case atStart => exact ⟨1, rfl, .inl ⟨rfl, h1.out⟩, hB.out⟩
  case round =>
    obtain ⟨x, rfl, hx, hbl⟩ := hrel
    have c0 := (hbl.cell (World.block_lt_of_cell? _ _ HC0.out)).trans HC0.out
    have c1 := (hbl.cell (World.block_lt_of_cell? _ _ HC1.out)).trans HC1.out
    have HBL := Lib.hid hbl
    clear hbl
    rcases hx with ⟨rfl, ho⟩ | ⟨rfl, ho⟩ | ⟨rfl, ho⟩
    · obtain ⟨pa, pc, rfl, -⟩ := ho.len
      have HO := Lib.hid ho; clear ho
      go_wp2_with (go_at_call 96; refine (L1.out _ _ HO.out).mono ?_; rintro e W3 ⟨r3, rfl, hr3, hb3⟩; obtain ⟨pa3, pc3, rfl, -⟩ := hr3.len)
      go_roundw
      case rel => exact ⟨0, rfl, .inr (.inl ⟨rfl, hr3⟩), HBL.out.trans (hb3.mono HBL.out.size)⟩
      case measure => simp [intOf]
    · obtain ⟨pa, pc, rfl, -⟩ := ho.len
      have HO := Lib.hid ho; clear ho
      go_wp2_with (go_at_call 96; refine (L2.out _ _ HO.out).mono ?_; rintro e W3 ⟨r3, rfl, hr3, hb3⟩; obtain ⟨pa3, pc3, rfl, -⟩ := hr3.len)
      go_roundw
      case rel => exact ⟨-1, rfl, .inr (.inr ⟨rfl, hr3⟩), HBL.out.trans (hb3.mono HBL.out.size)⟩
      case measure => simp [intOf]
    · obtain ⟨pa, pc, rfl, -⟩ := ho.len
      have t0 : decide ((0 : Int) ≤ -1) = false := by decide
      go_wp2_with fail
      go_ret
      exact ⟨_, rfl, ho, HBL.out⟩
end
section
open Go.RowKit Go.Sort

theorem fV_far {ds : List Int} {act : List (List Int)} (h : modT ds act = true) (a b : Nat) (hab : ds.getD (ds.length - 1) 0 - ds.getD 0 0 < a + b) : fV ds act a b = none :=
  fV_none ds act a b fun v hv => by rw [fVi, if_pos (flt_far h a b v hv hab)]
theorem fltL_empty (act : List (List Int)) : fltL [] act = [] := fltL_none [] act fun a _ => by
  unfold fAi
  split
  · exact fB_none [] act a fun b _ => by
      unfold fBi
      split
      · exact fV_none [] act a b fun v hv => by simp at hv
      · rfl
  · rfl
theorem same_iff {ds : List Int} {act : List (List Int)} (h : modT ds act = true) (a b v : Nat) (hv : v < ds.length) :
    decide (bitsL ds.length (wordM act [(a : Int), (b : Int)] (2 ^ v)) = bitsL ds.length (wordsM act (relWL a b (relL a b)) (2 ^ v))) = decide (flt act a b v = 0) := by
  rw [wordsM_rel]
  have e : wordM act [(a : Int), (b : Int)] (2 ^ v) = actZ act a (actZ act b (2 ^ v)) := rfl
  rw [e]
  have h1 : actZ act a (actZ act b (2 ^ v)) < 2 ^ ds.length := actZ_lt h _ _ (actZ_lt h _ _ (Nat.pow_lt_pow_right (by omega) hv))
  have h2 := fltS_lt h a b v hv (relL a b)
  unfold flt
  generalize actZ act a (actZ act b (2 ^ v)) = X at *
  generalize fltS act a b v (relL a b) = Y at *
  by_cases e2 : X = Y
  · subst e2; simp
  · have e3 : bitsL ds.length X ≠ bitsL ds.length Y := fun hh => e2 (bitsL_inj h1 h2 hh)
    have e4 : X ^^^ Y ≠ 0 := fun hh => e2 (by have := congrArg (· ^^^ Y) hh; simpa [Nat.xor_assoc] using this)
    simp [e3, e4]
set_option maxRecDepth 100000 in
set_option maxHeartbeats 2000000 in
theorem l11Fault_c (d a : Value) (ds : List Int) (act : List (List Int)) (w : World) (h : ModS w.heap d a ds act) (hT : modT ds act = true) :
    Calls Tryz.prog 46 #[.agg #[d, a]] w fun e w' => ∃ r, e = .returned r ∧ OwnI w' w.heap.size r (fltL ds act) ∧ Below w.heap.size w w' := by
  have hb : Below w.heap.size w (w.alloc (.cells #[d, a] 32)) := (Below.refl _ _).alloc (Nat.le_refl _) _
  have V := Var2.new w d a 32
  have hl := modT_len hT
  have A1 := Lib.hid (fun (u v : Value) (x y : Nat) (m : Nat) (W : World) (h : ModS W.heap d a ds act) (hu : IntS W.heap u [(x : Int), (y : Int)]) (hv : IntS W.heap v (bitsL ds.length m)) => l11Word_c d a v u ds act [(x : Int), (y : Int)] m W h hT hu hv)
  have A2 := Lib.hid (fun (u v : Value) (words : List (List Int)) (m : Nat) (W : World) (h : ModS W.heap d a ds act) (hu : IntSS W.heap u words) (hv : IntS W.heap v (bitsL ds.length m)) => l11Words_c d a v u ds act words m W h hT hu hv)
  obtain ⟨ao, ac, hdv, hm⟩ := h.1.len
  obtain ⟨bo, bc, hav, hm2⟩ := h.2.len
  subst hdv; subst hav
  have H0 := Lib.hid h; have HB := Lib.hid hb; have HVR := Lib.hid V; have HT := Lib.hid hT
  have k1 := HVR.out.c0; have k2 := HVR.out.c1
  clear h hT hb V
  by_cases h0 : ds.length = 0
  · have e : ds = [] := List.eq_nil_of_length_eq_zero h0
    subst e
    rw [fltL_empty]
    clear A1 A2
    simp only [List.length_nil] at k1 k2 HB H0 HVR ⊢
    go_enter Tryz.func46, Tryz.ntmps46
    go_wp2_with fail
    go_ret
    exact ⟨_, rfl, OwnI.nil _ _, HB.out⟩
  · obtain ⟨b1, o1, c1, hv1, hc1, -⟩ := H0.out.1.at (ds.length - 1) (by omega)
    obtain ⟨b2, o2, c2, hv2, hc2, -⟩ := H0.out.1.at 0 (by omega)
    simp only [Value.slice.injEq, true_and] at hv1 hv2
    obtain ⟨rfl, rfl⟩ := hv1
    obtain ⟨hv2, -⟩ := hv2
    simp only [Option.some.injEq, Addr.mk.injEq, and_true] at hv2
    obtain ⟨rfl, rfl⟩ := hv2
    rw [← getD_at' _ _ (by omega)] at hc1 hc2
    have s1 := modT_stem HT.out (ds.length - 1)
    have s0 := modT_stem HT.out 0
    have sp := modT_sorted HT.out (ds.length - 1) 0 (Nat.zero_le _) (by omega)
    have FAR := Lib.hid (fun x y => fV_far HT.out x y)
    obtain ⟨span, hspan⟩ : ∃ span : Nat, ds.getD (ds.length - 1) 0 - ds.getD 0 0 = span := ⟨(ds.getD (ds.length - 1) 0 - ds.getD 0 0).toNat, by omega⟩
    rw [hspan] at FAR
    have hs20 : span ≤ 20 := by omega
    have t0 := (neB (show ((ds.length : Nat) : Int) ≠ 0 by omega)).1
    have w1 : IntKind.i64.wrap ((ds.length : Int) - 1) = (ds.length : Int) - 1 := IntWalk.i64_in _ (by omega)
    have w2 : (0 : Int) ≤ (ds.length : Int) - 1 := by omega
    have w3 : ((ds.length : Int) - 1).toNat = ds.length - 1 := by omega
    have w4 : (ds.length : Int) - 1 < ds.length := by omega
    have hsp2 : ds.getD (ds.length - 1) 0 = ds.getD 0 0 + span := by omega
    rw [hsp2] at hc1
    clear hsp2 hspan
    generalize ds.getD 0 0 = X at *
    have w5 : IntKind.i64.wrap (X + span - X) = (span : Int) := by rw [IntWalk.i64_in _ (by omega)]; omega
    have hli : (0 : Int) < ds.length := by omega
    rw [Nat.add_zero] at hc2
    have hbl := World.block_lt_of_cell? _ _ hc2
    simp only at hbl
    go_enter Tryz.func46, Tryz.ntmps46
    go_wp2_with fail
    go_quiet (fail)
    clear s1 s0 sp w1 w2 w3 w4 w5 hc1 hc2
    go_wp2_with fail
    clear h0 HVR
    go_loopw [5] (fun i wr => ∃ a : Nat, 1 ≤ a ∧ a ≤ 21 ∧ i = .int .i64 a ∧ Hid (∀ i, i < a → fAi ds act i = none) ∧ Var2 wr w.heap.size (.slice (some ⟨b1, o1, none⟩) ds.length ac) (.slice bo act.length bc) 32 ∧ Below w.heap.size w wr) (fun i _ => 21 - (intOf i).toNat)
    case atStart => exact ⟨1, by omega, by omega, rfl, fun i hi => by rw [fAi, if_neg (by omega)], Var2.new _ _ _ _, below_drewN _ HB.out⟩
    case round =>
      obtain ⟨a, ha1, ha2, rfl, HA, hV, hbl⟩ := hrel
      by_cases ha : a ≤ span
      · have ta : decide ((a : Int) ≤ (span : Int)) = true := by simp; omega
        have ta2 : decide (a ≤ span) = true := by simpa using ha
        have hV1 := Lib.hid hV; have HBL := Lib.hid hbl; clear hV hbl
        go_wp2_with fail
        obtain ⟨wo, hwo⟩ : ∃ wo : World, wo = wr := ⟨_, rfl⟩
        go_loopw [6] (fun i wr => ∃ b : Nat, a / 2 + 1 ≤ b ∧ b ≤ 21 ∧ i = .int .i64 b ∧ Hid (∀ i, i < b → fBi ds act a i = none) ∧ Var2 wr w.heap.size (.slice (some ⟨b1, o1, none⟩) ds.length ac) (.slice bo act.length bc) 32 ∧ Below w.heap.size w wr) (fun i _ => 21 - (intOf i).toNat)
        case atStart => exact ⟨a / 2 + 1, by omega, by omega, by go_num, fun i hi => by rw [fBi, if_neg (by omega)], hV1.out, HBL.out⟩
        case round =>
          clear hwo HBL hV1
          obtain ⟨b, hb1, hb2, rfl, HBB, hV, hbl⟩ := hrel
          by_cases hb : a + b ≤ span
          · have tb : decide ((a : Int) + b ≤ span) = true := by simp; omega
            have tb2 : decide (a + b ≤ span) = true := by simpa using hb
            have L := Lib.hid (l03FormPair_c a b _ _ (ownI_lit2 (w := wr) (Nat.le_refl _) (a : Int) (b : Int)).ints ha1 (by omega) hb1 (by omega))
            have hBa : Hid (Below wr.heap.size wr (wr.alloc (.cells #[.int .i64 (a : Int), .int .i64 (b : Int)] 2))) := (Below.refl _ _).alloc (Nat.le_refl _) _
            have HV1 := Lib.hid hV; have HBL := Lib.hid hbl; clear hV hbl
            go_wp2_with (go_at_call 67; refine L.out.mono ?_; rintro e W2 ⟨rw2, rfl, hrw, hb2'⟩; obtain ⟨wa, wc, rfl, -⟩ := hrw.len; have HWD := Lib.hid hrw; have BU0 := Lib.hid (hBa.out.trans (hb2'.mono hBa.out.size)); have HV2 := Lib.hid (HV1.out.kept BU0.out.block); have HBL2 := Lib.hid (HBL.out.trans (BU0.out.mono HBL.out.size)); clear hrw hb2')
            clear HV1 HBL
            obtain ⟨wn, hwn⟩ : ∃ wn, wn = (relWL a b (relL a b)).length := ⟨_, rfl⟩
            rw [← hwn] at HWD ⊢
            have HWN := Lib.hid hwn; clear hwn
            go_loopw [8] (fun i wr => ∃ v : Nat, v ≤ ds.length ∧ i = .int .i64 v ∧ Hid (∀ i, i < v → fVi act a b i = none) ∧ Var2 wr w.heap.size (.slice (some ⟨b1, o1, none⟩) ds.length ac) (.slice bo act.length bc) 32 ∧ Below W2.heap.size W2 wr) (fun i _ => ds.length - (intOf i).toNat)
            case atStart => exact ⟨0, Nat.zero_le _, rfl, fun i hi => by omega, HV2.out, Below.refl _ _⟩
            case round =>
              clear HV2
              obtain ⟨v, hv, rfl, HV, hVr, hbl⟩ := hrel
              by_cases hvl : v < ds.length
              · have tv : decide ((v : Int) < (ds.length : Int)) = true := by simp; omega
                have UN := Lib.hid (l11Unit_c ds.length v wr hl hvl)
                have HVV := Lib.hid hVr; have HBR := Lib.hid hbl; clear hVr hbl
                have SM0 := fun (x y : Value) (W : World) (h1 : IntS W.heap x (bitsL ds.length (wordM act [(a : Int), (b : Int)] (2 ^ v)))) (h2 : IntS W.heap y (bitsL ds.length (wordsM act (relWL a b (relL a b)) (2 ^ v)))) => (l01Same_c x y _ _ W h1 h2).mono fun e w' ⟨he, n, hn⟩ => (⟨he, by rw [hn]; exact below_drewN n (Below.refl _ _)⟩ : e = _ ∧ Below W.heap.size W w')
                rw [same_iff HT.out a b v hvl] at SM0
                by_cases hz : flt act a b v = 0
                · have HVS : Hid (∀ i, i < v + 1 → fVi act a b i = none) := fun i hi => by
                    by_cases e : i = v
                    · subst e; rw [fVi, if_pos hz]
                    · exact HV.out i (by omega)
                  rw [show decide (flt act a b v = 0) = true by simpa using hz] at SM0
                  have SM := Lib.hid SM0
                  clear hz SM0
                  go_wp2_with (go_at_call 68; refine UN.out.mono ?_; rintro e W3 ⟨ru, rfl, hru, hb3⟩; obtain ⟨ua, un, uc, rfl⟩ := own_shape hru; have HUN := Lib.hid hru.ints; have BU := Lib.hid (HBR.out.trans (hb3.mono HBR.out.size)); have HV3 := Lib.hid (HVV.out.kept hb3.block); have BW3 := Lib.hid (HBL2.out.trans (BU.out.mono HBL2.out.size)); clear hru hb3)
                  have c0 := HV3.out.c0; have c1 := HV3.out.c1
                  have hx0 : Below W3.heap.size W3 (W3.alloc (.cells #[.int .i64 (a : Int), .int .i64 (b : Int)] 2)).drew := below_drewN 1 ((Below.refl _ _).alloc (Nat.le_refl _) _)
                  have X1 := Lib.hid (A1.out (.slice (some ⟨W3.heap.size, 0, none⟩) 2 2) _ a b (2 ^ v) (W3.alloc (.cells #[.int .i64 (a : Int), .int .i64 (b : Int)] 2)).drew (H0.out.same (BW3.out.trans (hx0.mono BW3.out.size)).block) (ownI_lit2 (w := W3) (Nat.le_refl _) (a : Int) (b : Int)).ints (HUN.out.same hx0.block))
                  have X2 := Lib.hid (fun (W : World) (h1 : ModS W.heap _ _ ds act) (h2 : IntSS W.heap (.slice wa wn wc) (relWL a b (relL a b))) (h3 : IntS W.heap (.slice ua un uc) (bitsL ds.length (2 ^ v))) => A2.out (.slice wa wn wc) (.slice ua un uc) (relWL a b (relL a b)) (2 ^ v) W h1 h2 h3)
                  clear hx0
                  generalize wordM act [(a : Int), (b : Int)] (2 ^ v) = M1 at *
                  generalize wordsM act (relWL a b (relL a b)) (2 ^ v) = M2 at *
                  go_region_held3 (fun W => W.cell? ⟨w.heap.size, 0, none⟩ = some (.slice (some ⟨b1, o1, none⟩) ds.length ac) ∧ W.cell? ⟨w.heap.size, 1, none⟩ = some (.slice bo act.length bc) ∧ Below W3.heap.size W3 W)
                    (first | exact ⟨c0, c1, (Below.refl _ _).drew⟩ | exact ⟨Go.Lib.cell?_alloc_some _ c0, Go.Lib.cell?_alloc_some _ c1, below_drewN 1 ((Below.refl _ _).alloc (Nat.le_refl _) _)⟩ | exact heldC2 (by assumption) hx6 | exact heldC2 (by assumption) hx5 | exact heldC2 (by assumption) hx4)
                    (first | (go_at_call 70; refine X1.out.mono ?_; rintro e W4 ⟨r4, rfl, hr4, hx4⟩; obtain ⟨pa4, pc4, rfl, -⟩ := hr4.len) | (go_at_call 71; refine (X2.out _ (H0.out.same (BW3.out.trans ((heldC2X (by assumption)).mono BW3.out.size)).block) (HWD.out.same (BU.out.trans ((heldC2X (by assumption)).mono BU.out.size)).block) (HUN.out.same (heldC2X (by assumption)).block)).mono ?_; rintro e W5 ⟨r5, rfl, hr5, hx5⟩; obtain ⟨pa5, pc5, rfl, -⟩ := hr5.len) | (go_at_call 69; refine (SM.out _ _ _ (hr4.same hx5.block) hr5).mono ?_; rintro e W6 ⟨rfl, hx6⟩))
                  all_goals
                    rename_i hh
                    have B6 := Lib.hid (heldC2X hh)
                    clear hh c0 c1
                    go_wp2_with fail
                    go_roundw
                    case rel => exact ⟨v + 1, by omega, by go_num, HVS, HV3.out.kept B6.out.block, BU.out.trans (B6.out.mono BU.out.size)⟩
                    case measure => simp [intOf]; omega
                · have HL := Lib.hid (fltL_hit ds act a b v HA.out HBB.out HV.out ha1 hb1 (by omega) hvl hz)
                  rw [show decide (flt act a b v = 0) = false by simpa using hz] at SM0
                  have SM := Lib.hid SM0
                  clear hz SM0
                  go_wp2_with (go_at_call 68; refine UN.out.mono ?_; rintro e W3 ⟨ru, rfl, hru, hb3⟩; obtain ⟨ua, un, uc, rfl⟩ := own_shape hru; have HUN := Lib.hid hru.ints; have BU := Lib.hid (HBR.out.trans (hb3.mono HBR.out.size)); have HV3 := Lib.hid (HVV.out.kept hb3.block); have BW3 := Lib.hid (HBL2.out.trans (BU.out.mono HBL2.out.size)); clear hru hb3)
                  have c0 := HV3.out.c0; have c1 := HV3.out.c1
                  have hx0 : Below W3.heap.size W3 (W3.alloc (.cells #[.int .i64 (a : Int), .int .i64 (b : Int)] 2)).drew := below_drewN 1 ((Below.refl _ _).alloc (Nat.le_refl _) _)
                  have X1 := Lib.hid (A1.out (.slice (some ⟨W3.heap.size, 0, none⟩) 2 2) _ a b (2 ^ v) (W3.alloc (.cells #[.int .i64 (a : Int), .int .i64 (b : Int)] 2)).drew (H0.out.same (BW3.out.trans (hx0.mono BW3.out.size)).block) (ownI_lit2 (w := W3) (Nat.le_refl _) (a : Int) (b : Int)).ints (HUN.out.same hx0.block))
                  have X2 := Lib.hid (fun (W : World) (h1 : ModS W.heap _ _ ds act) (h2 : IntSS W.heap (.slice wa wn wc) (relWL a b (relL a b))) (h3 : IntS W.heap (.slice ua un uc) (bitsL ds.length (2 ^ v))) => A2.out (.slice wa wn wc) (.slice ua un uc) (relWL a b (relL a b)) (2 ^ v) W h1 h2 h3)
                  clear hx0
                  generalize wordM act [(a : Int), (b : Int)] (2 ^ v) = M1 at *
                  generalize wordsM act (relWL a b (relL a b)) (2 ^ v) = M2 at *
                  go_region_held3 (fun W => W.cell? ⟨w.heap.size, 0, none⟩ = some (.slice (some ⟨b1, o1, none⟩) ds.length ac) ∧ W.cell? ⟨w.heap.size, 1, none⟩ = some (.slice bo act.length bc) ∧ Below W3.heap.size W3 W)
                    (first | exact ⟨c0, c1, (Below.refl _ _).drew⟩ | exact ⟨Go.Lib.cell?_alloc_some _ c0, Go.Lib.cell?_alloc_some _ c1, below_drewN 1 ((Below.refl _ _).alloc (Nat.le_refl _) _)⟩ | exact heldC2 (by assumption) hx6 | exact heldC2 (by assumption) hx5 | exact heldC2 (by assumption) hx4)
                    (first | (go_at_call 70; refine X1.out.mono ?_; rintro e W4 ⟨r4, rfl, hr4, hx4⟩; obtain ⟨pa4, pc4, rfl, -⟩ := hr4.len) | (go_at_call 71; refine (X2.out _ (H0.out.same (BW3.out.trans ((heldC2X (by assumption)).mono BW3.out.size)).block) (HWD.out.same (BU.out.trans ((heldC2X (by assumption)).mono BU.out.size)).block) (HUN.out.same (heldC2X (by assumption)).block)).mono ?_; rintro e W5 ⟨r5, rfl, hr5, hx5⟩; obtain ⟨pa5, pc5, rfl, -⟩ := hr5.len) | (go_at_call 69; refine (SM.out _ _ _ (hr4.same hx5.block) hr5).mono ?_; rintro e W6 ⟨rfl, hx6⟩))
                  all_goals
                    rename_i hh
                    have B6 := Lib.hid (BW3.out.trans ((heldC2X hh).mono BW3.out.size))
                    clear hh c0 c1
                    go_wp2_with fail
                    go_ret
                    exact ⟨_, rfl, by rw [HL.out]; exact ownI_lit3 B6.out.size _ _ _, B6.out.alloc B6.out.size _⟩
              · obtain rfl : v = ds.length := by omega
                have HBS : Hid (∀ i, i < b + 1 → fBi ds act a i = none) := fun i hi => by
                  by_cases e : i = b
                  · subst e
                    rw [fBi]
                    split
                    · exact fV_none ds act a i HV.out
                    · rfl
                  · exact HBB.out i (by omega)
                go_wp2_with fail
                go_roundw
                case rel => exact ⟨b + 1, by omega, by omega, by go_num, HBS, hVr, HBL2.out.trans (hbl.mono HBL2.out.size)⟩
                case measure => simp [intOf]; omega
          · have HAS : Hid (∀ i, i < a + 1 → fAi ds act i = none) := fun i hi => by
              by_cases e : i = a
              · subst e
                rw [fAi, if_pos ha1]
                exact fB_none ds act i fun j hj => by
                  by_cases e2 : j < b
                  · exact HBB.out j e2
                  · rw [fBi]
                    split
                    · exact FAR.out i j (by omega)
                    · rfl
              · exact HA.out i (by omega)
            have tb : decide ((a : Int) + b ≤ span) = false := by simp; omega
            have tb2 : decide (a + b ≤ span) = false := by simp; omega
            go_wp2_with fail
            go_roundw
            case rel => exact ⟨a + 1, by omega, by omega, by go_num, HAS, hV, hbl⟩
            case measure => simp [intOf]; omega
      · have ta : decide ((a : Int) ≤ (span : Int)) = false := by simp; omega
        have ta2 : decide (a ≤ span) = false := by simpa using ha
        have HN := Lib.hid (fltL_none ds act fun i hi => by
          by_cases e : i < a
          · exact HA.out i e
          · rw [fAi, if_pos (by omega)]
            exact fB_none ds act i fun j hj => by
              rw [fBi]
              split
              · exact FAR.out i j (by omega)
              · rfl)
        go_wp2_with fail
        go_ret
        exact ⟨_, rfl, by rw [HN.out]; exact OwnI.nil _ _, hbl⟩
end
section
open Go.RowKit Go.Sort

def szM (len : Nat) (act : List (List Int)) (left : Nat) : Int := if len + (act.length + cnt act) ≤ left then (left : Int) - (len + (act.length + cnt act) : Nat) else -1
theorem own_len {w : World} {B : Nat} {ra : Option Addr} {rn rc : Nat} {xs : List Int} (h : OwnI w B (.slice ra rn rc) xs) : rn = xs.length := by
  obtain ⟨_, _, hv, _⟩ := h.ints.len
  simp only [Value.slice.injEq] at hv
  exact hv.2.1
set_option maxRecDepth 100000 in
set_option maxHeartbeats 1000000 in
theorem l11Is_c (d a : Value) (ds : List Int) (act : List (List Int)) (w : World) (h : ModS w.heap d a ds act) :
    Calls Tryz.prog 26 #[.agg #[d, a]] w fun e w' => e = .returned (.bool (isMod ds act)) ∧ Below w.heap.size w w' := by
  have hb : Below w.heap.size w (w.alloc (.cells #[d, a] 32)) := (Below.refl _ _).alloc (Nat.le_refl _) _
  have V := two_new w d a 32
  have hM := h.same hb.block
  have I := Lib.hid (l11Shape_c d a ds act _ hM)
  have HE : Hid (isMod ds act = (modT ds act && decide (fltL ds act = []))) := rfl
  have F := Lib.hid (fun (W : World) (h : ModS W.heap d a ds act) (hT : modT ds act = true) => l11Fault_c d a ds act W h hT)
  obtain ⟨ao, ac, hv, hm⟩ := h.1.len
  obtain ⟨bo, bc, hv2, hm2⟩ := h.2.len
  subst hv; subst hv2
  have H0 := Lib.hid h; have HB := Lib.hid hb; have HV := Lib.hid V; clear h hM hb V
  have k1 := HV.out.1; have k2 := HV.out.2
  cases hT : modT ds act
  · rw [hT] at I HE
    clear hT F
    go_enter Tryz.func26, Tryz.ntmps26
    go_wp2_with (go_at_call 45; refine I.out.mono ?_; rintro e w1 ⟨rfl, hb1⟩)
    go_ret
    exact ⟨by rw [HE.out]; rfl, HB.out.trans (hb1.mono HB.out.size)⟩
  · have HT := Lib.hid hT
    rw [hT, Bool.true_and] at HE
    rw [hT] at I
    clear hT
    have HX : Hid (∀ n, n = (fltL ds act).length → decide (fltL ds act = []) = ((n : Int) == 0)) := fun n hn => by
      subst hn
      cases fltL ds act <;> simp
      omega
    go_enter Tryz.func26, Tryz.ntmps26
    go_wp2_with (first | (go_at_call 45; refine I.out.mono ?_; rintro e w1 ⟨rfl, hb1⟩; have k3 := (hb1.cell (World.block_lt_of_cell? _ _ k1)).trans k1; have k4 := (hb1.cell (World.block_lt_of_cell? _ _ k2)).trans k2; have HB1 := Lib.hid (HB.out.trans (hb1.mono HB.out.size)); clear hb1) | (go_at_call 46; refine (F.out _ (H0.out.same HB1.out.block) HT.out).mono ?_; rintro e w2 ⟨r, rfl, hr, hb2⟩; obtain ⟨ra, rn, rc, rfl⟩ := own_shape hr; have hrn := own_len hr; have HR := Lib.hid (own_base hr HB1.out.size); have HB2 := Lib.hid (HB1.out.trans (hb2.mono HB1.out.size)); clear hr hb2))
    go_ret
    exact ⟨by rw [HE.out, HX.out _ rfl]; rfl, HB2.out⟩
end
section
open Go.RowKit Go.Sort

def cntD (ds : List Int) : List Int := (List.range 21).map fun (i : Nat) => (((ds.filter fun x => x == (i : Int)).length : Nat) : Int)
theorem cntD_len (ds : List Int) : (cntD ds).length = 21 := by simp [cntD]
theorem cntD_at (ds : List Int) (i : Nat) (h : i < 21) : (cntD ds).getD i 0 = (((ds.filter fun x => x == (i : Int)).length : Nat) : Int) := by simp [cntD, h]
theorem cntD_take (ds : List Int) (k i : Nat) (hk : k < ds.length) (hi : i < 21) (h : ds.getD k 0 = i) : (cntD (ds.take k)).set i ((cntD (ds.take k)).getD i 0 + 1) = cntD (ds.take (k + 1)) := by
  rw [show ds.getD k 0 = ds[k] by simp [hk]] at h
  apply List.ext_getElem?
  intro j
  by_cases hj : j < 21
  · rw [List.take_succ_eq_append_getElem hk]
    by_cases e : i = j
    · subst e
      rw [List.getElem?_set_self (by rw [cntD_len]; omega), cntD_at _ _ hi]
      simp only [cntD, List.getElem?_map, List.getElem?_range hi, Option.map_some, List.filter_append, List.length_append, h]
      simp
    · rw [List.getElem?_set_ne e]
      simp only [cntD, List.getElem?_map, List.getElem?_range hj, Option.map_some, List.filter_append, List.length_append, h]
      have : ((i : Int) == (j : Int)) = false := by simp; omega
      simp [this]
  · rw [List.getElem?_eq_none (by rw [List.length_set, cntD_len]; omega), List.getElem?_eq_none (by rw [cntD_len]; omega)]
theorem cntD_le (ds : List Int) (k i : Nat) (h : i < 21) : 0 ≤ (cntD (ds.take k)).getD i 0 ∧ (cntD (ds.take k)).getD i 0 ≤ k := by
  rw [cntD_at _ _ h]
  have := List.length_filter_le (fun x => x == (i : Int)) (ds.take k)
  rw [List.length_take] at this
  omega
theorem made_cnt (w : World) : OwnI (w.alloc (.cells (madeCells #[.int .i64 0] 21) 2)) w.heap.size (.slice (some ⟨w.heap.size, 0, none⟩) 21 21) (cntD []) := by
  have := made_own w w.heap.size 2 21 (.int .i64 0) (Nat.le_refl _) (by omega)
  unfold OwnI
  rw [cntD_len]
  simpa [cntD, List.map_const'] using this
def cmC (ds : List Int) (act : List (List Int)) : Int := if isMod ds act then 0 else 1
theorem isMod_T {ds : List Int} {act : List (List Int)} (h : isMod ds act = true) : modT ds act = true := by
  simp only [isMod, Bool.and_eq_true] at h; exact h.1
end
section
open Go.RowKit Go.Sort

end
section
open Go.RowKit Go.Sort

def susB (ds : List Int) (n : Int) : Bool := ds.all fun d => stemB (d + n)
def susOk (ds : List Int) (act : List (List Int)) (n : Int) : Bool := isMod ds act && (decide (-20 ≤ n) && decide (n ≤ 20)) && susB ds n
def susD (ds : List Int) (act : List (List Int)) (n : Int) : List Int := if susOk ds act n then ds.map (· + n) else []
def susA (ds : List Int) (act : List (List Int)) (n : Int) : List (List Int) := if susOk ds act n then act else []
def susC (ds : List Int) (act : List (List Int)) (n : Int) : Int := if isMod ds act then (if (decide (-20 ≤ n) && decide (n ≤ 20)) then (if susB ds n then 0 else 3) else 2) else 1
theorem susB_false {ds : List Int} {n : Int} (k : Nat) (hk : k < ds.length) (h : stemB (ds[k] + n) = false) : susB ds n = false := by
  cases e : susB ds n
  · rfl
  · rw [susB, List.all_eq_true] at e; rw [e _ (List.getElem_mem hk)] at h; cases h
theorem susB_true {ds : List Int} {n : Int} (h : ∀ i (hi : i < ds.length), stemB (ds[i] + n) = true) : susB ds n = true := by
  rw [susB, List.all_eq_true]
  intro x hx
  obtain ⟨i, hi, rfl⟩ := List.getElem_of_mem hx
  exact h i hi
def encT (x : List Int) : Int := x.getD 0 0 * 256 + x.getD 1 0 * 16 + x.getD 2 0
def trip (x : List Int) : Prop := x.length = 3 ∧ 0 ≤ x.getD 0 0 ∧ x.getD 0 0 ≤ 20 ∧ 0 ≤ x.getD 1 0 ∧ x.getD 1 0 < 16 ∧ 0 ≤ x.getD 2 0 ∧ x.getD 2 0 < 16
theorem ltL_enc {x y : List Int} (hx : trip x) (hy : trip y) (h : ltL x y = true) : encT x < encT y := by
  obtain ⟨a, b, c, rfl⟩ : ∃ a b c, x = [a, b, c] := by
    match x, hx.1 with
    | [a, b, c], _ => exact ⟨a, b, c, rfl⟩
  obtain ⟨d, e, f, rfl⟩ : ∃ a b c, y = [a, b, c] := by
    match y, hy.1 with
    | [a, b, c], _ => exact ⟨a, b, c, rfl⟩
  simp only [trip, List.getD_cons_zero, List.getD_cons_succ] at hx hy
  simp only [encT, List.getD_cons_zero, List.getD_cons_succ]
  simp only [ltL] at h
  split at h
  · omega
  · split at h
    · cases h
    · split at h
      · omega
      · split at h
        · cases h
        · split at h
          · omega
          · split at h <;> cases h
theorem asc_len : ∀ (l : List (List Int)) (lo : Int), Asc l → (∀ x ∈ l, trip x ∧ lo ≤ encT x) → 0 ≤ lo → (l.length : Int) + lo ≤ 5376 ∨ l = []
  | [], _, _, _, _ => .inr rfl
  | x :: l, lo, h, hx, h0 => by
    left
    obtain ⟨t, hlo⟩ := hx x (List.mem_cons_self ..)
    have hE : encT x < 5376 := by
      have := t; unfold trip at this; unfold encT; omega
    rcases asc_len l (encT x + 1) h.tail (fun y hy => ⟨(hx y (List.mem_cons_of_mem _ hy)).1, by
      have := ltL_enc t (hx y (List.mem_cons_of_mem _ hy)).1 (h.head y hy); omega⟩) (by omega) with h2 | h2
    · simp only [List.length_cons]; omega
    · subst h2; simp; omega
theorem modT_trip {ds : List Int} {act : List (List Int)} (h : modT ds act = true) (x : List Int) (hx : x ∈ act) : trip x := by
  have h1 := modT_cell h x hx; have h2 := modT_top h x hx; have h3 := modT_len h
  unfold trip; omega
theorem modT_actlen {ds : List Int} {act : List (List Int)} (h : modT ds act = true) : act.length ≤ 5376 := by
  rcases asc_len act 0 (modT_asc h) (fun x hx => ⟨modT_trip h x hx, by have := modT_trip h x hx; unfold trip at this; unfold encT; omega⟩) (Int.le_refl _) with h2 | h2
  · omega
  · rw [h2]; simp
theorem cnt_trip : ∀ (act : List (List Int)), (∀ x ∈ act, x.length = 3) → cnt act = 3 * act.length
  | [], _ => rfl
  | x :: a, h => by
    have := cnt_trip a fun y hy => h y (List.mem_cons_of_mem _ hy)
    have := h x (List.mem_cons_self ..)
    simp only [cnt, List.map_cons, List.sum_cons, List.length_cons] at *; omega
theorem modT_cnt {ds : List Int} {act : List (List Int)} (h : modT ds act = true) : cnt act ≤ 16128 := by
  rw [cnt_trip act fun x hx => (modT_cell h x hx).1]; have := modT_actlen h; omega
theorem sus_bounds (ds : List Int) (act : List (List Int)) (n : Int) : (susD ds act n).length ≤ 16 ∧ cnt (susA ds act n) ≤ 16128 := by
  unfold susD susA
  split
  · rename_i h
    simp only [susOk, Bool.and_eq_true] at h
    have hT := isMod_T h.1.1
    exact ⟨by rw [List.length_map]; exact modT_len hT, modT_cnt hT⟩
  · simp [cnt]
/-- The module of a variable, its degrees made since. -/
theorem ownM_of {w w2 : World} {B : Nat} {d a : Value} {us : List Value} {ds : List Int} {act : List (List Int)} (hd : OwnI w w2.heap.size d ds) (ha : OwnU w2 B a us act) (hB : B ≤ w2.heap.size) (k : Below w2.heap.size w2 w) : OwnM w B d a us ds act :=
  ⟨own_base hd hB, ha.same k.block, fun u hu => by
    cases e : d.ownBlock with
    | none => exact .inl rfl
    | some b =>
      right
      intro e2
      have h1 := (hd.range b e).1
      have h2 := (ha.range.2 u hu b e2.symm).2
      omega⟩
end
section
open Go.RowKit Go.Sort

/-- The text of a list of numbers. -/
def numW (r : List Int) : List UInt8 := Go.Lib.join (r.map dec) [44]
theorem numW_len {r : List Int} (h : Deg2 r) : (numW r).length ≤ r.length * 3 := by
  have := join_len [44] (r.map dec) h.dec
  rw [List.length_map] at this
  exact this
set_option maxRecDepth 100000 in
theorem numbersText_c (v : Value) (r : List Int) (w : World) (h : IntS w.heap v r) (hd : Deg2 r) :
    Calls Tryz.prog 52 #[v] w fun e w' => e = .returned (.string (bs (numW r))) ∧ Below w.heap.size w w' := by
  obtain ⟨ao, c, rfl, hm⟩ := h.len
  have H := Lib.hid h; have HD := Lib.hid hd
  have hl := hd.1
  have HJ := Lib.hid (fun (v : Value) (B : Nat) (W : World) (h : OwnW W B v (r.map dec)) => joinW_c v (r.map dec) [44] B W h (by rw [List.length_map]; omega) (fun x hx => by have := HD.out.dec x hx; omega) (by simp))
  have HE : Hid (bs (numW r) = bs (Go.Lib.join (r.map dec) [44])) := rfl
  clear h hd
  rw [HE.out]
  clear HE
  generalize Go.Lib.join (r.map dec) [44] = R1 at *
  go_enter Tryz.func52, Tryz.ntmps52
  go_wp2_with fail
  go_loopw [3, 9] (fun y i wr => ∃ m : Nat, m ≤ r.length ∧ i = .int .i64 m ∧ OwnW wr w.heap.size y ((r.take m).map dec) ∧ Below w.heap.size w wr) (fun _ i _ => r.length - (intOf i).toNat)
  case atStart => exact ⟨0, Nat.zero_le _, rfl, ownW_empty (Nat.le_refl _), (Below.refl _ _).alloc (Nat.le_refl _) _⟩
  case round =>
    obtain ⟨m, hm2, rfl, hy, hb3⟩ := hrel
    obtain ⟨ya, yn, yc, rfl⟩ := own_shape hy
    have HY := Lib.hid hy; have HB3 := Lib.hid hb3
    have hsz3 := hb3.size
    clear hy hb3
    by_cases hml : m < r.length
    · obtain ⟨b4, o4, q4, hv4, hc4, -⟩ := H.out.at m hml
      simp only [Value.slice.injEq, true_and] at hv4
      obtain ⟨rfl, rfl⟩ := hv4
      have hc := (HB3.out.cell (World.block_lt_of_cell? _ _ hc4)).trans hc4
      clear hc4
      obtain ⟨x, hx, hx2⟩ := HD.out.row m hml
      have HTK := Lib.hid (map_take_succ dec r m hml)
      have HLN := Lib.hid (show ((r.take m).map dec).length ≤ 4398046511104 by rw [List.length_map, List.length_take]; omega)
      rw [hx] at hc HTK
      have D := Lib.hid (fun W => decimal_c x hx2 W)
      clear hx
      go_wp2_with (first | (go_at_call 60; refine (D.out _).mono ?_; rintro e w1 ⟨rfl, rfl⟩) | (at_builtin; refine append_word (w := wr) rfl _ _ rfl _ _ _ _ HY.out rfl HB3.out hsz3 _ rfl (by simp) HLN.out ?_; intro v' w' hown' hbl' _ _; obtain ⟨pv, nv, cv, rfl⟩ := own_shape hown'))
      go_roundw
      case rel => exact ⟨m + 1, by omega, by go_num, by rw [HTK.out]; exact hown', hbl'⟩
      case measure => simp [intOf]; omega
    · obtain rfl : m = r.length := by omega
      rw [List.take_length] at HY
      go_wp2_with (go_at_call 53; refine (HJ.out _ _ _ HY.out).mono ?_; rintro e w1 ⟨rfl, hb⟩)
      go_ret
      exact ⟨rfl, HB3.out.trans (hb.mono hsz3)⟩
/-- The text of a module up to the row m. -/
def mdT (ds : List Int) (act : List (List Int)) (m : Nat) : List UInt8 := (numW ds ++ [124]) ++ Go.Lib.join ((act.take m).map numW) [59]
def mtxW (ds : List Int) (act : List (List Int)) : List UInt8 := if isMod ds act then mdT ds act act.length else []
def mtxC (ds : List Int) (act : List (List Int)) : Int := if isMod ds act then 0 else 1
theorem modT_deg2 {ds : List Int} {act : List (List Int)} (h : modT ds act = true) : Deg2 ds := by
  refine ⟨by have := modT_len h; omega, fun x hx => ?_⟩
  obtain ⟨i, hi, rfl⟩ := List.getElem_of_mem hx
  have := modT_stem h i
  rw [show ds.getD i 0 = ds[i] by simp [hi]] at this
  omega
theorem modT_row2 {ds : List Int} {act : List (List Int)} (h : modT ds act = true) : ∀ x ∈ act, Deg2 x ∧ x.length = 3 := fun x hx => by
  have h1 := modT_trip h x hx
  unfold trip at h1
  obtain ⟨h3, h1⟩ := h1
  match x, h3 with
  | [a, b, c], _ =>
    simp only [List.getD_cons_zero, List.getD_cons_succ] at h1
    refine ⟨⟨by simp, fun y hy => ?_⟩, rfl⟩
    simp only [List.mem_cons, List.not_mem_nil, or_false] at hy
    rcases hy with rfl | rfl | rfl <;> omega
theorem numW_row {ds : List Int} {act : List (List Int)} (h : modT ds act = true) (x : List Int) (hx : x ∈ act) : (numW x).length ≤ 9 := by
  obtain ⟨h1, h2⟩ := modT_row2 h x hx
  have := numW_len h1
  omega
theorem numW_deg {ds : List Int} {act : List (List Int)} (h : modT ds act = true) : (numW ds).length ≤ 48 := by
  have := numW_len (modT_deg2 h); have := modT_len h
  omega
theorem mdJ_len {ds : List Int} {act : List (List Int)} (h : modT ds act = true) (m : Nat) : (Go.Lib.join ((act.take m).map numW) [59]).length ≤ 53760 := by
  have h1 := join_len (m := 9) [59] ((act.take m).map numW) (fun x hx => by
    obtain ⟨y, hy, rfl⟩ := List.mem_map.1 hx
    exact numW_row h y (List.mem_of_mem_take hy))
  rw [List.length_map, List.length_take] at h1
  have h2 := modT_actlen h
  have h3 : min m act.length * (9 + [(59 : UInt8)].length) ≤ 5376 * 10 := Nat.mul_le_mul (by omega) (by simp)
  omega
theorem mdT_len {ds : List Int} {act : List (List Int)} (h : modT ds act = true) (m : Nat) : (mdT ds act m).length ≤ 53809 := by
  unfold mdT
  have := mdJ_len h m; have := numW_deg h
  simp only [List.length_append, List.length_cons, List.length_nil]
  omega
theorem mdT_zero (ds : List Int) (act : List (List Int)) : mdT ds act 0 = numW ds ++ [124] := by unfold mdT; simp [Go.Lib.join_nil]
theorem mdT_one (ds : List Int) (act : List (List Int)) (h : 0 < act.length) : mdT ds act 1 = mdT ds act 0 ++ numW act[0] := by
  rw [mdT_zero]
  unfold mdT
  rw [map_take_succ numW act 0 h]
  simp [Go.Lib.join_one]
theorem mdT_succ (ds : List Int) (act : List (List Int)) (m : Nat) (hm : m < act.length) (h0 : m ≠ 0) : mdT ds act (m + 1) = (mdT ds act m ++ [59]) ++ numW act[m] := by
  unfold mdT
  rw [map_take_succ numW act m hm, join_step _ _ _ (fun e => by have := congrArg List.length e; rw [List.length_map, List.length_take, List.length_nil] at this; omega)]
  simp
set_option maxRecDepth 100000 in
set_option maxHeartbeats 1000000 in
theorem moduleText_c (d a : Value) (ds : List Int) (act : List (List Int)) (w : World) (h : ModS w.heap d a ds act) (hT : modT ds act = true) :
    Calls Tryz.prog 31 #[.agg #[d, a]] w fun e w' => e = .returned (.string (bs (mdT ds act act.length))) ∧ Below w.heap.size w w' := by
  obtain ⟨ao, ac, hv, hm⟩ := h.1.len
  obtain ⟨bo, bc, hv2, hm2⟩ := h.2.len
  subst hv; subst hv2
  obtain ⟨W1, hW1⟩ : ∃ W1, W1 = w.alloc (.cells #[.slice ao ds.length ac, .slice bo act.length bc] 32) := ⟨_, rfl⟩
  have HV : Hid (Var2 W1 w.heap.size (.slice ao ds.length ac) (.slice bo act.length bc) 32) := by show Var2 _ _ _ _ _; rw [hW1]; exact Var2.new _ _ _ _
  have HB : Hid (Below w.heap.size w W1) := by show Below _ _ _; rw [hW1]; exact (Below.refl _ _).alloc (Nat.le_refl _) _
  have hsz : W1.heap.size = w.heap.size + 1 := by rw [hW1]; simp
  have HSZ := Lib.hid hsz; clear hsz
  have HW1 := Lib.hid hW1; clear hW1
  have hl := modT_actlen hT
  have HLD := Lib.hid (numW_deg hT)
  have HJ := Lib.hid (fun (v : Value) (B : Nat) (W : World) (h : OwnW W B v (act.map numW)) => joinW_c v (act.map numW) [59] B W h (by rw [List.length_map]; omega) (fun x hx => by obtain ⟨y, hy, rfl⟩ := List.mem_map.1 hx; have := numW_row hT y hy; omega) (by simp))
  have HDD := Lib.hid (modT_deg2 hT)
  have HRR := Lib.hid (modT_row2 hT)
  have HJL := Lib.hid (mdJ_len hT act.length)
  have HX : Hid (mdT ds act act.length = (numW ds ++ [124]) ++ Go.Lib.join (act.map numW) [59]) := by show _ = _; unfold mdT; rw [List.take_length]
  have H := Lib.hid h
  rw [HX.out]
  have hjl := HJL.out
  rw [List.take_length] at hjl
  have hld := HLD.out
  have HA1 : Hid (∀ W, (Op.stringOp .add (bs (numW ds)) ⟨#[124]⟩).run Tryz.prog W = .ok (.string (bs (numW ds ++ [124]))) W) := fun W => cat_run (numW ds) [124] (by simp only [List.length_cons, List.length_nil]; omega) Tryz.prog W
  have HA2 := Lib.hid (fun W => cat_run (numW ds ++ [124]) (Go.Lib.join (act.map numW) [59]) (by simp only [List.length_append, List.length_cons, List.length_nil]; omega) Tryz.prog W)
  have C0 := Lib.hid (fun (v : Value) (W : World) (h : IntS W.heap v ds) => numbersText_c v ds W h (modT_deg2 hT))
  clear h hT HX hjl hld HLD HJL HDD
  generalize (numW ds ++ [124]) ++ Go.Lib.join (act.map numW) [59] = R3 at *
  generalize numW ds ++ [124] = R2 at *
  generalize Go.Lib.join (act.map numW) [59] = R1 at *
  generalize numW ds = R0 at *
  go_enter Tryz.func31, Tryz.ntmps31
  go_wp2_with fail
  go_loopw [3, 10] (fun y i wr => ∃ m : Nat, m ≤ act.length ∧ i = .int .i64 m ∧ OwnW wr W1.heap.size y ((act.take m).map numW) ∧ Below W1.heap.size W1 wr) (fun _ i _ => act.length - (intOf i).toNat)
  case atStart =>
    refine ⟨0, Nat.zero_le _, rfl, ?_, ?_⟩
    · have := ownW_empty (w := W1) (Nat.le_refl _)
      rw [← HW1.out, ← HSZ.out]
      exact this
    · have := (Below.refl W1.heap.size W1).alloc (Nat.le_refl _) (.cells #[] 9)
      rw [← HW1.out]
      exact this
  case round =>
    obtain ⟨m, hm3, rfl, hy, hb3⟩ := hrel
    obtain ⟨ya, yn, yc, rfl⟩ := own_shape hy
    have HY := Lib.hid hy; have HB3 := Lib.hid hb3
    have hsz3 := hb3.size
    clear hy hb3
    by_cases hml : m < act.length
    · obtain ⟨b4, o4, q4, u4, hv4, hc4, hu4, -⟩ := H.out.2.at m hml
      simp only [Value.slice.injEq, true_and] at hv4
      obtain ⟨rfl, rfl⟩ := hv4
      have HBW := Lib.hid (HB.out.trans (HB3.out.mono HB.out.size))
      have hc := (HBW.out.cell (World.block_lt_of_cell? _ _ hc4)).trans hc4
      have hu := hu4.same HBW.out.block
      clear hc4 hu4
      have HTK := Lib.hid (map_take_succ numW act m hml)
      have HLN := Lib.hid (show ((act.take m).map numW).length ≤ 4398046511104 by rw [List.length_map, List.length_take]; omega)
      have C := Lib.hid (numbersText_c u4 _ wr hu (HRR.out _ (List.getElem_mem hml)).1)
      obtain ⟨ra, rc, rfl, -⟩ := hu.len
      clear hu
      generalize act[m] = r at *
      generalize numW r = t at *
      go_wp2_with fail
      refine C.out.mono ?_
      rintro e w1 ⟨rfl, hx1⟩
      have HY1 := Lib.hid (HY.out.same hx1.block); have HB1 := Lib.hid (HB3.out.trans (hx1.mono hsz3))
      have hsz4 := HB1.out.size
      clear hx1
      go_wp2_with (at_builtin; refine append_word (w := w1) rfl _ _ rfl _ _ _ _ HY1.out rfl HB1.out hsz4 _ rfl (by simp) HLN.out ?_; intro v' w' hown' hbl' _ _; obtain ⟨pv, nv, cv, rfl⟩ := own_shape hown')
      go_roundw
      case rel => exact ⟨m + 1, by omega, by go_num, by rw [HTK.out]; exact hown', hbl'⟩
      case measure => simp [intOf]; omega
    · obtain rfl : m = act.length := by omega
      rw [List.take_length] at HY
      have HVR := HV.out.below HB3.out (by have := HSZ.out; omega)
      have k0 := HVR.c0
      have HBW := Lib.hid (HB.out.trans (HB3.out.mono HB.out.size))
      have C := Lib.hid (C0.out _ wr (H.out.1.same HBW.out.block))
      have hadd1 := HA1.out; have hadd2 := HA2.out
      go_wp2_with (first | (go_at_call 52; refine C.out.mono ?_; rintro e w1 ⟨rfl, hx1⟩; have HY1 := Lib.hid (HY.out.same hx1.block); have HB1 := Lib.hid (HBW.out.trans (hx1.mono HBW.out.size)); clear hx1) | (go_at_call 53; refine (HJ.out _ _ _ HY1.out).mono ?_; rintro e w2 ⟨rfl, hx2⟩))
      go_ret
      exact ⟨rfl, HB1.out.trans (hx2.mono HB1.out.size)⟩
theorem isMod_T0 {ds : List Int} {act : List (List Int)} (h : isMod ds act = true) : modT ds act = true := by
  simp only [isMod, Bool.and_eq_true] at h; exact h.1
end
section

theorem join_spl (c : UInt8) : ∀ s : List UInt8, Go.Lib.join (spl c s) [c] = s
  | [] => by simp [spl, Go.Lib.join_one]
  | b :: l => by
    have ih := join_spl c l
    have hne := spl_ne c l
    rw [spl]
    cases hq : spl c l with
    | nil => exact absurd hq hne
    | cons x r =>
      rw [hq, Go.Lib.join_cons] at ih
      by_cases e : b = c
      · subst e
        rw [if_pos rfl, Go.Lib.join_cons, List.nil_append, ← ih]
        rfl
      · rw [if_neg e, Go.Lib.join_cons]
        show b :: x ++ _ = _
        rw [List.cons_append, ← ih]; rfl
theorem mem_spl {c b : UInt8} (hb : b ≠ c) : ∀ s : List UInt8, b ∈ s → ∃ w ∈ spl c s, b ∈ w
  | [], h => by cases h
  | a :: l, h => by
    rw [spl]
    have hne := spl_ne c l
    by_cases e : a = c
    · rw [if_pos e]
      rcases List.mem_cons.1 h with h | h
      · exact absurd (h.trans e) hb
      · obtain ⟨w, hw, hbw⟩ := mem_spl hb l h
        exact ⟨w, List.mem_cons_of_mem _ hw, hbw⟩
    · rw [if_neg e]
      cases hq : spl c l with
      | nil => exact absurd hq hne
      | cons x r =>
        rcases List.mem_cons.1 h with h | h
        · exact ⟨_, List.mem_cons_self .., by rw [h]; exact List.mem_cons_self ..⟩
        · obtain ⟨w, hw, hbw⟩ := mem_spl hb l h
          rw [hq] at hw
          rcases List.mem_cons.1 hw with rfl | hw
          · exact ⟨_, List.mem_cons_self .., List.mem_cons_of_mem _ hbw⟩
          · exact ⟨w, List.mem_cons_of_mem _ hw, hbw⟩
theorem spl_none {c : UInt8} : ∀ s : List UInt8, c ∉ s → spl c s = [s]
  | [], _ => rfl
  | a :: l, h => by
    rw [spl, if_neg (fun e => h (by rw [e]; exact List.mem_cons_self ..)), spl_none l fun e => h (List.mem_cons_of_mem _ e)]
    rfl
theorem spl_cut {c : UInt8} : ∀ (p l : List UInt8), c ∉ p → spl c (p ++ c :: l) = p :: spl c l
  | [], l, _ => by rw [List.nil_append, spl, if_pos rfl]
  | a :: p, l, h => by
    rw [List.cons_append, spl, if_neg (fun e => h (by rw [e]; exact List.mem_cons_self ..)), spl_cut p l fun e => h (List.mem_cons_of_mem _ e)]
    rfl
theorem index_c (c : UInt8) : ∀ s : List UInt8, (c ∉ s ∧ Go.Lib.index s [c] = -1) ∨ ∃ p l, s = p ++ c :: l ∧ c ∉ p ∧ Go.Lib.index s [c] = p.length
  | [] => .inl ⟨by simp, by simp [Go.Lib.index]⟩
  | a :: s => by
    by_cases e : a = c
    · right
      refine ⟨[], s, by simp [e], by simp, ?_⟩
      rw [Go.Lib.index]; simp [List.isPrefixOf, e]
    · have hp : ([c] : List UInt8).isPrefixOf (a :: s) = false := by simp [List.isPrefixOf, Ne.symm e]
      have hix : Go.Lib.index (a :: s) [c] = if Go.Lib.index s [c] == -1 then -1 else Go.Lib.index s [c] + 1 := by rw [Go.Lib.index, hp]; simp
      rcases index_c c s with ⟨h1, h2⟩ | ⟨p, l, h1, h2, h3⟩
      · left
        refine ⟨by simp [Ne.symm e, h1], by rw [hix, h2]; rfl⟩
      · right
        refine ⟨a :: p, l, by rw [h1]; rfl, by simp [Ne.symm e, h2], ?_⟩
        rw [hix, h3, if_neg (by rw [beq_iff_eq]; omega)]; simp
theorem cut_c (c : UInt8) (s : List UInt8) : (c ∉ s ∧ Go.Lib.cut s [c] = (s, [], false)) ∨ ∃ p l, s = p ++ c :: l ∧ c ∉ p ∧ Go.Lib.cut s [c] = (p, l, true) := by
  rcases index_c c s with ⟨h1, h2⟩ | ⟨p, l, h1, h2, h3⟩
  · left; exact ⟨h1, by unfold Go.Lib.cut; rw [h2]; rfl⟩
  · right
    refine ⟨p, l, h1, h2, ?_⟩
    unfold Go.Lib.cut
    rw [h3, if_pos (by omega)]
    simp [h1]
def nOk (x : List UInt8) : Bool := (spl 44 x).all readB
def nV (x : List UInt8) : List Int := (spl 44 x).map fun w => (valN w : Int)
def rN (x : List UInt8) : List Int := (spl 44 x).map valW
def nV0 (x : List UInt8) : List Int := if nOk x then nV x else []
def dOk (D : List UInt8) : Bool := (D == []) || nOk D
def dV (D : List UInt8) : List Int := if D = [] then [] else nV0 D
def dR (D : List UInt8) : List Int := if D = [] then [] else rN D
def aParts (A : List UInt8) : List (List UInt8) := if A = [] then [] else spl 59 A
def aOk (A : List UInt8) : Bool := (aParts A).all nOk
def aV (A : List UInt8) : List (List Int) := (aParts A).map nV0
def aR (A : List UInt8) : List (List Int) := (aParts A).map rN
/-- The program's answer, the text being cut into D, A. -/
def prOk (t D A : List UInt8) : Bool := dOk D && aOk A && isMod (dV D) (aV A) && (mdT (dV D) (aV A) (aV A).length == t)
/-- The reference's. -/
def pmoB (t : List UInt8) : Bool := decide ((spl 124 t).length = 2) && isMod (dR ((spl 124 t).getD 0 [])) (aR ((spl 124 t).getD 1 []))
def pmoD (t : List UInt8) : List Int := if pmoB t then dR ((spl 124 t).getD 0 []) else []
def pmoA (t : List UInt8) : List (List Int) := if pmoB t then aR ((spl 124 t).getD 1 []) else []
def pmoC (t : List UInt8) : Int := if pmoB t then 0 else 6
theorem nV_rN {x : List UInt8} (h : nOk x = true) (hs : ∀ y ∈ nV x, y ≤ 999999999) : rN x = nV x := by
  simp only [nOk, List.all_eq_true] at h
  exact List.map_congr_left fun w hw => valW_of (h w hw) (by have := hs _ (List.mem_map_of_mem (f := fun w => (valN w : Int)) hw); omega)
theorem rN_nV {x : List UInt8} (hs : ∀ y ∈ rN x, 0 ≤ y) : nOk x = true ∧ nV x = rN x := by
  have h : ∀ w ∈ spl 44 x, readB w = true ∧ valW w = valN w := fun w hw => valW_in (hs _ (List.mem_map_of_mem hw))
  exact ⟨by simp only [nOk, List.all_eq_true]; exact fun w hw => (h w hw).1, List.map_congr_left fun w hw => (h w hw).2.symm⟩
theorem numW_nV {x : List UInt8} (h : nOk x = true) : numW (nV x) = x := by
  simp only [nOk, List.all_eq_true] at h
  unfold numW nV
  rw [List.map_map]
  have : (spl 44 x).map (dec ∘ fun w => (valN w : Int)) = spl 44 x := by
    conv => rhs; rw [← List.map_id (spl 44 x)]
    apply List.map_congr_left
    intro w hw
    have hr := h w hw
    simp only [readB, Bool.and_eq_true] at hr
    show dec (valN w : Int) = w
    unfold dec
    rw [Int.toNat_natCast]
    exact can_dec _ w rfl hr.2
  rw [this]
  exact join_spl 44 x
theorem nOk_no {x : List UInt8} (h : nOk x = true) (b : UInt8) (hb : b ≠ 44) (hd : digB b = false) : b ∉ x := fun hm => by
  obtain ⟨w, hw, hbw⟩ := mem_spl hb x hm
  simp only [nOk, List.all_eq_true] at h
  have hr := h w hw
  simp only [readB, canB, Bool.and_eq_true, List.all_eq_true] at hr
  have := hr.2.1.2 b hbw
  rw [hd] at this; cases this
theorem aOk_no {A : List UInt8} (h : aOk A = true) : (124 : UInt8) ∉ A := fun hm => by
  have hA : A ≠ [] := by rintro rfl; cases hm
  unfold aOk aParts at h
  rw [if_neg hA] at h
  obtain ⟨w, hw, hbw⟩ := mem_spl (c := 59) (b := 124) (by decide) A hm
  rw [List.all_eq_true] at h
  exact nOk_no (h w hw) 124 (by decide) (by decide) hbw
theorem mdT_has (ds : List Int) (act : List (List Int)) (m : Nat) : (124 : UInt8) ∈ mdT ds act m := by unfold mdT; simp
/-- Both ways of reading agree where one of them takes the text. -/
theorem mod_read {D A : List UInt8} (hD : dOk D = true) (hA : aOk A = true) (hM : isMod (dV D) (aV A) = true) : dR D = dV D ∧ aR A = aV A := by
  have hT := isMod_T0 hM
  constructor
  · unfold dR dV nV0
    unfold dOk at hD
    by_cases e : D = []
    · rw [if_pos e, if_pos e]
    · have h1 : nOk D = true := by simpa [e] using hD
      rw [if_neg e, if_neg e, if_pos h1]
      refine nV_rN h1 fun y hy => ?_
      have := (modT_deg2 hT).2 y (by unfold dV nV0; rw [if_neg e, if_pos h1]; exact hy)
      omega
  · unfold aR aV
    unfold aOk at hA
    rw [List.all_eq_true] at hA
    refine List.map_congr_left fun x hx => ?_
    have h1 := hA x hx
    have e : nV0 x = nV x := if_pos h1
    rw [e]
    refine nV_rN h1 fun y hy => ?_
    have := (modT_row2 hT (nV0 x) (List.mem_map_of_mem hx)).1.2 y (by rw [e]; exact hy)
    omega
theorem mod_read2 {D A : List UInt8} (hM : isMod (dR D) (aR A) = true) : dOk D = true ∧ aOk A = true ∧ dR D = dV D ∧ aR A = aV A := by
  have hT := isMod_T0 hM
  have h1 : dOk D = true ∧ dR D = dV D := by
    by_cases e : D = []
    · simp [dOk, dR, dV, e]
    · have h2 := rN_nV (x := D) fun y hy => by
        have := (modT_deg2 hT).2 y (by unfold dR; rw [if_neg e]; exact hy)
        omega
      exact ⟨by simp [dOk, h2.1], by unfold dR dV nV0; rw [if_neg e, if_neg e, if_pos h2.1, h2.2]⟩
  have h2 : ∀ x ∈ aParts A, nOk x = true ∧ nV x = rN x := fun x hx => rN_nV fun y hy => by
    have := (modT_row2 hT (rN x) (List.mem_map_of_mem hx)).1.2 y hy
    omega
  refine ⟨h1.1, ?_, h1.2, ?_⟩
  · unfold aOk; rw [List.all_eq_true]; exact fun x hx => (h2 x hx).1
  · exact List.map_congr_left fun x hx => by unfold nV0; rw [if_pos (h2 x hx).1, (h2 x hx).2]
theorem mdT_back {D A : List UInt8} (hD : dOk D = true) (hA : aOk A = true) : mdT (dV D) (aV A) (aV A).length = D ++ 124 :: A := by
  have h1 : numW (dV D) = D := by
    unfold dV nV0
    by_cases e : D = []
    · rw [if_pos e, e]; rfl
    · have h1 : nOk D = true := by unfold dOk at hD; simpa [e] using hD
      rw [if_neg e, if_pos h1, numW_nV h1]
  have h2 : Go.Lib.join ((aV A).map numW) [59] = A := by
    unfold aV
    unfold aOk at hA
    rw [List.all_eq_true] at hA
    rw [List.map_map]
    have : (aParts A).map (numW ∘ nV0) = aParts A := by
      conv => rhs; rw [← List.map_id (aParts A)]
      apply List.map_congr_left
      intro x hx
      show numW (nV0 x) = x
      rw [show nV0 x = nV x from if_pos (hA x hx), numW_nV (hA x hx)]
    rw [this]
    unfold aParts
    by_cases e : A = []
    · rw [if_pos e, e]; rfl
    · rw [if_neg e]; exact join_spl 59 A
  unfold mdT
  rw [List.take_length, h1, h2]
  simp
/-- They agree. -/
theorem pmo_same (t : List UInt8) : prOk t (Go.Lib.cut t [124]).1 (Go.Lib.cut t [124]).2.1 = pmoB t ∧ (pmoB t = true → dV (Go.Lib.cut t [124]).1 = pmoD t ∧ aV (Go.Lib.cut t [124]).2.1 = pmoA t) := by
  rcases cut_c 124 t with ⟨h1, h2⟩ | ⟨D, A, h1, h2, h3⟩
  · rw [h2]
    have hs := spl_none t h1
    have e : pmoB t = false := by unfold pmoB; rw [hs]; rfl
    rw [e]
    refine ⟨?_, fun h => by cases h⟩
    cases hp : prOk t t []
    · rfl
    · simp only [prOk, Bool.and_eq_true, beq_iff_eq] at hp
      have := mdT_has (dV t) (aV []) (aV []).length
      rw [hp.2] at this
      exact absurd this h1
  · rw [h3]
    have hs : spl 124 t = D :: spl 124 A := by rw [h1]; exact spl_cut D A h2
    show prOk t D A = pmoB t ∧ (pmoB t = true → dV D = pmoD t ∧ aV A = pmoA t)
    by_cases hA : (124 : UInt8) ∈ A
    · have hl : (spl 124 A).length ≠ 1 := fun e => by
        match hq : spl 124 A, e with
        | [w], _ =>
          have := spl_part 124 A w (by rw [hq]; exact List.mem_cons_self ..)
          have hj := join_spl 124 A
          rw [hq, Go.Lib.join_one] at hj
          rw [hj] at this
          exact this.2 hA
      have e : pmoB t = false := by
        unfold pmoB; rw [hs, List.length_cons, decide_eq_false (by omega)]; rfl
      rw [e]
      refine ⟨?_, fun h => by cases h⟩
      cases hp : prOk t D A
      · rfl
      · simp only [prOk, Bool.and_eq_true] at hp
        exact absurd hA (aOk_no hp.1.1.2)
    · have hsA := spl_none A hA
      rw [hsA] at hs
      have e0 : (spl 124 t).getD 0 [] = D := by rw [hs]; rfl
      have e1 : (spl 124 t).getD 1 [] = A := by rw [hs]; rfl
      have e2 : pmoB t = isMod (dR D) (aR A) := by unfold pmoB; rw [e0, e1, hs]; simp
      have hkey : pmoB t = true → prOk t D A = true ∧ dV D = dR D ∧ aV A = aR A := fun h => by
        rw [e2] at h
        obtain ⟨k1, k2, k3, k4⟩ := mod_read2 h
        refine ⟨?_, k3.symm, k4.symm⟩
        simp only [prOk, Bool.and_eq_true, beq_iff_eq]
        exact ⟨⟨⟨k1, k2⟩, by rw [← k3, ← k4]; exact h⟩, by rw [mdT_back k1 k2, h1]⟩
      constructor
      · cases hb : pmoB t
        · cases hp : prOk t D A
          · rfl
          · simp only [prOk, Bool.and_eq_true] at hp
            obtain ⟨k1, k2⟩ := mod_read hp.1.1.1 hp.1.1.2 hp.1.2
            rw [e2, k1, k2, hp.1.2] at hb; cases hb
        · exact (hkey hb).1
      · intro h
        obtain ⟨_, k1, k2⟩ := hkey h
        unfold pmoD pmoA
        rw [if_pos h, if_pos h, e0, e1]
        exact ⟨k1, k2⟩
end
section
open Go.RowKit Go.Sort

set_option maxRecDepth 100000 in
set_option maxHeartbeats 1000000 in
theorem readNumbers_c (x : List UInt8) (hl : x.length ≤ 1048576) (w : World) (hG : Glob w) :
    Calls Tryz.prog 28 #[.string (bs x)] w fun e w' => ∃ v, e = .returned (.tuple #[v, .bool (nOk x)]) ∧ OwnI w' w.heap.size v (nV0 x) ∧ Below w.heap.size w w' := by
  have hb0 : Below w.heap.size w (w.alloc (.cells #[] 2)) := (Below.refl _ _).alloc (Nat.le_refl _) _
  have ho0 := ownI_empty (w := w) (B := w.heap.size) (Nat.le_refl _)
  have HC := Lib.hid (fun W (hW : Glob W) => split_c 44 x (by omega) W hW)
  have HWL := Lib.hid (spl_part 44 x)
  have hle := spl_le 44 x
  have HG := Lib.hid hG; have HB0 := Lib.hid hb0; have HO0 := Lib.hid ho0
  obtain ⟨OK, hOK⟩ : ∃ b, b = nOk x := ⟨_, rfl⟩
  have HOK : Hid (OK = (spl 44 x).all readB) := hOK
  have HV : Hid (nV0 x = if OK then (spl 44 x).map fun w => (valN w : Int) else []) := by show _ = _; rw [hOK]; rfl
  rw [← hOK]
  clear hG hb0 ho0 hOK
  generalize nV0 x = R at *
  generalize spl 44 x = ws at *
  generalize bs x = s at *
  generalize x.length = n at *
  go_enter Tryz.func28, Tryz.ntmps28
  go_wp2_with (go_at_call 29; refine (HC.out _ (HG.out.below HB0.out)).mono ?_; rintro e w1 ⟨g, rfl, hgB, hWS, hb1⟩; have HB1 := Lib.hid hb1; have HO1 := Lib.hid (HO0.out.same hb1.block); have HW1 := Lib.hid hWS; have HBB := Lib.hid (HB0.out.trans (hb1.mono HB0.out.size)); clear hb1 hWS)
  go_loopw [4, 13] (fun o i wr => ∃ k : Nat, k ≤ ws.length ∧ i = .int .i64 k ∧ (∀ j (hj : j < ws.length), j < k → readB ws[j] = true) ∧ OwnI wr w.heap.size o ((ws.take k).map fun w => (valN w : Int)) ∧ WordsAt wr g ws ∧ Below w.heap.size w wr) (fun _ i _ => ws.length - (intOf i).toNat)
  case atStart => exact ⟨0, Nat.zero_le _, rfl, (fun _ _ h => by omega), HO1.out, HW1.out, HBB.out⟩
  case round =>
    obtain ⟨k, hk, rfl, hpre, ho, hW, hb⟩ := hrel
    have hsz := hb.size
    obtain ⟨ya, yn, yc, rfl⟩ := own_shape ho
    have HO := Lib.hid ho; have HB := Lib.hid hb; have HPRE := Lib.hid hpre; have HW := Lib.hid hW
    by_cases hkl : k < ws.length
    · have hc := hW.cell k hkl
      have hki : (k : Int) < (ws.length : Int) := by omega
      have hwl := (HWL.out _ (List.getElem_mem hkl)).1
      have RD := Lib.hid (readDecimal_c ws[k] (by omega) wr (HG.out.same hb.block))
      cases hrb : readB ws[k]
      · have E := Lib.hid (HOK.out.trans (all_no readB ws k hkl hrb))
        rw [hrb] at RD
        clear hrb ho hb hpre hW hwl
        generalize bs ws[k] = q at *
        go_wp2_with (go_at_call 42; refine RD.out.mono ?_; rintro e w2 ⟨m, rfl, -, hb2⟩)
        go_ret2
        exact ⟨_, by rw [E.out]; rfl, by rw [HV.out, E.out]; exact OwnI.nil _ _, HB.out.trans (hb2.mono hsz)⟩
      · rw [hrb] at RD
        have HRB := Lib.hid hrb
        have HS := Lib.hid (map_take_one (fun w => (valN w : Int)) ws k hkl)
        have HP2 : Hid (∀ j (hj : j < ws.length), j < k + 1 → readB ws[j] = true) := fun j hj hjk => by
          by_cases e : j = k
          · subst e; exact HRB.out
          · exact HPRE.out j hj (by omega)
        have HN : Hid (((ws.take k).map fun w => (valN w : Int)).length ≤ 4398046511104) := by show _ ≤ _; rw [List.length_map, List.length_take]; omega
        clear hrb ho hb hpre hW hwl
        generalize bs ws[k] = q at *
        generalize (valN ws[k] : Int) = u at *
        go_wp2_with (first | (go_at_call 42; refine RD.out.mono ?_; rintro e w2 ⟨m, rfl, hm, hb2⟩; obtain rfl : m = u := hm rfl; have HB2 := Lib.hid (HB.out.trans (hb2.mono hsz)); have HO2 := Lib.hid (HO.out.same hb2.block); have HW2 := Lib.hid (HW.out.same hb2.block); clear hb2 hm) | (at_builtin; refine append_int (w := w2) rfl _ _ rfl _ _ _ _ HO2.out rfl HB2.out HB2.out.size _ rfl (by simp) HN.out ?_; intro v' w' hown' hbl' _ hk4; obtain ⟨pv, nv, cv, rfl⟩ := own_shape hown'))
        go_roundw
        case rel => exact ⟨k + 1, by omega, by go_num, HP2.out, by rw [HS.out]; exact hown', HW2.out.app HO2.out hk4 (by decide), hbl'⟩
        case measure => simp [intOf]; omega
    · obtain rfl : k = ws.length := by omega
      have E : Hid (OK = true) := HOK.out.trans (all_take readB ws fun j hj => HPRE.out j hj hj)
      clear ho hb hpre hW
      go_wp2_with fail
      go_ret2
      have HO' := HO.out
      rw [List.take_length] at HO'
      exact ⟨_, by rw [E.out]; rfl, by rw [HV.out, E.out]; exact HO', HB.out⟩
theorem WordsAt.setVar {w : World} {g G j t : Nat} {ws : List (List UInt8)} {x y : Value} (h : WordsAt w g ws) (k : Var2 w G x y t) (ne : 9 ≠ t) (u : Value) : WordsAt (w.setCell ⟨G, j, none⟩ u) g ws := by
  have hne : g ≠ G := fun e => by
    subst e
    have := (show w.heap[g]? = _ from h).symm.trans (show w.heap[g]? = _ from k)
    simp only [Option.some.injEq, Obj.cells.injEq] at this
    exact ne this.2.1
  exact (Below.heap_setCell _ _ _ _ (by show g ≠ G; exact hne)).trans h
/-- strings.Cut at '|'. -/
theorem cutS_c (t : List UInt8) (hl : t.length ≤ 1048576) (w : World) (hG : Glob w) :
    Calls Tryz.prog 27 #[.string (bs t), .string ⟨#[124]⟩] w fun e w' => ∃ f, e = .returned (.tuple #[.string (bs (Go.Lib.cut t [124]).1), .string (bs (Go.Lib.cut t [124]).2.1), .bool f]) ∧ Below w.heap.size w w' := by
  obtain ⟨m, hm⟩ := hG.max
  refine (Go.Proofs.Tryz.strings_Cut (bs t) ⟨#[124]⟩ m w (by rw [bs_size]; omega) hm).mono ?_
  rintro e w' ⟨rfl, n, rfl⟩
  rw [bs_data]
  exact ⟨_, rfl, below_drewN n (Below.refl _ _)⟩
theorem cut_len (t : List UInt8) : (Go.Lib.cut t [124]).1.length ≤ t.length ∧ (Go.Lib.cut t [124]).2.1.length ≤ t.length := by
  rcases cut_c 124 t with ⟨_, h⟩ | ⟨p, l, h1, _, h⟩
  · rw [h]; simp
  · rw [h, h1]; simp; omega
theorem all_succ {α : Type} (p : α → Bool) (l : List α) (k : Nat) (hk : k < l.length) : (l.take (k + 1)).all p = ((l.take k).all p && p l[k]) := by
  rw [List.take_succ_eq_append_getElem hk, List.all_append]; simp
set_option maxRecDepth 100000 in
set_option maxHeartbeats 4000000 in
theorem implParseModule_c (t : List UInt8) (hl : t.length ≤ 1048576) (w : World) (hG : Glob w) :
    Calls Tryz.prog 11 #[.string (bs t)] w fun e w' => ∃ d a us, e = .returned (.tuple #[.agg #[d, a], .int .i64 (pmoC t)]) ∧ OwnM w' w.heap.size d a us (pmoD t) (pmoA t) ∧ Below w.heap.size w w' := by
  have hb0 : Below w.heap.size w (w.alloc (.cells #[.slice none 0 0, .slice none 0 0] 32)) := (Below.refl _ _).alloc (Nat.le_refl _) _
  have k0 := Var2.new w (.slice none 0 0) (.slice none 0 0) 32
  have hsz0 : (w.alloc (.cells #[.slice none 0 0, .slice none 0 0] 32)).heap.size = w.heap.size + 1 := by simp
  have C := Lib.hid (cutS_c t hl _ (hG.below hb0))
  have hcl := cut_len t
  have hsame := pmo_same t
  obtain ⟨D, hD⟩ : ∃ D, D = (Go.Lib.cut t [124]).1 := ⟨_, rfl⟩
  obtain ⟨A, hA⟩ : ∃ A, A = (Go.Lib.cut t [124]).2.1 := ⟨_, rfl⟩
  rw [← hD, ← hA] at C hcl hsame
  have HS1 : Hid (prOk t D A = pmoB t) := hsame.1
  have HS2 : Hid (pmoB t = true → dV D = pmoD t ∧ aV A = pmoA t) := hsame.2
  have HPC : Hid (pmoC t = if pmoB t = true then 0 else 6) := rfl
  have HPN : Hid (pmoB t = false → pmoD t = [] ∧ pmoA t = []) := fun h => by unfold pmoD pmoA; rw [h]; exact ⟨rfl, rfl⟩
  have RD := Lib.hid (fun W (hW : Glob W) => readNumbers_c D (by omega) W hW)
  have HD0 : Hid (D = [] → (bs D).toList.isEmpty = true ∧ dOk D = true ∧ dV D = []) := fun h => by subst h; exact ⟨bs_isNil, by simp [dOk], rfl⟩
  have HD1 : Hid (D ≠ [] → (bs D).toList.isEmpty = false ∧ dOk D = nOk D ∧ dV D = nV0 D) := fun h => ⟨bs_isEmpty h, by simp [dOk, h], by unfold dV; rw [if_neg h]⟩
  have HA0 : Hid (A = [] → (bs A).toList.isEmpty = true ∧ aOk A = true ∧ aV A = []) := fun h => by subst h; exact ⟨bs_isNil, rfl, rfl⟩
  have HA1 : Hid (A ≠ [] → (bs A).toList.isEmpty = false ∧ aOk A = (spl 59 A).all nOk ∧ aV A = (spl 59 A).map nV0) := fun h => ⟨bs_isEmpty h, by unfold aOk aParts; rw [if_neg h], by unfold aV aParts; rw [if_neg h]⟩
  have SP := Lib.hid (fun W (hW : Glob W) => split_c 59 A (by omega) W hW)
  have HWL := Lib.hid (spl_part 59 A)
  have HLE := Lib.hid (spl_le 59 A)
  have HCL := Lib.hid hcl; have HL := Lib.hid hl; have HG := Lib.hid hG; have HB0 := Lib.hid hb0; have K0 := Lib.hid k0; have HZ0 := Lib.hid hsz0
  have HMT : Hid (∀ ds act, modT ds act = true → (mdT ds act act.length == t) = ((bs (mdT ds act act.length)).toList == (bs t).toList)) := fun ds act _ => by rw [Go.Lib.toList_data, Go.Lib.toList_data, bs_data, bs_data]
  have HPR : Hid (prOk t D A = (dOk D && aOk A && isMod (dV D) (aV A) && (mdT (dV D) (aV A) (aV A).length == t))) := rfl
  clear hcl hsame hD hA hl hG hb0 k0 hsz0
  generalize pmoC t = pc at *
  generalize pmoD t = pd at *
  generalize pmoA t = pa at *
  generalize pmoB t = pb at *
  obtain ⟨dk, hdk⟩ : ∃ b, b = dOk D := ⟨_, rfl⟩
  obtain ⟨ak, hak⟩ : ∃ b, b = aOk A := ⟨_, rfl⟩
  have HDK := Lib.hid hdk; have HAK := Lib.hid hak
  clear hdk hak
  go_enter Tryz.func11, Tryz.ntmps11
  go_wp2_with fail
  refine C.out.mono ?_
  rintro e w1 ⟨f, rfl, hb1⟩
  have K1 := Lib.hid (K0.out.kept hb1.block)
  have HB1 := Lib.hid (HB0.out.trans (hb1.mono HB0.out.size))
  have hz1 : w.heap.size + 1 ≤ w1.heap.size := by have := hb1.size; have := HZ0.out; omega
  clear hb1 C
  obtain ⟨W1, hW1⟩ : ∃ W1, W1 = w1.alloc (.cells #[.slice none 0 0, .slice none 0 0] 32) := ⟨_, rfl⟩
  have HR1 : Hid (Var2 W1 w.heap.size (.slice none 0 0) (.slice none 0 0) 32) := by show Var2 _ _ _ _ _; rw [hW1]; exact K1.out.kept (alloc_old _ _)
  have HV1 : Hid (Var2 W1 w1.heap.size (.slice none 0 0) (.slice none 0 0) 32) := by show Var2 _ _ _ _ _; rw [hW1]; exact Var2.new _ _ _ _
  have HBW : Hid (Below w.heap.size w W1) := by show Below _ _ _; rw [hW1]; exact HB1.out.alloc HB1.out.size _
  have HW1 := Lib.hid hW1
  clear hW1 K1 HB1
  obtain ⟨g, hg⟩ : ∃ g, g = w1.heap.size := ⟨_, rfl⟩
  have hgw : w.heap.size < g := by omega
  rw [← hg] at HV1
  go_upto_if 21 with fail
  rw [← HW1.out, ← hg]
  clear HW1 hg hz1
  go_cut [8] (fun ok wx => ∃ (W : World) (dv : Value), W = wx ∧ ok = .bool dk ∧ OwnI wx w.heap.size dv (dV D) ∧ Var2 wx g dv (.slice none 0 0) 32 ∧ Var2 wx w.heap.size (.slice none 0 0) (.slice none 0 0) 32 ∧ Below w.heap.size w wx)
  case first =>
    by_cases hd : D = []
    · obtain ⟨e1, e2, e3⟩ := HD0.out hd
      have e0 : (!(bs D).toList.isEmpty) = false := by rw [e1]; rfl
      rw [e0]
      obtain rfl : dk = true := HDK.out.trans e2
      have E3 := Lib.hid e3
      clear e2 e3 hd HD0 HD1 HA0 HA1
      generalize bs D = sd at *
      go_wp2_with fail
      go_meet
      exact ⟨_, .slice none 0 0, rfl, rfl, by rw [E3.out]; exact OwnI.nil _ _, HV1.out, HR1.out, HBW.out⟩
    · obtain ⟨e1, e2, e3⟩ := HD1.out hd
      have e0 : (!(bs D).toList.isEmpty) = true := by rw [e1]; rfl
      rw [e0]
      have RD := Lib.hid (RD.out W1 (HG.out.same HBW.out.block))
      have E3 := Lib.hid e3; have E2 := Lib.hid (HDK.out.trans e2)
      clear e2 e3 hd HD0 HD1 HA0 HA1
      generalize bs D = sd at *
      generalize nOk D = nk at *
      generalize nV0 D = nv at *
      obtain rfl : dk = nk := E2.out
      go_wp2_with (go_at_call 28; refine RD.out.mono ?_; rintro e w2 ⟨v, rfl, hv, hb2⟩; obtain ⟨pa1, pn1, pc1, rfl⟩ := own_shape hv; have V2 := HV1.out.kept hb2.block; have d0 := V2.c0; have f0 := V2.free 0; have HV2 := Lib.hid V2; have HR2 := Lib.hid (HR1.out.kept hb2.block); have HB2 := Lib.hid (HBW.out.trans (hb2.mono HBW.out.size)); have HO2 := Lib.hid (own_base hv HBW.out.size); clear V2 hv hb2)
      go_meet
      exact ⟨_, _, rfl, rfl, by rw [E3.out]; exact OwnI.setVar HO2.out HV2.out (by decide) _, HV2.out.set0 _, HR2.out.setFar _ (by show w.heap.size ≠ g; omega) _, HB2.out.setCell (by show w.heap.size ≤ g; omega) _⟩
  case rest =>
    obtain ⟨W2, dv, hWe, rfl, hdv, hV2, hR2, hb2⟩ := hcut
    subst hWe
    obtain ⟨da, dn, dc, rfl⟩ := own_shape hdv
    have HDV := Lib.hid hdv; have HV2 := Lib.hid hV2; have HR2 := Lib.hid hR2; have HB2 := Lib.hid hb2
    clear hdv hV2 hR2 hb2 HV1 HR1 HBW HD0 HD1 RD
    go_upto_if 29 with fail
    go_cut [8] (fun ok wx => ∃ (W : World) (av : Value) (us : List Value), W = wx ∧ ok = .bool (dk && ak) ∧ OwnM wx w.heap.size (.slice da dn dc) av us (dV D) (aV A) ∧ Var2 wx g (.slice da dn dc) av 32 ∧ Var2 wx w.heap.size (.slice none 0 0) (.slice none 0 0) 32 ∧ Below w.heap.size w wx)
    case first =>
      by_cases ha : A = []
      · obtain ⟨e1, e2, e3⟩ := HA0.out ha
        have e0 : (!(bs A).toList.isEmpty) = false := by rw [e1]; rfl
        rw [e0]
        obtain rfl : ak = true := HAK.out.trans e2
        have E3 := Lib.hid e3
        clear e2 e3 ha HA0 HA1
        generalize bs A = sa at *
        go_wp2_with fail
        go_meet
        exact ⟨_, .slice none 0 0, [], rfl, by simp, by rw [E3.out]; exact ⟨HDV.out, ownU_nil0 _ _, fun u hu => by cases hu⟩, HV2.out, HR2.out, HB2.out⟩
      · obtain ⟨e1, e2, e3⟩ := HA1.out ha
        have e0 : (!(bs A).toList.isEmpty) = true := by rw [e1]; rfl
        rw [e0]
        have SPW := Lib.hid (SP.out W2 (HG.out.same HB2.out.block))
        have E3 := Lib.hid e3; have E2 := Lib.hid (HAK.out.trans e2)
        have hle := HLE.out; have hcl := HCL.out; have hl := HL.out
        clear e2 e3 ha HA0 HA1 SP
        generalize spl 59 A = ws at *
        have hwl : ∀ x ∈ ws, x.length ≤ 1048576 := fun x hx => by have := (HWL.out x hx).1; omega
        have HWL2 := Lib.hid hwl
        clear HWL hwl
        generalize bs A = sa at *
        go_wp2_with (go_at_call 29; refine SPW.out.mono ?_; rintro e w3 ⟨q, rfl, hqB, hWS, hb3⟩; have HW3 := Lib.hid hWS; have HV3 := Lib.hid (HV2.out.kept hb3.block); have HR3 := Lib.hid (HR2.out.kept hb3.block); have HB3 := Lib.hid (HB2.out.trans (hb3.mono HB2.out.size)); have HM3 : Hid (OwnM w3 w.heap.size (.slice da dn dc) (.slice none 0 0) [] (dV D) []) := ⟨own_same HDV.out hb3.block, ownU_nil0 _ _, fun u hu => by cases hu⟩; clear hWS hb3)
        go_loopw [8, 33] (fun ok i wr => ∃ (k : Nat) (av : Value) (us : List Value), k ≤ ws.length ∧ i = .int .i64 k ∧ ok = .bool (dk && (ws.take k).all nOk) ∧ OwnM wr w.heap.size (.slice da dn dc) av us (dV D) ((ws.take k).map nV0) ∧ Var2 wr g (.slice da dn dc) av 32 ∧ Var2 wr w.heap.size (.slice none 0 0) (.slice none 0 0) 32 ∧ WordsAt wr q ws ∧ Below w.heap.size w wr) (fun _ i _ => ws.length - (intOf i).toNat)
        case atStart => exact ⟨0, .slice none 0 0, [], Nat.zero_le _, rfl, by simp, HM3.out, HV3.out, HR3.out, HW3.out, HB3.out⟩
        case round =>
          clear HM3 HV3 HR3 HW3 HB3
          obtain ⟨k, av, us, hk, rfl, rfl, hM, hV, hR, hW, hb⟩ := hrel
          have hsz := hb.size
          obtain ⟨ya, yn, yc, rfl⟩ := own_shape hM.act.row
          have HM := Lib.hid hM; have HV := Lib.hid hV; have HR := Lib.hid hR; have HW := Lib.hid hW; have HB := Lib.hid hb
          by_cases hkl : k < ws.length
          · have hc := hW.cell k hkl
            have hki : (k : Int) < (ws.length : Int) := by omega
            have RD := Lib.hid (readNumbers_c ws[k] (HWL2.out _ (List.getElem_mem hkl)) wr (HG.out.same hb.block))
            have HS := Lib.hid (map_take_one nV0 ws k hkl)
            have HS2 := Lib.hid (all_succ nOk ws k hkl)
            have HN : Hid (((ws.take k).map nV0).length ≤ 4398046511104) := by show _ ≤ _; rw [List.length_map, List.length_take]; omega
            clear hM hV hR hW hb
            generalize bs ws[k] = s1 at *
            generalize nOk ws[k] = b1 at *
            generalize nV0 ws[k] = r1 at *
            obtain ⟨b0, hb0⟩ : ∃ b, b = (dk && (ws.take k).all nOk) := ⟨_, rfl⟩
            have HB00 := Lib.hid hb0
            rw [← hb0]
            clear hb0
            cases b0
            all_goals
              go_wp2_with (first | (go_at_call 28; refine RD.out.mono ?_; rintro e w4 ⟨v4, rfl, hv4, hb4⟩; obtain ⟨pa4, pn4, pc4, rfl⟩ := own_shape hv4; have V4 := HV.out.kept hb4.block; have d1 := V4.c1; have f1 := V4.free 1; have HV4 := Lib.hid V4; have HR4 := Lib.hid (HR.out.kept hb4.block); have HW4 := Lib.hid (HW.out.same hb4.block); have HM4 := Lib.hid (HM.out.same hb4.block); have HB4 := Lib.hid (HB.out.trans (hb4.mono hsz)); have HO4 := Lib.hid hv4; have HX4 := Lib.hid hb4; have NA := Lib.hid (own_ne_var HM4.out.act.row HV4.out (by decide)); have NR := Lib.hid (own_ne_var HM4.out.act.row HR4.out (by decide)); clear V4 hv4 hb4) | (at_builtin; refine append_rowM (w := w4) (wE := wr) rfl _ _ rfl w.heap.size (.slice da dn dc) _ _ us _ _ _ HM.out rfl HO4.out HX4.out HB.out hsz _ rfl (by simp) HN.out ?_; intro v5 w5 hM5 hb5 _ hk5; obtain ⟨pv, nv5, cv, rfl⟩ := own_shape hM5.act.row; have V5 := HV4.out.same (hk5 _ HV4.out.lt (fun e => NA.out e.symm)); have R5 := HR4.out.same (hk5 _ HR4.out.lt (fun e => NR.out e.symm)); have W5 := HW4.out.app HM4.out.act.row hk5 (by decide); have d5 := V5.c1; have f5 := V5.free 1; have HM5 := Lib.hid hM5; have HV5 := Lib.hid V5; have HR5 := Lib.hid R5; have HW5 := Lib.hid W5; have HB5 := Lib.hid hb5; clear hM5 V5 R5 W5 hb5 hk5))
              go_roundw
              case rel =>
                refine ⟨k + 1, .slice pv nv5 cv, us ++ [.slice pa4 pn4 pc4], by omega, by go_num, ?_, ?_, HV5.out.set1 _, HR5.out.setFar _ (by show w.heap.size ≠ g; omega) _, HW5.out.setVar HV5.out (by decide) _, HB5.out.setCell (by show w.heap.size ≤ g; omega) _⟩
                · rw [HS2.out, ← Bool.and_assoc, ← HB00.out]; simp
                · rw [HS.out]; exact HM5.out.setVar HV5.out (by decide) (by decide) _
              case measure => simp [intOf]; omega
          · obtain rfl : k = ws.length := by omega
            clear hM hV hR hW hb
            have hTL : ws.take ws.length = ws := List.take_length
            rw [hTL] at HM ⊢
            clear hTL
            go_wp2_with fail
            go_meet
            exact ⟨_, _, us, rfl, by rw [E2.out], by rw [E3.out]; exact HM.out, HV.out, HR.out, HB.out⟩
    case rest =>
      obtain ⟨W6, av, us, hWe, rfl, hM, hV, hR, hb⟩ := hcut
      subst hWe
      obtain ⟨ya, yn, yc, rfl⟩ := own_shape hM.act.row
      have HM := Lib.hid hM; have HV := Lib.hid hV; have HR := Lib.hid hR; have HB := Lib.hid hb
      have q0 := hR.c0; have q1 := hR.c1; have qf0 := hR.free 0; have qf1 := hR.free 1
      have p0 := hV.c0; have p1 := hV.c1
      clear hM hV hR hb HDV HV2 HR2 HB2 HA0 HA1 SP HWL HLE
      have HNO : Hid (prOk t D A = false → pc = 6 ∧ pd = [] ∧ pa = []) := fun h => by
        have e : pb = false := HS1.out.symm.trans h
        refine ⟨by rw [HPC.out, e]; rfl, HPN.out e⟩
      have HYES : Hid (prOk t D A = true → pc = 0 ∧ dV D = pd ∧ aV A = pa) := fun h => by
        have e : pb = true := HS1.out.symm.trans h
        refine ⟨by rw [HPC.out, e]; rfl, HS2.out e⟩
      obtain ⟨b0, hb0⟩ : ∃ b, b = (dk && ak) := ⟨_, rfl⟩
      have HB00 : Hid (b0 = (dOk D && aOk A)) := by show _ = _; rw [hb0, HDK.out, HAK.out]
      rw [← hb0]
      clear hb0 HS1 HS2 HPC HPN HDK HAK
      cases b0
      · obtain ⟨rfl, rfl, rfl⟩ := HNO.out (by rw [HPR.out, ← HB00.out]; rfl)
        clear HNO HYES p0 p1
        go_wp2_with fail
        have RR := (HR.out.set0 (.slice none 0 0)).set1 (.slice none 0 0)
        have g0 := RR.c0; have g1 := RR.c1
        exact bodyPost_ret (v := .tuple #[.agg #[.slice none 0 0, .slice none 0 0], .int .i64 6]) (by simp [results, Tryz.results11, go_sem, g0, g1]) rfl
          ⟨_, _, [], rfl, OwnM.nil _ _, (HB.out.setCell (Nat.le_refl _) _).setCell (Nat.le_refl _) _⟩
      · have IM := Lib.hid (isModule_c (.slice da dn dc) (.slice ya yn yc) (dV D) (aV A) W6 HM.out.ints)
        cases hI : isMod (dV D) (aV A)
        · obtain ⟨rfl, rfl, rfl⟩ := HNO.out (by rw [HPR.out, ← HB00.out, hI]; rfl)
          rw [hI] at IM
          clear HNO HYES hI
          go_wp2_with fail
          refine IM.out.mono ?_
          rintro e w7 ⟨rfl, hb7⟩
          have HR7 := Lib.hid (HR.out.kept hb7.block); have HB7 := Lib.hid (HB.out.trans (hb7.mono HB.out.size))
          have q0 := HR7.out.c0; have q1 := HR7.out.c1; have qf0 := HR7.out.free 0; have qf1 := HR7.out.free 1
          clear hb7
          go_wp2_with fail
          have RR := (HR7.out.set0 (.slice none 0 0)).set1 (.slice none 0 0)
          have g0 := RR.c0; have g1 := RR.c1
          exact bodyPost_ret (v := .tuple #[.agg #[.slice none 0 0, .slice none 0 0], .int .i64 6]) (by simp [results, Tryz.results11, go_sem, g0, g1]) rfl
            ⟨_, _, [], rfl, OwnM.nil _ _, (HB7.out.setCell (Nat.le_refl _) _).setCell (Nat.le_refl _) _⟩
        · have hT := isMod_T0 hI
          have MT := Lib.hid (fun W (h : ModS W.heap (.slice da dn dc) (.slice ya yn yc) (dV D) (aV A)) => moduleText_c _ _ (dV D) (aV A) W h hT)
          have hmt := HMT.out (dV D) (aV A) hT
          rw [hI] at IM
          obtain ⟨b1, hb1⟩ : ∃ b, b = (mdT (dV D) (aV A) (aV A).length == t) := ⟨_, rfl⟩
          have HB11 : Hid (prOk t D A = b1) := by show _ = _; rw [HPR.out, ← HB00.out, hI, hb1]; rfl
          rw [← hb1] at hmt
          have te := hmt.symm
          clear hmt hb1 hT hI HMT
          generalize bs (mdT (dV D) (aV A) (aV A).length) = sm at *
          generalize bs t = st at *
          cases b1
          all_goals
            have te0 := congrArg Bool.not te
            simp only [Bool.not_true, Bool.not_false] at te0
            go_wp2_with fail
            refine IM.out.mono ?_
            rintro e w7 ⟨rfl, hb7⟩
            have HR7 := Lib.hid (HR.out.kept hb7.block); have HV7 := Lib.hid (HV.out.kept hb7.block); have HB7 := Lib.hid (HB.out.trans (hb7.mono HB.out.size)); have HM7 := Lib.hid (HM.out.same hb7.block)
            clear hb7 p0 p1
            have p0 := HV7.out.c0; have p1 := HV7.out.c1
            go_wp2_with fail
            refine (MT.out _ HM7.out.ints).mono ?_
            rintro e w8 ⟨rfl, hb8⟩
            have HR8 := Lib.hid (HR7.out.kept hb8.block); have HV8 := Lib.hid (HV7.out.kept hb8.block); have HB8 := Lib.hid (HB7.out.trans (hb8.mono HB7.out.size)); have HM8 := Lib.hid (HM7.out.same hb8.block)
            have q0 := HR8.out.c0; have q1 := HR8.out.c1; have qf0 := HR8.out.free 0; have qf1 := HR8.out.free 1
            clear hb8 p0 p1
            have p0 := HV8.out.c0; have p1 := HV8.out.c1
          · obtain ⟨rfl, rfl, rfl⟩ := HNO.out HB11.out
            go_wp2_with fail
            have RR := (HR8.out.set0 (.slice none 0 0)).set1 (.slice none 0 0)
            have g0 := RR.c0; have g1 := RR.c1
            exact bodyPost_ret (v := .tuple #[.agg #[.slice none 0 0, .slice none 0 0], .int .i64 6]) (by simp [results, Tryz.results11, go_sem, g0, g1]) rfl
              ⟨_, _, [], rfl, OwnM.nil _ _, (HB8.out.setCell (Nat.le_refl _) _).setCell (Nat.le_refl _) _⟩
          · obtain ⟨rfl, e1, e2⟩ := HYES.out HB11.out
            have HE1 := Lib.hid e1; have HE2 := Lib.hid e2
            clear e1 e2
            go_wp2_with fail
            have RR := (HR8.out.set0 (.slice da dn dc)).set1 (.slice ya yn yc)
            have g0 := RR.c0; have g1 := RR.c1
            exact bodyPost_ret (v := .tuple #[.agg #[.slice da dn dc, .slice ya yn yc], .int .i64 0]) (by simp [results, Tryz.results11, go_sem, g0, g1]) rfl
              ⟨_, _, us, rfl, by rw [← HE1.out, ← HE2.out]; exact (HM8.out.setVar HR8.out (by decide) (by decide) _).setVar (HR8.out.set0 _) (by decide) (by decide) _, (HB8.out.setCell (Nat.le_refl _) _).setCell (Nat.le_refl _) _⟩
end
section
open Go.RowKit Go.Sort Go.Deep

section
variable {ops : Array Oper} {o : Oper} {a : Act} {Q : Exit → Act → World → Prop} {K : Act → World → Prop} {E : Prop}
/-- 'append(out, row)' at a step of a region that draws. -/
theorem step_append_rowT {w w0 wE : World} (hg : o.guard = none) (s x : Operand)
    (ho : o.op = .call { callee := .builtin .append, args := #[s, x], argTypes := #[22, 22] })
    (B : Nat) (v u : Value) (us : List Value) (xss : List (List Int)) (xs : List Int) (hU : OwnU wE B v us xss) (hs : a.eval s = v) (hu : OwnI w wE.heap.size u xs) (hE : Below wE.heap.size wE w) (hbl : Below B w0 wE) (hB : B ≤ wE.heap.size)
    (b : Nat) (hx : a.eval x = .slice (some ⟨b, 0, none⟩) 1 1) (hb : w.heap[b]? = some (.cells #[u] 30 (0, 0))) (hn : xss.length < 4398046511104)
    (hK : ∀ v' w', OwnU w' B v' (us ++ [u]) (xss ++ [xs]) → Below B w0 w' → w.heap.size ≤ w'.heap.size → (∀ b, b < w.heap.size → some b ≠ v.ownBlock → w'.heap[b]? = w.heap[b]?) → K (a.put o.dst v') w') :
    if Region.wanted o (yielded ops a.tmps) = true then Oper.wp Tryz.prog o a w K Q else E := by
  obtain ⟨i0, hi, hz0, hz1, hz2⟩ := info_parts info_slI
  refine step_append_all hg s x _ ho B _ i0 _ 24 Tryz.underlying22 hi hz0 hz1 hz2 rfl (by omega) v _ _ _ [u] (own_same hU.row hE.block) hs (slAt_one hb) hx (hbl.trans (hE.mono hB)) (Nat.le_trans hB hE.size) (fun z hz => ?_) (by simp; omega) ?_
  · rw [List.mem_singleton] at hz; rw [hz]; exact own_oneCell hu
  · intro v' w' h1 h2 h3 h4
    exact hK v' w' (OwnU.append hU hE hB hu (by simpa using h1) h4) h2 h3 h4
end
section
variable {P : Program} {ops : Array Oper} {o : Oper} {a : Act} {Q : Exit → Act → World → Prop} {K : Act → World → Prop} {E : Prop}
/-- A call of a Go function of two arguments that makes memory, at a step of a region that draws. -/
theorem step_callT {w : World} (hg : o.guard = none) (f : FuncId) (s s2 : Operand) (t t2 : TypeId)
    (ho : o.op = .call { callee := .value (.func f), args := #[s, s2], argTypes := #[t, t2] }) (R : Value → World → Prop)
    (hE : Enters P f) (v1 v2 : Value) (h1 : a.eval s = v1) (h2 : a.eval s2 = v2) (hC : Calls P f #[v1, v2] w fun e w' => ∃ v, e = .returned v ∧ R v w') (hK : ∀ v w', R v w' → K (a.put o.dst v) w') :
    if Region.wanted o (yielded ops a.tmps) = true then Oper.wp P o a w K Q else E := by
  subst h1 h2
  have hw : Region.wanted o (yielded ops a.tmps) = true := by simp [Region.wanted, hg]
  rw [if_pos hw]
  unfold Oper.wp
  have hE' : ∀ args, Sem.run P (callFunc f args) w = .ok (.enter f args) w := fun args => hE args w
  have hf : a.eval (.func f) = .func (.func f) #[] #[] := rfl
  simp [execOp, ho, resolve, invoke, hf, Deferred.ofValue, hE']
  exact Calls.mono hC fun e w' ⟨v, he, hw⟩ => by subst he; exact hK v w' hw
end
theorem own_past {w w' : World} {B B' e e' n n' : Nat} {v v' : Value} {us us' : List Value} (h : w.ownsRow B e 1 v n us) (hr : w.ownsRow B' e' 1 v' n' us') (ne : e ≠ e') (k : ∀ b, b < w.heap.size → some b ≠ v'.ownBlock → w'.heap[b]? = w.heap[b]?) : w'.ownsRow B e 1 v n us := by
  refine own_kept h fun b hb => k b (World.ownsRow.lt h b hb).2 ?_
  rcases own_ne_types h hr ne with e | e
  · rw [e] at hb; cases hb
  · rw [← hb]; exact e
theorem own_setV {w : World} {B e n G j t : Nat} {v x y : Value} {us : List Value} (h : w.ownsRow B e 1 v n us) (k : Var2 w G x y t) (ne : e ≠ t) (u : Value) : (w.setCell ⟨G, j, none⟩ u).ownsRow B e 1 v n us :=
  own_kept h fun b hb => Below.heap_setCell _ _ _ _ (by show b ≠ G; intro e2; exact own_ne_var h k ne (by rw [hb, e2]))
theorem enters_l01ReadT : Enters Tryz.prog 25 := fun args w => by kernel_rfl
theorem dR_nil : dR [] = [] := rfl
theorem dR_ne {D : List UInt8} (h : D ≠ []) : dR D = (spl 44 D).map valW := if_neg h
theorem aR_nil : aR [] = [] := rfl
theorem aR_ne {A : List UInt8} (h : A ≠ []) : aR A = (spl 59 A).map rN := by unfold aR aParts; rw [if_neg h]
set_option maxRecDepth 100000 in
set_option maxHeartbeats 4000000 in
theorem specParseModule_c (t : List UInt8) (hl : t.length ≤ 1048576) (w : World) :
    Calls Tryz.prog 10 #[.string (bs t)] w fun e w' => ∃ d a, e = .returned (.tuple #[.agg #[d, a], .int .i64 (pmoC t)]) ∧ ModS w'.heap d a (pmoD t) (pmoA t) ∧ Below w.heap.size w w' := by
  have hb0 : Below w.heap.size w (w.alloc (.cells #[.slice none 0 0, .slice none 0 0] 32)) := (Below.refl _ _).alloc (Nat.le_refl _) _
  have k0 := Var2.new w (.slice none 0 0) (.slice none 0 0) 32
  have hsz0 : (w.alloc (.cells #[.slice none 0 0, .slice none 0 0] 32)).heap.size = w.heap.size + 1 := by simp
  have C := Lib.hid (l01Split_c 124 t (by omega) (w.alloc (.cells #[.slice none 0 0, .slice none 0 0] 32)))
  have hp := spl_pos 124 t
  have hle := spl_le 124 t
  have hwl := spl_part 124 t
  have HPB : Hid (pmoB t = (decide ((spl 124 t).length = 2) && isMod (dR ((spl 124 t).getD 0 [])) (aR ((spl 124 t).getD 1 [])))) := rfl
  have HPC : Hid (pmoC t = if pmoB t = true then 0 else 6) := rfl
  have HPD : Hid (pmoD t = if pmoB t = true then dR ((spl 124 t).getD 0 []) else []) := rfl
  have HPA : Hid (pmoA t = if pmoB t = true then aR ((spl 124 t).getD 1 []) else []) := rfl
  have HB0 := Lib.hid hb0; have K0 := Lib.hid k0; have HZ0 := Lib.hid hsz0
  clear hb0 k0 hsz0
  generalize pmoC t = pc at *
  generalize pmoD t = pd at *
  generalize pmoA t = pa at *
  generalize pmoB t = pb at *
  generalize spl 124 t = ws at *
  generalize bs t = s at *
  by_cases h2 : ws.length = 2
  · obtain ⟨D, A, rfl⟩ : ∃ D A, ws = [D, A] := by
      match ws, h2 with
      | [D, A], _ => exact ⟨D, A, rfl⟩
    have hDl : D.length ≤ 1048576 := by have := (hwl D (by simp)).1; omega
    have hAl : A.length ≤ 1048576 := by have := (hwl A (by simp)).1; omega
    have HDL := Lib.hid hDl; have HAL := Lib.hid hAl
    clear hp hle hwl h2 hDl hAl
    go_enter Tryz.func10, Tryz.ntmps10
    go_wp2_with fail
    refine C.out.mono ?_
    rintro e w1 ⟨v1, rfl, hv1, hb1⟩
    obtain ⟨g, cap, rfl, hgB, hgs, hcs⟩ := hv1.at (by simp)
    have HC0 := Lib.hid (hcs 0 (by simp)); have HC1 := Lib.hid (hcs 1 (by simp))
    have K1 := Lib.hid (K0.out.kept hb1.block)
    have HB1 := Lib.hid (HB0.out.trans (hb1.mono HB0.out.size))
    have hz1 : w.heap.size + 1 ≤ w1.heap.size := by have := hb1.size; have := HZ0.out; omega
    clear hb1 hv1 hcs
    simp only [List.getElem_cons_zero, List.getElem_cons_succ] at HC0 HC1
    rw [show [D, A].length = 2 from rfl]
    obtain ⟨W1, hW1⟩ : ∃ W1, W1 = w1.alloc (.cells #[.slice none 0 0, .slice none 0 0] 32) := ⟨_, rfl⟩
    obtain ⟨G, hG⟩ : ∃ G, G = w1.heap.size := ⟨_, rfl⟩
    have HX1 : Hid (Below w1.heap.size w1 W1) := by show Below _ _ _; rw [hW1]; exact (Below.refl _ _).alloc (Nat.le_refl _) _
    have HV1 : Hid (Var2 W1 G (.slice none 0 0) (.slice none 0 0) 32) := by show Var2 _ _ _ _ _; rw [hW1, hG]; exact Var2.new _ _ _ _
    have hz2 : w1.heap.size + 1 ≤ W1.heap.size := by rw [hW1]; simp
    have HW1 := Lib.hid hW1
    have hGe : w1.heap.size ≤ G := by omega
    clear hW1
    -- what is kept below the world behind the split
    have KC0 : Hid (∀ W, Below w1.heap.size w1 W → W.cell? ⟨g, 0, none⟩ = some (.string (bs D))) := fun W h => (h.cell (p := ⟨g, 0, none⟩) hgs).trans HC0.out
    have KC1 : Hid (∀ W, Below w1.heap.size w1 W → W.cell? ⟨g, 1, none⟩ = some (.string (bs A))) := fun W h => (h.cell (p := ⟨g, 1, none⟩) hgs).trans HC1.out
    have KR : Hid (∀ W, Below w1.heap.size w1 W → Var2 W w.heap.size (.slice none 0 0) (.slice none 0 0) 32) := fun W h => K1.out.below h (by omega)
    have KB : Hid (∀ W, Below w1.heap.size w1 W → Below w.heap.size w W) := fun W h => HB1.out.trans (h.mono HB1.out.size)
    have HE0 : Hid ([D, A].getD 0 [] = D) := rfl
    have HE1 : Hid ([D, A].getD 1 [] = A) := rfl
    have HP : Hid (pb = isMod (dR D) (aR A)) := by show _ = _; rw [HPB.out]; rfl
    have HD' : Hid (pd = if pb = true then dR D else []) := HPD.out
    have HA' : Hid (pa = if pb = true then aR A else []) := HPA.out
    have q0 := Go.Lib.cell?_alloc_some (.cells #[.slice none 0 0, .slice none 0 0] 32) HC0.out
    clear HE0 HE1 HPB HPD HPA HC0 HC1 K1 C
    have RL := Lib.hid (fun x hx W => l01Read_c 44 x hx W)
    have SL := Lib.hid (fun W => l01Split_c 59 A (by have := HAL.out; omega) W)
    go_upto_if 18 with fail
    rw [← HW1.out, ← hG]
    clear HW1 q0 hG
    have q0 := KC0.out _ HX1.out
    go_cut [5] (fun p wx => ∃ (W : World) (dv : Value), W = wx ∧ p = .pointer (some ⟨G, 0, none⟩) ∧ OwnI wx w1.heap.size dv (dR D) ∧ Var2 wx G dv (.slice none 0 0) 32 ∧ Below w1.heap.size w1 wx)
    case first =>
      by_cases hd : D = []
      · have e1 : (bs D).toList.isEmpty = true := by rw [hd]; exact bs_isNil
        have e0 : (!(bs D).toList.isEmpty) = false := by rw [e1]; rfl
        rw [e0]
        have E3 := Lib.hid (show dR D = [] by rw [hd]; rfl)
        clear hd
        generalize bs D = sd at *
        go_wp2_with fail
        go_meet
        exact ⟨_, .slice none 0 0, rfl, rfl, by rw [E3.out]; exact OwnI.nil _ _, HV1.out, HX1.out⟩
      · have e1 : (bs D).toList.isEmpty = false := bs_isEmpty hd
        have e0 : (!(bs D).toList.isEmpty) = true := by rw [e1]; rfl
        rw [e0]
        have E3 := Lib.hid (dR_ne hd)
        have RD := Lib.hid (RL.out D (by have := HDL.out; omega) W1)
        clear hd
        generalize (spl 44 D).map valW = nv at *
        generalize bs D = sd at *
        go_wp2_with (go_at_call 25; refine RD.out.mono ?_; rintro e w2 ⟨v, rfl, hv, hb2⟩; obtain ⟨pa1, pn1, pc1, rfl⟩ := own_shape hv; have V2 := HV1.out.kept hb2.block; have d0 := V2.c0; have f0 := V2.free 0; have HV2 := Lib.hid V2; have HX2 := Lib.hid (HX1.out.trans (hb2.mono HX1.out.size)); have HO2 := Lib.hid (own_base hv HX1.out.size); clear V2 hv hb2)
        go_meet
        exact ⟨_, _, rfl, rfl, by rw [E3.out]; exact OwnI.setVar HO2.out HV2.out (by decide) _, HV2.out.set0 _, HX2.out.setCell (by show w1.heap.size ≤ G; omega) _⟩
    case rest =>
      obtain ⟨W2, dv, hWe, rfl, hdv, hV2, hx2⟩ := hcut
      subst hWe
      obtain ⟨da, dn, dc, rfl⟩ := own_shape hdv
      have HDV := Lib.hid hdv; have HV2 := Lib.hid hV2; have HX2 := Lib.hid hx2
      clear hdv hV2 hx2 HV1 HX1 q0
      have q1 := KC1.out _ HX2.out
      go_upto_if 27 with fail
      go_cut [5] (fun p wx => ∃ (W : World) (av : Value) (us : List Value), W = wx ∧ p = .pointer (some ⟨G, 0, none⟩) ∧ OwnM wx w1.heap.size (.slice da dn dc) av us (dR D) (aR A) ∧ Var2 wx G (.slice da dn dc) av 32 ∧ Below w1.heap.size w1 wx)
      case first =>
        by_cases ha : A = []
        · have e1 : (bs A).toList.isEmpty = true := by rw [ha]; exact bs_isNil
          have e0 : (!(bs A).toList.isEmpty) = false := by rw [e1]; rfl
          rw [e0]
          have E3 := Lib.hid (show aR A = [] by rw [ha]; rfl)
          clear ha
          generalize bs A = sa at *
          go_wp2_with fail
          go_meet
          exact ⟨_, .slice none 0 0, [], rfl, rfl, by rw [E3.out]; exact ⟨HDV.out, ownU_nil0 _ _, fun u hu => by cases hu⟩, HV2.out, HX2.out⟩
        · have e1 : (bs A).toList.isEmpty = false := bs_isEmpty ha
          have e0 : (!(bs A).toList.isEmpty) = true := by rw [e1]; rfl
          rw [e0]
          have E3 := Lib.hid (aR_ne ha)
          have SP := Lib.hid (SL.out W2)
          have hp := spl_pos 59 A
          have hle := spl_le 59 A
          have hwl : ∀ x ∈ spl 59 A, x.length ≤ 2000000 := fun x hx => by have := (spl_part 59 A x hx).1; have := HAL.out; omega
          have hal := HAL.out
          have HWL := Lib.hid hwl
          clear ha SL hwl
          generalize spl 59 A = ws at *
          generalize bs A = sa at *
          go_wp2_with (go_at_call 15; refine SP.out.mono ?_; rintro e w3 ⟨v3, rfl, hv3, hb3⟩; obtain ⟨q, cap3, rfl, hqB, hqs, hcq⟩ := hv3.at hp; have HQ := Lib.hid hv3; have HV3 := Lib.hid (HV2.out.kept hb3.block); have HX3 := Lib.hid (HX2.out.trans (hb3.mono HX2.out.size)); have HM3 : Hid (OwnM w3 w1.heap.size (.slice da dn dc) (.slice none 0 0) [] (dR D) []) := ⟨own_same HDV.out hb3.block, ownU_nil0 _ _, fun u hu => by cases hu⟩; have hG3 := HV3.out.lt; clear hv3 hcq hb3)
          go_loopw [7] (fun i wr => ∃ (k : Nat) (av : Value) (us : List Value), k ≤ ws.length ∧ i = .int .i64 k ∧ OwnM wr w1.heap.size (.slice da dn dc) av us (dR D) ((ws.take k).map rN) ∧ Var2 wr G (.slice da dn dc) av 32 ∧ OwnW wr W2.heap.size (.slice (some ⟨q, 0, none⟩) ws.length cap3) ws ∧ Below w1.heap.size w1 wr ∧ w3.heap.size ≤ wr.heap.size) (fun i _ => ws.length - (intOf i).toNat)
          case atStart => exact ⟨0, .slice none 0 0, [], Nat.zero_le _, rfl, HM3.out, HV3.out, HQ.out, HX3.out, Nat.le_refl _⟩
          case round =>
            clear HM3 HV3 HX3 HQ
            obtain ⟨k, av, us, hk, rfl, hM, hV, hQ, hx, hsw⟩ := hrel
            have hsz := hx.size
            obtain ⟨ya, yn, yc, rfl⟩ := own_shape hM.act.row
            have HM := Lib.hid hM; have HV := Lib.hid hV; have HX := Lib.hid hx; have HQ := Lib.hid hQ
            by_cases hkl : k < ws.length
            · have hc : wr.cell? ⟨q, k, none⟩ = some (.string (bs ws[k])) := by
                obtain ⟨g', cap', hv, -, -, hcell⟩ := hQ.at hp
                simp only [Value.slice.injEq, Option.some.injEq, Addr.mk.injEq, and_true, true_and] at hv
                obtain ⟨rfl, rfl⟩ := hv
                exact hcell k hkl
              have hki : (k : Int) < (ws.length : Int) := by omega
              have RD := Lib.hid (RL.out ws[k] (HWL.out _ (List.getElem_mem hkl)) wr.drew)
              have HS := Lib.hid (map_take_one rN ws k hkl)
              have HRN : Hid (rN ws[k] = (spl 44 ws[k]).map valW) := rfl
              have HN : Hid (((ws.take k).map rN).length < 4398046511104) := by show _ < _; rw [List.length_map, List.length_take]; omega
              have d1 := hV.c1
              clear hM hV hx hQ
              rw [← HRN.out] at RD
              generalize bs ws[k] = s1 at *
              generalize rN ws[k] = r1 at *
              have HNA := Lib.hid (own_ne_var HM.out.act.row HV.out (by decide))
              have HG := Lib.hid (HV.out.lt)
              go_wp2_with fail
              go_region_law (first | (refine step_callT (by rfl) 25 (.tmp 43) _ 9 5 (by rfl) (fun v w' => OwnI w' wr.heap.size v r1 ∧ Below wr.heap.size wr.drew w') enters_l01ReadT (.string s1) (.int .u8 44) (by rfl) (by rfl) (by exact RD.out) ?_; rintro v4 w4 ⟨hv4, hb4⟩; obtain ⟨pa4, pn4, pc4, rfl⟩ := own_shape hv4; have hb4' : Below wr.heap.size wr w4 := ((Below.refl _ _).drew).trans hb4; have V4 := HV.out.kept hb4'.block; have d4 := V4.c1; have f4 := V4.free 1; have d4a : ∀ o, (w4.alloc o).cell? ⟨G, 1, none⟩ = some (.slice ya yn yc) := fun o => Go.Lib.cell?_alloc_some o d4) | (refine step_append_rowT (w0 := w1) (wE := wr) (by rfl) (.tmp 39) (.tmp 45) (by rfl) w1.heap.size (.slice ya yn yc) (.slice pa4 pn4 pc4) us _ r1 HM.out.act (by rfl) (by exact OwnI.same hv4 (alloc_old _ _)) (by exact hb4'.alloc hb4'.size _) HX.out hsz w4.heap.size (by rfl) (by exact heap_alloc_new w4 _) HN.out ?_; intro v5 w5 hU5 hb5 hs5 h45; obtain ⟨sa5, sn5, sc5, rfl⟩ := own_shape hU5.row; have hb4a := hb4'.alloc hb4'.size (.cells #[.slice pa4 pn4 pc4] 30); have V5 := (HV.out.kept hb4a.block).same (h45 G (by have := HG.out; have := hb4a.size; omega) (fun e => HNA.out e.symm)); have d5 := V5.c1; have f5 := V5.free 1))
              all_goals
                have AR := Lib.hid (own_same HM.out.act.row hb4a.block)
                have DG := Lib.hid (own_past (own_same HM.out.deg hb4a.block) AR.out (by decide) h45)
                have QW := Lib.hid (own_past (own_same HQ.out hb4a.block) AR.out (by decide) h45)
                have HV5 := Lib.hid V5; have HU5 := Lib.hid hU5; have HB5 := Lib.hid hb5; have HZ5 := Lib.hid (show wr.heap.size ≤ w5.heap.size by have := hb4a.size; omega)
                have HAP : Hid (∀ u, u ∈ us ++ [.slice pa4 pn4 pc4] → (Value.slice da dn dc).ownBlock = none ∨ (Value.slice da dn dc).ownBlock ≠ u.ownBlock) := fun u hu => by
                  rcases List.mem_append.1 hu with hu | hu
                  · exact HM.out.apart u hu
                  · rw [List.mem_singleton] at hu
                    subst hu
                    cases hd : (Value.slice da dn dc).ownBlock with
                    | none => exact .inl rfl
                    | some k =>
                      right
                      intro e
                      have h5 := (World.ownsRow.lt HM.out.deg k hd).2
                      have h6 := (World.ownsRow.lt hv4 k e.symm).1
                      omega
                clear V5 hU5 hb5 h45 hb4a hb4 hb4' V4 d4a hv4
                go_wp2_with fail
                go_roundw
                case rel => exact ⟨k + 1, .slice sa5 sn5 sc5, us ++ [.slice pa4 pn4 pc4], by omega, by go_num, by rw [HS.out]; exact OwnM.setVar ⟨DG.out, HU5.out, HAP.out⟩ HV5.out (by decide) (by decide) _, HV5.out.set1 _, own_setV QW.out HV5.out (by decide) _, HB5.out.setCell (by show w1.heap.size ≤ G; omega) _, by have := HZ5.out; simp; omega⟩
                case measure => simp [intOf]; omega
            · obtain rfl : k = ws.length := by omega
              clear hM hV hx hQ
              have hTL : ws.take ws.length = ws := List.take_length
              rw [hTL] at HM
              clear hTL
              go_wp2_with fail
              go_meet
              exact ⟨_, _, us, rfl, rfl, by rw [E3.out]; exact HM.out, HV.out, HX.out⟩
      case rest =>
        obtain ⟨W6, av, us, hWe, rfl, hM, hV, hx⟩ := hcut
        subst hWe
        obtain ⟨ya, yn, yc, rfl⟩ := own_shape hM.act.row
        have HM := Lib.hid hM; have HV := Lib.hid hV; have HR := Lib.hid (KR.out _ hx); have HB := Lib.hid (KB.out _ hx)
        have q0 := HR.out.c0; have q1 := HR.out.c1; have qf0 := HR.out.free 0; have qf1 := HR.out.free 1
        have p0 := hV.c0; have p1 := hV.c1
        have IM := Lib.hid (l11Is_c (.slice da dn dc) (.slice ya yn yc) (dR D) (aR A) W6 hM.ints)
        clear hM hV hx HDV HV2 HX2 KC0 KC1 RL SL
        rw [← HP.out] at IM
        cases pb
        · obtain rfl : pc = 6 := HPC.out
          obtain rfl : pd = [] := HD'.out
          obtain rfl : pa = [] := HA'.out
          clear HPC HD' HA' HP KR KB
          go_wp2_with fail
          refine IM.out.mono ?_
          rintro e w7 ⟨rfl, hb7⟩
          have HR7 := Lib.hid (HR.out.kept hb7.block); have HB7 := Lib.hid (HB.out.trans (hb7.mono HB.out.size))
          have q0 := HR7.out.c0; have q1 := HR7.out.c1; have qf0 := HR7.out.free 0; have qf1 := HR7.out.free 1
          clear hb7
          go_wp2_with fail
          have RR := (HR7.out.set0 (.slice none 0 0)).set1 (.slice none 0 0)
          have g0 := RR.c0; have g1 := RR.c1
          exact bodyPost_ret (v := .tuple #[.agg #[.slice none 0 0, .slice none 0 0], .int .i64 6]) (by simp [results, Tryz.results10, go_sem, g0, g1]) rfl
            ⟨_, _, rfl, ModS.nil _, (HB7.out.setCell (Nat.le_refl _) _).setCell (Nat.le_refl _) _⟩
        · obtain rfl : pc = 0 := HPC.out
          have HD2 : Hid (pd = dR D) := HD'.out
          have HA2 : Hid (pa = aR A) := HA'.out
          clear HPC HD' HA' HP KR KB
          go_wp2_with fail
          refine IM.out.mono ?_
          rintro e w7 ⟨rfl, hb7⟩
          have HR7 := Lib.hid (HR.out.kept hb7.block); have HV7 := Lib.hid (HV.out.kept hb7.block); have HB7 := Lib.hid (HB.out.trans (hb7.mono HB.out.size)); have HM7 := Lib.hid (HM.out.same hb7.block)
          have q0 := HR7.out.c0; have q1 := HR7.out.c1; have qf0 := HR7.out.free 0; have qf1 := HR7.out.free 1
          clear hb7 p0 p1
          have p0 := HV7.out.c0; have p1 := HV7.out.c1
          go_wp2_with fail
          have RR := (HR7.out.set0 (.slice da dn dc)).set1 (.slice ya yn yc)
          have g0 := RR.c0; have g1 := RR.c1
          exact bodyPost_ret (v := .tuple #[.agg #[.slice da dn dc, .slice ya yn yc], .int .i64 0]) (by simp [results, Tryz.results10, go_sem, g0, g1]) rfl
            ⟨_, _, rfl, by rw [HD2.out, HA2.out]; exact ((HM7.out.setVar HR7.out (by decide) (by decide) _).setVar (HR7.out.set0 _) (by decide) (by decide) _).ints, (HB7.out.setCell (Nat.le_refl _) _).setCell (Nat.le_refl _) _⟩
  · have e : pb = false := by rw [HPB.out, decide_eq_false h2]; rfl
    subst e
    obtain rfl : pc = 6 := HPC.out
    obtain rfl : pd = [] := HPD.out
    obtain rfl : pa = [] := HPA.out
    have t2 := (neB (show (ws.length : Int) ≠ 2 by omega)).2
    have t3 := (neB (show (ws.length : Int) ≠ 2 by omega)).1
    clear HPC HPD HPA HPB h2 hwl
    go_enter Tryz.func10, Tryz.ntmps10
    go_wp2_with fail
    refine C.out.mono ?_
    rintro e w1 ⟨v1, rfl, hv1, hb1⟩
    obtain ⟨g, cap, rfl, hgB, hgs, hcs⟩ := hv1.at hp
    have K1 := Lib.hid ((K0.out.kept hb1.block).kept (alloc_old w1 (.cells #[.slice none 0 0, .slice none 0 0] 32)))
    have HB1 := HB0.out.trans (hb1.mono HB0.out.size)
    have HB2 := Lib.hid (HB1.alloc HB1.size (.cells #[.slice none 0 0, .slice none 0 0] 32))
    have q0 := K1.out.c0; have q1 := K1.out.c1; have qf0 := K1.out.free 0; have qf1 := K1.out.free 1
    clear hb1 hv1 hcs HB1
    go_wp2_with fail
    have RR := (K1.out.set0 (.slice none 0 0)).set1 (.slice none 0 0)
    have g0 := RR.c0; have g1 := RR.c1
    exact bodyPost_ret (v := .tuple #[.agg #[.slice none 0 0, .slice none 0 0], .int .i64 6]) (by simp [results, Tryz.results10, go_sem, g0, g1]) rfl
      ⟨_, _, rfl, ModS.nil _, (HB2.out.setCell (Nat.le_refl _) _).setCell (Nat.le_refl _) _⟩
end
section
open Go.RowKit

section
variable {H : Type} {enc : TypeId × Value → H}
theorem of_change_and_shaped {a : Assume} {C : Checked} {os : Os} {f : FuncId} {fn : Func} {s : ChangeSpec} {conds : List PathCond} {apart fresh handsOn again : Bool} {X : World → Array Value → Prop}
    (hX : ∀ (w w' : World) (args : Array Value), w.heap = w'.heap → X w args → X w' args)
    (own : ownKnob C.prog.godebug = none) (started : os.Started) (noInit : C.prog.inits.idxOf? f = none) (hfn : C.prog.funcs[f]? = some fn)
    (witness : ∃ (w : World) (tape : Tape) (i : Input), w.os = os ∧ (w.forCall tape i).Shaped C.prog ∧ i.vars = [] ∧ Input.okWide C.prog (w.forCall tape i) .any w.heap.size f i ∧
      ((s.pre enc C.prog fn conds apart (w.forCall tape i).memory i.args ∧ X (w.forCall tape i).memory i.args) ∧ sizedMet enc C.prog fn (OpenSpec.ofChange s) apart (w.forCall tape i).memory i.args) ∧ a.holds C.prog (lone (Frame.enter C.prog f i.args .normal) [] (w.forCall tape i)))
    (contract : ∀ (W : World) (base : Nat) (args : Array Value) (ds gs : List (DataW H)) (before : List MemPlace),
      (∀ (j : Nat) t v, fn.params[j]? = some t → args[j]? = some v → Value.okWide C.prog W .any base t v) →
      DataW.Whole enc C.prog fn.params.toList s.vars apart W args.toList ds gs before →
      X W args → W.ShapedOpen C.prog →
      Calls C.prog f args W fun e W' => ∃ v, e = .returned v ∧ s.post enc C.prog fn apart fresh handsOn again W args v W') :
    ReturnsInHanded a C os f .any (fun w args => (s.pre enc C.prog fn conds apart w args ∧ X w args) ∧ sizedMet enc C.prog fn (OpenSpec.ofChange s) apart w args) (s.post enc C.prog fn apart fresh handsOn again) := by
  refine returnsInHanded_of_calls own started noInit witness ?_
  intro w tape i _ hsh _ hok hpre _
  obtain ⟨_, _, _, fn', hfn', _, _, _, _, hval⟩ := hok
  have e : fn' = fn := Option.some.inj (hfn'.symm.trans hfn)
  subst e
  obtain ⟨⟨⟨ds, gs, before, hw, _⟩, hx⟩, _⟩ := hpre
  have hw' := DataW.Whole.of_heap (w' := w.forCall tape i) (by rfl) hw
  refine (contract (w.forCall tape i) w.heap.size i.args ds gs before hval hw' (hX _ _ _ (by rfl) hx) hsh).mono fun e W' ⟨v, he, hp⟩ => ?_
  subst he
  exact ChangeSpec.post_blind hp
end
theorem star_errs : "*" ++ "errors.errorString" = "*errors.errorString" := by decide
theorem row_errs (u : TypeId) (h : Tryz.prog.typeName? 3 u = some "*errors.errorString") : u = 152 :=
  typeName_ptr_named (nm := "errors.errorString") (by rw [star_errs]; kernel_rfl) (by kernel_rfl) (by decide) u (by rw [star_errs]; exact h)
theorem sentinel_of {n : String} {text : List UInt8} {laid : List (String × DataW Unit)} {W : World} {g : Nat} (hL : laidMetH Tryz.prog laid W)
    (hl : laid.filter (fun x => x.1 == n) = [(n, .iface "*errors.errorString" (.ptr (.agg [.lit (.string text)])))])
    (hg : Tryz.prog.globalNamed n = some g) (ht : (Tryz.prog.globals[g]?).map (·.type) = some 78) :
    ∃ ev, W.cell? ⟨g, 0, none⟩ = some ev ∧ (ev = .nilIface ∨ ∃ te pe, ev = .iface te pe) := by
  have h1 := hL.filter (fun x => x.1 == n)
  rw [hl, MakeChecks.laidMetH_plain _ _ _ (by rfl)] at h1
  obtain ⟨a, s, hv, _⟩ := laid_sentinel h1 hg ht Tryz.underlying78 row_errs Tryz.underlying152 Tryz.underlying154 rfl rfl Tryz.underlying9 (by kernel_rfl) (by kernel_rfl)
  exact ⟨_, by have h0 := World.var?_cell hg hv 0; simpa using h0, .inr ⟨_, _, rfl⟩⟩
theorem glob_of {laid : List (String × DataW Unit)} {W : World} {t1 t2 : List UInt8} (hsh : W.ShapedOpen Tryz.prog) (hL : laidMetH Tryz.prog laid W)
    (hl : laid.filter (fun x => x.1 == "internal/strconv.uint64pow10") = [("internal/strconv.uint64pow10", Go.Lib.tabData .u64 Go.Lib.pow10Tab)])
    (h1 : laid.filter (fun x => x.1 == "strconv.ErrSyntax") = [("strconv.ErrSyntax", .iface "*errors.errorString" (.ptr (.agg [.lit (.string t1)])))])
    (h2 : laid.filter (fun x => x.1 == "strconv.ErrRange") = [("strconv.ErrRange", .iface "*errors.errorString" (.ptr (.agg [.lit (.string t2)])))]) : Glob W := by
  refine ⟨?_, ?_, ?_, ?_⟩
  · exact cell_of_shapedOpen_int (t := 3) (zero := #[.int .i64 0]) hsh (of_decide_eq_true (by kernel_rfl)) (by kernel_rfl) rfl (by kernel_rfl) (by kernel_rfl) Tryz.underlying3
  · exact sentinel_of hL h1 (by kernel_rfl) (by kernel_rfl)
  · exact sentinel_of hL h2 (by kernel_rfl) (by kernel_rfl)
  · have h1 := hL.filter (fun x => x.1 == "internal/strconv.uint64pow10")
    rw [hl, MakeChecks.laidMetH_plain _ _ _ (by kernel_rfl)] at h1
    exact Go.Lib.tabIs_of_head (g := 5) (n := 20) (t := 156) (e := 102) (by kernel_rfl) (by kernel_rfl) Tryz.underlying156 Tryz.underlying102 (by kernel_rfl) (by kernel_rfl) h1
end
end Go.Proofs.YtalbbjhonkcbgaaGreatDoor

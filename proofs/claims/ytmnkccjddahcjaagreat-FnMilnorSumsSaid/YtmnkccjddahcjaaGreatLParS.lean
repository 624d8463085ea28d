/- All exponent lists of a degree: of the reference. -/
import Derived.Test.YtmnkccjddahcjaaGreatLPart
import Derived.Test.YtmnkccjddahcjaaGreatLCount
import Derived.Test.YtmnkccjddahcjaaGreatLCopy
import Derived.Test.YtmnkccjddahcjaaGreatLOdd2
import Derived.Test.YtmnkccjddahcjaaGreatBaseC
namespace Go.Proofs.YtmnkccjddahcjaaGreat
open Go.RowKit Go.Sort

/-- The lists of the first n numbers at a place, behind their beginning. -/
def partG (f d i : Nat) (xs : List Int) (n : Nat) : List (List Int) := (List.range n).flatMap fun m => (partF f (d - m * wtI i) (i + 1)).map fun x => xs ++ (m : Int) :: x
theorem partG_succ (f d i : Nat) (xs : List Int) (n : Nat) : partG f d i xs (n + 1) = partG f d i xs n ++ (partF f (d - n * wtI i) (i + 1)).map (xs ++ [(n : Int)] ++ ·) := by
  unfold partG
  rw [List.range_succ, List.flatMap_append]
  simp
theorem partG_all (f d i : Nat) (xs : List Int) (hd : 1 ≤ d) (hw : wtI i ≤ d) : (partF (f + 1) d i).map (xs ++ ·) = partG f d i xs (d / wtI i + 1) := by
  rw [partF, if_neg (by omega), if_neg (by omega)]
  unfold partG
  rw [List.map_flatMap]
  simp [List.map_map, Function.comp_def]
theorem partG_len (f d i : Nat) (xs : List Int) (n N : Nat) (h : n ≤ N) : (partG f d i xs n).length ≤ (partG f d i xs N).length := by
  obtain ⟨k, rfl⟩ : ∃ k, N = n + k := ⟨N - n, by omega⟩
  clear h
  induction k with
  | zero => exact Nat.le_refl _
  | succ k ih => rw [← Nat.add_assoc, partG_succ, List.length_append]; omega
theorem wtI_small {i d : Nat} (hi : i < 8) (hd : d ≤ 40) (h : wtI i ≤ d) : i ≤ 4 := by
  have : ∀ i, i < 8 → 4 < i → 63 ≤ wtI i := by decide
  rcases Nat.lt_or_ge 4 i with e | e
  · have := this i hi e; omega
  · exact e
theorem wtI_le {i : Nat} (hi : i < 8) : wtI i ≤ 255 := by
  have : ∀ i, i < 8 → wtI i ≤ 255 := by decide
  exact this i hi
set_option maxRecDepth 100000 in
set_option maxHeartbeats 1000000 in
theorem l01Partitions_c : ∀ (f d : Nat) (xs : List Int) (L : List (List Int)) (s l : Value) (us : List Value) (B : Nat) (w : World), xs.length + f = 8 → 2 ≤ f → 1 ≤ d → d ≤ 40 → IntS w.heap s xs → OwnU w B l us L → B ≤ w.heap.size → L.length + (partF f d xs.length).length < 4398046511104 →
    Calls Tryz.prog 241 #[.int .i64 d, s, l] w fun e w' => ∃ r us', e = .returned r ∧ OwnU w' B r us' (L ++ (partF f d xs.length).map (xs ++ ·)) ∧ Below B w w' ∧ KeepI w w' := by
  intro f
  induction f with
  | zero => intro d xs L s l us B w h1 h2; omega
  | succ f ih =>
    intro d xs L s l us B w hif hf hd hd2 hs hl hB hlen
    obtain ⟨sa, sc, rfl, -⟩ := hs.len
    obtain ⟨la, ln, lc, rfl⟩ := own_shape hl.row
    have hwp := wtI_pos xs.length
    have hw8 := wtI_le (i := xs.length) (by omega)
    have hW : wrap64 (2 ^ (xs.length + 1)) = (wtI xs.length : Int) + 1 := by
      have := wtI_int xs.length
      unfold wrap64; omega
    have hwi : IntKind.i64.wrap ((xs.length : Int) + 1) = xs.length + 1 := IntWalk.i64_in _ (by omega)
    have t0 := (neB (show (d : Int) ≠ 0 by omega)).1
    have t0' := (neB (show (d : Int) ≠ 0 by omega)).2
    by_cases hw : wtI xs.length ≤ d
    · have hi4 := wtI_small (by omega) hd2 hw
      have hG := partG_all f d xs.length xs hd hw
      rw [hG]
      have hGl : L.length + (partG f d xs.length xs (d / wtI xs.length + 1)).length < 4398046511104 := by rw [← hG, List.length_map]; exact hlen
      have HGL := Lib.hid hGl
      have t1 : decide ((d : Int) < (wtI xs.length : Int)) = false := decide_eq_false (by omega)
      have t2 : decide (d < wtI xs.length) = false := decide_eq_false (by omega)
      have HS := Lib.hid hs; have HL := Lib.hid hl
      have IH := Lib.hid ih
      have HSU := Lib.hid (partG_succ f d xs.length xs)
      have HLE := Lib.hid (partG_len f d xs.length xs)
      have HPF : Hid (∀ j, partF f 0 j = [[]]) := fun j => by
        obtain ⟨f', rfl⟩ : ∃ f', f = f' + 1 := ⟨f - 1, by omega⟩
        rw [partF, if_pos rfl]
      obtain ⟨W, hWW⟩ : ∃ W : Nat, wtI xs.length = W := ⟨_, rfl⟩
      have HWW := Lib.hid hWW
      rw [hWW] at hW t1 t2 hwp hw8 hw HGL HSU ⊢
      obtain ⟨q, hq⟩ : ∃ q : Nat, d / W = q := ⟨_, rfl⟩
      have hQ : ∀ n : Nat, n ≤ q ↔ n * W ≤ d := fun n => by rw [← hq]; exact Nat.le_div_iff_mul_le hwp
      have HQ := Lib.hid hQ
      clear hQ
      have hqd : q ≤ 40 := by
        have := (HQ.out q).1 (Nat.le_refl _)
        have := Nat.mul_le_mul_left q hwp
        omega
      rw [hq] at HGL ⊢
      have HIF := Lib.hid hif
      clear hG hGl hlen hs hl ih hq hWW hif
      go_enter Tryz.func241, Tryz.ntmps241
      go_wp2_with fail
      clear t1 t2 t0 t0' hW
      go_loopw [2, 8] (fun l r wr => ∃ (n : Nat) (us : List Value), n ≤ q + 1 ∧ r = .int .i64 n ∧ OwnU wr B l us (L ++ partG f d xs.length xs n) ∧ Below B w wr ∧ KeepI w wr) (fun _ r _ => 41 - (intOf r).toNat)
      case atStart => exact ⟨0, us, by omega, rfl, by simpa [partG] using HL.out, Below.refl _ _, KeepI.refl _⟩
      case round =>
        obtain ⟨n, us2, hn, rfl, hU, hbl, hke⟩ := hrel
        obtain ⟨va, vn, vc, rfl⟩ := own_shape hU.row
        have HU := Lib.hid hU; have HBL := Lib.hid hbl; have HKE := Lib.hid hke
        have hsz := hbl.size
        have HSW := Lib.hid (HS.out.keep hke)
        clear hU hbl hke
        have hnW : (0 : Int) ≤ (n : Int) * (W : Int) := Int.mul_nonneg (by omega) (by omega)
        have hnW2 : (n : Int) * (W : Int) ≤ 41 * 255 := Int.mul_le_mul (by omega) (by omega) (by omega) (by omega)
        by_cases hnq : n ≤ q
        · have hle := (HQ.out n).1 hnq
          have hle2 : (n : Int) * (W : Int) ≤ d := by have : ((n * W : Nat) : Int) ≤ (d : Int) := by omega
                                                      rwa [Int.natCast_mul] at this
          have u1 : decide ((n : Int) * (W : Int) ≤ (d : Int)) = true := decide_eq_true hle2
          have HGN := Lib.hid (HSU.out n)
          have HLN := Lib.hid (HLE.out (n + 1) (q + 1) (by omega))
          have HLN0 := Lib.hid (HLE.out n (q + 1) (by omega))
          have hll : (L ++ partG f d xs.length xs n).length ≤ 4398046511104 := by rw [List.length_append]; have := HLN0.out; have := HGL.out; omega
          have HLL := Lib.hid hll
          clear hll
          by_cases he : n * W = d
          · have he2 : (n : Int) * (W : Int) = d := by have : ((n * W : Nat) : Int) = (d : Int) := by omega
                                                       rwa [Int.natCast_mul] at this
            have u2 := (eqB he2).1
            have hqn : q = n := by
              have := (HQ.out (n + 1)).2
              have h2 : ¬ (n + 1) * W ≤ d := by rw [Nat.add_mul]; omega
              have h3 : ¬ n + 1 ≤ q := fun h => h2 ((HQ.out (n + 1)).1 h)
              omega
            have HF : Hid (L ++ partG f d xs.length xs (q + 1) = (L ++ partG f d xs.length xs n) ++ [xs ++ [(n : Int)]]) := by
              show _ = _
              rw [hqn, HGN.out, he, Nat.sub_self, HPF.out]; simp
            clear he he2 hqn hle hle2 hnq
            go_wp2_with (first | (go_at_call 165; refine (l01Own_c _ _ _ (by exact HSW.out) (by omega)).mono ?_; rintro e w2 ⟨rv, rfl, hR2, hb2⟩; obtain ⟨ra, rn, rc, rfl⟩ := own_shape hR2; have HR2 := Lib.hid hR2; have HB2 := Lib.hid hb2; clear hR2 hb2) | (at_builtin; refine append_int rfl _ _ rfl wr.heap.size _ _ _ HR2.out rfl HB2.out HB2.out.size _ rfl (by simp) (by omega) ?_; intro v' w3 hown' hbl' _ _; obtain ⟨qa, qn, qc, rfl⟩ := own_shape hown'; have HO3 := Lib.hid hown'; have HB3 := Lib.hid hbl'; clear hown' hbl') | (at_builtin; refine append_rowU rfl _ _ rfl B _ _ us2 _ _ HU.out rfl HO3.out HB3.out HBL.out (by omega) _ rfl rfl HLL.out ?_; intro v4 w4 hU4 hb4 hk4 _ _ _; obtain ⟨ta, tn, tc, rfl⟩ := own_shape hU4.row))
            go_ret
            exact ⟨_, _, rfl, by rw [HF.out]; exact hU4, hb4, (HKE.out.trans (KeepI.of_same HB3.out.block)).trans hk4⟩
          · have hne : (n : Int) * (W : Int) ≠ d := fun e => he (by have : ((n * W : Nat) : Int) = (d : Int) := by rw [Int.natCast_mul]; exact e
                                                                    omega)
            have u2 := (neB hne).1
            obtain ⟨D, hD⟩ : ∃ D : Nat, d - n * W = D := ⟨_, rfl⟩
            have hD1 : 1 ≤ D := by omega
            have hDd : D ≤ 40 := by omega
            have hsub : (d : Int) - (n : Int) * (W : Int) = D := by rw [← Int.natCast_mul]; omega
            have hDl : (L ++ partG f d xs.length xs n).length + (partF f D (xs ++ [(n : Int)]).length).length < 4398046511104 := by
              have h1 := HGN.out
              rw [hD] at h1
              have h2 := congrArg List.length h1
              rw [List.length_append, List.length_map] at h2
              have h3 := HLN.out; have h4 := HGL.out
              rw [List.length_append, List.length_append, List.length_singleton]; omega
            have HDL := Lib.hid hDl
            have HF : Hid ((L ++ partG f d xs.length xs n) ++ (partF f D (xs ++ [(n : Int)]).length).map (xs ++ [(n : Int)] ++ ·) = L ++ partG f d xs.length xs (n + 1)) := by
              show _ = _
              rw [HGN.out, hD, List.length_append, List.length_singleton, List.append_assoc]
            have hf2 : 2 ≤ f := by have := HIF.out; omega
            clear he hne hle hle2 hD hDl
            go_wp2_with (first | (go_at_call 165; refine (l01Own_c _ _ _ (by exact HSW.out) (by omega)).mono ?_; rintro e w2 ⟨rv, rfl, hR2, hb2⟩; obtain ⟨ra, rn, rc, rfl⟩ := own_shape hR2; have HR2 := Lib.hid hR2; have HB2 := Lib.hid hb2; clear hR2 hb2) | (at_builtin; refine append_int rfl _ _ rfl wr.heap.size _ _ _ HR2.out rfl HB2.out HB2.out.size _ rfl (by simp) (by omega) ?_; intro v' w3 hown' hbl' _ _; obtain ⟨qa, qn, qc, rfl⟩ := own_shape hown'; have HO3 := Lib.hid hown'; have HB3 := Lib.hid hbl'; clear hown' hbl') | (go_at_call 241; refine (IH.out D (xs ++ [(n : Int)]) (L ++ partG f d xs.length xs n) _ _ us2 B w3 (by rw [List.length_append, List.length_singleton]; have := HIF.out; omega) hf2 hD1 hDd HO3.out.ints (HU.out.same HB3.out.block) (Nat.le_trans hB (Nat.le_trans hsz HB3.out.size)) HDL.out).mono ?_; rintro e w4 ⟨r4, us4, rfl, hU4, hb4, hk4⟩; rw [HF.out] at hU4; obtain ⟨ta, tn, tc, rfl⟩ := own_shape hU4.row))
            go_roundw
            case rel => exact ⟨n + 1, us4, by omega, by go_num, hU4, (HBL.out.trans (HB3.out.mono (Nat.le_trans hB hsz))).trans hb4, (HKE.out.trans (KeepI.of_same HB3.out.block)).trans hk4⟩
            case measure => simp [intOf]; omega
        · have hgt : ¬ n * W ≤ d := fun h => hnq ((HQ.out _).2 h)
          have u1 : decide ((n : Int) * (W : Int) ≤ (d : Int)) = false := decide_eq_false (fun h => hgt (by
            have : ((n * W : Nat) : Int) ≤ (d : Int) := by rw [Int.natCast_mul]; exact h
            omega))
          have HN : Hid (n = q + 1) := by show _ = _; omega
          clear hgt hnq
          go_wp2_with fail
          go_ret
          exact ⟨_, us2, rfl, by rw [← HN.out]; exact HU.out, HBL.out, HKE.out⟩
    · have e1 : partF (f + 1) d xs.length = [] := by rw [partF, if_neg (by omega), if_pos (by omega)]
      rw [e1]
      have t1 : decide ((d : Int) < (wtI xs.length : Int)) = true := decide_eq_true (by omega)
      have t2 : decide (d < wtI xs.length) = true := decide_eq_true (by omega)
      have HL := Lib.hid hl
      clear e1 hlen hs hl ih hw
      go_enter Tryz.func241, Tryz.ntmps241
      go_wp2_with fail
      go_ret
      exact ⟨_, us, rfl, by simpa using HL.out, Below.refl _ _, KeepI.refl _⟩
theorem own_u_none (w : World) (B : Nat) : OwnU w B (.slice none 0 0) [] [] := ⟨World.ownsRow_nil _ _ _ _, fun i u xs hu => by simp at hu, fun i j u u' _ hu => by simp at hu⟩
theorem own_u_lit {w : World} {B : Nat} {u : Value} {xs : List Int} (hu : OwnI w B u xs) (hB : B ≤ w.heap.size) : OwnU (w.alloc (.cells #[u] 56)) B (.slice (some ⟨w.heap.size, 0, none⟩) 1 1) [u] [xs] := by
  refine ⟨World.ownsRow_lit (e := 56) (size := 1) w #[u] 1 hB (by unfold maxLen; omega) rfl, fun i x ys hx hy => ?_, fun i j x x' hij hx hx' => ?_⟩
  · match i, hx, hy with
    | 0, hx, hy =>
      simp at hx hy
      subst hx; subst hy; exact hu.same (alloc_old w _)
  · match j, hx' with
    | 0, _ => omega
    | j + 1, hx' => simp at hx'
set_option maxRecDepth 100000 in
theorem l01All_c (d : Nat) (w : World) (hd : d ≤ 40) :
    Calls Tryz.prog 205 #[.int .i64 d] w fun e w' => ∃ r us, e = .returned r ∧ OwnU w' w.heap.size r us (partL d) ∧ Below w.heap.size w w' := by
  have hE := ownI_empty (w := w) (B := w.heap.size) (Nat.le_refl _)
  have hbl : Below w.heap.size w (w.alloc (.cells #[] 2)) := (Below.refl _ _).alloc (Nat.le_refl _) _
  by_cases h0 : d = 0
  · subst h0
    have C : Calls Tryz.prog 241 #[.int .i64 0, .slice (some ⟨w.heap.size, 0, none⟩) 0 0, .slice none 0 0] (w.alloc (.cells #[] 2)) fun e w' => ∃ r us, e = .returned r ∧ OwnU w' w.heap.size r us (partL 0) ∧ Below w.heap.size w w' := by
      have HE := Lib.hid hE; have HB := Lib.hid hbl
      clear hE hbl
      go_enter Tryz.func241, Tryz.ntmps241
      go_wp2_with (at_builtin; refine append_rowU rfl _ _ rfl w.heap.size _ _ [] [] [] (own_u_none _ _) rfl HE.out HB.out (Below.refl _ _) (Nat.le_refl _) _ rfl (by simp) (Nat.zero_le _) ?_; intro v4 w4 hU4 hb4 hk4 _ _ _; obtain ⟨ta, tn, tc, rfl⟩ := own_shape hU4.row)
      go_ret
      exact ⟨_, _, rfl, hU4, hb4⟩
    have C := Lib.hid C
    clear hE hbl
    go_enter Tryz.func205, Tryz.ntmps205
    go_wp2_with (go_at_call 241; refine C.out.mono ?_; rintro e w1 ⟨r, us, rfl, hU, hb⟩; obtain ⟨ta, tn, tc, rfl⟩ := own_shape hU.row)
    go_ret
    exact ⟨_, _, rfl, hU, hb⟩
  · have hlen : (partL d).length ≤ 504 := expD_length (d := (d : Int)) (asc_partL d) (fun x hx => mem_partL hd hx) (by omega)
    have C := Lib.hid (l01Partitions_c 8 d [] [] (.slice (some ⟨w.heap.size, 0, none⟩) 0 0) (.slice none 0 0) [] w.heap.size (w.alloc (.cells #[] 2)) rfl (by omega) (by omega) hd hE.ints (own_u_none _ _) (by simp) (by show 0 + (partL d).length < _; omega))
    have HB := Lib.hid hbl
    have HE : Hid (([] : List (List Int)) ++ (partF 8 d ([] : List Int).length).map (([] : List Int) ++ ·) = partL d) := by show _ = _; simp [partL]
    rw [HE.out] at C
    clear hE hbl h0 hlen
    go_enter Tryz.func205, Tryz.ntmps205
    go_wp2_with (go_at_call 241; refine C.out.mono ?_; rintro e w1 ⟨r, us, rfl, hU, hb, hk⟩; obtain ⟨ta, tn, tc, rfl⟩ := own_shape hU.row)
    go_ret
    exact ⟨_, _, rfl, hU, HB.out.trans hb⟩
theorem l04Basis_c (d : Nat) (w : World) (hd : d ≤ 40) :
    Calls Tryz.prog 141 #[.int .i64 d] w fun e w' => ∃ r us, e = .returned r ∧ OwnU w' w.heap.size r us (partL d) ∧ Below w.heap.size w w' := by
  go_enter Tryz.func141, Tryz.ntmps141
  go_wp2_with (go_at_call 205; refine (l01All_c d w hd).mono ?_; rintro e w1 ⟨r, us, rfl, hU, hb⟩; obtain ⟨ta, tn, tc, rfl⟩ := own_shape hU.row)
  go_ret
  exact ⟨_, _, rfl, hU, hb⟩
end Go.Proofs.YtmnkccjddahcjaaGreat

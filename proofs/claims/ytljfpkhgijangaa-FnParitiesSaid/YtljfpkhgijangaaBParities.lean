/- Texts that lie in one file here: LParS LPut LDcj LDcI LSss LDcS LDcM LApp LParI LDegT LCjg LDr4. -/
import Derived.Test.YtljfpkhgijangaaLPart
import Derived.Test.YtljfpkhgijangaaLCount
import Derived.Test.YtljfpkhgijangaaLCopy
import Derived.Test.YtljfpkhgijangaaLOdd2
import Derived.Test.YtljfpkhgijangaaBaseC
import Derived.Test.YtljfpkhgijangaaLRef
import Derived.Test.YtljfpkhgijangaaLCmp
import Derived.Test.YtljfpkhgijangaaLMulD
import Derived.Test.YtljfpkhgijangaaLib4
import Derived.Test.YtljfpkhgijangaaLStep2
import Derived.Test.YtljfpkhgijangaaLHeld2
import Derived.Test.YtljfpkhgijangaaLTrim
import Derived.Test.YtljfpkhgijangaaLMilArg
import Derived.Laws.EntriesVeiled
import Derived.Test.YtljfpkhgijangaaLPair
import Derived.Test.YtljfpkhgijangaaLAdd2
import Derived.Test.YtljfpkhgijangaaLSrc2
namespace Go.Proofs.Ytljfpkhgijangaa
section
open Go.RowKit Go.Sort

/-- The lists of the first n numbers at a place, behind their beginning. -/
def partG (f d i : Nat) (xs : List Int) (n : Nat) : List (List Int) := (List.range n).flatMap fun m => (partF f (d - m * wtI i) (i + 1)).map fun x => xs ++ (m : Int) :: x
theorem partG_succ (f d i : Nat) (xs : List Int) (n : Nat) : partG f d i xs (n + 1) = partG f d i xs n ++ (partF f (d - n * wtI i) (i + 1)).map (xs ++ [(n : Int)] ++ ·) := by
  unfold partG
  rw [List.range_succ, List.flatMap_append]
  simp
theorem partG_all (f d i : Nat) (xs : List Int) (hd : 1 ≤ d) (hw : wtI i ≤ d) : (partF (f + 1) d i).map (xs ++ ·) = partG f d i xs (d / wtI i + 1) := by
  rw [partF, if_neg (by omega), if_neg (by omega)]
  unfold partG
  rw [List.map_flatMap]
  simp [List.map_map, Function.comp_def]
theorem partG_len (f d i : Nat) (xs : List Int) (n N : Nat) (h : n ≤ N) : (partG f d i xs n).length ≤ (partG f d i xs N).length := by
  obtain ⟨k, rfl⟩ : ∃ k, N = n + k := ⟨N - n, by omega⟩
  clear h
  induction k with
  | zero => exact Nat.le_refl _
  | succ k ih => rw [← Nat.add_assoc, partG_succ, List.length_append]; omega
theorem wtI_small {i d : Nat} (hi : i < 8) (hd : d ≤ 40) (h : wtI i ≤ d) : i ≤ 4 := by
  have : ∀ i, i < 8 → 4 < i → 63 ≤ wtI i := by decide
  rcases Nat.lt_or_ge 4 i with e | e
  · have := this i hi e; omega
  · exact e
theorem wtI_le {i : Nat} (hi : i < 8) : wtI i ≤ 255 := by
  have : ∀ i, i < 8 → wtI i ≤ 255 := by decide
  exact this i hi
set_option maxRecDepth 100000 in
set_option maxHeartbeats 1000000 in
theorem l01Partitions_c : ∀ (f d : Nat) (xs : List Int) (L : List (List Int)) (s l : Value) (us : List Value) (B : Nat) (w : World), xs.length + f = 8 → 2 ≤ f → 1 ≤ d → d ≤ 40 → IntS w.heap s xs → OwnU w B l us L → B ≤ w.heap.size → L.length + (partF f d xs.length).length < 4398046511104 →
    Calls Try.prog 150 #[.int .i64 d, s, l] w fun e w' => ∃ r us', e = .returned r ∧ OwnU w' B r us' (L ++ (partF f d xs.length).map (xs ++ ·)) ∧ Below B w w' ∧ KeepI w w' := by
  intro f
  induction f with
  | zero => intro d xs L s l us B w h1 h2; omega
  | succ f ih =>
    intro d xs L s l us B w hif hf hd hd2 hs hl hB hlen
    obtain ⟨sa, sc, rfl, -⟩ := hs.len
    obtain ⟨la, ln, lc, rfl⟩ := own_shape hl.row
    have hwp := wtI_pos xs.length
    have hw8 := wtI_le (i := xs.length) (by omega)
    have hW : wrap64 (2 ^ (xs.length + 1)) = (wtI xs.length : Int) + 1 := by
      have := wtI_int xs.length
      unfold wrap64; omega
    have hwi : IntKind.i64.wrap ((xs.length : Int) + 1) = xs.length + 1 := IntWalk.i64_in _ (by omega)
    have t0 := (neB (show (d : Int) ≠ 0 by omega)).1
    have t0' := (neB (show (d : Int) ≠ 0 by omega)).2
    by_cases hw : wtI xs.length ≤ d
    · have hi4 := wtI_small (by omega) hd2 hw
      have hG := partG_all f d xs.length xs hd hw
      rw [hG]
      have hGl : L.length + (partG f d xs.length xs (d / wtI xs.length + 1)).length < 4398046511104 := by rw [← hG, List.length_map]; exact hlen
      have HGL := Lib.hid hGl
      have t1 : decide ((d : Int) < (wtI xs.length : Int)) = false := decide_eq_false (by omega)
      have t2 : decide (d < wtI xs.length) = false := decide_eq_false (by omega)
      have HS := Lib.hid hs; have HL := Lib.hid hl
      have IH := Lib.hid ih
      have HSU := Lib.hid (partG_succ f d xs.length xs)
      have HLE := Lib.hid (partG_len f d xs.length xs)
      have HPF : Hid (∀ j, partF f 0 j = [[]]) := fun j => by
        obtain ⟨f', rfl⟩ : ∃ f', f = f' + 1 := ⟨f - 1, by omega⟩
        rw [partF, if_pos rfl]
      obtain ⟨W, hWW⟩ : ∃ W : Nat, wtI xs.length = W := ⟨_, rfl⟩
      have HWW := Lib.hid hWW
      rw [hWW] at hW t1 t2 hwp hw8 hw HGL HSU ⊢
      obtain ⟨q, hq⟩ : ∃ q : Nat, d / W = q := ⟨_, rfl⟩
      have hQ : ∀ n : Nat, n ≤ q ↔ n * W ≤ d := fun n => by rw [← hq]; exact Nat.le_div_iff_mul_le hwp
      have HQ := Lib.hid hQ
      clear hQ
      have hqd : q ≤ 40 := by
        have := (HQ.out q).1 (Nat.le_refl _)
        have := Nat.mul_le_mul_left q hwp
        omega
      rw [hq] at HGL ⊢
      have HIF := Lib.hid hif
      clear hG hGl hlen hs hl ih hq hWW hif
      go_enter Try.func150, Try.ntmps150
      go_wp2_with fail
      clear t1 t2 t0 t0' hW
      go_loopw [2, 8] (fun l r wr => ∃ (n : Nat) (us : List Value), n ≤ q + 1 ∧ r = .int .i64 n ∧ OwnU wr B l us (L ++ partG f d xs.length xs n) ∧ Below B w wr ∧ KeepI w wr) (fun _ r _ => 41 - (intOf r).toNat)
      case atStart => exact ⟨0, us, by omega, rfl, by simpa [partG] using HL.out, Below.refl _ _, KeepI.refl _⟩
      case round =>
        obtain ⟨n, us2, hn, rfl, hU, hbl, hke⟩ := hrel
        obtain ⟨va, vn, vc, rfl⟩ := own_shape hU.row
        have HU := Lib.hid hU; have HBL := Lib.hid hbl; have HKE := Lib.hid hke
        have hsz := hbl.size
        have HSW := Lib.hid (HS.out.keep hke)
        clear hU hbl hke
        have hnW : (0 : Int) ≤ (n : Int) * (W : Int) := Int.mul_nonneg (by omega) (by omega)
        have hnW2 : (n : Int) * (W : Int) ≤ 41 * 255 := Int.mul_le_mul (by omega) (by omega) (by omega) (by omega)
        by_cases hnq : n ≤ q
        · have hle := (HQ.out n).1 hnq
          have hle2 : (n : Int) * (W : Int) ≤ d := by have : ((n * W : Nat) : Int) ≤ (d : Int) := by omega
                                                      rwa [Int.natCast_mul] at this
          have u1 : decide ((n : Int) * (W : Int) ≤ (d : Int)) = true := decide_eq_true hle2
          have HGN := Lib.hid (HSU.out n)
          have HLN := Lib.hid (HLE.out (n + 1) (q + 1) (by omega))
          have HLN0 := Lib.hid (HLE.out n (q + 1) (by omega))
          have hll : (L ++ partG f d xs.length xs n).length ≤ 4398046511104 := by rw [List.length_append]; have := HLN0.out; have := HGL.out; omega
          have HLL := Lib.hid hll
          clear hll
          by_cases he : n * W = d
          · have he2 : (n : Int) * (W : Int) = d := by have : ((n * W : Nat) : Int) = (d : Int) := by omega
                                                       rwa [Int.natCast_mul] at this
            have u2 := (eqB he2).1
            have hqn : q = n := by
              have := (HQ.out (n + 1)).2
              have h2 : ¬ (n + 1) * W ≤ d := by rw [Nat.add_mul]; omega
              have h3 : ¬ n + 1 ≤ q := fun h => h2 ((HQ.out (n + 1)).1 h)
              omega
            have HF : Hid (L ++ partG f d xs.length xs (q + 1) = (L ++ partG f d xs.length xs n) ++ [xs ++ [(n : Int)]]) := by
              show _ = _
              rw [hqn, HGN.out, he, Nat.sub_self, HPF.out]; simp
            clear he he2 hqn hle hle2 hnq
            go_wp2_with (first | (go_at_call 123; refine (l01Own_c _ _ _ (by exact HSW.out) (by omega)).mono ?_; rintro e w2 ⟨rv, rfl, hR2, hb2⟩; obtain ⟨ra, rn, rc, rfl⟩ := own_shape hR2; have HR2 := Lib.hid hR2; have HB2 := Lib.hid hb2; clear hR2 hb2) | (at_builtin; refine append_int rfl _ _ rfl wr.heap.size _ _ _ HR2.out rfl HB2.out HB2.out.size _ rfl (by simp) (by omega) ?_; intro v' w3 hown' hbl' _ _; obtain ⟨qa, qn, qc, rfl⟩ := own_shape hown'; have HO3 := Lib.hid hown'; have HB3 := Lib.hid hbl'; clear hown' hbl') | (at_builtin; refine append_rowU rfl _ _ rfl B _ _ us2 _ _ HU.out rfl HO3.out HB3.out HBL.out (by omega) _ rfl rfl HLL.out ?_; intro v4 w4 hU4 hb4 hk4 _ _ _; obtain ⟨ta, tn, tc, rfl⟩ := own_shape hU4.row))
            go_ret
            exact ⟨_, _, rfl, by rw [HF.out]; exact hU4, hb4, (HKE.out.trans (KeepI.of_same HB3.out.block)).trans hk4⟩
          · have hne : (n : Int) * (W : Int) ≠ d := fun e => he (by have : ((n * W : Nat) : Int) = (d : Int) := by rw [Int.natCast_mul]; exact e
                                                                    omega)
            have u2 := (neB hne).1
            obtain ⟨D, hD⟩ : ∃ D : Nat, d - n * W = D := ⟨_, rfl⟩
            have hD1 : 1 ≤ D := by omega
            have hDd : D ≤ 40 := by omega
            have hsub : (d : Int) - (n : Int) * (W : Int) = D := by rw [← Int.natCast_mul]; omega
            have hDl : (L ++ partG f d xs.length xs n).length + (partF f D (xs ++ [(n : Int)]).length).length < 4398046511104 := by
              have h1 := HGN.out
              rw [hD] at h1
              have h2 := congrArg List.length h1
              rw [List.length_append, List.length_map] at h2
              have h3 := HLN.out; have h4 := HGL.out
              rw [List.length_append, List.length_append, List.length_singleton]; omega
            have HDL := Lib.hid hDl
            have HF : Hid ((L ++ partG f d xs.length xs n) ++ (partF f D (xs ++ [(n : Int)]).length).map (xs ++ [(n : Int)] ++ ·) = L ++ partG f d xs.length xs (n + 1)) := by
              show _ = _
              rw [HGN.out, hD, List.length_append, List.length_singleton, List.append_assoc]
            have hf2 : 2 ≤ f := by have := HIF.out; omega
            clear he hne hle hle2 hD hDl
            go_wp2_with (first | (go_at_call 123; refine (l01Own_c _ _ _ (by exact HSW.out) (by omega)).mono ?_; rintro e w2 ⟨rv, rfl, hR2, hb2⟩; obtain ⟨ra, rn, rc, rfl⟩ := own_shape hR2; have HR2 := Lib.hid hR2; have HB2 := Lib.hid hb2; clear hR2 hb2) | (at_builtin; refine append_int rfl _ _ rfl wr.heap.size _ _ _ HR2.out rfl HB2.out HB2.out.size _ rfl (by simp) (by omega) ?_; intro v' w3 hown' hbl' _ _; obtain ⟨qa, qn, qc, rfl⟩ := own_shape hown'; have HO3 := Lib.hid hown'; have HB3 := Lib.hid hbl'; clear hown' hbl') | (go_at_call 150; refine (IH.out D (xs ++ [(n : Int)]) (L ++ partG f d xs.length xs n) _ _ us2 B w3 (by rw [List.length_append, List.length_singleton]; have := HIF.out; omega) hf2 hD1 hDd HO3.out.ints (HU.out.same HB3.out.block) (Nat.le_trans hB (Nat.le_trans hsz HB3.out.size)) HDL.out).mono ?_; rintro e w4 ⟨r4, us4, rfl, hU4, hb4, hk4⟩; rw [HF.out] at hU4; obtain ⟨ta, tn, tc, rfl⟩ := own_shape hU4.row))
            go_roundw
            case rel => exact ⟨n + 1, us4, by omega, by go_num, hU4, (HBL.out.trans (HB3.out.mono (Nat.le_trans hB hsz))).trans hb4, (HKE.out.trans (KeepI.of_same HB3.out.block)).trans hk4⟩
            case measure => simp [intOf]; omega
        · have hgt : ¬ n * W ≤ d := fun h => hnq ((HQ.out _).2 h)
          have u1 : decide ((n : Int) * (W : Int) ≤ (d : Int)) = false := decide_eq_false (fun h => hgt (by
            have : ((n * W : Nat) : Int) ≤ (d : Int) := by rw [Int.natCast_mul]; exact h
            omega))
          have HN : Hid (n = q + 1) := by show _ = _; omega
          clear hgt hnq
          go_wp2_with fail
          go_ret
          exact ⟨_, us2, rfl, by rw [← HN.out]; exact HU.out, HBL.out, HKE.out⟩
    · have e1 : partF (f + 1) d xs.length = [] := by rw [partF, if_neg (by omega), if_pos (by omega)]
      rw [e1]
      have t1 : decide ((d : Int) < (wtI xs.length : Int)) = true := decide_eq_true (by omega)
      have t2 : decide (d < wtI xs.length) = true := decide_eq_true (by omega)
      have HL := Lib.hid hl
      clear e1 hlen hs hl ih hw
      go_enter Try.func150, Try.ntmps150
      go_wp2_with fail
      go_ret
      exact ⟨_, us, rfl, by simpa using HL.out, Below.refl _ _, KeepI.refl _⟩
theorem own_u_none (w : World) (B : Nat) : OwnU w B (.slice none 0 0) [] [] := ⟨World.ownsRow_nil _ _ _ _, fun i u xs hu => by simp at hu, fun i j u u' _ hu => by simp at hu⟩
theorem own_u_lit {w : World} {B : Nat} {u : Value} {xs : List Int} (hu : OwnI w B u xs) (hB : B ≤ w.heap.size) : OwnU (w.alloc (.cells #[u] 27)) B (.slice (some ⟨w.heap.size, 0, none⟩) 1 1) [u] [xs] := by
  refine ⟨World.ownsRow_lit (e := 27) (size := 1) w #[u] 1 hB (by unfold maxLen; omega) rfl, fun i x ys hx hy => ?_, fun i j x x' hij hx hx' => ?_⟩
  · match i, hx, hy with
    | 0, hx, hy =>
      simp at hx hy
      subst hx; subst hy; exact hu.same (alloc_old w _)
  · match j, hx' with
    | 0, _ => omega
    | j + 1, hx' => simp at hx'
set_option maxRecDepth 100000 in
theorem l01All_c (d : Nat) (w : World) (hd : d ≤ 40) :
    Calls Try.prog 87 #[.int .i64 d] w fun e w' => ∃ r us, e = .returned r ∧ OwnU w' w.heap.size r us (partL d) ∧ Below w.heap.size w w' := by
  have hE := ownI_empty (w := w) (B := w.heap.size) (Nat.le_refl _)
  have hbl : Below w.heap.size w (w.alloc (.cells #[] 2)) := (Below.refl _ _).alloc (Nat.le_refl _) _
  by_cases h0 : d = 0
  · subst h0
    have C : Calls Try.prog 150 #[.int .i64 0, .slice (some ⟨w.heap.size, 0, none⟩) 0 0, .slice none 0 0] (w.alloc (.cells #[] 2)) fun e w' => ∃ r us, e = .returned r ∧ OwnU w' w.heap.size r us (partL 0) ∧ Below w.heap.size w w' := by
      have HE := Lib.hid hE; have HB := Lib.hid hbl
      clear hE hbl
      go_enter Try.func150, Try.ntmps150
      go_wp2_with (at_builtin; refine append_rowU rfl _ _ rfl w.heap.size _ _ [] [] [] (own_u_none _ _) rfl HE.out HB.out (Below.refl _ _) (Nat.le_refl _) _ rfl (by simp) (Nat.zero_le _) ?_; intro v4 w4 hU4 hb4 hk4 _ _ _; obtain ⟨ta, tn, tc, rfl⟩ := own_shape hU4.row)
      go_ret
      exact ⟨_, _, rfl, hU4, hb4⟩
    have C := Lib.hid C
    clear hE hbl
    go_enter Try.func87, Try.ntmps87
    go_wp2_with (go_at_call 150; refine C.out.mono ?_; rintro e w1 ⟨r, us, rfl, hU, hb⟩; obtain ⟨ta, tn, tc, rfl⟩ := own_shape hU.row)
    go_ret
    exact ⟨_, _, rfl, hU, hb⟩
  · have hlen : (partL d).length ≤ 504 := expD_length (d := (d : Int)) (asc_partL d) (fun x hx => mem_partL hd hx) (by omega)
    have C := Lib.hid (l01Partitions_c 8 d [] [] (.slice (some ⟨w.heap.size, 0, none⟩) 0 0) (.slice none 0 0) [] w.heap.size (w.alloc (.cells #[] 2)) rfl (by omega) (by omega) hd hE.ints (own_u_none _ _) (by simp) (by show 0 + (partL d).length < _; omega))
    have HB := Lib.hid hbl
    have HE : Hid (([] : List (List Int)) ++ (partF 8 d ([] : List Int).length).map (([] : List Int) ++ ·) = partL d) := by show _ = _; simp [partL]
    rw [HE.out] at C
    clear hE hbl h0 hlen
    go_enter Try.func87, Try.ntmps87
    go_wp2_with (go_at_call 150; refine C.out.mono ?_; rintro e w1 ⟨r, us, rfl, hU, hb, hk⟩; obtain ⟨ta, tn, tc, rfl⟩ := own_shape hU.row)
    go_ret
    exact ⟨_, _, rfl, hU, HB.out.trans hb⟩
end
section
open Go.RowKit Go.Sort

theorem put_split (x : List Int) (l : List (List Int)) (k : Nat) (hk : k ≤ l.length) (h1 : ∀ j, j < k → ltL (l.getD j []) x = true) (h2 : k < l.length → ltL (l.getD k []) x = false) :
    put x l = l.take k ++ (if k < l.length ∧ l.getD k [] = x then l.drop (k + 1) else x :: l.drop k) := by
  induction l generalizing k with
  | nil =>
    obtain rfl : k = 0 := by simpa using hk
    simp [put]
  | cons y r ih =>
    rcases k with _ | k
    · have h3 := h2 (by simp)
      simp only [List.getD_cons_zero] at h3
      rw [put]
      cases h4 : ltL x y
      · have e := ltL_total _ _ h3 h4
        subst e
        simp [ltL_irrefl]
      · have e : y ≠ x := fun e => by subst e; rw [ltL_irrefl] at h4; cases h4
        simp [e]
    · have h3 := h1 0 (by omega)
      simp only [List.getD_cons_zero] at h3
      rw [put, if_neg (by rw [ltL_asymm _ _ h3]; decide), if_pos h3, ih k (by simpa using hk) (fun j hj => by have := h1 (j + 1) (by omega); simpa using this) (fun hh => by have := h2 (by simpa using hh); simpa using this)]
      simp
theorem put_length (x : List Int) (l : List (List Int)) : (put x l).length ≤ l.length + 1 := by
  induction l with
  | nil => simp [put]
  | cons y r ih => rw [put]; split; simp; split; simp; exact ih; simp; omega
set_option maxRecDepth 100000 in
set_option maxHeartbeats 2000000 in
theorem l01PutR_c (v u : Value) (xss : List (List Int)) (xs : List Int) (w : World) (h : IntSS w.heap v xss) (hu : IntS w.heap u xs) (hl : xss.length < 4398046511104) (hx : xs.length ≤ 4398046511104) :
    Calls Try.prog 151 #[v, u] w fun e w' => ∃ r, e = .returned r ∧ (∃ us, RefR w' w.heap.size w'.heap r us (put xs xss)) ∧ Below w.heap.size w w' := by
  have OW := Lib.hid (fun (W : World) (hu : IntS W.heap u xs) => l01Own_c u xs W hu hx)
  have LS := Lib.hid (fun (y : Value) (ys : List Int) (W : World) (h1 : IntS W.heap y ys) (h2 : IntS W.heap u xs) => l01Less_c y u ys xs W h1 h2)
  have SM := Lib.hid (fun (y : Value) (ys : List Int) (W : World) (h1 : IntS W.heap y ys) (h2 : IntS W.heap u xs) => l01Same_c y u ys xs W h1 h2)
  obtain ⟨ao, c, hv, hm⟩ := h.len
  subst hv
  obtain ⟨bo, d, hv2, hm2⟩ := hu.len
  subst hv2
  have hcap : xss.length ≤ c := by
    obtain ⟨us, h1, h2, _⟩ := h
    obtain ⟨a', c', hv', h3, _⟩ := SlAt.len h1
    simp only [Value.slice.injEq] at hv'
    omega
  have H := Lib.hid h; have HU := Lib.hid hu; clear h hu
  go_enter Try.func151, Try.ntmps151
  go_wp2_with fail
  go_loopw [5] (fun i wr => ∃ k n : Nat, k ≤ xss.length ∧ i = .int .i64 k ∧ wr = w.drewN n ∧ ∀ j, j < k → ltL (xss.getD j []) xs = true) (fun i _ => xss.length - (intOf i).toNat)
  case atStart => exact ⟨0, 0, Nat.zero_le _, rfl, rfl, fun j hj => by omega⟩
  case round =>
    obtain ⟨k, n, hk, rfl, rfl, hpre⟩ := hrel
    have HP := Lib.hid hpre; clear hpre
    by_cases hlt : k < xss.length
    · obtain ⟨b1', o1, c1, uk, hv1, hc1, huk, -⟩ := H.out.at k hlt
      simp only [Value.slice.injEq, true_and] at hv1
      obtain ⟨rfl, rfl⟩ := hv1
      obtain ⟨qa, qc, rfl, -⟩ := huk.len
      rw [show xss[k] = xss.getD k [] by simp [hlt]] at huk hc1
      have HUK := Lib.hid huk
      have hki : (k : Int) < xss.length := by omega
      clear huk
      cases hL : ltL (xss.getD k []) xs
      · have L1 := Lib.hid (LS.out (.slice qa (xss.getD k []).length qc) _ (w.drewN n) HUK.out HU.out)
        rw [hL] at L1
        by_cases heq : xss.getD k [] = xs
        · have HS : Hid (put xs xss = xss.take k ++ xss.drop (k + 1)) := by
            show _ = _
            rw [put_split xs xss k hk HP.out (fun _ => hL), if_pos ⟨hlt, heq⟩]
          have M1 := Lib.hid (fun (W : World) (h : IntS W.heap (.slice qa (xss.getD k []).length qc) (xss.getD k [])) (h2 : IntS W.heap (.slice bo xs.length d) xs) => SM.out _ _ W h h2)
          rw [show decide (xss.getD k [] = xs) = true by simpa using heq] at M1
          clear hL heq
          generalize xss.getD k [] = ys at *
          go_wp2_with (first | (go_at_call 155; refine L1.out.mono ?_; rintro e W2 ⟨rfl, n2, rfl⟩) | (go_at_call 189; refine (M1.out _ (by exact HUK.out) (by exact HU.out)).mono ?_; rintro e W3 ⟨rfl, n3, rfl⟩))
          have b0 : (0 : Int) ≤ k := by omega
          have b1 : (k : Int) ≤ c := by omega
          have b2 : (0 : Int) ≤ (k : Int) + 1 := by omega
          have b3 : (k : Int) + 1 ≤ xss.length := by omega
          have b4 : ((k : Int) + 1).toNat = k + 1 := by omega
          have b5 : IntKind.i64.wrap ((k : Int) + 1) = (k : Int) + 1 := IntWalk.i64_in _ (by omega)
          go_region_held3 (fun _ => True) (trivial) (first | (refine step_append_refs (by rfl) _ _ (by rfl) w.heap.size w.heap (.slice (some ⟨w.heap.size, 0, none⟩) 0 0) (.slice (some ⟨b1', o1, none⟩) k c) [] [] (xss.take k) (by exact ref_empty (w := w.drewN (n + n2 + n3 + 1)) _ (by exact Nat.le_refl _)) (by rfl) (by exact ((H.out.at2 (fun _ _ => rfl)).take k hk).same (alloc_old w _)) (by rfl) (by exact (below_drewN _ (Below.refl _ w)).alloc (by simp) _) (by simp) (by simp; omega) ?_; intro v3 us3 w3 hR3 hb3 hs3 hk3; obtain ⟨sa, sn, sc, rfl⟩ := own_shape hR3.row) | (refine step_append_refs (by rfl) _ _ (by rfl) w.heap.size w.heap (.slice sa sn sc) (.slice (dropA (some ⟨b1', o1, none⟩) c (k + 1)) (xss.length - (k + 1)) (c - (k + 1))) us3 _ (xss.drop (k + 1)) hR3 (by rfl) (by exact (H.out.at2 hb3.block).drop (k + 1) (by omega)) (by rfl) hb3 hb3.size (by simp; omega) ?_; intro v4 us4 w4 hR4 hb4 _ _; obtain ⟨ta, tn, tc, rfl⟩ := own_shape hR4.row))
          go_wp2_with fail
          all_goals
            go_ret
            exact ⟨_, rfl, ⟨us4, by rw [HS.out]; exact hR4.grow hb4.block⟩, hb4⟩
        · have HS : Hid (put xs xss = xss.take k ++ xs :: xss.drop k) := by
            show _ = _
            rw [put_split xs xss k hk HP.out (fun _ => hL), if_neg (fun x => heq x.2)]
          have M1 := Lib.hid (fun (W : World) (h : IntS W.heap (.slice qa (xss.getD k []).length qc) (xss.getD k [])) (h2 : IntS W.heap (.slice bo xs.length d) xs) => SM.out _ _ W h h2)
          rw [show decide (xss.getD k [] = xs) = false by simpa using heq] at M1
          have HD : Hid (dropA (some ⟨b1', o1, none⟩) c k = some ⟨b1', o1 + k, none⟩) := by
            show _ = _
            have : c ≠ k := by omega
            simp [dropA, this, Addr.add]
          clear hL heq
          generalize xss.getD k [] = ys at *
          have b0 : (0 : Int) ≤ k := by omega
          have b1 : (k : Int) ≤ c := by omega
          have b6 : (k : Int) ≤ xss.length := by omega
          go_wp2_with (first | (go_at_call 155; refine L1.out.mono ?_; rintro e W2 ⟨rfl, n2, rfl⟩) | (go_at_call 189; refine (M1.out _ (by exact HUK.out) (by exact HU.out)).mono ?_; rintro e W3 ⟨rfl, n3, rfl⟩))
          go_region_held3 (fun _ => True) (trivial) (first | (go_at_call 123; refine (OW.out _ (by exact HU.out)).mono ?_; rintro e w2 ⟨ru, rfl, hru, hb2⟩; obtain ⟨ra, rn, rc, rfl⟩ := own_shape hru; have HB2 := Lib.hid ((below_drewN (n + n2 + n3 + 1) (Below.refl _ w)).trans hb2); have HRU := Lib.hid hru.ints; clear hru hb2) | (refine step_append_refs (by rfl) _ _ (by rfl) w2.heap.size w2.heap (.slice (some ⟨w2.heap.size, 0, none⟩) 1 1) (.slice (some ⟨b1', o1 + k, none⟩) (xss.length - k) (c - k)) [.slice ra rn rc] [xs] (xss.drop k) (by exact ref_one HRU.out (Nat.le_refl _)) (by rfl) (by have := (((H.out.same HB2.out.block).at2 (fun _ _ => rfl)).drop k hk).same (alloc_old _ (.cells #[.slice ra rn rc] 27)); rw [HD.out] at this; exact this) (by rfl) (by exact (Below.refl _ _).alloc (Nat.le_refl _) _) (by simp) (by simp; omega) ?_; intro v3 us3 w3 hR3 hb3 _ _; obtain ⟨sa, sn, sc, rfl⟩ := own_shape hR3.row))
          have HR3 := Lib.hid hR3; have HB3 := Lib.hid hb3; clear hR3 hb3
          go_wp2_with (first | (at_builtin; refine append_refs rfl _ _ rfl w2.heap.size w2.heap (.slice (some ⟨w3.heap.size, 0, none⟩) 0 0) (.slice (some ⟨b1', o1, none⟩) k c) [] [] (xss.take k) (ref_empty _ HB3.out.size) rfl ((((H.out.same HB2.out.block).at2 HB3.out.block).take k hk).same (alloc_old _ _)) rfl (HB3.out.alloc HB3.out.size _) (by have := HB3.out.size; simp; omega) (by simp; omega) ?_; intro v4 us4 w4 hR4 hb4 hs4 hk4; obtain ⟨ta, tn, tc, rfl⟩ := own_shape hR4.row; have HR4 := Lib.hid hR4; have HB4 := Lib.hid hb4; have HR34 := Lib.hid (HR3.out.at2.same (fun b hb => (hk4 b (by simp; omega) (fun e => by simp [Value.ownBlock] at e; omega)).trans (alloc_old _ _ b hb))); clear hR4 hb4 hs4 hk4) | (at_builtin; refine append_refs rfl _ _ rfl w2.heap.size w2.heap (.slice ta tn tc) (.slice sa sn sc) us4 _ ([xs] ++ xss.drop k) HR4.out rfl HR34.out rfl HB4.out HB4.out.size (by simp; omega) ?_; intro v5 us5 w5 hR5 hb5 _ _; obtain ⟨pa, pn, pc, rfl⟩ := own_shape hR5.row))
          go_ret
          exact ⟨_, rfl, ⟨us5, by rw [HS.out]; exact RefR.base (RefR.grow (by simpa using hR5) hb5.block) HB2.out.size⟩, HB2.out.trans (hb5.mono HB2.out.size)⟩
      · have HPS : Hid (∀ j, j < k + 1 → ltL (xss.getD j []) xs = true) := fun j hj => by
          by_cases e : j = k
          · rw [e]; exact hL
          · exact HP.out j (by omega)
        have L1 := Lib.hid (LS.out (.slice qa (xss.getD k []).length qc) _ (w.drewN n) HUK.out HU.out)
        rw [hL] at L1
        clear hL
        generalize xss.getD k [] = ys at *
        go_wp2_with (go_at_call 155; refine L1.out.mono ?_; rintro e W2 ⟨rfl, n2, rfl⟩)
        go_roundw
        case rel => exact ⟨k + 1, _, by omega, by go_num, by first | rfl | (simp only [World.drewN_drewN]; rfl), HPS.out⟩
        case measure => simp [intOf]; omega
    · have HS : Hid (put xs xss = xss.take k ++ xs :: xss.drop k) := by
        show _ = _
        rw [put_split xs xss k hk HP.out (fun h => absurd h hlt), if_neg (fun x => hlt x.1)]
      by_cases hck : c = k
      · obtain rfl : k = c := hck.symm
        have HD : Hid (dropA ao k k = ao) := by show _ = _; rw [dropA, if_pos rfl]
        have b0 : (0 : Int) ≤ k := by omega
        have b6 : (k : Int) ≤ xss.length := by omega
        go_wp2_with fail
        go_region_held3 (fun _ => True) (trivial) (first | (go_at_call 123; refine (OW.out _ (by exact HU.out)).mono ?_; rintro e w2 ⟨ru, rfl, hru, hb2⟩; obtain ⟨ra, rn, rc, rfl⟩ := own_shape hru; have HB2 := Lib.hid ((below_drewN (n + 1) (Below.refl _ w)).trans hb2); have HRU := Lib.hid hru.ints; clear hru hb2) | (refine step_append_refs (by rfl) _ _ (by rfl) w2.heap.size w2.heap (.slice (some ⟨w2.heap.size, 0, none⟩) 1 1) (.slice ao 0 0) [.slice ra rn rc] [xs] (xss.drop k) (by exact ref_one HRU.out (Nat.le_refl _)) (by rfl) (by have := (((H.out.same HB2.out.block).at2 (fun _ _ => rfl)).drop k hk).same (alloc_old _ (.cells #[.slice ra rn rc] 27)); rw [HD.out, Nat.sub_self, show xss.length - k = 0 by omega] at this; exact this) (by rfl) (by exact (Below.refl _ _).alloc (Nat.le_refl _) _) (by simp) (by simp; omega) ?_; intro v3 us3 w3 hR3 hb3 _ _; obtain ⟨sa, sn, sc, rfl⟩ := own_shape hR3.row))
        have HR3 := Lib.hid hR3; have HB3 := Lib.hid hb3; clear hR3 hb3
        go_wp2_with (first | (at_builtin; refine append_refs rfl _ _ rfl w2.heap.size w2.heap (.slice (some ⟨w3.heap.size, 0, none⟩) 0 0) (.slice ao k k) [] [] (xss.take k) (ref_empty _ HB3.out.size) rfl ((((H.out.same HB2.out.block).at2 HB3.out.block).take k hk).same (alloc_old _ _)) rfl (HB3.out.alloc HB3.out.size _) (by have := HB3.out.size; simp; omega) (by simp; omega) ?_; intro v4 us4 w4 hR4 hb4 hs4 hk4; obtain ⟨ta, tn, tc, rfl⟩ := own_shape hR4.row; have HR4 := Lib.hid hR4; have HB4 := Lib.hid hb4; have HR34 := Lib.hid (HR3.out.at2.same (fun b hb => (hk4 b (by simp; omega) (fun e => by simp [Value.ownBlock] at e; omega)).trans (alloc_old _ _ b hb))); clear hR4 hb4 hs4 hk4) | (at_builtin; refine append_refs rfl _ _ rfl w2.heap.size w2.heap (.slice ta tn tc) (.slice sa sn sc) us4 _ ([xs] ++ xss.drop k) HR4.out rfl HR34.out rfl HB4.out HB4.out.size (by simp; omega) ?_; intro v5 us5 w5 hR5 hb5 _ _; obtain ⟨pa, pn, pc, rfl⟩ := own_shape hR5.row))
        go_ret
        exact ⟨_, rfl, ⟨us5, by rw [HS.out]; exact RefR.base (RefR.grow (by simpa using hR5) hb5.block) HB2.out.size⟩, HB2.out.trans (hb5.mono HB2.out.size)⟩
      · have HD : Hid (dropA ao c k = ao.map (·.add k)) := by show _ = _; rw [dropA, if_neg hck]
        have b0 : (0 : Int) ≤ k := by omega
        have b1 : (k : Int) ≤ c := by omega
        have b6 : (k : Int) ≤ xss.length := by omega
        go_wp2_with fail
        go_region_held3 (fun _ => True) (trivial) (first | (go_at_call 123; refine (OW.out _ (by exact HU.out)).mono ?_; rintro e w2 ⟨ru, rfl, hru, hb2⟩; obtain ⟨ra, rn, rc, rfl⟩ := own_shape hru; have HB2 := Lib.hid ((below_drewN (n + 1) (Below.refl _ w)).trans hb2); have HRU := Lib.hid hru.ints; clear hru hb2) | (refine step_append_refs (by rfl) _ _ (by rfl) w2.heap.size w2.heap (.slice (some ⟨w2.heap.size, 0, none⟩) 1 1) (.slice (ao.map (·.add k)) (xss.length - k) (c - k)) [.slice ra rn rc] [xs] (xss.drop k) (by exact ref_one HRU.out (Nat.le_refl _)) (by rfl) (by have := (((H.out.same HB2.out.block).at2 (fun _ _ => rfl)).drop k hk).same (alloc_old _ (.cells #[.slice ra rn rc] 27)); rw [HD.out] at this; exact this) (by rfl) (by exact (Below.refl _ _).alloc (Nat.le_refl _) _) (by simp) (by simp; omega) ?_; intro v3 us3 w3 hR3 hb3 _ _; obtain ⟨sa, sn, sc, rfl⟩ := own_shape hR3.row))
        have HR3 := Lib.hid hR3; have HB3 := Lib.hid hb3; clear hR3 hb3
        go_wp2_with (first | (at_builtin; refine append_refs rfl _ _ rfl w2.heap.size w2.heap (.slice (some ⟨w3.heap.size, 0, none⟩) 0 0) (.slice ao k c) [] [] (xss.take k) (ref_empty _ HB3.out.size) rfl ((((H.out.same HB2.out.block).at2 HB3.out.block).take k hk).same (alloc_old _ _)) rfl (HB3.out.alloc HB3.out.size _) (by have := HB3.out.size; simp; omega) (by simp; omega) ?_; intro v4 us4 w4 hR4 hb4 hs4 hk4; obtain ⟨ta, tn, tc, rfl⟩ := own_shape hR4.row; have HR4 := Lib.hid hR4; have HB4 := Lib.hid hb4; have HR34 := Lib.hid (HR3.out.at2.same (fun b hb => (hk4 b (by simp; omega) (fun e => by simp [Value.ownBlock] at e; omega)).trans (alloc_old _ _ b hb))); clear hR4 hb4 hs4 hk4) | (at_builtin; refine append_refs rfl _ _ rfl w2.heap.size w2.heap (.slice ta tn tc) (.slice sa sn sc) us4 _ ([xs] ++ xss.drop k) HR4.out rfl HR34.out rfl HB4.out HB4.out.size (by simp; omega) ?_; intro v5 us5 w5 hR5 hb5 _ _; obtain ⟨pa, pn, pc, rfl⟩ := own_shape hR5.row))
        go_ret
        exact ⟨_, rfl, ⟨us5, by rw [HS.out]; exact RefR.base (RefR.grow (by simpa using hR5) hb5.block) HB2.out.size⟩, HB2.out.trans (hb5.mono HB2.out.size)⟩
theorem l01Put_c (v u : Value) (xss : List (List Int)) (xs : List Int) (w : World) (h : IntSS w.heap v xss) (hu : IntS w.heap u xs) (hl : xss.length < 4398046511104) (hx : xs.length ≤ 4398046511104) :
    Calls Try.prog 151 #[v, u] w fun e w' => ∃ r, e = .returned r ∧ IntSS w'.heap r (put xs xss) ∧ Below w.heap.size w w' :=
  (l01PutR_c v u xss xs w h hu hl hx).mono fun _ _ ⟨r, h1, ⟨_, h2⟩, h3⟩ => ⟨r, h1, h2.ints (fun _ _ => rfl), h3⟩
end
section
open Go.RowKit Go.Sort

/-- The monomial x(n)^e, and 1 for x(0). -/
def singL (n : Nat) (e : Int) : List Int := if n = 0 then [] else List.replicate (n - 1) 0 ++ [e]
/-- The lists whose sum is the conjugate of x(n), of those before. -/
def conjStep (t : List (List (List Int))) (n : Nat) : Nat → List (List Int)
  | 0 => []
  | i + 1 => conjStep t n i ++ joinsL [singL (n - i) (2 ^ i)] (t.getD i [])
/-- The conjugates of x(0) to x(n). -/
def conjTab : Nat → List (List (List Int))
  | 0 => [[[]]]
  | k + 1 => conjTab k ++ [oddL (conjStep (conjTab k) (k + 1) (k + 1))]
def conjX (n : Nat) : List (List Int) := (conjTab n).getD n []
theorem conjTab_length (n : Nat) : (conjTab n).length = n + 1 := by
  induction n with
  | zero => rfl
  | succ n ih => simp [conjTab, ih]
theorem conjTab_at (n i : Nat) (h : i ≤ n) : (conjTab n).getD i [] = conjX i := by
  induction n with
  | zero => rw [show i = 0 by omega]; rfl
  | succ n ih =>
    by_cases e : i = n + 1
    · subst e; rfl
    · rw [conjTab, List.getD_eq_getElem?_getD, List.getElem?_append_left (by rw [conjTab_length]; omega), ← List.getD_eq_getElem?_getD]
      exact ih (by omega)
theorem conjStep_congr (t t' : List (List (List Int))) (n : Nat) : ∀ k : Nat, (∀ i, i < k → t.getD i [] = t'.getD i []) → conjStep t n k = conjStep t' n k := by
  intro k
  induction k with
  | zero => intro _; rfl
  | succ k ih => intro h; rw [conjStep, conjStep, ih fun i hi => h i (by omega), h k (by omega)]
theorem conjX_succ (n : Nat) : conjX (n + 1) = oddL (conjStep (conjTab n) (n + 1) (n + 1)) := by
  unfold conjX
  rw [conjTab, List.getD_eq_getElem?_getD, List.getElem?_append_right (by rw [conjTab_length]; omega), conjTab_length]
  simp
/-- A list with all numbers c times. -/
def scaleL (c : Int) (r : List Int) : List Int := r.map fun x => x * c
def raiseL (c : Int) (a : List (List Int)) : List (List Int) := a.map (scaleL c)
/-- Times the powers of x whose exponents are the first j binary digits of e. -/
def digL (x : List (List Int)) (e : Nat) (out : List (List Int)) : Nat → List (List Int)
  | 0 => out
  | j + 1 => if e.testBit j then oddL (joinsL (digL x e out j) (raiseL (2 ^ j) x)) else digL x e out j
/-- The conjugate of the first k numbers of a monomial. -/
def dconN (r : List Int) : Nat → List (List Int)
  | 0 => [[]]
  | k + 1 => digL (conjX (k + 1)) (r.getD k 0).toNat (dconN r k) 6
def dconL (r : List Int) : List (List Int) := dconN r r.length
theorem deg_join {r s : List Int} : deg (joinL r s) = deg r + deg s := by
  rw [deg_W' (joinL r s) (max r.length s.length) (by rw [joinL_length]; omega), deg_W' r (max r.length s.length) (by omega), deg_W' s (max r.length s.length) (by omega), ← W_add]
  refine W_congr _ fun k hk => ?_
  simp [joinL, hk]
theorem deg_scale (c : Int) (r : List Int) : deg (scaleL c r) = deg r * c := by
  have : ∀ i, degA i (scaleL c r) = degA i r * c := by
    induction r with
    | nil => intro i; simp [scaleL, degA]
    | cons x r ih =>
      intro i
      have h := ih (i + 1)
      unfold scaleL at h ⊢
      rw [List.map_cons, degA, degA, h, Int.add_mul, Int.mul_assoc, Int.mul_assoc, Int.mul_comm c]
  exact this 0
theorem lastOk_at {r : List Int} (h : lastOk r = true) (h0 : 0 < r.length) : r.getD (r.length - 1) 0 ≠ 0 := by
  unfold lastOk at h
  simp only [Bool.or_eq_true, decide_eq_true_eq] at h
  rcases h with e | e
  · omega
  · simpa using e
theorem lastOk_of {r : List Int} (h : 0 < r.length → r.getD (r.length - 1) 0 ≠ 0) : lastOk r = true := by
  unfold lastOk
  by_cases e : r.length = 0
  · simp [e]
  · have := h (by omega)
    simp only [Bool.or_eq_true]; right; simpa using this
theorem lastOk_join {r s : List Int} (hr : ∀ x ∈ r, 0 ≤ x) (hs : ∀ x ∈ s, 0 ≤ x) (h : lastOk r = true) (k : lastOk s = true) : lastOk (joinL r s) = true := by
  refine lastOk_of fun h0 => ?_
  rw [joinL_length] at h0 ⊢
  have e : (joinL r s).getD (max r.length s.length - 1) 0 = r.getD (max r.length s.length - 1) 0 + s.getD (max r.length s.length - 1) 0 := by
    simp [joinL, show max r.length s.length - 1 < max r.length s.length by omega]
  rw [e]
  have nn : ∀ (l : List Int) (i : Nat), (∀ x ∈ l, 0 ≤ x) → 0 ≤ l.getD i 0 := fun l i hl => by
    by_cases hi : i < l.length
    · rw [show l.getD i 0 = l[i] by simp [hi]]; exact hl _ (List.getElem_mem hi)
    · rw [show l.getD i 0 = 0 by simp [show l.length ≤ i by omega]]; exact Int.le_refl _
  have p1 := nn r (max r.length s.length - 1) hr
  have p2 := nn s (max r.length s.length - 1) hs
  by_cases hl : s.length ≤ r.length
  · have := lastOk_at h (by omega)
    rw [show max r.length s.length = r.length by omega] at p1 p2 ⊢
    omega
  · have := lastOk_at k (by omega)
    rw [show max r.length s.length = s.length by omega] at p1 p2 ⊢
    omega
theorem exp_nn {r : List Int} (h : isExp r = true) : ∀ x ∈ r, 0 ≤ x := fun x hx => (exp_num h x hx).1
theorem exp_join {r s : List Int} {p q : Int} (hr : isExp r = true ∧ deg r = p) (hs : isExp s = true ∧ deg s = q) (h : p + q ≤ 40) (hp : 0 ≤ p) (hq : 0 ≤ q) : isExp (joinL r s) = true ∧ deg (joinL r s) = p + q := by
  have e : deg (joinL r s) = p + q := by rw [deg_join, hr.2, hs.2]
  have l1 := exp_len5 hr.1 (by omega); have l2 := exp_len5 hs.1 (by omega)
  refine ⟨isExp_of (fun x hx => ?_) (by rw [joinL_length]; omega) (by omega) (lastOk_join (exp_nn hr.1) (exp_nn hs.1) (isExp_last hr.1) (isExp_last hs.1)), e⟩
  exact (((isExp_sm hr.1).join (isExp_sm hs.1) (by omega) (by omega)) x hx).1
theorem ExpD.joins {a b : List (List Int)} {p q : Int} (ha : ExpD p a) (hb : ExpD q b) (hp : 0 ≤ p) (hq : 0 ≤ q) (h : p + q ≤ 40) : ExpD (p + q) (joinsL a b) := fun z hz => by
  obtain ⟨r, hr, s, hs, rfl⟩ := mem_joinsL hz
  exact exp_join (ha r hr) (hb s hs) h hp hq
theorem lastOk_scale {r : List Int} {c : Int} (hc : c ≠ 0) (h : lastOk r = true) : lastOk (scaleL c r) = true := by
  refine lastOk_of fun h0 => ?_
  have e : (scaleL c r).length = r.length := by simp [scaleL]
  rw [e] at h0 ⊢
  have := lastOk_at h h0
  rw [show (scaleL c r).getD (r.length - 1) 0 = r.getD (r.length - 1) 0 * c by simp [scaleL, show r.length - 1 < r.length by omega]]
  exact Int.mul_ne_zero this hc
theorem ExpD.raise {a : List (List Int)} {p : Int} (ha : ExpD p a) (hp : 0 ≤ p) (c : Int) (hc : 1 ≤ c) (h : p * c ≤ 40) : ExpD (p * c) (raiseL c a) := fun z hz => by
  simp only [raiseL, List.mem_map] at hz
  obtain ⟨r, hr, rfl⟩ := hz
  have e : deg (scaleL c r) = p * c := by rw [deg_scale, (ha r hr).2]
  have hpc : p * 1 ≤ p * c := Int.mul_le_mul_of_nonneg_left hc hp
  have l1 := exp_len5 (ha r hr).1 (by rw [(ha r hr).2]; omega)
  refine ⟨isExp_of (fun x hx => ?_) (by simp [scaleL]; omega) (by omega) (lastOk_scale (by omega) (isExp_last (ha r hr).1)), e⟩
  simp only [scaleL, List.mem_map] at hx
  obtain ⟨y, hy, rfl⟩ := hx
  exact Int.mul_nonneg (exp_nn (ha r hr).1 y hy) (by omega)
theorem conjX_ok : ∀ n : Nat, n < 7 → ((conjX n).all fun r => (isExp r && decide (deg r = 2 ^ n - 1)) && decide (r.length ≤ 6)) = true ∧ (conjX n).length ≤ 32 := by decide +kernel
theorem conjX_exp {n : Nat} (h : n < 7) : ExpD (2 ^ n - 1) (conjX n) := fun r hr => by
  have := List.all_eq_true.1 (conjX_ok n h).1 r hr
  simpa using (show (isExp r = true ∧ deg r = 2 ^ n - 1) ∧ r.length ≤ 6 by simpa using this).1
theorem conjX_sm {n : Nat} (h : n < 7) : SmS 1000000000000 6 (conjX n) := fun r hr => by
  have := List.all_eq_true.1 (conjX_ok n h).1 r hr
  have := (show (isExp r = true ∧ deg r = 2 ^ n - 1) ∧ r.length ≤ 6 by simpa using this)
  exact ⟨isExp_sm this.1.1, this.2⟩
/-- The number that the first j binary digits make. -/
theorem mod_succ (e j : Nat) : (e % 2 ^ (j + 1) : Nat) = e % 2 ^ j + (if e.testBit j then 2 ^ j else 0) := by
  rw [Nat.testBit_eq_decide_div_mod_eq]
  have h := Nat.mod_mul (a := 2 ^ j) (b := 2) (x := e)
  rw [Nat.pow_succ, h]
  have : e / 2 ^ j % 2 = 0 ∨ e / 2 ^ j % 2 = 1 := by omega
  rcases this with e1 | e1 <;> simp [e1]
/-- What a step along the digits asks. -/
structure DigOk (d p : Int) (e : Nat) (x out : List (List Int)) (j : Nat) : Prop where
  exp : ExpD (d + p * ((e % 2 ^ j : Nat) : Int)) (digL x e out j)
  asc : Asc (digL x e out j)
theorem dig_ok {d p : Int} {e : Nat} {x out : List (List Int)} (ho : ExpD d out) (ao : Asc out) (hx : ExpD p x) (hd : 0 ≤ d) (hp : 0 ≤ p) (h : d + p * (e : Int) ≤ 40) : ∀ j : Nat, DigOk d p e x out j := by
  intro j
  induction j with
  | zero =>
    refine ⟨?_, ao⟩
    rw [show e % 2 ^ 0 = 0 by simp [Nat.mod_one]]
    simpa [digL] using ho
  | succ j ih =>
    have hm := mod_succ e j
    have hle : e % 2 ^ (j + 1) ≤ e := Nat.mod_le _ _
    have hpe : p * ((e % 2 ^ (j + 1) : Nat) : Int) ≤ p * (e : Int) := Int.mul_le_mul_of_nonneg_left (by omega) hp
    cases hb : e.testBit j
    · rw [hb] at hm
      simp only [Bool.false_eq_true, if_false, Nat.add_zero] at hm
      exact ⟨by rw [hm, digL, hb]; exact ih.exp, by rw [digL, hb]; exact ih.asc⟩
    · rw [hb] at hm
      simp only [if_true] at hm
      have e1 : p * ((e % 2 ^ (j + 1) : Nat) : Int) = p * ((e % 2 ^ j : Nat) : Int) + p * 2 ^ j := by
        rw [hm, Int.natCast_add, Int.mul_add, Int.natCast_pow]; rfl
      have h1 : 0 ≤ p * ((e % 2 ^ j : Nat) : Int) := Int.mul_nonneg hp (by omega)
      have h2 : (1 : Int) ≤ 2 ^ j := by
        have := Nat.one_le_two_pow (n := j)
        have h3 : ((2 ^ j : Nat) : Int) = 2 ^ j := by rw [Int.natCast_pow]; rfl
        omega
      have h3 : 0 ≤ p * 2 ^ j := Int.mul_nonneg hp (by omega)
      refine ⟨?_, by rw [digL, hb]; exact asc_oddL _⟩
      rw [digL, hb, e1, ← Int.add_assoc]
      exact (ih.exp.joins (hx.raise hp _ h2 (by omega)) (by omega) h3 (by omega)).odd
theorem dig_bits {e : Nat} {x out : List (List Int)} {j : Nat} (h : e < 2 ^ j) : ∀ k : Nat, digL x e out (j + k) = digL x e out j := by
  intro k
  induction k with
  | zero => rfl
  | succ k ih =>
    rw [← Nat.add_assoc, digL, ih, Nat.testBit_lt_two_pow (Nat.lt_of_lt_of_le h (Nat.pow_le_pow_right (by omega) (by omega)))]; rfl
theorem deg_takeN {r : List Int} (h : isExp r = true) : ∀ k, k ≤ r.length → W (fun i => r.getD i 0) k ≤ deg r := by
  intro k hk
  rw [deg_W]
  have : ∀ n, W (fun i => r.getD i 0) k ≤ W (fun i => r.getD i 0) (k + n) := by
    intro n
    induction n with
    | zero => exact Int.le_refl _
    | succ n ih =>
      rw [← Nat.add_assoc, W]
      have h1 := ((isExp_sm h).at (by omega) (k + n)).1
      have := Int.mul_nonneg h1 (show (0 : Int) ≤ 2 ^ (k + n + 1) - 1 by have := pow_pos' (k + n); omega)
      omega
  have := this (r.length - k)
  rwa [show k + (r.length - k) = r.length by omega] at this
theorem dcon_ok {r : List Int} (h : isExp r = true) (hd : deg r ≤ 40) : ∀ k, k ≤ r.length → ExpD (W (fun i => r.getD i 0) k) (dconN r k) ∧ Asc (dconN r k) := by
  have hl := exp_len5 h hd
  intro k
  induction k with
  | zero =>
    intro _
    refine ⟨fun z hz => ?_, List.pairwise_singleton ..⟩
    rw [dconN, List.mem_singleton] at hz
    subst hz
    exact ⟨by decide, rfl⟩
  | succ k ih =>
    intro hk
    obtain ⟨i1, i2⟩ := ih (by omega)
    have hn := ((isExp_sm h).at (by omega) k).1
    have hw := deg_takeN h (k + 1) hk
    have hw0 := W_nonneg (f := fun i => r.getD i 0) k fun i _ => ((isExp_sm h).at (by omega) i).1
    rw [W] at hw ⊢
    obtain ⟨e, he⟩ : ∃ e : Nat, r.getD k 0 = e := ⟨(r.getD k 0).toNat, by omega⟩
    simp only [he] at hw ⊢
    rw [dconN, he, Int.toNat_natCast]
    have hp := pow_pos' k
    have hc : (e : Int) * (2 ^ (k + 1) - 1) = (2 ^ (k + 1) - 1) * (e : Int) := Int.mul_comm _ _
    rw [hc] at hw ⊢
    have h6 : e < 2 ^ 6 := by
      have := Int.mul_le_mul_of_nonneg_right hp (show (0 : Int) ≤ e by omega)
      omega
    have := dig_ok (e := e) i1 i2 (conjX_exp (n := k + 1) (by omega)) hw0 (by omega) (by omega) 6
    have hx := this.exp
    rw [show e % 2 ^ 6 = e from Nat.mod_eq_of_lt h6] at hx
    exact ⟨hx, this.asc⟩
theorem dconL_ok {r : List Int} (h : isExp r = true) (hd : deg r ≤ 40) : ExpD (deg r) (dconL r) ∧ Asc (dconL r) := by
  have := dcon_ok h hd r.length (Nat.le_refl _)
  rwa [← deg_W] at this
end
section
open Go.RowKit Go.Sort

theorem ref_keep {w w' : World} {B : Nat} {v : Value} {us : List Value} {xss : List (List Int)} (a : RefR w' B w.heap v us xss) (k : KeepI w w') : RefR w' B w'.heap v us xss := ⟨a.row, fun i u xs hu hx => (a.each i u xs hu hx).keep k⟩
theorem singL_length (n : Nat) (e : Int) : (singL n e).length = n := by
  unfold singL
  split
  · rename_i h; rw [h]; rfl
  · simp; omega
theorem singL_sm (n : Nat) (e : Int) {b : Int} (hb : 0 ≤ b) (h0 : 0 ≤ e) (h1 : e ≤ b) : Sm b (singL n e) := by
  unfold singL
  split
  · intro x hx; cases hx
  · intro x hx
    rw [List.mem_append, List.mem_replicate, List.mem_singleton] at hx
    rcases hx with ⟨-, rfl⟩ | rfl
    · exact ⟨Int.le_refl _, hb⟩
    · exact ⟨h0, h1⟩
theorem singL_set (n : Nat) (e : Int) : (List.replicate (n + 1) (0 : Int)).set n e = singL (n + 1) e := by
  unfold singL
  rw [if_neg (by omega), Nat.add_sub_cancel]
  apply List.ext_getElem?; intro i
  rw [List.getElem?_set]
  by_cases h : n = i
  · subst h; simp
  · rw [if_neg h]
    by_cases h2 : i < n
    · rw [List.getElem?_append_left (by simpa using h2)]; simp [h2, show i < n + 1 by omega]
    · rw [List.getElem?_eq_none (by simp; omega), List.getElem?_eq_none (by simp; omega)]
theorem conjX_len {n : Nat} (h : n < 7) : (conjX n).length ≤ 32 := (conjX_ok n h).2
theorem conjStep_ok : ∀ n : Nat, n < 7 → ∀ k : Nat, k < 8 → (conjStep (conjTab 6) n k).length ≤ 200 := by decide +kernel
theorem conjStep_sm : ∀ n : Nat, n < 7 → ∀ k : Nat, k < 8 → ((conjStep (conjTab 6) n k).all fun r => (decide (r.length ≤ 6))) = true := by decide +kernel
theorem conjX_zero : conjX 0 = [[]] := rfl
theorem conjTab_get {n i : Nat} (h : i ≤ n) (h6 : n ≤ 6) : (conjTab n).getD i [] = (conjTab 6).getD i [] := by rw [conjTab_at n i h, conjTab_at 6 i (by omega)]
/-- A step towards the conjugate of x(n). -/
theorem conjStep_next (n i : Nat) (hi : i ≤ 6) : conjStep (conjTab 6) n (i + 1) = conjStep (conjTab 6) n i ++ joinsL [singL (n - i) (2 ^ i)] (conjX i) := by
  rw [conjStep, conjTab_at 6 i hi]
theorem conjX_step {n : Nat} (hn : n < 6) : conjX (n + 1) = oddL (conjStep (conjTab 6) (n + 1) (n + 1)) := by
  rw [conjX_succ, conjStep_congr (conjTab n) (conjTab 6) (n + 1) (n + 1) fun i hi => conjTab_get (by omega) (by omega)]
theorem oddL_skip (L M : List (List Int)) : oddL (L ++ oddL M) = oddL (L ++ M) := (oddL_append' L M).symm
/-- What the program has gathered. -/
def conjG (n : Nat) : Nat → List (List Int)
  | 0 => []
  | i + 1 => conjG n i ++ oddL (joinsL [singL (n - i) (2 ^ i)] (conjX i))
theorem conjG_odd (n : Nat) : ∀ i : Nat, i ≤ 7 → oddL (conjG n i) = oddL (conjStep (conjTab 6) n i) := by
  intro i
  induction i with
  | zero => intro _; rfl
  | succ i ih =>
    intro hi
    rw [conjG, conjStep_next n i (by omega), oddL_skip, oddL_append, ih (by omega), ← oddL_append]
theorem conjG_ok : ∀ n : Nat, n < 7 → ∀ k : Nat, k < 8 → (conjG n k).length ≤ 200 ∧ ((conjG n k).all fun r => (decide (r.length ≤ 6))) = true := by decide +kernel
theorem ExpD.smS {d : Int} {l : List (List Int)} (h : ExpD d l) (hd : d ≤ 40) : SmS 1000000000000000 4398046511104 l := fun r hr => by
  have := h.sm hd r hr
  exact ⟨fun x hx => by have := this.1 x hx; omega, by have := this.2; omega⟩
/-- What a step along the digits of a number of a monomial has. -/
theorem dig_all {r : List Int} (hE : isExp r = true) (hd : deg r ≤ 40) {k : Nat} (hk : k < r.length) : ∃ e : Nat, r.getD k 0 = e ∧ e ≤ 40 ∧ ∀ j : Nat, j ≤ 6 → SmS 1000000000000000 4398046511104 (digL (conjX (k + 1)) e (dconN r k) j) ∧ (digL (conjX (k + 1)) e (dconN r k) j).length ≤ 504 := by
  have hl := exp_len5 hE hd
  obtain ⟨i1, i2⟩ := dcon_ok hE hd k (by omega)
  have hn := ((isExp_sm hE).at (by omega) k).1
  have hw := deg_takeN hE (k + 1) hk
  have hw0 := W_nonneg (f := fun i => r.getD i 0) k fun i _ => ((isExp_sm hE).at (by omega) i).1
  rw [W] at hw
  obtain ⟨e, he⟩ : ∃ e : Nat, r.getD k 0 = e := ⟨(r.getD k 0).toNat, by omega⟩
  simp only [he] at hw
  have hp := pow_pos' k
  have hc : (e : Int) * (2 ^ (k + 1) - 1) = (2 ^ (k + 1) - 1) * (e : Int) := Int.mul_comm _ _
  have h6 : e ≤ 40 := by
    have := Int.mul_le_mul_of_nonneg_left hp (show (0 : Int) ≤ e by omega)
    omega
  rw [hc] at hw
  refine ⟨e, he, h6, fun j _ => ?_⟩
  have hx := dig_ok (e := e) i1 i2 (conjX_exp (n := k + 1) (by omega)) hw0 (by omega) (by omega) j
  have hm : ((2 : Int) ^ (k + 1) - 1) * ((e % 2 ^ j : Nat) : Int) ≤ (2 ^ (k + 1) - 1) * (e : Int) := Int.mul_le_mul_of_nonneg_left (by have := Nat.mod_le e (2 ^ j); omega) (by omega)
  have hb : W (fun i => r.getD i 0) k + (2 ^ (k + 1) - 1) * ((e % 2 ^ j : Nat) : Int) ≤ 40 := by omega
  exact ⟨hx.exp.smS hb, expD_length hx.asc hx.exp hb⟩
theorem and_bit : ∀ e : Nat, e < 41 → ∀ j : Nat, j < 6 → (bits BinOp.and IntKind.i64 (e : Int) ((2 : Int) ^ j) != 0) = e.testBit j := by decide +kernel
theorem dconN_succ (r : List Int) (k e : Nat) (he : r.getD k 0 = e) : dconN r (k + 1) = digL (conjX (k + 1)) e (dconN r k) 6 := by rw [dconN, he, Int.toNat_natCast]
theorem dig_end {e : Nat} {x out : List (List Int)} {j : Nat} (h : e < 2 ^ j) (hj : j ≤ 6) : digL x e out 6 = digL x e out j := by
  have := dig_bits (x := x) (out := out) h (6 - j)
  rwa [show j + (6 - j) = 6 by omega] at this
theorem raise_smS {X : List (List Int)} (h : SmS 1000000000000 6 X) {c : Int} (h0 : 0 ≤ c) (h1 : c ≤ 64) : SmS 1000000000000000 4398046511104 (raiseL c X) := fun z hz => by
  simp only [raiseL, List.mem_map] at hz
  obtain ⟨r, hr, rfl⟩ := hz
  have h2 := h r hr
  refine ⟨fun x hx => ?_, by simp [scaleL]; omega⟩
  simp only [scaleL, List.mem_map] at hx
  obtain ⟨y, hy, rfl⟩ := hx
  have h3 := h2.1 y hy
  exact ⟨Int.mul_nonneg h3.1 h0, Int.le_trans (Int.mul_le_mul h3.2 h1 h0 (by omega)) (by omega)⟩
theorem pow2_le : ∀ j : Nat, j ≤ 6 → (1 : Int) ≤ 2 ^ j ∧ (2 : Int) ^ j ≤ 64 ∧ ((2 : Int) ^ j) * 2 = 2 ^ (j + 1) := by decide
end
section
open Go.RowKit Go.Sort

theorem info_slSS : (Try.prog.info? 36).map (fun i => (i.zero, i.size, i.bytes)) = some (some (.slice none 0 0), 1, 24) := by kernel_rfl
/-- A slice of slices of slices of int64 that is read. -/
def IntSSS (h : Array Obj) (v : Value) (xsss : List (List (List Int))) : Prop :=
  ∃ us, SlAt h 36 v us ∧ us.length = xsss.length ∧ ∀ (i : Nat) u xss, us[i]? = some u → xsss[i]? = some xss → IntSS h u xss
theorem IntSSS.same {h h' : Array Obj} {v : Value} {xsss : List (List (List Int))} (a : IntSSS h v xsss) (k : ∀ b, b < h.size → h'[b]? = h[b]?) : IntSSS h' v xsss := by
  obtain ⟨us, h1, h2, h3⟩ := a
  exact ⟨us, h1.same k, h2, fun i u xs hu hx => (h3 i u xs hu hx).same k⟩
theorem IntSSS.len {h : Array Obj} {v : Value} {xsss : List (List (List Int))} (a : IntSSS h v xsss) : ∃ ao cap, v = .slice ao xsss.length cap ∧ xsss.length ≤ 9223372036854775807 := by
  obtain ⟨us, h1, h2, h3⟩ := a
  obtain ⟨ao, cap, hv, h4, h5⟩ := SlAt.len h1
  rw [h2] at hv h4
  exact ⟨ao, cap, hv, by unfold maxLen at h5; omega⟩
theorem IntSSS.at {w : World} {v : Value} {xsss : List (List (List Int))} (a : IntSSS w.heap v xsss) (i : Nat) (hi : i < xsss.length) :
    ∃ b off cap u, v = .slice (some ⟨b, off, none⟩) xsss.length cap ∧ w.cell? ⟨b, off + i, none⟩ = some u ∧ IntSS w.heap u xsss[i] ∧ xsss.length ≤ 9223372036854775807 := by
  obtain ⟨us, h1, h2, h3⟩ := a
  obtain ⟨b, off, cap, cur, hv, hb, g1, g2, g3, g4⟩ := SlAt.at h1 i (by omega)
  rw [h2] at hv g1
  refine ⟨b, off, cap, us[i]'(by omega), hv, ?_, h3 i _ _ (List.getElem?_eq_getElem (by omega)) (List.getElem?_eq_getElem hi), by unfold maxLen at g2; omega⟩
  rw [World.cell?]; simp only [hb]
  simpa [show i < us.length by omega] using g4
/-- A row of references to slices of slices, of the call's own. -/
structure RefSS (w : World) (B : Nat) (h : Array Obj) (v : Value) (us : List Value) (xsss : List (List (List Int))) : Prop where
  row : w.ownsRow B 36 1 v xsss.length us
  each : ∀ (i : Nat) u xss, us[i]? = some u → xsss[i]? = some xss → IntSS h u xss
theorem RefSS.len {w : World} {B : Nat} {h : Array Obj} {v : Value} {us : List Value} {xsss : List (List (List Int))} (a : RefSS w B h v us xsss) : us.length = xsss.length := by simpa using a.row.1
theorem RefSS.ints {w : World} {B : Nat} {h : Array Obj} {v : Value} {us : List Value} {xsss : List (List (List Int))} (a : RefSS w B h v us xsss) (k : ∀ b, b < h.size → w.heap[b]? = h[b]?) : IntSSS w.heap v xsss :=
  ⟨us, slAt_of_own a.row, by simpa using a.row.1, fun i u xs hu hx => (a.each i u xs hu hx).same k⟩
theorem RefSS.same {w w' : World} {B : Nat} {h : Array Obj} {v : Value} {us : List Value} {xsss : List (List (List Int))} (a : RefSS w B h v us xsss) (k : ∀ b, b < w.heap.size → w'.heap[b]? = w.heap[b]?) : RefSS w' B h v us xsss := ⟨own_same a.row k, a.each⟩
theorem RefSS.grow {w : World} {B : Nat} {h h' : Array Obj} {v : Value} {us : List Value} {xsss : List (List (List Int))} (a : RefSS w B h v us xsss) (k : ∀ b, b < h.size → h'[b]? = h[b]?) : RefSS w B h' v us xsss := ⟨a.row, fun i u xs hu hx => (a.each i u xs hu hx).same k⟩
/-- Every row of a type other than t of w lies in w' as it was. -/
def KeepT (t : Nat) (w w' : World) : Prop := ∀ (b : Nat) cs e f, e ≠ t → w.heap[b]? = some (.cells cs e f) → w'.heap[b]? = some (.cells cs e f)
theorem KeepT.grown {w w' : World} {B e n : Nat} {v : Value} {us : List Value} (h : w.ownsRow B e 1 v n us) (k : ∀ b, b < w.heap.size → some b ≠ v.ownBlock → w'.heap[b]? = w.heap[b]?) : KeepT e w w' := by
  intro b cs t f ne hb
  refine (k b (Array.getElem?_eq_some_iff.1 hb).1 ?_).trans hb
  rcases h.2 with ⟨rfl, _⟩ | ⟨g, cap, cur, rfl, _, hg, _⟩
  · simp [Value.ownBlock]
  · intro e1
    simp only [Value.ownBlock, Option.some.injEq] at e1
    subst e1
    rw [hg] at hb
    simp only [Option.some.injEq, Obj.cells.injEq] at hb
    exact ne hb.2.1.symm
theorem SlAt.keepT {w w' : World} {t e : Nat} {v : Value} {us : List Value} (a : SlAt w.heap e v us) (ne : e ≠ t) (k : KeepT t w w') : SlAt w'.heap e v us := by
  rcases a with a | ⟨b, off, cap, cur, rfl, hb, r⟩
  · exact .inl a
  · exact .inr ⟨b, off, cap, cur, rfl, k b _ _ _ ne hb, r⟩
theorem IntSS.keepT {w w' : World} {t : Nat} {v : Value} {xss : List (List Int)} (a : IntSS w.heap v xss) (n1 : 27 ≠ t) (n2 : 2 ≠ t) (k : KeepT t w w') : IntSS w'.heap v xss := by
  obtain ⟨us, h1, h2, h3⟩ := a
  exact ⟨us, h1.keepT n1 k, h2, fun i u xs hu hx => SlAt.keepT (h3 i u xs hu hx) n2 k⟩
theorem refSS_empty {w : World} {B : Nat} (h : Array Obj) (hB : B ≤ w.heap.size) : RefSS (w.alloc (.cells #[] 36)) B h (.slice (some ⟨w.heap.size, 0, none⟩) 0 0) [] [] :=
  ⟨World.ownsRow_made w #[] 0 hB (Nat.zero_le _) rfl, fun i u xs hu => by simp at hu⟩
theorem refSS_one {w : World} {B : Nat} {h : Array Obj} {u : Value} {xss : List (List Int)} (hu : IntSS h u xss) (hB : B ≤ w.heap.size) : RefSS (w.alloc (.cells #[u] 36)) B h (.slice (some ⟨w.heap.size, 0, none⟩) 1 1) [u] [xss] :=
  ⟨World.ownsRow_lit (e := 36) (size := 1) w #[u] 1 hB (by unfold maxLen; omega) rfl, fun i x ys hx hy => by
    match i, hx, hy with
    | 0, hx, hy =>
      simp at hx hy
      subst hx; subst hy; exact hu⟩
theorem intSS_oneCell {h : Array Obj} {u : Value} {xss : List (List Int)} (a : IntSS h u xss) : u.oneCell' = true := by
  obtain ⟨ao, c, rfl, -⟩ := a.len
  cases ao <;> rfl
section
variable {ops : Array Oper} {rest : List Oper} {o : Oper} {a : Act} {Q : Exit → Act → World → Prop} {K : Act → World → Prop} {E : Prop}
/-- 'append(out, x)', out a row of references to slices of slices. -/
theorem append_refSS {w w0 : World} (hg : o.guard = none) (s x : Operand)
    (ho : o.op = .call { callee := .builtin .append, args := #[s, x], argTypes := #[47, 47] })
    (B : Nat) (v u : Value) (us : List Value) (xsss : List (List (List Int))) (xss : List (List Int)) (hR : RefSS w B w.heap v us xsss) (hs : a.eval s = v) (hu : IntSS w.heap u xss) (hbl : Below B w0 w) (hB : B ≤ w.heap.size)
    (b : Nat) (hx : a.eval x = .slice (some ⟨b, 0, none⟩) 1 1) (hb : b = w.heap.size) (hn : xsss.length ≤ 4398046511104)
    (hK : ∀ v' us' w', RefSS w' B w'.heap v' us' (xsss ++ [xss]) → Below B w0 w' → w.heap.size ≤ w'.heap.size → (∀ b, b < w.heap.size → some b ≠ v.ownBlock → w'.heap[b]? = w.heap[b]?) → wpList Try.prog ops Q rest (a.put o.dst v') w') :
    wpList Try.prog ops Q (o :: rest) a (w.alloc (.cells #[u] 36)) := by
  obtain ⟨i0, hi, hz0, hz1, hz2⟩ := info_parts info_slSS
  refine append_one hg s x _ ho B _ i0 _ 24 Try.underlying47 hi hz0 hz1 hz2 rfl (by omega) v _ us u hR.row hs hbl hB b hx hb (intSS_oneCell hu) hn ?_
  intro v' w' h1 h2 h3 h4
  have hk := KeepT.grown hR.row h4
  refine hK v' _ w' ⟨by simpa using h1, fun i y ys hy hz => ?_⟩ h2 h3 h4
  have hl := hR.len
  by_cases hi : i < us.length
  · rw [List.getElem?_append_left hi] at hy
    rw [List.getElem?_append_left (by omega)] at hz
    exact (hR.each i y ys hy hz).keepT (by decide) (by decide) hk
  · rw [List.getElem?_append_right (by omega)] at hy hz
    rw [← hl] at hz
    obtain ⟨m, hm⟩ : ∃ m, i - us.length = m := ⟨_, rfl⟩
    rw [hm] at hy hz
    match m, hy, hz with
    | 0, hy, hz =>
      simp at hy hz
      subst hy; subst hz; exact hu.keepT (by decide) (by decide) hk
end
/-- A row of slices of slices of the call's own: all their blocks lie from B on. -/
structure OwnRS (w : World) (B : Nat) (v : Value) (us : List Value) (xsss : List (List (List Int))) : Prop where
  row : w.ownsRow B 36 1 v xsss.length us
  each : ∀ (i : Nat) u xss, us[i]? = some u → xsss[i]? = some xss → ∃ us', OwnU w B u us' xss
theorem OwnRS.len {w : World} {B : Nat} {v : Value} {us : List Value} {xsss : List (List (List Int))} (a : OwnRS w B v us xsss) : us.length = xsss.length := by simpa using a.row.1
theorem OwnRS.ints {w : World} {B : Nat} {v : Value} {us : List Value} {xsss : List (List (List Int))} (a : OwnRS w B v us xsss) : IntSSS w.heap v xsss :=
  ⟨us, slAt_of_own a.row, a.len, fun i u xss hu hx => by obtain ⟨us', h⟩ := a.each i u xss hu hx; exact h.ints⟩
theorem OwnRS.same {w w' : World} {B : Nat} {v : Value} {us : List Value} {xsss : List (List (List Int))} (a : OwnRS w B v us xsss) (k : ∀ b, b < w.heap.size → w'.heap[b]? = w.heap[b]?) : OwnRS w' B v us xsss :=
  ⟨own_same a.row k, fun i u xss hu hx => by obtain ⟨us', h⟩ := a.each i u xss hu hx; exact ⟨us', h.same k⟩⟩
theorem own_far {w w' : World} {B e n : Nat} {v : Value} {us : List Value} (h : w.ownsRow B e 1 v n us) (k : ∀ b, B ≤ b → b < w.heap.size → w'.heap[b]? = w.heap[b]?) : w'.ownsRow B e 1 v n us := own_kept h fun b e => k b (World.ownsRow.lt h b e).1 (World.ownsRow.lt h b e).2
theorem OwnRS.far {w w' : World} {B : Nat} {v : Value} {us : List Value} {xsss : List (List (List Int))} (a : OwnRS w B v us xsss) (k : ∀ b, B ≤ b → b < w.heap.size → w'.heap[b]? = w.heap[b]?) : OwnRS w' B v us xsss :=
  ⟨own_far a.row k, fun i u xss hu hx => by
    obtain ⟨us', h⟩ := a.each i u xss hu hx
    exact ⟨us', own_far h.row k, fun i u xs hu hx => own_far (h.each i u xs hu hx) k, h.apart⟩⟩
theorem own_keepT {w w' : World} {t B e n : Nat} {v : Value} {us : List Value} (h : w.ownsRow B e 1 v n us) (ne : e ≠ t) (k : KeepT t w w') : w'.ownsRow B e 1 v n us := by
  refine ⟨h.1, ?_⟩
  rcases h.2 with h2 | ⟨g, cap, cur, hv, hb, hg, r⟩
  · exact .inl h2
  · exact .inr ⟨g, cap, cur, hv, hb, k g _ _ _ ne hg, r⟩
theorem OwnU.keepT {w w' : World} {t B : Nat} {v : Value} {us : List Value} {xss : List (List Int)} (a : OwnU w B v us xss) (n1 : 27 ≠ t) (n2 : 2 ≠ t) (k : KeepT t w w') : OwnU w' B v us xss :=
  ⟨own_keepT a.row n1 k, fun i u xs hu hx => own_keepT (a.each i u xs hu hx) n2 k, a.apart⟩
theorem ownRS_one {w : World} {B : Nat} {u : Value} {us' : List Value} {xss : List (List Int)} (hu : OwnU w B u us' xss) (hB : B ≤ w.heap.size) : OwnRS (w.alloc (.cells #[u] 36)) B (.slice (some ⟨w.heap.size, 0, none⟩) 1 1) [u] [xss] :=
  ⟨World.ownsRow_lit (e := 36) (size := 1) w #[u] 1 hB (by unfold maxLen; omega) rfl, fun i x ys hx hy => by
    match i, hx, hy with
    | 0, hx, hy =>
      simp at hx hy
      subst hx; subst hy; exact ⟨us', hu.same (alloc_old w _)⟩⟩
section
variable {ops : Array Oper} {rest : List Oper} {o : Oper} {a : Act} {Q : Exit → Act → World → Prop}
/-- 'append(out, x)', all of it the call's own. -/
theorem append_ownRS {w w0 : World} (hg : o.guard = none) (s x : Operand)
    (ho : o.op = .call { callee := .builtin .append, args := #[s, x], argTypes := #[47, 47] })
    (B : Nat) (v u : Value) (us us' : List Value) (xsss : List (List (List Int))) (xss : List (List Int)) (hR : OwnRS w B v us xsss) (hs : a.eval s = v) (hu : OwnU w B u us' xss) (hbl : Below B w0 w) (hB : B ≤ w.heap.size)
    (b : Nat) (hx : a.eval x = .slice (some ⟨b, 0, none⟩) 1 1) (hb : b = w.heap.size) (hn : xsss.length ≤ 4398046511104)
    (hK : ∀ v' us' w', OwnRS w' B v' us' (xsss ++ [xss]) → Below B w0 w' → w.heap.size ≤ w'.heap.size → (∀ b, b < w.heap.size → some b ≠ v.ownBlock → w'.heap[b]? = w.heap[b]?) → wpList Try.prog ops Q rest (a.put o.dst v') w') :
    wpList Try.prog ops Q (o :: rest) a (w.alloc (.cells #[u] 36)) := by
  obtain ⟨i0, hi, hz0, hz1, hz2⟩ := info_parts info_slSS
  refine append_one hg s x _ ho B _ i0 _ 24 Try.underlying47 hi hz0 hz1 hz2 rfl (by omega) v _ us u hR.row hs hbl hB b hx hb (intSS_oneCell hu.ints) hn ?_
  intro v' w' h1 h2 h3 h4
  have hk := KeepT.grown hR.row h4
  refine hK v' _ w' ⟨by simpa using h1, fun i y ys hy hz => ?_⟩ h2 h3 h4
  have hl := hR.len
  by_cases hi : i < us.length
  · rw [List.getElem?_append_left hi] at hy
    rw [List.getElem?_append_left (by omega)] at hz
    obtain ⟨us'', h⟩ := hR.each i y ys hy hz
    exact ⟨us'', h.keepT (by decide) (by decide) hk⟩
  · rw [List.getElem?_append_right (by omega)] at hy hz
    rw [← hl] at hz
    obtain ⟨m, hm⟩ : ∃ m, i - us.length = m := ⟨_, rfl⟩
    rw [hm] at hy hz
    match m, hy, hz with
    | 0, hy, hz =>
      simp at hy hz
      subst hy; subst hz; exact ⟨us', hu.keepT (by decide) (by decide) hk⟩
end
end
section
open Go.RowKit Go.Sort

/-- The places of the first j binary digits of e that are 1. -/
def digP (e : Nat) : Nat → List Int
  | 0 => []
  | j + 1 => if e.testBit j then digP e j ++ [(j : Int)] else digP e j
theorem digP_len (e : Nat) : ∀ j : Nat, (digP e j).length ≤ j := by
  intro j
  induction j with
  | zero => exact Nat.le_refl _
  | succ j ih =>
    rw [digP]
    split
    · rw [List.length_append, List.length_singleton]; omega
    · omega
theorem digP_end {e j : Nat} (h : e < 2 ^ j) : ∀ k : Nat, digP e (j + k) = digP e j := by
  intro k
  induction k with
  | zero => rfl
  | succ k ih => rw [← Nat.add_assoc, digP, Nat.testBit_lt_two_pow (Nat.lt_of_lt_of_le h (Nat.pow_le_pow_right (by omega) (by omega)))]; exact ih
theorem digP_mem (e : Nat) : ∀ j : Nat, ∀ x ∈ digP e j, ∃ i : Nat, x = i ∧ i < j := by
  intro j
  induction j with
  | zero => intro x hx; cases hx
  | succ j ih =>
    intro x hx
    rw [digP] at hx
    split at hx
    · rcases List.mem_append.1 hx with h | h
      · obtain ⟨i, h1, h2⟩ := ih x h; exact ⟨i, h1, by omega⟩
      · rw [List.mem_singleton] at h; exact ⟨j, h, by omega⟩
    · obtain ⟨i, h1, h2⟩ := ih x hx; exact ⟨i, h1, by omega⟩
set_option maxRecDepth 100000 in
theorem l01Digits_c (e : Nat) (w : World) (he : e < 64) :
    Calls Try.prog 82 #[.int .i64 e] w fun r w' => ∃ v, r = .returned v ∧ OwnI w' w.heap.size v (digP e 6) ∧ Below w.heap.size w w' := by
  go_enter Try.func82, Try.ntmps82
  go_wp2_with fail
  go_loopw [0, 3, 4] (fun n o i wk => ∃ j : Nat, j ≤ 6 ∧ n = .int .i64 ((e / 2 ^ j : Nat) : Int) ∧ i = .int .i64 j ∧ OwnI wk w.heap.size o (digP e j) ∧ Below w.heap.size w wk) (fun n _ _ _ => (intOf n).toNat)
  case atStart => exact ⟨0, by omega, by simp, rfl, ownI_empty (Nat.le_refl _), (Below.refl _ _).alloc (Nat.le_refl _) _⟩
  case round =>
    obtain ⟨j, hj, rfl, rfl, hO, hb2⟩ := hrel
    obtain ⟨ya, yn, yc, rfl⟩ := own_shape hO
    have HO := Lib.hid hO; have HB2 := Lib.hid hb2
    have hsz2 := hb2.size
    have HD : Hid (digP e (j + 1) = if e.testBit j then digP e j ++ [(j : Int)] else digP e j) := rfl
    have hn64 : e / 2 ^ j ≤ 64 := Nat.le_trans (Nat.div_le_self _ _) (by omega)
    have hdd : e / 2 ^ (j + 1) = e / 2 ^ j / 2 := by rw [Nat.pow_succ, Nat.div_div_eq_div_mul]
    have hll : (digP e j).length ≤ 4398046511104 := by have := digP_len e j; omega
    have HLL := Lib.hid hll
    by_cases hz : e / 2 ^ j = 0
    · have hlt : e < 2 ^ j := by
        rcases Nat.lt_or_ge e (2 ^ j) with h | h
        · exact h
        · have := Nat.div_pos h (Nat.two_pow_pos j); omega
      have HE : Hid (digP e 6 = digP e j) := by
        show _ = _
        have := digP_end hlt (6 - j)
        rwa [show j + (6 - j) = 6 by omega] at this
      have u1 : decide ((0 : Int) < ((e / 2 ^ j : Nat) : Int)) = false := decide_eq_false (by omega)
      have u2 : decide (0 < e / 2 ^ j) = false := decide_eq_false (by omega)
      clear hO hb2 hll hdd hlt
      generalize e / 2 ^ j = q at *
      go_wp2_with fail
      go_ret
      exact ⟨_, rfl, by rw [HE.out]; exact HO.out, HB2.out⟩
    · have hj6 : j < 6 := by
        rcases Nat.lt_or_ge j 6 with h | h
        · exact h
        · obtain rfl : j = 6 := by omega
          exact absurd (Nat.div_eq_of_lt (show e < 2 ^ 6 from he)) hz
      have hbt : e.testBit j = decide (e / 2 ^ j % 2 = 1) := by rw [Nat.testBit_eq_decide_div_mod_eq]
      have HDD := Lib.hid hdd
      have hq0 : 0 < e / 2 ^ j := Nat.pos_of_ne_zero hz
      clear hO hb2 hll hdd hz
      obtain ⟨q, hq⟩ : ∃ q, e / 2 ^ j = q := ⟨_, rfl⟩
      rw [hq] at hbt hn64 hq0 HDD ⊢
      clear hq
      have hqi : (0 : Int) < (q : Int) := by omega
      by_cases ho : q % 2 = 1
      · rw [hbt, decide_eq_true ho] at HD
        have u3 := (eqB (show (q : Int) % 2 = 1 by omega)).1
        clear hbt
        go_wp2_with (at_builtin; refine append_int rfl _ _ rfl w.heap.size _ _ _ HO.out rfl HB2.out hsz2 _ rfl (by simp) HLL.out ?_; intro v' w3 hown' hbl' _ _; obtain ⟨qa2, qn2, qc2, rfl⟩ := own_shape hown')
        go_roundw
        case rel => exact ⟨j + 1, by omega, by rw [HDD.out]; simp, by go_num, by rw [HD.out]; exact hown', hbl'⟩
        case measure => simp [intOf]; omega
      · rw [hbt, decide_eq_false ho] at HD
        have u3 := (neB (show (q : Int) % 2 ≠ 1 by omega)).1
        clear hbt
        go_wp2_with fail
        go_roundw
        case rel => exact ⟨j + 1, by omega, by rw [HDD.out]; simp, by go_num, by rw [HD.out]; exact HO.out, HB2.out⟩
        case measure => simp [intOf]; omega
theorem sh_small : ∀ k : Nat, k < 8 → IntKind.i64.wrap (2 ^ min (IntKind.u64.wrap (k : Int)).toNat 64) = (2 : Int) ^ k := by decide +kernel
theorem heldC1' {x1 : Value} {g1 : Addr} {w0 W W' : World} (h : W.cell? g1 = some x1 ∧ Below w0.heap.size w0 W) (hb : Below W.heap.size W W') : W'.cell? g1 = some x1 ∧ Below w0.heap.size w0 W' :=
  ⟨(hb.cell (World.block_lt_of_cell? _ _ h.1)).trans h.1, h.2.trans (hb.mono h.2.size)⟩
theorem heldC1X' {x1 : Value} {g1 : Addr} {w0 W : World} (h : W.cell? g1 = some x1 ∧ Below w0.heap.size w0 W) : Below w0.heap.size w0 W := h.2
theorem odds_mrg (a b : List (List Int)) : mrg (oddL a) (oddL b) = oddL (a ++ b) := by
  rw [mrg_odd (asc_oddL a) (asc_oddL b), ← oddL_append', ← oddL_append]
theorem conjTab_succ {n : Nat} (hn : n < 6) : conjTab (n + 1) = conjTab n ++ [oddL (conjStep (conjTab 6) (n + 1) (n + 1))] := by
  rw [conjTab, conjStep_congr (conjTab n) (conjTab 6) (n + 1) (n + 1) fun i hi => conjTab_get (by omega) (by omega)]
end
section
open Go.RowKit Go.Sort

/-- Times the powers of x whose exponents have the places told. -/
def foldD (X D0 : List (List Int)) (ds : List Int) : List (List Int) := ds.foldl (fun out d => oddL (joinsL out (raiseL (2 ^ d.toNat) X))) D0
theorem foldD_digP (X D0 : List (List Int)) (e : Nat) : ∀ j : Nat, foldD X D0 (digP e j) = digL X e D0 j := by
  intro j
  induction j with
  | zero => rfl
  | succ j ih =>
    rw [digP, digL]
    cases e.testBit j
    · exact ih
    · simp only [if_true]
      rw [← ih]
      simp [foldD, List.foldl_append]
theorem digP_take (e : Nat) : ∀ J t : Nat, t ≤ (digP e J).length → ∃ j : Nat, j ≤ J ∧ (digP e J).take t = digP e j := by
  intro J
  induction J with
  | zero => intro t ht; exact ⟨0, Nat.le_refl _, by simp [digP]⟩
  | succ J ih =>
    intro t ht
    rw [digP] at ht ⊢
    cases hb : e.testBit J
    · rw [hb] at ht
      obtain ⟨j, h1, h2⟩ := ih t ht
      exact ⟨j, by omega, by simpa using h2⟩
    · rw [hb] at ht
      simp only [if_true] at ht ⊢
      by_cases h : t ≤ (digP e J).length
      · obtain ⟨j, h1, h2⟩ := ih t h
        exact ⟨j, by omega, by rw [List.take_append_of_le_length h]; exact h2⟩
      · rw [List.length_append, List.length_singleton] at ht
        refine ⟨J + 1, Nat.le_refl _, ?_⟩
        rw [List.take_of_length_le (by simp; omega), digP, hb]; rfl
theorem foldD_take (X D0 : List (List Int)) (ds : List Int) (t : Nat) (h : t < ds.length) : foldD X D0 (ds.take (t + 1)) = oddL (joinsL (foldD X D0 (ds.take t)) (raiseL (2 ^ ds[t].toNat) X)) := by
  unfold foldD
  rw [List.take_succ_eq_append_getElem h, List.foldl_append]; rfl
theorem heldC3T {x1 x2 x3 : Value} {g1 g2 g3 : Addr} {w0 W W' : World} {B : Nat} (h : W.cell? g1 = some x1 ∧ W.cell? g2 = some x2 ∧ W.cell? g3 = some x3 ∧ Below B w0 W) (hb : Below W.heap.size W W') (hB : B ≤ W.heap.size) : W'.cell? g1 = some x1 ∧ W'.cell? g2 = some x2 ∧ W'.cell? g3 = some x3 ∧ Below B w0 W' :=
  ⟨(hb.cell (World.block_lt_of_cell? _ _ h.1)).trans h.1, (hb.cell (World.block_lt_of_cell? _ _ h.2.1)).trans h.2.1, (hb.cell (World.block_lt_of_cell? _ _ h.2.2.1)).trans h.2.2.1, h.2.2.2.trans (hb.mono hB)⟩
theorem raiseL_take (c : Int) (X : List (List Int)) (j : Nat) (h : j < X.length) : raiseL c (X.take (j + 1)) = raiseL c (X.take j) ++ [scaleL c X[j]] := by
  unfold raiseL; rw [List.take_succ_eq_append_getElem h, List.map_append]; rfl
end
section
open Go.RowKit Go.Sort

theorem IntS.clip {h : Array Obj} {ao : Option Addr} {c : Nat} {xs : List Int} (a : IntS h (.slice ao xs.length c) xs) : IntS h (.slice ao xs.length xs.length) xs := by
  rcases a with ⟨hv, he⟩ | ⟨b, off, cap, cur, hv, hb, h1, h2, h3, h4⟩
  · simp only [Value.slice.injEq] at hv
    obtain ⟨rfl, -, rfl⟩ := hv
    simp at he; subst he
    exact .inl ⟨rfl, rfl⟩
  · simp only [List.length_map, Value.slice.injEq, true_and] at hv h1 h4
    obtain ⟨rfl, rfl⟩ := hv
    exact .inr ⟨b, off, xs.length, cur, by simp, hb, by simp, by unfold maxLen at *; omega, by omega, by simpa using h4⟩
section
variable {ops : Array Oper} {o : Oper} {a : Act} {Q : Exit → Act → World → Prop} {K : Act → World → Prop} {E : Prop}
theorem grown_own {w : World} {z : Value} (xs : List Int) (n : Int) (old : Nat) (hz : z.cells.size = 1) (hx : xs.length < 4398046511104) :
    OwnI (w.drew.alloc (.cells ((xs.map (Value.int .i64)).toArray ++ [Value.int .i64 n].toArray ++ Builtin.zeroCells z.cells (grownCap w (xs.length + 1) old 2 - (xs.length + 1))) 2)) w.heap.size (.slice (some ⟨w.heap.size, 0, none⟩) (xs.length + 1) (grownCap w (xs.length + 1) old 2)) (xs ++ [n]) := by
  have hge := grownCap_ge w (xs.length + 1) old 2
  have hcm : grownCap w (xs.length + 1) old 2 ≤ maxLen := grownCap_le_maxLen w (xs.length + 1) old 2 (by unfold maxLen; omega)
  refine ⟨by simp, .inr ⟨w.heap.size, _, _, by simp, Nat.le_refl _, heap_alloc_new w.drew _, by simpa using hge, hcm, ?_, ?_⟩⟩
  · simp only [Array.size_append, List.size_toArray, size_zeroCells, hz, List.length_map, List.length_singleton]
    omega
  · simp only [Array.toList_append, List.append_assoc]
    rw [← List.append_assoc]
    have : ((xs.map (Value.int .i64)) ++ [Value.int .i64 n]).length = (xs ++ [n]).length * 1 := by simp
    rw [← this, List.map_append]
    exact List.take_left
/-- 'append(r, n)' at a step of a region that draws, r a slice that reads and has no room left: the list lies in new memory. -/
theorem step_append_full {w : World} (hg : o.guard = none) (s x : Operand)
    (ho : o.op = .call { callee := .builtin .append, args := #[s, x], argTypes := #[27, 27] })
    (ao : Option Addr) (xs : List Int) (h : IntS w.heap (.slice ao xs.length xs.length) xs) (hs : a.eval s = .slice ao xs.length xs.length) (b : Nat) (n : Int) (hx : a.eval x = .slice (some ⟨b, 0, none⟩) 1 1) (hb : w.heap[b]? = some (.cells #[.int .i64 n] 2 (0, 0)))
    (hn : xs.length < 4398046511104)
    (hK : ∀ v' w', OwnI w' w.heap.size v' (xs ++ [n]) → Below w.heap.size w w' → K (a.put o.dst v') w') :
    if Region.wanted o (yielded ops a.tmps) = true then Oper.wp Try.prog o a w K Q else E := by
  have hw : Region.wanted o (yielded ops a.tmps) = true := by simp [Region.wanted, hg]
  rw [if_pos hw]
  obtain ⟨i0, hi, hz0, hz1, hz2⟩ := info_parts info_int64
  have hzc : (Value.int .i64 0).cells.size = 1 := rfl
  have hnew : ∀ (j : Nat) (u : Value), [Value.int .i64 n][j]? = some u → w.cell? ((⟨b, 0, none⟩ : Addr).add j) = some u := by
    intro j u hj
    match j, hj with
    | 0, hj =>
      simp at hj; subst hj
      rw [Addr.add_lit, World.cell?]; simp only [hb]; rfl
  have hbl : ∀ o, Below w.heap.size w (w.drew.alloc o) := fun o => ((Below.refl w.heap.size w).drew).alloc (Nat.le_refl _) _
  rcases h with ⟨hv, he⟩ | ⟨b2, off, cap, cur, hv, hb2, k1, k2, k3, k4⟩
  · simp only [Value.slice.injEq] at hv
    obtain ⟨rfl, -, -⟩ := hv
    simp at he; subst he
    have hr := run_append_nil (P := Try.prog) w 27 o.type 2 i0 _ Try.underlying27 hi hz0 ⟨b, 0, none⟩ 1 1 [Value.int .i64 n] (by rw [hz1]; rfl) hnew (by omega) (by omega) (by rw [hz2]; omega)
    have hg2 := grown_own (w := w) [] n 0 hzc (by simp)
    unfold Oper.wp
    simp only [List.length_nil] at hs
    simp [execOp, ho, resolve, invoke, builtin, hs, hx, hr, Result.andThen]
    refine hK _ _ ?_ (hbl _)
    simpa using hg2
  · simp only [List.length_map, Value.slice.injEq, true_and] at hv k1 k4
    obtain ⟨rfl, rfl⟩ := hv
    have hold : ∀ (j : Nat) (u : Value), (xs.map (Value.int .i64))[j]? = some u → w.cell? ((⟨b2, off, none⟩ : Addr).add j) = some u := by
      intro j u hj
      have hjl : j < xs.length := by have := (List.getElem?_eq_some_iff.1 hj).1; simpa using this
      rw [Addr.add_lit, World.cell?]; simp only [hb2]
      have := congrArg (fun l : List Value => l[j]?) k4
      simp only [List.getElem?_take, List.getElem?_drop, Array.getElem?_toList] at this
      rw [if_pos hjl] at this
      rw [this]; exact hj
    have hfit : Builtin.nextslicecap (xs.length + 1) xs.length * i0.bytes ≤ 281474976710656 := growslice_fits (by omega) (by rw [hz2]; omega)
    have hr := run_append_grow (P := Try.prog) w 27 o.type 2 i0 _ Try.underlying27 hi hz0 ⟨b2, off, none⟩ xs.length xs.length (xs.map (Value.int .i64)) (by rw [hz1]; simp) hold ⟨b, 0, none⟩ 1 1 [Value.int .i64 n] (by rw [hz1]; rfl) hnew (by omega) (by omega) hfit
    have hg2 := grown_own (w := w) xs n xs.length hzc hn
    unfold Oper.wp
    simp [execOp, ho, resolve, invoke, builtin, hs, hx, hr, Result.andThen]
    refine hK _ _ ?_ (hbl _)
    simpa using hg2
end
/-- A cell of another type is stored. -/
theorem own_other {w : World} {B e n g t : Nat} {v x : Value} {us : List Value} (h : w.ownsRow B e 1 v n us) (k : Cell1 w g x t) (ne : e ≠ t) (u : Value) : (w.setCell ⟨g, 0, none⟩ u).ownsRow B e 1 v n us := by
  refine own_kept h fun b hb => Below.heap_setCell _ _ _ _ ?_
  rintro rfl
  rcases h.2 with ⟨rfl, _⟩ | ⟨g', cap, cur, rfl, _, hg, _⟩
  · cases hb
  · simp only [Value.ownBlock, Option.some.injEq] at hb
    subst hb
    rw [show w.heap[g']? = _ from k] at hg
    simp only [Option.some.injEq, Obj.cells.injEq] at hg
    exact ne hg.2.1.symm
theorem OwnU.other {w : World} {B g t : Nat} {v x : Value} {us : List Value} {xss : List (List Int)} (h : OwnU w B v us xss) (k : Cell1 w g x t) (n1 : 27 ≠ t) (n2 : 2 ≠ t) (u : Value) : OwnU (w.setCell ⟨g, 0, none⟩ u) B v us xss :=
  ⟨own_other h.row k n1 u, fun i y xs hy hx => own_other (h.each i y xs hy hx) k n2 u, h.apart⟩
theorem KeepI.cell {w : World} {g t : Nat} {x : Value} (k : Cell1 w g x t) (ne : 2 ≠ t) (u : Value) : KeepI w (w.setCell ⟨g, 0, none⟩ u) := fun b cs f hb => by
  rw [Below.heap_setCell _ _ _ _ ?_]; exact hb
  rintro rfl
  rw [show w.heap[b]? = _ from k] at hb
  simp only [Option.some.injEq, Obj.cells.injEq] at hb
  exact ne hb.2.1.symm
end
section
open Go.RowKit Go.Sort

def extV (g3 g4 : Nat) : Value := .func (.func 145) #[] #[.pointer (some ⟨g3, 0, none⟩), .pointer (some ⟨g4, 0, none⟩)]
theorem enters_part1 : Enters Try.prog 145 := fun args w => by kernel_rfl
theorem enters_copyOf : Enters Try.prog 146 := fun args w => by kernel_rfl
theorem partF_zero (f i : Nat) (hf : 1 ≤ f) : partF f 0 i = [[]] := by
  obtain ⟨f', rfl⟩ : ∃ f', f = f' + 1 := ⟨f - 1, by omega⟩
  rw [partF, if_pos rfl]
theorem heldC1 {x1 : Value} {g1 : Addr} {w0 W W' : World} (h : W.cell? g1 = some x1 ∧ Below w0.heap.size w0 W) (hb : Below W.heap.size W W') : W'.cell? g1 = some x1 ∧ Below w0.heap.size w0 W' :=
  ⟨(hb.cell (World.block_lt_of_cell? _ _ h.1)).trans h.1, h.2.trans (hb.mono h.2.size)⟩
theorem heldC1A {x1 : Value} {g1 : Addr} {w0 W : World} (h : W.cell? g1 = some x1 ∧ Below w0.heap.size w0 W) (o : Obj) : (W.alloc o).cell? g1 = some x1 ∧ Below w0.heap.size w0 (W.alloc o) :=
  heldC1 h ((Below.refl _ _).alloc (Nat.le_refl _) o)
theorem heldC1B {x1 : Value} {g1 : Addr} {w0 W W' : World} {B : Nat} (h : W.cell? g1 = some x1 ∧ Below B w0 W) (hb : Below W.heap.size W W') (hB : B ≤ W.heap.size) : W'.cell? g1 = some x1 ∧ Below B w0 W' :=
  ⟨(hb.cell (World.block_lt_of_cell? _ _ h.1)).trans h.1, h.2.trans (hb.mono hB)⟩
theorem heldC1X {x1 : Value} {g1 : Addr} {w0 W : World} (h : W.cell? g1 = some x1 ∧ Below w0.heap.size w0 W) : Below w0.heap.size w0 W := h.2
theorem own_not {w : World} {B e n g t : Nat} {v x : Value} {us : List Value} (h : w.ownsRow B e 1 v n us) (k : Cell1 w g x t) (ne : e ≠ t) : some g ≠ v.ownBlock := by
  intro hb
  rcases h.2 with ⟨rfl, _⟩ | ⟨g', cap, cur, rfl, _, hg, _⟩
  · cases hb
  · simp only [Value.ownBlock, Option.some.injEq] at hb
    subst hb
    rw [show w.heap[g]? = _ from k] at hg
    simp only [Option.some.injEq, Obj.cells.injEq] at hg
    exact ne hg.2.1.symm
set_option maxRecDepth 100000 in
set_option maxHeartbeats 1000000 in
theorem part1_c (g3 g4 : Nat) (hne : g3 ≠ g4) : ∀ (f d : Nat) (xs : List Int) (L : List (List Int)) (s v : Value) (us : List Value) (B : Nat) (w : World), xs.length + f = 8 → 2 ≤ f → d ≤ 40 → IntS w.heap s xs →
    Cell1 w g3 v 36 → Cell1 w g4 (extV g3 g4) 139 → OwnU w B v us L → B ≤ g3 → B ≤ g4 → L.length + (partF f d xs.length).length < 4398046511104 →
    Calls Try.prog 145 #[s, .int .i64 d, .int .i64 (wtI xs.length), .pointer (some ⟨g3, 0, none⟩), .pointer (some ⟨g4, 0, none⟩)] w fun e w' => e = .returned (.tuple #[]) ∧
      ∃ v' us', Cell1 w' g3 v' 36 ∧ Cell1 w' g4 (extV g3 g4) 139 ∧ OwnU w' B v' us' (L ++ (partF f d xs.length).map (xs ++ ·)) ∧ Below B w w' ∧ KeepI w w' := by
  intro f
  induction f with
  | zero => intro d xs L s v us B w h1 h2; omega
  | succ f ih =>
    intro d xs L s v us B w hif hf hd2 hs k3 k4 hl hB3 hB4 hlen
    obtain ⟨sa, sc, rfl, -⟩ := hs.len
    have hcap : xs.length ≤ sc := by
      obtain ⟨a', c', hv', h3, -⟩ := SlAt.len hs
      simp only [Value.slice.injEq, List.length_map] at hv' h3
      omega
    obtain ⟨la, ln, lc, rfl⟩ := own_shape hl.row
    have hB : B ≤ w.heap.size := by have := k3.lt; omega
    have hwp := wtI_pos xs.length
    have hw8 := wtI_le (i := xs.length) (by omega)
    have HS := Lib.hid hs; have HL := Lib.hid hl; have K3 := Lib.hid k3; have K4 := Lib.hid k4
    have q3 := k3.c0; have f3 := k3.free 0; have q4 := k4.c0
    by_cases hd0 : d = 0
    · subst hd0
      rw [partF_zero (f + 1) _ (by omega)]
      have hll : L.length < 4398046511104 := by omega
      have HLL := Lib.hid hll
      clear hlen hs hl k3 k4 ih hll
      go_enter Try.func145, Try.ntmps145
      go_wp2_with fail
      have hlt3 := K3.out.lt; have hlt4 := K4.out.lt
      have q3d : w.drew.cell? ⟨g3, 0, none⟩ = some (.slice la ln lc) := q3
      go_region_law
        (first | (refine step_callR (by rfl) 146 (.tmp 12) 27 (by rfl) (fun v w' => OwnI w' w.heap.size v xs ∧ Below w.heap.size w w') enters_copyOf (by exact Calls.mono (copyOf_c (.slice sa xs.length sc) xs w.drew HS.out (by omega)) fun e w' ⟨r, h1, h2, h3⟩ => ⟨r, h1, h2, (Below.refl _ _).drew.trans h3⟩) ?_; rintro v2 w2 ⟨hR2, hx2⟩; obtain ⟨ra, rn, rc, rfl⟩ := own_shape hR2; have k32 : Cell1 w2 g3 _ _ := (hx2.block g3 hlt3).trans K3.out; have c32 := k32.c0; have k42 : Cell1 w2 g4 _ _ := (hx2.block g4 hlt4).trans K4.out; have c33 := fun o => Go.Lib.cell?_alloc_some o c32) | (refine step_append_rowU (w0 := w) (wE := w) (by rfl) (.tmp 11) (.tmp 14) (by rfl) B (.slice la ln lc) (.slice ra rn rc) us L xs HL.out (by rfl) (by exact OwnI.same hR2 (alloc_old _ _)) (by exact hx2.alloc hx2.size _) (by exact Below.refl B w) (by exact hB) w2.heap.size (by rfl) (by exact heap_alloc_new _ _) HLL.out ?_; intro v4 w4 hU4 hb4 hs4 hk4; obtain ⟨va, vn, vc, rfl⟩ := own_shape hU4.row; have k34 : Cell1 w4 g3 _ _ := (hk4 g3 (by have := hx2.size; simp at *; omega) (own_not HL.out.row K3.out (by decide))).trans ((alloc_old _ _ _ (by have := hx2.size; simp at *; omega)).trans k32); have k44 : Cell1 w4 g4 _ _ := (hk4 g4 (by have := hx2.size; simp at *; omega) (own_not HL.out.row K4.out (by decide))).trans ((alloc_old _ _ _ (by have := hx2.size; simp at *; omega)).trans k42); have c34 := k34.c0; have f34 := k34.free 0))
      all_goals
        have hkp := ((KeepI.of_same (hx2.alloc hx2.size (.cells #[.slice ra rn rc] 27)).block).trans (KeepI.grown (own_same HL.out.row (hx2.alloc hx2.size (.cells #[.slice ra rn rc] 27)).block) (by decide) hk4)).trans (KeepI.cell k34 (by decide) (.slice va vn vc))
        have hfin := hU4.other k34 (by decide) (by decide) (.slice va vn vc)
        have hk3 := k34.set (.slice va vn vc)
        have hk4' := k44.setFar ⟨g3, 0, none⟩ hne.symm (.slice va vn vc)
        have hbe := hb4.setCell (p := ⟨g3, 0, none⟩) hB3 (.slice va vn vc)
        have G := Lib.hid (And.intro hk3 (And.intro hk4' (And.intro hfin (And.intro hbe hkp))))
        clear hkp hfin hk3 hk4' hbe hk4 hU4 hb4 hs4 hR2 hx2
        go_wp2_with fail
        refine bodyPost_ret (results_none rfl _ _ _) rfl ?_
        exact ⟨rfl, _, _, G.out.1, G.out.2.1, by simpa using G.out.2.2.1, G.out.2.2.2.1, G.out.2.2.2.2⟩
    · have t0 := (neB (show (d : Int) ≠ 0 by omega)).1
      by_cases hw : wtI xs.length ≤ d
      · have hi4 := wtI_small (by omega) hd2 hw
        have hG := partG_all f d xs.length xs (by omega) hw
        rw [hG]
        have hGl : L.length + (partG f d xs.length xs (d / wtI xs.length + 1)).length < 4398046511104 := by rw [← hG, List.length_map]; exact hlen
        have HGL := Lib.hid hGl
        have t1 : decide ((d : Int) < (wtI xs.length : Int)) = false := decide_eq_false (by omega)
        have t2 : decide (d < wtI xs.length) = false := decide_eq_false (by omega)
        have IH := Lib.hid ih
        have HSU := Lib.hid (partG_succ f d xs.length xs)
        have HLE := Lib.hid (partG_len f d xs.length xs)
        have HWS := Lib.hid (wtI_succ xs.length)
        obtain ⟨W, hWW⟩ : ∃ W : Nat, wtI xs.length = W := ⟨_, rfl⟩
        rw [hWW] at t1 t2 hwp hw8 hw HGL HSU HWS ⊢
        obtain ⟨q, hq⟩ : ∃ q : Nat, d / W = q := ⟨_, rfl⟩
        have hQ : ∀ n : Nat, n ≤ q ↔ n * W ≤ d := fun n => by rw [← hq]; exact Nat.le_div_iff_mul_le hwp
        have HQ := Lib.hid hQ
        clear hQ
        have hqd : q ≤ 40 := by
          have := (HQ.out q).1 (Nat.le_refl _)
          have := Nat.mul_le_mul_left q hwp
          omega
        rw [hq] at HGL ⊢
        have HIF := Lib.hid hif
        have HEN := enters_part1
        unfold Enters at HEN
        clear hG hGl hlen hs hl ih hq hWW hif k3 k4 q3 f3 q4 hd0
        go_enter Try.func145, Try.ntmps145
        go_wp2_with fail
        clear t1 t2 t0
        go_loopw [8] (fun r wr => ∃ (n : Nat) (v : Value) (us : List Value), n ≤ q + 1 ∧ r = .int .i64 n ∧ Cell1 wr g3 v 36 ∧ Cell1 wr g4 (extV g3 g4) 139 ∧ OwnU wr B v us (L ++ partG f d xs.length xs n) ∧ Below B w wr ∧ KeepI w wr) (fun r _ => 41 - (intOf r).toNat)
        case atStart => exact ⟨0, _, us, by omega, rfl, K3.out, K4.out, by simpa [partG] using HL.out, Below.refl _ _, KeepI.refl _⟩
        case round =>
          obtain ⟨n, v, us2, hn, rfl, j3, j4, hU, hbl, hke⟩ := hrel
          obtain ⟨va, vn, vc, rfl⟩ := own_shape hU.row
          have HU := Lib.hid hU; have HBL := Lib.hid hbl; have HKE := Lib.hid hke
          have J3 := Lib.hid j3; have J4 := Lib.hid j4
          have HSW := Lib.hid (HS.out.keep hke)
          have hnW : (0 : Int) ≤ (n : Int) * (W : Int) := Int.mul_nonneg (by omega) (by omega)
          have hnW2 : (n : Int) * (W : Int) ≤ 41 * 255 := Int.mul_le_mul (by omega) (by omega) (by omega) (by omega)
          clear hU hbl hke j3
          by_cases hnq : n ≤ q
          · have hle := (HQ.out n).1 hnq
            have hle2 : (n : Int) * (W : Int) ≤ d := by have : ((n * W : Nat) : Int) ≤ (d : Int) := by omega
                                                        rwa [Int.natCast_mul] at this
            have u1 : decide ((n : Int) * (W : Int) ≤ (d : Int)) = true := decide_eq_true hle2
            have HGN := Lib.hid (HSU.out n)
            have HLN := Lib.hid (HLE.out (n + 1) (q + 1) (by omega))
            obtain ⟨D, hD⟩ : ∃ D : Nat, d - n * W = D := ⟨_, rfl⟩
            have hDd : D ≤ 40 := by omega
            have hsub : (d : Int) - (n : Int) * (W : Int) = D := by rw [← Int.natCast_mul]; omega
            have hDl : (L ++ partG f d xs.length xs n).length + (partF f D (xs ++ [(n : Int)]).length).length < 4398046511104 := by
              have h1 := HGN.out
              rw [hD] at h1
              have h2 := congrArg List.length h1
              rw [List.length_append, List.length_map] at h2
              have h3 := HLN.out; have h4 := HGL.out
              rw [List.length_append, List.length_append, List.length_singleton]; omega
            have HDL := Lib.hid hDl
            have HF : Hid ((L ++ partG f d xs.length xs n) ++ (partF f D (xs ++ [(n : Int)]).length).map (xs ++ [(n : Int)] ++ ·) = L ++ partG f d xs.length xs (n + 1)) := by
              show _ = _
              rw [HGN.out, hD, List.length_append, List.length_singleton, List.append_assoc]
            have hf2 : 2 ≤ f := by have := HIF.out; omega
            have r4 : wr.cell? ⟨g4, 0, none⟩ = some (.func (.func 145) #[] #[.pointer (some ⟨g3, 0, none⟩), .pointer (some ⟨g4, 0, none⟩)]) := j4.c0
            have CC : Hid (∀ (s' : Value) (W4 : World), IntS W4.heap s' (xs ++ [(n : Int)]) → Below wr.heap.size wr W4 → Calls Try.prog 145 #[s', .int .i64 D, .int .i64 (2 * (W : Int) + 1), .pointer (some ⟨g3, 0, none⟩), .pointer (some ⟨g4, 0, none⟩)] W4 fun e w' => e = .returned (.tuple #[]) ∧
                ∃ v' us', Cell1 w' g3 v' 36 ∧ Cell1 w' g4 (extV g3 g4) 139 ∧ OwnU w' B v' us' (L ++ partG f d xs.length xs (n + 1)) ∧ Below B W4 w' ∧ KeepI W4 w') := fun s' W4 h1 h2 => by
              have h := IH.out D (xs ++ [(n : Int)]) (L ++ partG f d xs.length xs n) s' (.slice va vn vc) us2 B W4 (by rw [List.length_append, List.length_singleton]; have := HIF.out; omega) hf2 hDd h1 (J3.out.kept h2.block) (J4.out.kept h2.block) (HU.out.same h2.block) hB3 hB4 HDL.out
              rw [HF.out] at h
              rw [show ((wtI (xs ++ [(n : Int)]).length : Nat) : Int) = 2 * (W : Int) + 1 by rw [List.length_append, List.length_singleton, HWS.out]; omega] at h
              exact h
            have hBr : B ≤ wr.heap.size := Nat.le_trans hB HBL.out.size
            have hxl : xs.length < 4398046511104 := by omega
            have b0 : (0 : Int) ≤ xs.length := by omega
            have b1 : (xs.length : Int) ≤ sc := by omega
            have b2 : (xs.length : Int) ≤ xs.length := by omega
            clear hle hle2 hD hDl j4
            go_wp2_with fail
            have e1 : IntKind.i64.wrap ((n : Int) * (W : Int)) = (n : Int) * (W : Int) := IntWalk.i64_in _ (by omega)
            have e2 : IntKind.i64.wrap (D : Int) = D := IntWalk.i64_in _ (by omega)
            have e3 : IntKind.i64.wrap (2 * (W : Int)) = 2 * (W : Int) := IntWalk.i64_in _ (by omega)
            have e4 : IntKind.i64.wrap (2 * (W : Int) + 1) = 2 * (W : Int) + 1 := IntWalk.i64_in _ (by omega)
            go_region_held3 (fun W => W.cell? ⟨g4, 0, none⟩ = some (.func (.func 145) #[] #[.pointer (some ⟨g3, 0, none⟩), .pointer (some ⟨g4, 0, none⟩)]) ∧ Below B wr W)
              (first | exact ⟨r4, (Below.refl _ _).drew⟩ | exact ⟨c52, hx5⟩ | exact heldC1B (by assumption) hx2 (by simp; omega) | exact heldC1B (by assumption) ((Below.refl _ _).alloc (Nat.le_refl _) _) (by simp; omega))
              (first | (refine step_append_full (by rfl) _ _ (by rfl) sa xs (by exact HSW.out.clip.same (alloc_old _ _)) (by rfl) _ (n : Int) (by rfl) (by exact heap_alloc_new _ _) hxl ?_; intro v2 w2 hR2 hx2; have hx3 : Below wr.heap.size wr w2 := (((Below.refl wr.heap.size wr).drew).alloc (Nat.le_refl _) _).trans (hx2.mono (by simp)); obtain ⟨ra, rn, rc, rfl⟩ := own_shape hR2) | (go_at_call 145; (with_reducible refine (CC.out _ _ (by exact hR2.ints) (by exact hx3)).mono ?_); rintro e w5 ⟨rfl, v5, us5, j53, j54, hU5, hb5, hk5⟩; have c52 := j54.c0; have hx5 := (hx3.mono hBr).trans hb5))
            have G := Lib.hid (And.intro j53 (And.intro j54 (And.intro hU5 (And.intro (HBL.out.trans hx5) (HKE.out.trans ((KeepI.of_same hx3.block).trans hk5))))))
            clear e1 e2 e3 e4 hsub j53 j54 hU5 hb5 hk5 hx5 hx3 hx2 hR2 c52 b0 b1 b2 hxl hBr r4
            go_wp2_with fail
            go_roundw
            case rel => exact ⟨n + 1, v5, us5, by omega, by go_num, G.out.1, G.out.2.1, G.out.2.2.1, G.out.2.2.2.1, G.out.2.2.2.2⟩
            case measure => simp [intOf]; omega
          · have hgt : ¬ n * W ≤ d := fun h => hnq ((HQ.out _).2 h)
            have u1 : decide ((n : Int) * (W : Int) ≤ (d : Int)) = false := decide_eq_false (fun h => hgt (by
              have : ((n * W : Nat) : Int) ≤ (d : Int) := by rw [Int.natCast_mul]; exact h
              omega))
            have HN : Hid (n = q + 1) := by show _ = _; omega
            clear hgt hnq j4
            go_wp2_with fail
            go_end0
            exact ⟨rfl, _, us2, J3.out, J4.out, by rw [← HN.out]; exact HU.out, HBL.out, HKE.out⟩
      · have e1 : partF (f + 1) d xs.length = [] := by rw [partF, if_neg (by omega), if_pos (by omega)]
        rw [e1]
        have t1 : decide ((d : Int) < (wtI xs.length : Int)) = true := decide_eq_true (by omega)
        have t2 : decide (d < wtI xs.length) = true := decide_eq_true (by omega)
        clear e1 hlen hs hl ih hw k3 k4 q3 f3 q4
        go_enter Try.func145, Try.ntmps145
        go_wp2_with fail
        refine bodyPost_ret (results_none rfl _ _ _) rfl ?_
        exact ⟨rfl, _, us, K3.out, K4.out, by simpa using HL.out, Below.refl _ _, KeepI.refl _⟩
/-- What the library's sort gives: the values go along with their lists. -/
def SortOk2 : Prop := ∀ (v : Value) (us : List Value) (xss : List (List Int)) (B : Nat) (w : World), RefR w B w.heap v us xss → B ≤ w.heap.size → xss.length < 4611686018427387904 →
    Calls Try.prog 148 #[v, .func (.func 149) #[] #[]] w fun e w' => e = .returned (.tuple #[]) ∧ ∃ us' xss', RefR w' B w.heap v us' xss' ∧ (us'.zip xss').Perm (us.zip xss) ∧ xss'.Pairwise (fun a b => ltL b a = false) ∧ Below B w w' ∧ (∀ b, b < w.heap.size → some b ≠ v.ownBlock → w'.heap[b]? = w.heap[b]?)
theorem asc_nodup {l : List (List Int)} (h : Asc l) : l.Nodup := h.imp fun hab e => ltL_ne hab e
theorem sorted_same {us us' : List Value} {xss xss' : List (List Int)} (hl : us.length = xss.length) (hl' : us'.length = xss'.length) (hp : (us'.zip xss').Perm (us.zip xss)) (hs : xss'.Pairwise (fun a b => ltL b a = false)) (ha : Asc xss) : us' = us ∧ xss' = xss := by
  have hm : (us'.zip xss').map Prod.snd = xss' := by rw [List.map_snd_zip]; omega
  have hm2 : (us.zip xss).map Prod.snd = xss := by rw [List.map_snd_zip]; omega
  have hpx : xss'.Perm xss := by rw [← hm, ← hm2]; exact hp.map _
  have hn : xss'.Nodup := (hpx.nodup_iff).2 (asc_nodup ha)
  have hx : xss' = xss := by
    refine Asc.ext ?_ ha fun x => hpx.mem_iff
    unfold Asc
    refine List.Pairwise.imp_of_mem ?_ (List.Pairwise.and hs hn)
    intro a b _ _ hab
    cases e : ltL a b
    · exact absurd (ltL_total _ _ e hab.1) hab.2
    · rfl
  subst hx
  refine ⟨List.ext_getElem (by omega) fun i h1 h2 => ?_, rfl⟩
  have hmem : (us'[i], xss'[i]'(by omega)) ∈ us.zip xss' := hp.mem_iff.1 (by
    rw [List.mem_iff_getElem]
    exact ⟨i, by simp; omega, by simp⟩)
  obtain ⟨j, hj, he⟩ := List.mem_iff_getElem.1 hmem
  simp only [List.getElem_zip, Prod.mk.injEq] at he
  have : j = i := by
    simp only [List.length_zip] at hj
    have hin := List.pairwise_iff_getElem.1 hn
    rcases Nat.lt_trichotomy i j with e | e | e
    · exact absurd he.2.symm (hin i j (by omega) (by omega) e)
    · exact e.symm
    · exact absurd he.2 (hin j i (by omega) (by omega) e)
  subst this
  exact he.1.symm
theorem trimmed_last (ao : Option Addr) (c : Nat) (xs : List Int) (w : World) (h : IntS w.heap (.slice ao xs.length c) xs) (hl : lastOk xs = true) :
    Calls Try.prog 147 #[.slice ao xs.length c] w fun e w' => e = .returned (.slice ao xs.length c) ∧ w = w' := by
  have e : trimN xs xs.length = xs.length := by
    cases hn : xs.length with
    | zero => rfl
    | succ n =>
      rw [trimN, if_neg]
      have := lastOk_at hl (by omega)
      rwa [hn] at this
  have := trimmed_c ao c xs w h
  rwa [e] at this
theorem OwnU.storeSame {w : World} {B g n cap : Nat} {us : List Value} {xss : List (List Int)} (h : OwnU w B (.slice (some ⟨g, 0, none⟩) n cap) us xss) (k : Nat) (u : Value) (hu : us[k]? = some u) : OwnU (w.setCell ⟨g, k, none⟩ u) B (.slice (some ⟨g, 0, none⟩) n cap) us xss := by
  have hkl : k < us.length := (List.getElem?_eq_some_iff.1 hu).1
  have hl := h.len
  have hn : n = xss.length := by
    obtain ⟨_, _, hv, _⟩ := h.ints.len
    simp only [Value.slice.injEq] at hv
    exact hv.2.1
  refine ⟨?_, fun i y xs hy hx => ?_, h.apart⟩
  · have hrow := h.row
    rw [← hn] at hrow ⊢
    obtain ⟨g', cap', hv, -, -, -, hs⟩ := own_store hrow k (by omega)
    simp only [Value.slice.injEq, Option.some.injEq, Addr.mk.injEq, true_and, and_true] at hv
    obtain ⟨rfl, rfl⟩ := hv
    have := hs u
    rwa [show us.set k u = us from by
      apply List.ext_getElem?; intro i
      rw [List.getElem?_set]
      split
      · rename_i e; subst e; exact hu.symm
      · rfl] at this
  · have ho := h.each i y xs hy hx
    refine own_setCell_other ho _ ?_ u
    rcases own_ne_types ho h.row (by decide) with e | e
    · rw [e]; simp
    · intro e2; exact e (by rw [e2]; rfl)
theorem ownII_empty0 (w : World) : OwnU (w.alloc (.cells #[] 27)) w.heap.size (.slice (some ⟨w.heap.size, 0, none⟩) 0 0) [] [] :=
  ⟨World.ownsRow_made w #[] 0 (Nat.le_refl _) (Nat.zero_le _) rfl, fun i u xs hu => by simp at hu, fun i j u u' _ hu => by simp at hu⟩
set_option maxRecDepth 100000 in
set_option maxHeartbeats 1000000 in
theorem partitions_of (SO : SortOk2) (d : Nat) (w : World) (hd : d ≤ 40) :
    Calls Try.prog 86 #[.int .i64 d] w fun e w' => ∃ r us, e = .returned r ∧ OwnU w' w.heap.size r us (partL d) ∧ Below w.heap.size w w' := by
  have hlen : (partL d).length ≤ 504 := expD_length (d := (d : Int)) (asc_partL d) (fun x hx => mem_partL hd hx) (by omega)
  have HEN := enters_part1
  unfold Enters at HEN
  have hU0 := ownII_empty0 w
  have k3 := (Cell1.new (w.alloc (.cells #[] 27)) (.slice (some ⟨w.heap.size, 0, none⟩) 0 0) 36).kept (alloc_old _ (.cells #[extV (w.heap.size + 1) (w.heap.size + 1 + 1)] 139))
  have k4 := Cell1.new ((w.alloc (.cells #[] 27)).alloc (.cells #[.slice (some ⟨w.heap.size, 0, none⟩) 0 0] 36)) (extV (w.heap.size + 1) (w.heap.size + 1 + 1)) 139
  simp only [size_alloc_w] at k3 k4
  obtain ⟨w3, hw3⟩ : ∃ w3, w3 = ((w.alloc (.cells #[] 27)).alloc (.cells #[.slice (some ⟨w.heap.size, 0, none⟩) 0 0] 36)).alloc (.cells #[extV (w.heap.size + 1) (w.heap.size + 1 + 1)] 139) := ⟨_, rfl⟩
  have hb3 : Below w.heap.size w w3 := by rw [hw3]; exact (((Below.refl _ _).alloc (Nat.le_refl _) _).alloc (by simp) _).alloc (by simp; omega) _
  have hU3 : OwnU w3 w.heap.size (.slice (some ⟨w.heap.size, 0, none⟩) 0 0) [] [] := by rw [hw3]; exact (hU0.same (alloc_old _ _)).same (alloc_old _ _)
  have hsz : w3.heap.size = w.heap.size + 1 + 1 + 1 := by rw [hw3]; simp
  rw [← hw3] at k3 k4
  have C := Lib.hid (part1_c (w.heap.size + 1) (w.heap.size + 1 + 1) (by omega) 8 d [] [] (.slice (some ⟨w3.heap.size, 0, none⟩) 0 0) (.slice (some ⟨w.heap.size, 0, none⟩) 0 0) [] w.heap.size (w3.alloc (.cells #[] 2)) rfl (by omega) hd (ownI_empty (w := w3) (B := w3.heap.size) (Nat.le_refl _)).ints
    (k3.kept (alloc_old _ _)) (k4.kept (alloc_old _ _)) (hU3.same (alloc_old _ _)) (by omega) (by omega) (by show 0 + (partL d).length < _; omega))
  rw [show ((wtI ([] : List Int).length : Nat) : Int) = 1 by decide, show ([] : List (List Int)) ++ (partF 8 d ([] : List Int).length).map (([] : List Int) ++ ·) = partL d by simp [partL], hsz] at C
  have HB3 := Lib.hid (hb3.alloc hb3.size (.cells #[] 2))
  have HW : Hid (((w.alloc (.cells #[] 27)).alloc (.cells #[.slice (some ⟨w.heap.size, 0, none⟩) 0 0] 36)).alloc (.cells #[.func (.func 145) #[] #[.pointer (some ⟨w.heap.size + 1, 0, none⟩), .pointer (some ⟨w.heap.size + 1 + 1, 0, none⟩)]] 139) = w3) := hw3.symm
  have HLN := Lib.hid hlen
  have HLO := Lib.hid (fun x (hx : x ∈ partL d) => isExp_last (mem_partL hd hx).1)
  have HAS := Lib.hid (asc_partL d)
  clear k3 k4 hb3 hU0 hU3 hsz hw3 hlen
  obtain ⟨T, hT⟩ : ∃ T, partL d = T := ⟨_, rfl⟩
  rw [hT] at C HLN HLO HAS ⊢
  clear hT
  go_enter Try.func86, Try.ntmps86
  go_wp2_with (go_at_call 145; rw [HW.out]; refine C.out.mono ?_; rintro e w4 ⟨rfl, v4, us4, k43, k44, hU4, hb4, hk4⟩; obtain ⟨va, vn, vc, rfl⟩ := own_shape hU4.row; have HU4 := Lib.hid hU4; have q43 := k43.c0; have K43 := Lib.hid k43; have HB4 := Lib.hid (HB3.out.trans hb4); clear hU4 k43 k44 hb4 hk4)
  obtain rfl : vn = T.length := by
    obtain ⟨_, _, hv, _⟩ := HU4.out.ints.len
    simp only [Value.slice.injEq] at hv
    exact hv.2.1
  clear q43
  go_loopw [14] (fun i wr => ∃ k : Nat, k ≤ T.length ∧ i = .int .i64 k ∧ Cell1 wr (w.heap.size + 1) (.slice va T.length vc) 36 ∧ OwnU wr w.heap.size (.slice va T.length vc) us4 T ∧ Below w.heap.size w wr) (fun i _ => T.length - (intOf i).toNat)
  case atStart => exact ⟨0, Nat.zero_le _, rfl, K43.out, HU4.out, HB4.out⟩
  case round =>
    obtain ⟨k, hk, rfl, j3, hU, hbl⟩ := hrel
    have HU := Lib.hid hU; have HBL := Lib.hid hbl; have J3 := Lib.hid j3
    have q3 := j3.c0
    by_cases hkl : k < T.length
    · have hul := hU.len
      obtain ⟨g, cap, hv, hg⟩ := own_open hU.row (by omega)
      simp only [Value.slice.injEq] at hv
      obtain ⟨rfl, -, rfl⟩ := hv
      have hck := World.ownsRow.cellAt hU.row k (by omega)
      have hfk := World.ownsRow.frozenAt hU.row k
      have huk : us4[k]? = some us4[k] := List.getElem?_eq_getElem (by omega)
      have hrow := hU.each k _ _ huk (show T[k]? = some (T.getD k []) by simp [hkl])
      have hlo := HLO.out (T.getD k []) (by rw [show T.getD k [] = T[k] by simp [hkl]]; exact List.getElem_mem _)
      obtain ⟨ua, un, uc, hue⟩ := own_shape hrow
      rw [huk, hue] at hck
      rw [hue] at hrow huk
      obtain rfl : un = (T.getD k []).length := by
        obtain ⟨_, _, hv, _⟩ := hrow.ints.len
        simp only [Value.slice.injEq] at hv
        exact hv.2.1
      have HTR := Lib.hid (fun (W : World) (h : IntS W.heap (.slice ua (T.getD k []).length uc) (T.getD k [])) => trimmed_last ua uc (T.getD k []) W h hlo)
      have HROW := Lib.hid hrow.ints
      have HST := Lib.hid (hU.storeSame k (.slice ua (T.getD k []).length uc) huk)
      have HNE := Lib.hid (own_not hU.row j3 (by decide))
      have hki : (k : Int) < T.length := by omega
      clear hU hbl j3 hul hrow hlo hue huk
      generalize T.getD k [] = ys at *
      have c7 := (J3.out.setFar ⟨g, k, none⟩ (fun e => HNE.out (by rw [e]; rfl)) (.slice ua ys.length uc)).c0
      have c8 : (wr.setCell ⟨g, k, none⟩ (.slice ua ys.length uc)).cell? ⟨g, k, none⟩ = some (.slice ua ys.length uc) := World.cell?_setCell_same (h := hck) ..
      have hb8 := HBL.out.setCell (p := ⟨g, k, none⟩) hg (.slice ua ys.length uc)
      go_wp2_with fail
      go_region_held3 (fun W => W.cell? ⟨w.heap.size + 1, 0, none⟩ = some (.slice (some ⟨g, 0, none⟩) T.length vc) ∧ W.cell? ⟨g, k, none⟩ = some (.slice ua ys.length uc) ∧ Below w.heap.size w W)
        (first | exact ⟨q3, hck, HBL.out.drew⟩ | exact ⟨c7, c8, hb8.drew⟩)
        ((go_at_call 147; refine (HTR.out _ (by exact HROW.out)).mono ?_; rintro e w' ⟨rfl, rfl⟩))
      have G := Lib.hid (And.intro (J3.out.setFar ⟨g, k, none⟩ (fun e => HNE.out (by rw [e]; rfl)) (.slice ua ys.length uc)) hb8.drew)
      have hT504 := HLN.out
      clear c7 c8 hb8 q3 hck hfk
      go_wp2_with fail
      go_roundw
      case rel => exact ⟨k + 1, by omega, by go_num, G.out.1, HST.out.drewN 1, G.out.2⟩
      case measure => simp [intOf]; omega
    · obtain rfl : k = T.length := by omega
      have HSO := Lib.hid (SO _ us4 T w.heap.size wr ⟨hU.row, fun i u xs hu hx => (hU.each i u xs hu hx).ints⟩ hbl.size (by have := HLN.out; omega))
      clear hU hbl j3
      go_wp2_with (go_at_call 148; refine HSO.out.mono ?_; rintro e w5 ⟨rfl, us5, xs5, hR5, hp5, hs5, hb5, hk5⟩; obtain ⟨rfl, rfl⟩ := sorted_same HU.out.len (by have := hR5.len; exact this) hp5 hs5 HAS.out; have k53 : Cell1 w5 (w.heap.size + 1) _ _ := (hk5 _ J3.out.lt (own_not HU.out.row J3.out (by decide))).trans J3.out; have c53 := k53.c0; have HK5 := Lib.hid (KeepI.grown HU.out.row (by decide) hk5); have HR5 := Lib.hid hR5; have HB5 := Lib.hid (HBL.out.trans hb5); clear hR5 hp5 hs5 hb5 hk5 k53 q3)
      go_ret
      exact ⟨_, us5, rfl, ⟨HR5.out.row, fun i u xs hu hx => (HU.out.each i u xs hu hx).keep HK5.out, HU.out.apart⟩, HB5.out⟩
end
section
open Go.RowKit Go.Sort

theorem degreeOfT_c (v : Value) (xss : List (List Int)) (w : World) (h : IntSS w.heap v xss) (hT : arT xss = true) :
    Calls Try.prog 108 #[v] w fun e w' => e = .returned (.int .i64 (degT xss)) ∧ w = w' := by
  refine (degreeOf_c v xss w h).mono fun _ _ ⟨⟨d, he, hd⟩, hw⟩ => ⟨?_, hw⟩
  rw [he, hd]
  by_cases h0 : xss.length = 0
  · obtain rfl : xss = [] := List.eq_nil_of_length_eq_zero h0
    rfl
  · exact (arT_row hT _ (by rw [show xss.getD 0 [] = xss[0]'(by omega) by simp [show 0 < xss.length by omega]]; exact List.getElem_mem _)).1
theorem degT_bound {xss : List (List Int)} (hT : arT xss = true) : 0 ≤ degT xss ∧ degT xss ≤ 40 := by
  by_cases h0 : xss.length = 0
  · obtain rfl : xss = [] := List.eq_nil_of_length_eq_zero h0
    exact ⟨Int.le_refl 0, by decide⟩
  · exact (arT_row hT _ (by rw [show xss.getD 0 [] = xss[0]'(by omega) by simp [show 0 < xss.length by omega]]; exact List.getElem_mem _)).2
end
section
open Go.RowKit Go.Sort

/-- The lists of a basis whose conjugates have the pairing 1 with an element. -/
def cjgL (xss basis : List (List Int)) : List (List Int) := basis.filter fun r => pairL xss (dconL r) == 1
def cjR (xss : List (List Int)) : List (List Int) := if arT xss = true ∧ xss.length ≠ 0 then cjgL xss (partL (degT xss).toNat) else []
def cjC (xss : List (List Int)) : Int := if arT xss then 0 else 1
theorem cjgL_step (xss basis : List (List Int)) (k : Nat) (h : k < basis.length) : cjgL xss (basis.take (k + 1)) = cjgL xss (basis.take k) ++ (if pairL xss (dconL basis[k]) = 1 then [basis[k]] else []) := by
  unfold cjgL
  rw [List.take_succ_eq_append_getElem h, List.filter_append]
  congr 1
  by_cases e : pairL xss (dconL basis[k]) = 1
  · rw [if_pos e]; simp [e]
  · rw [if_neg e]; simp [e]
theorem cjR_cnt (xss : List (List Int)) : cnt (cjR xss) ≤ 5000 := by
  unfold cjR
  split
  · rename_i h
    have hd := degT_in h.1
    obtain ⟨n, hn⟩ : ∃ n : Nat, degT xss = n := ⟨(degT xss).toNat, by omega⟩
    rw [hn, Int.toNat_natCast]
    have hl : (partL n).length ≤ 504 := expD_length (d := (n : Int)) (asc_partL n) (fun x hx => mem_partL (by omega) hx) (by omega)
    have h1 : (cjgL xss (partL n)).length ≤ 504 := Nat.le_trans (List.length_filter_le _ _) hl
    have h2 : cnt (cjgL xss (partL n)) ≤ (cjgL xss (partL n)).length * 5 := cnt_le fun r hr => by
      have := mem_partL (d := n) (by omega) (List.mem_filter.1 hr).1
      exact exp_len5 this.1 (by rw [this.2]; omega)
    omega
  · simp [cnt]
theorem pairL_01 (a b : List (List Int)) : pairL a b = 0 ∨ pairL a b = 1 := by unfold pairL; omega
theorem slAt_eq {h : Array Obj} {e : Nat} {v : Value} {us vs : List Value} (a : SlAt h e v us) (b : SlAt h e v vs) : us = vs := by
  rcases a with ⟨rfl, rfl⟩ | ⟨b1, o1, c1, cur, rfl, hb, h1, h2, h3, h4⟩
  · rcases b with ⟨_, rfl⟩ | ⟨b2, o2, c2, cur2, hv, _⟩
    · rfl
    · simp at hv
  · rcases b with ⟨hv, _⟩ | ⟨b2, o2, c2, cur2, hv, hb2, k1, k2, k3, k4⟩
    · simp at hv
    · simp only [Value.slice.injEq, Option.some.injEq, Addr.mk.injEq, and_true] at hv
      obtain ⟨⟨rfl, rfl⟩, hl, rfl⟩ := hv
      rw [hb] at hb2
      simp only [Option.some.injEq, Obj.cells.injEq] at hb2
      obtain ⟨rfl, -⟩ := hb2
      rw [← h4, ← k4, hl]
theorem ints_eq {h : Array Obj} {v : Value} {xs ys : List Int} (a : IntS h v xs) (b : IntS h v ys) : xs = ys := by
  have := slAt_eq a b
  exact (List.map_inj_right (f := Value.int .i64) (fun x y e => by injection e)).1 this
/-- A row of values, some of those of a list of the call's own. -/
structure SubU (us vs : List Value) (n : Nat) : Prop where
  ok : ∃ ks : List Nat, ks.Pairwise (· < ·) ∧ (∀ k ∈ ks, k < n) ∧ us = ks.map fun k => vs.getD k .nilFunc
theorem SubU.nil (vs : List Value) : SubU [] vs 0 := ⟨[], List.Pairwise.nil, by simp, rfl⟩
theorem SubU.skip {us vs : List Value} {n : Nat} (h : SubU us vs n) : SubU us vs (n + 1) := by
  obtain ⟨ks, h1, h2, h3⟩ := h.ok
  exact ⟨ks, h1, fun k hk => by have := h2 k hk; omega, h3⟩
theorem SubU.add {us vs : List Value} {n : Nat} (h : SubU us vs n) {u : Value} (hu : vs[n]? = some u) : SubU (us ++ [u]) vs (n + 1) := by
  obtain ⟨ks, h1, h2, h3⟩ := h.ok
  refine ⟨ks ++ [n], ?_, fun k hk => ?_, ?_⟩
  · rw [List.pairwise_append]
    exact ⟨h1, List.pairwise_singleton .., fun a ha b hb => by rw [List.mem_singleton] at hb; subst hb; exact h2 a ha⟩
  · rcases List.mem_append.1 hk with h | h
    · have := h2 k h; omega
    · rw [List.mem_singleton] at h; omega
  · rw [h3, List.map_append]; simp [List.getD_eq_getElem?_getD, hu]
/-- A row of references to rows of a list of the call's own: it is the call's own as well. -/
theorem SubU.own {w : World} {B : Nat} {v v' : Value} {us vs : List Value} {xss yss : List (List Int)} {n : Nat} (h : SubU us vs n) (hn : n ≤ vs.length) (ho : OwnU w B v' vs yss) (hr : w.ownsRow B 27 1 v xss.length us)
    (he : ∀ (i : Nat) u xs, us[i]? = some u → xss[i]? = some xs → IntS w.heap u xs) : OwnU w B v us xss := by
  obtain ⟨ks, h1, h2, h3⟩ := h.ok
  have hvl := ho.len
  have hul : us.length = xss.length := by simpa using hr.1
  have hkl : ks.length = us.length := by rw [h3]; simp
  have key : ∀ (i : Nat) u, us[i]? = some u → ∃ k, ks[i]? = some k ∧ vs[k]? = some u := by
    intro i u hu
    have hi : i < ks.length := by
      have := (List.getElem?_eq_some_iff.1 hu).1
      omega
    refine ⟨ks[i], List.getElem?_eq_getElem hi, ?_⟩
    rw [h3, List.getElem?_map, List.getElem?_eq_getElem hi] at hu
    simp only [Option.map_some, Option.some.injEq] at hu
    have := h2 ks[i] (List.getElem_mem hi)
    rw [← hu]; simp [List.getD_eq_getElem?_getD, show ks[i] < vs.length by omega]
  refine ⟨hr, fun i u xs hu hx => ?_, fun i j u u' hij hu hu' => ?_⟩
  · obtain ⟨k, -, hk⟩ := key i u hu
    have hkv := (List.getElem?_eq_some_iff.1 hk).1
    have hown := ho.each k u _ hk (List.getElem?_eq_getElem (show k < yss.length by omega))
    have h4 := he i u xs hu hx
    have e := ints_eq hown.ints h4
    rw [e] at hown; exact hown
  · obtain ⟨k, hk1, hk⟩ := key i u hu
    obtain ⟨k', hk1', hk'⟩ := key j u' hu'
    refine ho.apart k k' u u' ?_ hk hk'
    have hi := (List.getElem?_eq_some_iff.1 hk1); have hj := (List.getElem?_eq_some_iff.1 hk1')
    obtain ⟨hi1, hi2⟩ := hi; obtain ⟨hj1, hj2⟩ := hj
    rw [← hi2, ← hj2]
    exact List.pairwise_iff_getElem.1 h1 i j hi1 hj1 hij
section
variable {ops : Array Oper} {rest : List Oper} {o : Oper} {a : Act} {Q : Exit → Act → World → Prop}
/-- 'append(out, row)', out a row of references: where the grown row lies is told. -/
theorem append_ref1 {w w0 : World} (hg : o.guard = none) (s x : Operand)
    (ho : o.op = .call { callee := .builtin .append, args := #[s, x], argTypes := #[36, 36] })
    (B : Nat) (v u : Value) (us : List Value) (xss : List (List Int)) (xs : List Int) (hR : RefR w B w.heap v us xss) (hs : a.eval s = v) (hu : IntS w.heap u xs) (hbl : Below B w0 w) (hB : B ≤ w.heap.size)
    (b : Nat) (hx : a.eval x = .slice (some ⟨b, 0, none⟩) 1 1) (hb : b = w.heap.size) (hn : xss.length ≤ 4398046511104)
    (hK : ∀ v' w', RefR w' B w'.heap v' (us ++ [u]) (xss ++ [xs]) → Below B w0 w' → w.heap.size ≤ w'.heap.size → (∀ b, b < w.heap.size → some b ≠ v.ownBlock → w'.heap[b]? = w.heap[b]?) → (v'.ownBlock = v.ownBlock ∨ ∃ k, w.heap.size ≤ k ∧ v'.ownBlock = some k) → KeepI w w' → wpList Try.prog ops Q rest (a.put o.dst v') w') :
    wpList Try.prog ops Q (o :: rest) a (w.alloc (.cells #[u] 27)) := by
  obtain ⟨i0, hi, hz0, hz1, hz2⟩ := info_parts info_slI
  refine append_at hg s x _ ho B _ i0 _ 24 Try.underlying36 hi hz0 hz1 hz2 rfl (by omega) v _ us u hR.row hs hbl hB b hx hb (slAt_oneCell hu) hn ?_
  intro v' w' h1 h2 h3 h4 h5
  have hk := KeepI.grown hR.row (by decide) h4
  exact hK v' w' ⟨by simpa using h1, append_each hR.len (fun i y ys hy hz => (hR.each i y ys hy hz).keep hk) (fun i y ys hy hz => by
    match i, hy, hz with
    | 0, hy, hz =>
      simp at hy hz
      subst hy; subst hz; exact hu.keep hk)⟩ h2 h3 h4 h5 hk
end
theorem RefR.intsS {w : World} {B : Nat} {v : Value} {us : List Value} {xss : List (List Int)} (a : RefR w B w.heap v us xss) : IntSS w.heap v xss := a.ints (fun _ _ => rfl)
/-- Where the row of references lies: not among the blocks from lo on that are below hi. -/
def Out (v : Value) (lo hi : Nat) : Prop := ∀ b, v.ownBlock = some b → b < lo ∨ hi ≤ b
theorem Out.step {v v' : Value} {lo hi n : Nat} (h : Out v lo hi) (hn : hi ≤ n) (k : v'.ownBlock = v.ownBlock ∨ ∃ k, n ≤ k ∧ v'.ownBlock = some k) : Out v' lo hi := by
  intro b hb
  rcases k with k | ⟨k, h1, h2⟩
  · exact h b (by rw [← k]; exact hb)
  · rw [h2] at hb; injection hb with e; right; omega
/-- The blocks from lo on that are below hi are as they were. -/
def SameIn (lo hi : Nat) (w w' : World) : Prop := ∀ b, lo ≤ b → b < hi → w'.heap[b]? = w.heap[b]?
theorem SameIn.of {lo hi : Nat} {w w1 w2 : World} (h : SameIn lo hi w w1) (hs : hi ≤ w1.heap.size) (k : Below w1.heap.size w1 w2) : SameIn lo hi w w2 := fun b h1 h2 => (k.block b (by omega)).trans (h b h1 h2)
theorem SameIn.app {lo hi : Nat} {w w1 w2 : World} {v : Value} (h : SameIn lo hi w w1) (hs : hi ≤ w1.heap.size) (ho : Out v lo hi) (k : ∀ b, b < w1.heap.size → some b ≠ v.ownBlock → w2.heap[b]? = w1.heap[b]?) : SameIn lo hi w w2 := fun b h1 h2 =>
  (k b (by omega) (fun e => by have := ho b e.symm; omega)).trans (h b h1 h2)
theorem SameIn.own {lo hi : Nat} {w w' : World} {v : Value} {us : List Value} {xss : List (List Int)} (h : SameIn lo hi w w') (hhi : w.heap.size = hi) (ho : OwnU w lo v us xss) : OwnU w' lo v us xss := ho.far fun b h1 h2 => h b h1 (by omega)
end
section
open Go.RowKit Go.Sort

theorem SlAt.past {w0 w w' : World} {g e : Nat} {v : Value} {us : List Value} (h : SlAt w.heap e v us) (hs : Src w0 w g) (ne : e ≠ 137) (hg : w.grownBy w' (some g)) : SlAt w'.heap e v us := by
  rcases h with h | ⟨b, off, cap, cur, rfl, hb, r⟩
  · exact .inl h
  · refine .inr ⟨b, off, cap, cur, rfl, ?_, r⟩
    rw [hg.block b (Array.getElem?_eq_some_iff.1 hb).1 ?_]; exact hb
    intro e1
    simp only [Option.some.injEq] at e1
    subst e1
    obtain ⟨_, _, _, _, h1, _⟩ := hs.cells
    rw [hb] at h1
    simp only [Option.some.injEq, Obj.cells.injEq] at h1
    exact ne h1.2.1
theorem IntS.past {w0 w w' : World} {g : Nat} {v : Value} {xs : List Int} (h : IntS w.heap v xs) (hs : Src w0 w g) (hg : w.grownBy w' (some g)) : IntS w'.heap v xs := SlAt.past h hs (by decide) hg
theorem IntSS.past {w0 w w' : World} {g : Nat} {v : Value} {xss : List (List Int)} (h : IntSS w.heap v xss) (hs : Src w0 w g) (hg : w.grownBy w' (some g)) : IntSS w'.heap v xss := by
  obtain ⟨us, h1, h2, h3⟩ := h
  exact ⟨us, h1.past hs (by decide) hg, h2, fun i u xs hu hx => IntS.past (h3 i u xs hu hx) hs hg⟩
theorem Cell1.past {w0 w w' : World} {g b t : Nat} {x : Value} (k : Cell1 w b x t) (hs : Src w0 w g) (ne : t ≠ 137) (hg : w.grownBy w' (some g)) : Cell1 w' b x t := by
  refine k.same (hg.block b k.lt ?_)
  intro e1
  simp only [Option.some.injEq] at e1
  subst e1
  obtain ⟨_, _, _, _, h1, _⟩ := hs.cells
  rw [show w.heap[b]? = _ from k] at h1
  simp only [Option.some.injEq, Obj.cells.injEq] at h1
  exact ne h1.2.1
theorem grownBy_below {w w' : World} {r : Option Nat} (h : Below w.heap.size w w') : w.grownBy w' r := ⟨h.os, h.tape, h.output, h.size, fun i hi _ => h.block i hi⟩
/-- A cell of a variable that is younger than the source is set. -/
theorem Src.setVar {w0 w : World} {g b t j : Nat} {x u : Value} (h : Src w0 w g) (k : Cell1 w b x t) (ne : t ≠ 137) (hb : w0.heap.size ≤ b) : Src w0 (w.setCell ⟨b, j, none⟩ u) g := by
  obtain ⟨code, n, p, hash, h1, h2⟩ := h.cells
  refine ⟨⟨code, n, p, hash, ?_, h2⟩, h.ge, h.below.setCell hb _⟩
  rw [Below.heap_setCell _ _ _ _ ?_]; exact h1
  intro e
  simp only at e
  subst e
  rw [show w.heap[g]? = _ from k] at h1
  simp only [Option.some.injEq, Obj.cells.injEq] at h1
  exact ne h1.2.1
theorem SlAt.setVar {w : World} {e b t j : Nat} {x u v : Value} {us : List Value} (h : SlAt w.heap e v us) (k : Cell1 w b x t) (ne : e ≠ t) : SlAt (w.setCell ⟨b, j, none⟩ u).heap e v us := by
  rcases h with h | ⟨c, off, cap, cur, rfl, hb, r⟩
  · exact .inl h
  · refine .inr ⟨c, off, cap, cur, rfl, ?_, r⟩
    rw [Below.heap_setCell _ _ _ _ ?_]; exact hb
    intro e1
    simp only at e1
    subst e1
    rw [show w.heap[c]? = _ from k] at hb
    simp only [Option.some.injEq, Obj.cells.injEq] at hb
    exact ne hb.2.1.symm
theorem IntSS.setVar {w : World} {b t j : Nat} {x u v : Value} {xss : List (List Int)} (h : IntSS w.heap v xss) (k : Cell1 w b x t) (n1 : 27 ≠ t) (n2 : 2 ≠ t) : IntSS (w.setCell ⟨b, j, none⟩ u).heap v xss := by
  obtain ⟨us, h1, h2, h3⟩ := h
  exact ⟨us, h1.setVar k n1, h2, fun i y xs hy hx => SlAt.setVar (h3 i y xs hy hx) k n2⟩
theorem own_past {w0 w w' : World} {B g e n : Nat} {v : Value} {us : List Value} (h : w.ownsRow B e 1 v n us) (hs : Src w0 w g) (ne : e ≠ 137) (hg : w.grownBy w' (some g)) : w'.ownsRow B e 1 v n us := by
  refine ⟨h.1, ?_⟩
  rcases h.2 with h2 | ⟨b, cap, cur, hv, hb, hgb, r⟩
  · exact .inl h2
  · refine .inr ⟨b, cap, cur, hv, hb, ?_, r⟩
    rw [hg.block b (Array.getElem?_eq_some_iff.1 hgb).1 ?_]; exact hgb
    intro e1
    simp only [Option.some.injEq] at e1
    subst e1
    obtain ⟨_, _, _, _, h1, _⟩ := hs.cells
    rw [hgb] at h1
    simp only [Option.some.injEq, Obj.cells.injEq] at h1
    exact ne h1.2.1
theorem own_setVar {w : World} {B e b t j n : Nat} {x u v : Value} {us : List Value} (h : w.ownsRow B e 1 v n us) (k : Cell1 w b x t) (ne : e ≠ t) : (w.setCell ⟨b, j, none⟩ u).ownsRow B e 1 v n us := by
  refine ⟨h.1, ?_⟩
  rcases h.2 with h2 | ⟨c, cap, cur, hv, hb, hgb, r⟩
  · exact .inl h2
  · refine .inr ⟨c, cap, cur, hv, hb, ?_, r⟩
    rw [Below.heap_setCell _ _ _ _ ?_]; exact hgb
    intro e1
    simp only at e1
    subst e1
    rw [show w.heap[c]? = _ from k] at hgb
    simp only [Option.some.injEq, Obj.cells.injEq] at hgb
    exact ne hgb.2.1.symm
theorem RefR.past {w0 w w' : World} {B g : Nat} {v : Value} {us : List Value} {xss : List (List Int)} (h : RefR w B w.heap v us xss) (hs : Src w0 w g) (hg : w.grownBy w' (some g)) : RefR w' B w'.heap v us xss :=
  ⟨own_past h.row hs (by decide) hg, fun i u xs hu hx => (h.each i u xs hu hx).past hs hg⟩
theorem RefR.setVar {w : World} {B b t j : Nat} {x u v : Value} {us : List Value} {xss : List (List Int)} (h : RefR w B w.heap v us xss) (k : Cell1 w b x t) (n1 : 27 ≠ t) (n2 : 2 ≠ t) : RefR (w.setCell ⟨b, j, none⟩ u) B (w.setCell ⟨b, j, none⟩ u).heap v us xss :=
  ⟨own_setVar h.row k n1, fun i y xs hy hx => SlAt.setVar (h.each i y xs hy hx) k n2⟩
theorem RefR.nil (w : World) (B : Nat) : RefR w B w.heap (.slice none 0 0) [] [] := ⟨World.ownsRow_nil _ _ _ _, fun i u xs hu => by simp at hu⟩
theorem RefR.keepD {w w' : World} {B : Nat} {v : Value} {us : List Value} {xss : List (List Int)} (h : RefR w B w.heap v us xss) (k : ∀ b, b < w.heap.size → w'.heap[b]? = w.heap[b]?) : RefR w' B w'.heap v us xss := (h.same k).grow k
/-- What a draw of an element gives: its row is the draw's own; only the source has changed. -/
def DrewM (m : Nat) (w0 w : World) (g : Nat) (w' : World) (r : Value) : Prop := (∃ us xss, RefR w' w.heap.size w'.heap r us xss ∧ xss.length ≤ m) ∧ Src w0 w' g ∧ w.grownBy w' (some g)
theorem grown_setVar {w W : World} {b j : Nat} {u : Value} {r : Option Nat} (h : w.grownBy W r) (hb : w.heap.size ≤ b) : w.grownBy (W.setCell ⟨b, j, none⟩ u) r :=
  ⟨h.os, h.tape, h.output, by simpa [World.setCell] using h.size, fun i hi hr => (Below.heap_setCell _ _ _ _ (by intro e; simp only at e; omega)).trans (h.block i hi hr)⟩
theorem partL_pos {d : Nat} (hd : d ≤ 40) : 0 < (partL d).length := by
  have hm : (if d = 0 then [] else [(d : Int)]) ∈ partL d := by
    refine partL_all hd ?_ ?_
    · split
      · decide
      · refine isExp_of (fun x hx => ?_) (by simp) (by simp [deg, degA]; omega) ?_
        · rw [List.mem_singleton] at hx; omega
        · simp [lastOk]; omega
    · split
      · rename_i h; subst h; rfl
      · simp [deg, degA]
  exact List.length_pos_of_mem hm
theorem grown_below2 {w a b : World} {r : Option Nat} (h : w.grownBy a r) (k : Below a.heap.size a b) : w.grownBy b r :=
  ⟨k.os.trans h.os, k.tape.trans h.tape, k.output.trans h.output, Nat.le_trans h.size k.size, fun i hi hr => (k.block i (Nat.lt_of_lt_of_le hi h.size)).trans (h.block i hi hr)⟩
section
variable {w0 w W W' wr : World} {g b t : Nat} {a : Addr} {x y : Value}
theorem heldV_src {p : Prop} {q : Prop} (h : p ∧ Src w0 W g ∧ q) : Src w0 W g := h.2.1
theorem heldW_src (h : W.cell? a = some x ∧ Cell1 W b y t ∧ Src w0 W g ∧ wr.grownBy W (some g)) : Src w0 W g := h.2.2.1
theorem heldW_grown (h : W.cell? a = some x ∧ Cell1 W b y t ∧ Src w0 W g ∧ wr.grownBy W (some g)) : wr.grownBy W (some g) := h.2.2.2
theorem heldW_cell (h : W.cell? a = some x ∧ Cell1 W b y t ∧ Src w0 W g ∧ wr.grownBy W (some g)) : Cell1 W b y t := h.2.1
theorem heldW_next (h : W.cell? ⟨b, 0, none⟩ = some y ∧ Cell1 W b y t ∧ Src w0 W g ∧ wr.grownBy W (some g)) (hs : Src w0 W' g) (hg : W.grownBy W' (some g)) (ne : t ≠ 137) : W'.cell? ⟨b, 0, none⟩ = some y ∧ Cell1 W' b y t ∧ Src w0 W' g ∧ wr.grownBy W' (some g) :=
  ⟨(h.2.1.past h.2.2.1 ne hg).c0, h.2.1.past h.2.2.1 ne hg, hs, grownBy_trans h.2.2.2 hg⟩
theorem heldW_below (h : W.cell? ⟨b, 0, none⟩ = some y ∧ Cell1 W b y t ∧ Src w0 W g ∧ wr.grownBy W (some g)) (hb : Below W.heap.size W W') : W'.cell? ⟨b, 0, none⟩ = some y ∧ Cell1 W' b y t ∧ Src w0 W' g ∧ wr.grownBy W' (some g) :=
  ⟨(h.2.1.kept hb.block).c0, h.2.1.kept hb.block, h.2.2.1.step hb, grown_below2 h.2.2.2 hb⟩
end
end
end Go.Proofs.Ytljfpkhgijangaa

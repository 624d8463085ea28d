/- What is proved: for every input the law FnExactConjugateOf returns true and its arguments read behind the call as before: the program's ConjugateOf and the reference's agree, and the result is the call's own. No condition. -/
import Derived.Test.YtljpjoegeincoaaRows
import Derived.Test.YtljpjoegeincoaaLDcj
import Derived.Test.YtljpjoegeincoaaLMulD
import Derived.Test.YtljpjoegeincoaaLParS
import Derived.Test.YtljpjoegeincoaaLRef
import Derived.Test.YtljpjoegeincoaaLib4
import Derived.Test.YtljpjoegeincoaaLStep2
import Derived.Test.YtljpjoegeincoaaLParI
import Derived.Test.YtljpjoegeincoaaLPair
import Derived.Test.YtljpjoegeincoaaLAdd2
import Derived.Test.YtljpjoegeincoaaLDegT
import Derived.Test.YtljpjoegeincoaaLSort
import Derived.Test.YtljpjoegeincoaaLGen
import Derived.Test.YtljpjoegeincoaaLHeld2
import Derived.Deep.DeepCutAuto
import Derived.Lib.SliceRun
import Derived.OpenShut
import Derived.ShutString
import Derived.ChangeOld
namespace Go.Proofs.Ytljpjoegeincoaa
section
open Go.RowKit Go.Sort

theorem ref_keep {w w' : World} {B : Nat} {v : Value} {us : List Value} {xss : List (List Int)} (a : RefR w' B w.heap v us xss) (k : KeepI w w') : RefR w' B w'.heap v us xss := ⟨a.row, fun i u xs hu hx => (a.each i u xs hu hx).keep k⟩
theorem singL_length (n : Nat) (e : Int) : (singL n e).length = n := by
  unfold singL
  split
  · rename_i h; rw [h]; rfl
  · simp; omega
theorem singL_sm (n : Nat) (e : Int) {b : Int} (hb : 0 ≤ b) (h0 : 0 ≤ e) (h1 : e ≤ b) : Sm b (singL n e) := by
  unfold singL
  split
  · intro x hx; cases hx
  · intro x hx
    rw [List.mem_append, List.mem_replicate, List.mem_singleton] at hx
    rcases hx with ⟨-, rfl⟩ | rfl
    · exact ⟨Int.le_refl _, hb⟩
    · exact ⟨h0, h1⟩
theorem singL_set (n : Nat) (e : Int) : (List.replicate (n + 1) (0 : Int)).set n e = singL (n + 1) e := by
  unfold singL
  rw [if_neg (by omega), Nat.add_sub_cancel]
  apply List.ext_getElem?; intro i
  rw [List.getElem?_set]
  by_cases h : n = i
  · subst h; simp
  · rw [if_neg h]
    by_cases h2 : i < n
    · rw [List.getElem?_append_left (by simpa using h2)]; simp [h2, show i < n + 1 by omega]
    · rw [List.getElem?_eq_none (by simp; omega), List.getElem?_eq_none (by simp; omega)]
set_option maxRecDepth 100000 in
theorem single_c (n : Nat) (e : Int) (w : World) (hn : n ≤ 1000) :
    Calls Try.prog 141 #[.int .i64 n, .int .i64 e] w fun r w' => ∃ v, r = .returned v ∧ OwnI w' w.heap.size v (singL n e) ∧ Below w.heap.size w w' := by
  cases n with
  | zero =>
    go_enter Try.func141, Try.ntmps141
    go_wp2_with fail
    go_ret
    exact ⟨_, rfl, ownI_empty (Nat.le_refl _), (Below.refl _ _).alloc (Nat.le_refl _) _⟩
  | succ m =>
    have hmk := fun w => make_run (P := Try.prog) 42 2 _ 8 info_int64 Try.underlying42 rfl (by omega) (m + 1) (by omega) .i64 .i64 ((m : Int) + 1) ((m : Int) + 1) (by omega) (by omega) w
    have hmo := made_own w w.heap.size 2 (m + 1) (.int .i64 0) (Nat.le_refl _) (by omega)
    have hmo2 : (w.alloc (.cells (madeCells #[.int .i64 0] (m + 1)) 2)).ownsRow w.heap.size 2 1 (.slice (some ⟨w.heap.size, 0, none⟩) (m + 1) (m + 1)) (m + 1) ((List.replicate (m + 1) (0 : Int)).map (Value.int .i64)) := by simpa using hmo
    obtain ⟨W5, hW5⟩ : ∃ W5, W5 = w.alloc (.cells (madeCells #[.int .i64 0] (m + 1)) 2) := ⟨_, rfl⟩
    have hb5 : Below w.heap.size w W5 := by rw [hW5]; exact (Below.refl _ _).alloc (Nat.le_refl _) _
    rw [← hW5] at hmo2
    have q0 := own_int_at hmo2 m (by omega)
    rw [show (List.replicate (m + 1) (0 : Int)).getD m 0 = 0 by simp] at q0
    have f0 := hmo2.frozenAt m
    have hst := own_int_set hmo2 m e
    rw [singL_set] at hst
    have HST : Hid (OwnI (W5.setCell ⟨w.heap.size, m, none⟩ (.int .i64 e)) w.heap.size (.slice (some ⟨w.heap.size, 0, none⟩) (m + 1) (m + 1)) (singL (m + 1) e)) := by
      show OwnI _ _ _ _
      unfold OwnI
      rw [singL_length]; exact hst
    have HB5 := Lib.hid (hb5.setCell (p := ⟨w.heap.size, m, none⟩) (Nat.le_refl _) (.int .i64 e))
    have HW5 := Lib.hid hW5
    clear hmo hmo2 hst hb5 hW5
    have hs1 : (m : Int) + 1 - 1 = m := by omega
    have hi0 : (0 : Int) ≤ m := by omega
    have t0 := (neB (show (m : Int) + 1 ≠ 0 by omega)).1
    rw [show ((m + 1 : Nat) : Int) = (m : Int) + 1 by omega]
    go_enter Try.func141, Try.ntmps141
    go_upto_region 4 with fail
    rw [← HW5.out]
    clear hmk
    go_wp2_with fail
    go_ret
    exact ⟨_, rfl, HST.out, HB5.out⟩
set_option maxRecDepth 100000 in
set_option maxHeartbeats 1000000 in
theorem raised_c (v : Value) (xss : List (List Int)) (c : Int) (w : World) (h : IntSS w.heap v xss) (hs : SmS 1000000000000 20 xss) (hc0 : 0 ≤ c) (hc : c ≤ 1000) (hl : xss.length ≤ 4398046511104) :
    Calls Try.prog 115 #[v, .int .i64 c] w fun e w' => ∃ r us, e = .returned r ∧ OwnU w' w.heap.size r us (raiseL c xss) ∧ Below w.heap.size w w' := by
  obtain ⟨ao, cp, rfl, hm⟩ := h.len
  have H := Lib.hid h; have HS := Lib.hid hs; clear h hs
  go_enter Try.func115, Try.ntmps115
  go_wp2_with fail
  go_loopw [5, 14] (fun o i wr => ∃ (k : Nat) (us : List Value), k ≤ xss.length ∧ i = .int .i64 k ∧ OwnU wr w.heap.size o us (raiseL c (xss.take k)) ∧ Below w.heap.size w wr) (fun _ i _ => xss.length - (intOf i).toNat)
  case atStart => exact ⟨0, [], Nat.zero_le _, rfl, ⟨World.ownsRow_made w #[] 0 (Nat.le_refl _) (Nat.zero_le _) rfl, fun i u xs hu => by simp at hu, fun i j u u' _ hu => by simp at hu⟩, (Below.refl _ _).alloc (Nat.le_refl _) _⟩
  case round =>
    obtain ⟨k, us, hk, rfl, hU, hbl⟩ := hrel
    obtain ⟨va, vn, vc, rfl⟩ := own_shape hU.row
    have HU := Lib.hid hU; have HBL := Lib.hid hbl
    have hsz := hbl.size
    by_cases hlt : k < xss.length
    · obtain ⟨b1, o1, c1, uk, hv1, hc1, huk, -⟩ := H.out.at k hlt
      simp only [Value.slice.injEq, true_and] at hv1
      obtain ⟨rfl, rfl⟩ := hv1
      have hcx := (hbl.cell (World.block_lt_of_cell? _ _ hc1)).trans hc1
      have HX := Lib.hid (huk.same hbl.block)
      have hrx := HS.out _ (List.getElem_mem hlt)
      have HRX := Lib.hid hrx.1
      have hrl := hrx.2
      have HT : Hid (raiseL c (xss.take (k + 1)) = raiseL c (xss.take k) ++ [scaleL c xss[k]]) := by
        show _ = _
        unfold raiseL; rw [List.take_succ_eq_append_getElem hlt, List.map_append]; rfl
      obtain ⟨qa, qc, rfl, -⟩ := huk.len
      have hll : (raiseL c (xss.take k)).length ≤ 4398046511104 := by simp [raiseL]; omega
      have HLL := Lib.hid hll
      have hki : (k : Int) < xss.length := by omega
      clear hU hbl hc1 huk hrx hll
      generalize xss[k] = r at *
      rename World => WR
      go_wp2_with fail
      go_loopw [8, 21] (fun o i wk => ∃ j : Nat, j ≤ r.length ∧ i = .int .i64 j ∧ OwnI wk WR.heap.size o (scaleL c (r.take j)) ∧ Below WR.heap.size WR wk) (fun _ i _ => r.length - (intOf i).toNat)
      case atStart => exact ⟨0, Nat.zero_le _, rfl, ownI_empty (Nat.le_refl _), (Below.refl _ _).alloc (Nat.le_refl _) _⟩
      case round =>
        obtain ⟨j, hj, rfl, hO, hb2⟩ := hrel
        obtain ⟨ya, yn, yc, rfl⟩ := own_shape hO
        have HO := Lib.hid hO; have HB2 := Lib.hid hb2
        have hsz2 := hb2.size
        by_cases hjl : j < r.length
        · obtain ⟨b2, o2, c2, hv2, hc2, -⟩ := HX.out.at j hjl
          simp only [Value.slice.injEq, true_and] at hv2
          obtain ⟨rfl, rfl⟩ := hv2
          have hcy := (hb2.cell (World.block_lt_of_cell? _ _ hc2)).trans hc2
          obtain ⟨hx0, hx1⟩ := HRX.out _ (List.getElem_mem hjl)
          have HT2 : Hid (scaleL c (r.take (j + 1)) = scaleL c (r.take j) ++ [r[j] * c]) := by
            show _ = _
            unfold scaleL; rw [List.take_succ_eq_append_getElem hjl, List.map_append]; rfl
          have hll : (scaleL c (r.take j)).length ≤ 4398046511104 := by simp [scaleL]; omega
          have HLL2 := Lib.hid hll
          have hji : (j : Int) < r.length := by omega
          clear hO hb2 hc2 hll
          generalize r[j] = x at *
          have hm0 : 0 ≤ x * c := Int.mul_nonneg hx0 hc0
          have hm1 : x * c ≤ 1000000000000000 := Int.le_trans (Int.mul_le_mul hx1 hc hc0 (by omega)) (by omega)
          go_wp2_with (at_builtin; refine append_int rfl _ _ rfl WR.heap.size _ _ _ HO.out rfl HB2.out hsz2 _ rfl (by simp) HLL2.out ?_; intro v' w3 hown' hbl' _ _; obtain ⟨qa2, qn2, qc2, rfl⟩ := own_shape hown')
          go_roundw
          case rel => exact ⟨j + 1, by omega, by go_num, by rw [HT2.out]; exact hown', hbl'⟩
          case measure => simp [intOf]; omega
        · obtain rfl : j = r.length := by omega
          rw [List.take_length] at HO
          clear hO hb2
          go_wp2_with (at_builtin; refine append_rowU rfl _ _ rfl w.heap.size _ _ us _ _ HU.out rfl HO.out HB2.out HBL.out hsz _ rfl rfl HLL.out ?_; intro v4 w4 hU4 hb4 _ _ _ _; obtain ⟨ta, tn, tc, rfl⟩ := own_shape hU4.row)
          go_roundw
          case rel => exact ⟨k + 1, _, by omega, by go_num, by rw [HT.out]; exact hU4, hb4⟩
          case measure => simp [intOf]; omega
    · obtain rfl : k = xss.length := by omega
      rw [List.take_length] at HU
      clear hU hbl
      go_wp2_with fail
      go_ret
      exact ⟨_, us, rfl, HU.out, HBL.out⟩
theorem conjX_len {n : Nat} (h : n < 7) : (conjX n).length ≤ 32 := (conjX_ok n h).2
theorem conjStep_ok : ∀ n : Nat, n < 7 → ∀ k : Nat, k < 8 → (conjStep (conjTab 6) n k).length ≤ 200 := by decide +kernel
theorem conjStep_sm : ∀ n : Nat, n < 7 → ∀ k : Nat, k < 8 → ((conjStep (conjTab 6) n k).all fun r => (decide (r.length ≤ 6))) = true := by decide +kernel
theorem conjX_zero : conjX 0 = [[]] := rfl
theorem conjTab_get {n i : Nat} (h : i ≤ n) (h6 : n ≤ 6) : (conjTab n).getD i [] = (conjTab 6).getD i [] := by rw [conjTab_at n i h, conjTab_at 6 i (by omega)]
/-- A step towards the conjugate of x(n). -/
theorem conjStep_next (n i : Nat) (hi : i ≤ 6) : conjStep (conjTab 6) n (i + 1) = conjStep (conjTab 6) n i ++ joinsL [singL (n - i) (2 ^ i)] (conjX i) := by
  rw [conjStep, conjTab_at 6 i hi]
theorem conjX_step {n : Nat} (hn : n < 6) : conjX (n + 1) = oddL (conjStep (conjTab 6) (n + 1) (n + 1)) := by
  rw [conjX_succ, conjStep_congr (conjTab n) (conjTab 6) (n + 1) (n + 1) fun i hi => conjTab_get (by omega) (by omega)]
theorem oddL_skip (L M : List (List Int)) : oddL (L ++ oddL M) = oddL (L ++ M) := (oddL_append' L M).symm
/-- What the program has gathered. -/
def conjG (n : Nat) : Nat → List (List Int)
  | 0 => []
  | i + 1 => conjG n i ++ oddL (joinsL [singL (n - i) (2 ^ i)] (conjX i))
theorem conjG_odd (n : Nat) : ∀ i : Nat, i ≤ 7 → oddL (conjG n i) = oddL (conjStep (conjTab 6) n i) := by
  intro i
  induction i with
  | zero => intro _; rfl
  | succ i ih =>
    intro hi
    rw [conjG, conjStep_next n i (by omega), oddL_skip, oddL_append, ih (by omega), ← oddL_append]
theorem conjG_ok : ∀ n : Nat, n < 7 → ∀ k : Nat, k < 8 → (conjG n k).length ≤ 200 ∧ ((conjG n k).all fun r => (decide (r.length ≤ 6))) = true := by decide +kernel
set_option maxRecDepth 100000 in
set_option maxHeartbeats 1000000 in
theorem conjugateOf_of (SO : SortOk) : ∀ (f n : Nat), n < f → n < 7 → ∀ w : World, Calls Try.prog 114 #[.int .i64 n] w fun e w' => ∃ r us, e = .returned r ∧ OwnU w' w.heap.size r us (conjX n) ∧ Below w.heap.size w w' := by
  intro f
  induction f with
  | zero => intro n hn; omega
  | succ f ih =>
    intro n hnf hn w
    cases n with
    | zero =>
      have hl1 := own_u_lit (B := w.heap.size) (ownI_empty (w := w) (B := w.heap.size) (Nat.le_refl _)) (by simp)
      rw [size_alloc_w] at hl1
      have HL := Lib.hid hl1
      clear hl1 ih
      rw [conjX_zero]
      go_enter Try.func114, Try.ntmps114
      go_wp2_with fail
      go_ret
      exact ⟨_, _, rfl, HL.out, ((Below.refl _ _).alloc (Nat.le_refl _) _).alloc (by simp) _⟩
    | succ n =>
      have IH := Lib.hid ih
      rw [conjX_step (by omega), ← conjG_odd (n + 1) (n + 1) (by omega)]
      have HO := Lib.hid (fun (v : Value) (W : World) (h : IntSS W.heap v (conjG (n + 1) (n + 1))) => oddOnes_of SO v _ W h (by have := (conjG_ok (n + 1) hn (n + 1) (by omega)).1; omega) (fun x hx => by have := List.all_eq_true.1 (conjG_ok (n + 1) hn (n + 1) (by omega)).2 x hx; simp at this; omega))
      have t0 := (neB (show (n : Int) + 1 ≠ 0 by omega)).1
      rw [show ((n + 1 : Nat) : Int) = (n : Int) + 1 by omega]
      clear ih
      go_enter Try.func114, Try.ntmps114
      go_wp2_with fail
      go_loopw [3, 11] (fun o i wr => ∃ (k : Nat) (us : List Value), k ≤ n + 1 ∧ i = .int .i64 k ∧ RefR wr w.heap.size wr.heap o us (conjG (n + 1) k) ∧ Below w.heap.size w wr) (fun _ i _ => n + 1 - (intOf i).toNat)
      case atStart => exact ⟨0, [], Nat.zero_le _, rfl, ref_empty _ (Nat.le_refl _), (Below.refl _ _).alloc (Nat.le_refl _) _⟩
      case round =>
        obtain ⟨k, us, hk, rfl, hR, hbl⟩ := hrel
        obtain ⟨va, vn, vc, rfl⟩ := own_shape hR.row
        have HR := Lib.hid hR; have HBL := Lib.hid hbl
        clear hR hbl
        by_cases hkn : k < n + 1
        · have hki : (k : Int) < (n : Int) + 1 := by omega
          have CK := Lib.hid (IH.out k (by omega) (by omega))
          obtain ⟨m, hm⟩ : ∃ m : Nat, n + 1 - k = m := ⟨_, rfl⟩
          have hm2 : (n : Int) + 1 - k = m := by omega
          have hm9 : m ≤ 1000 := by omega
          have hpk : (2 : Int) ^ k ≤ 1000 ∧ 0 ≤ (2 : Int) ^ k := by
            have : ∀ k, k < 8 → (2 : Int) ^ k ≤ 1000 ∧ 0 ≤ (2 : Int) ^ k := by decide
            exact this k (by omega)
          have hpw : wrap64 (2 ^ k) = (2 : Int) ^ k := by unfold wrap64; omega
          have HN : Hid (conjG (n + 1) (k + 1) = conjG (n + 1) k ++ oddL (joinsL [singL m (2 ^ k)] (conjX k))) := by show _ = _; rw [conjG, hm]
          have hcl := (conjG_ok (n + 1) hn k (by omega)).1
          have hxl := conjX_len (n := k) (by omega)
          have hxs := conjX_sm (n := k) (by omega)
          have hol : (oddL (joinsL [singL m (2 ^ k)] (conjX k))).length ≤ 32 := by
            have h1 := oddL_length (joinsL [singL m (2 ^ k)] (conjX k))
            rw [joinsL_length, List.length_singleton] at h1
            omega
          have SG := Lib.hid (fun (e : Int) (W : World) => single_c m e W hm9)
          have MD := Lib.hid (fun (v u : Value) (W : World) (h : IntSS W.heap v [singL m (2 ^ k)]) (hu : IntSS W.heap u (conjX k)) => multiplyDual_of SO v u _ _ W h hu (fun r hr => by
            rw [List.mem_singleton] at hr; subst hr
            exact ⟨singL_sm m _ (by omega) hpk.2 (by omega), by rw [singL_length]; omega⟩) (fun r hr => ⟨fun x hx => by have := (hxs r hr).1 x hx; omega, by have := (hxs r hr).2; omega⟩) (by rw [List.length_singleton]; omega))
          have HLN : Hid ((conjG (n + 1) k).length + (oddL (joinsL [singL m (2 ^ k)] (conjX k))).length ≤ 4398046511104) := by show _ ≤ _; omega
          clear hm hcl hxl hxs hol hkn IH
          obtain ⟨E, hE⟩ : ∃ E : Int, (2 : Int) ^ k = E := ⟨_, rfl⟩
          have hpw2 := hpw.trans hE
          rw [hE] at HN MD HLN
          clear hE hpw hpk
          generalize oddL (joinsL [singL m E] (conjX k)) = px at *
          go_wp2_with (first | (go_at_call 141; refine (SG.out _ _).mono ?_; rintro e w2 ⟨rs, rfl, hs2, hb2⟩; obtain ⟨ra, rn, rc, rfl⟩ := own_shape hs2; have HS2 := Lib.hid (one_row hs2.ints); have HB2 := Lib.hid (hb2.alloc hb2.size (.cells #[.slice ra rn rc] 42)); clear hs2 hb2) | (go_at_call 114; refine (CK.out _).mono ?_; rintro e w3 ⟨r3, us3, rfl, hU3, hb3⟩; obtain ⟨ca, cn, cc, rfl⟩ := own_shape hU3.row; have HS3 := Lib.hid (HS2.out.same hb3.block); have HB3 := Lib.hid (HB2.out.trans (hb3.mono HB2.out.size)); have HU3 := Lib.hid hU3.ints; clear hU3 hb3) | (go_at_call 77; refine (MD.out _ _ _ HS3.out HU3.out).mono ?_; rintro e w4 ⟨r4, us4, rfl, hU4, hb4⟩; obtain ⟨da, dn, dc, rfl⟩ := own_shape hU4.row; have HB4 := Lib.hid (HB3.out.trans (hb4.mono HB3.out.size)); have HR4 := Lib.hid ((HR.out.same HB4.out.block).grow HB4.out.block); have HX4 := Lib.hid (hU4.ints.at2 (fun _ _ => rfl)); have HBX := Lib.hid (HBL.out.trans (HB4.out.mono HBL.out.size)); clear hU4 hb4) | (at_builtin; refine append_refs rfl _ _ rfl w.heap.size w4.heap _ _ us _ _ HR4.out rfl HX4.out rfl HBX.out HBX.out.size HLN.out ?_; intro v5 us5 w5 hU5 hb5 hs5 hk5; obtain ⟨sa, sn, sc, rfl⟩ := own_shape hU5.row; have HU5 := Lib.hid (ref_keep hU5 (KeepI.grown HR4.out.row (by decide) hk5))))
          go_roundw
          case rel => exact ⟨k + 1, _, by omega, by go_num, by rw [HN.out]; exact HU5.out, hb5⟩
          case measure => simp [intOf]; omega
        · obtain rfl : k = n + 1 := by omega
          go_wp2_with (go_at_call 85; refine (HO.out _ _ (HR.out.ints (fun _ _ => rfl))).mono ?_; rintro e w2 ⟨r2, us2, rfl, hU2, hb2⟩; obtain ⟨sa, sn, sc, rfl⟩ := own_shape hU2.row)
          go_ret
          exact ⟨_, _, rfl, own_u_base hU2 HBL.out.size, HBL.out.trans (hb2.mono HBL.out.size)⟩
theorem ExpD.smS {d : Int} {l : List (List Int)} (h : ExpD d l) (hd : d ≤ 40) : SmS 1000000000000000 4398046511104 l := fun r hr => by
  have := h.sm hd r hr
  exact ⟨fun x hx => by have := this.1 x hx; omega, by have := this.2; omega⟩
/-- What a step along the digits of a number of a monomial has. -/
theorem dig_all {r : List Int} (hE : isExp r = true) (hd : deg r ≤ 40) {k : Nat} (hk : k < r.length) : ∃ e : Nat, r.getD k 0 = e ∧ e ≤ 40 ∧ ∀ j : Nat, j ≤ 6 → SmS 1000000000000000 4398046511104 (digL (conjX (k + 1)) e (dconN r k) j) ∧ (digL (conjX (k + 1)) e (dconN r k) j).length ≤ 504 := by
  have hl := exp_len5 hE hd
  obtain ⟨i1, i2⟩ := dcon_ok hE hd k (by omega)
  have hn := ((isExp_sm hE).at (by omega) k).1
  have hw := deg_takeN hE (k + 1) hk
  have hw0 := W_nonneg (f := fun i => r.getD i 0) k fun i _ => ((isExp_sm hE).at (by omega) i).1
  rw [W] at hw
  obtain ⟨e, he⟩ : ∃ e : Nat, r.getD k 0 = e := ⟨(r.getD k 0).toNat, by omega⟩
  simp only [he] at hw
  have hp := pow_pos' k
  have hc : (e : Int) * (2 ^ (k + 1) - 1) = (2 ^ (k + 1) - 1) * (e : Int) := Int.mul_comm _ _
  have h6 : e ≤ 40 := by
    have := Int.mul_le_mul_of_nonneg_left hp (show (0 : Int) ≤ e by omega)
    omega
  rw [hc] at hw
  refine ⟨e, he, h6, fun j _ => ?_⟩
  have hx := dig_ok (e := e) i1 i2 (conjX_exp (n := k + 1) (by omega)) hw0 (by omega) (by omega) j
  have hm : ((2 : Int) ^ (k + 1) - 1) * ((e % 2 ^ j : Nat) : Int) ≤ (2 ^ (k + 1) - 1) * (e : Int) := Int.mul_le_mul_of_nonneg_left (by have := Nat.mod_le e (2 ^ j); omega) (by omega)
  have hb : W (fun i => r.getD i 0) k + (2 ^ (k + 1) - 1) * ((e % 2 ^ j : Nat) : Int) ≤ 40 := by omega
  exact ⟨hx.exp.smS hb, expD_length hx.asc hx.exp hb⟩
theorem and_bit : ∀ e : Nat, e < 41 → ∀ j : Nat, j < 6 → (bits BinOp.and IntKind.i64 (e : Int) ((2 : Int) ^ j) != 0) = e.testBit j := by decide +kernel
theorem dconN_succ (r : List Int) (k e : Nat) (he : r.getD k 0 = e) : dconN r (k + 1) = digL (conjX (k + 1)) e (dconN r k) 6 := by rw [dconN, he, Int.toNat_natCast]
theorem dig_end {e : Nat} {x out : List (List Int)} {j : Nat} (h : e < 2 ^ j) (hj : j ≤ 6) : digL x e out 6 = digL x e out j := by
  have := dig_bits (x := x) (out := out) h (6 - j)
  rwa [show j + (6 - j) = 6 by omega] at this
theorem raise_smS {X : List (List Int)} (h : SmS 1000000000000 6 X) {c : Int} (h0 : 0 ≤ c) (h1 : c ≤ 64) : SmS 1000000000000000 4398046511104 (raiseL c X) := fun z hz => by
  simp only [raiseL, List.mem_map] at hz
  obtain ⟨r, hr, rfl⟩ := hz
  have h2 := h r hr
  refine ⟨fun x hx => ?_, by simp [scaleL]; omega⟩
  simp only [scaleL, List.mem_map] at hx
  obtain ⟨y, hy, rfl⟩ := hx
  have h3 := h2.1 y hy
  exact ⟨Int.mul_nonneg h3.1 h0, Int.le_trans (Int.mul_le_mul h3.2 h1 h0 (by omega)) (by omega)⟩
theorem pow2_le : ∀ j : Nat, j ≤ 6 → (1 : Int) ≤ 2 ^ j ∧ (2 : Int) ^ j ≤ 64 ∧ ((2 : Int) ^ j) * 2 = 2 ^ (j + 1) := by decide
set_option maxRecDepth 100000 in
set_option maxHeartbeats 1000000 in
theorem dualConjugate_of (SO : SortOk) (v : Value) (r : List Int) (w : World) (h : IntS w.heap v r) (hE : isExp r = true) (hd : deg r ≤ 40) :
    Calls Try.prog 84 #[v] w fun e w' => ∃ r', ∃ us, e = .returned r' ∧ OwnU w' w.heap.size r' us (dconL r) ∧ Below w.heap.size w w' := by
  have hl5 := exp_len5 hE hd
  have DA := Lib.hid (fun k (hk : k < r.length) => dig_all hE hd hk)
  obtain ⟨ao, c, rfl, hm⟩ := h.len
  have H := Lib.hid h
  have hl1 := own_u_lit (B := w.heap.size) (ownI_empty (w := w) (B := w.heap.size) (Nat.le_refl _)) (by simp)
  rw [size_alloc_w] at hl1
  have HL := Lib.hid hl1
  clear hl1 h hE hd
  unfold dconL
  go_enter Try.func84, Try.ntmps84
  go_wp2_with fail
  go_loopw [3, 12] (fun o i wr => ∃ (k : Nat) (us : List Value), k ≤ r.length ∧ i = .int .i64 k ∧ OwnU wr w.heap.size o us (dconN r k) ∧ Below w.heap.size w wr) (fun _ i _ => r.length - (intOf i).toNat)
  case atStart => exact ⟨0, _, Nat.zero_le _, rfl, HL.out, ((Below.refl _ _).alloc (Nat.le_refl _) _).alloc (by simp) _⟩
  case round =>
    obtain ⟨k, us, hk, rfl, hU, hbl⟩ := hrel
    obtain ⟨va, vn, vc, rfl⟩ := own_shape hU.row
    have HU := Lib.hid hU; have HBL := Lib.hid hbl
    by_cases hkl : k < r.length
    · obtain ⟨e, he, he40, HJ⟩ := DA.out k hkl
      have HJ := Lib.hid HJ
      obtain ⟨b1, o1, c1, hv1, hc1, -⟩ := H.out.at k hkl
      simp only [Value.slice.injEq, true_and] at hv1
      obtain ⟨rfl, rfl⟩ := hv1
      have hcx := (hbl.cell (World.block_lt_of_cell? _ _ hc1)).trans hc1
      rw [← getD_at', he] at hcx
      have HSU := Lib.hid (dconN_succ r k e he)
      have hki : (k : Int) < r.length := by omega
      have CJ := Lib.hid (fun W => conjugateOf_of SO (k + 2) (k + 1) (by omega) (by omega) W)
      rw [show ((k + 1 : Nat) : Int) = (k : Int) + 1 by omega] at CJ
      have hxl := conjX_len (n := k + 1) (by omega)
      have hxs := Lib.hid (conjX_sm (n := k + 1) (by omega))
      have HXE := Lib.hid (conjX_exp (n := k + 1) (by omega))
      clear hU hbl hc1 he
      generalize conjX (k + 1) = X at *
      generalize dconN r k = D0 at *
      go_wp2_with (go_at_call 114; refine (CJ.out _).mono ?_; rintro e w3 ⟨r3, us3, rfl, hU3, hb3⟩; obtain ⟨ca, cn, cc, rfl⟩ := own_shape hU3.row; have HX3 := Lib.hid hU3.ints; have HB3 := Lib.hid (HBL.out.trans (hb3.mono HBL.out.size)); have HU3 := Lib.hid (HU.out.same hb3.block); have hcx3 := (hb3.cell (World.block_lt_of_cell? _ _ hcx)).trans hcx; clear hU3 hb3)
      go_loopw [3, 7] (fun o p wk => ∃ (j : Nat) (us : List Value), j ≤ 6 ∧ p = .int .i64 ((2 : Int) ^ j) ∧ OwnU wk w.heap.size o us (digL X e D0 j) ∧ Below w3.heap.size w3 wk) (fun _ p _ => 65 - (intOf p).toNat)
      case atStart => exact ⟨0, us, by omega, rfl, HU3.out, Below.refl _ _⟩
      case round =>
        obtain ⟨j, us2, hj, rfl, hO, hb2⟩ := hrel
        obtain ⟨ya, yn, yc, rfl⟩ := own_shape hO.row
        have HO := Lib.hid hO; have HB2 := Lib.hid hb2
        have HBW := Lib.hid (HB3.out.trans (hb2.mono HB3.out.size))
        have HXW := Lib.hid (HX3.out.same hb2.block)
        have hcy := (hb2.cell (World.block_lt_of_cell? _ _ hcx3)).trans hcx3
        obtain ⟨hp1, hp2, hp3⟩ := pow2_le j hj
        obtain ⟨hsm, hlen⟩ := HJ.out j hj
        have HSM := Lib.hid hsm
        clear hO hb2 hsm
        by_cases hle : (2 : Int) ^ j ≤ e
        · have hj6 : j < 6 := by
            rcases Nat.lt_or_ge j 6 with h | h
            · exact h
            · obtain rfl : j = 6 := by omega
              rw [show (2 : Int) ^ 6 = 64 by decide] at hle
              omega
          have hb := and_bit e (by omega) j hj6
          have HD : Hid (digL X e D0 (j + 1) = if e.testBit j then oddL (joinsL (digL X e D0 j) (raiseL (2 ^ j) X)) else digL X e D0 j) := rfl
          have HRS := Lib.hid (raise_smS hxs.out (show (0 : Int) ≤ 2 ^ j by omega) hp2)
          cases hbt : e.testBit j
          · rw [hbt] at hb HD
            obtain ⟨P, hP⟩ : ∃ P : Int, (2 : Int) ^ j = P := ⟨_, rfl⟩
            have HP3 : Hid (P * 2 = (2 : Int) ^ (j + 1)) := by show _ = _; rw [← hP]; exact hp3
            rw [hP] at hp1 hp2 hle hb ⊢
            have u1 : decide (P ≤ (e : Int)) = true := decide_eq_true hle
            have HPP := Lib.hid hP
            clear hP hp3 hbt HRS
            go_wp2_with fail
            go_roundw
            case rel => exact ⟨j + 1, us2, by omega, by rw [HP3.out], by rw [HD.out]; exact HO.out, HB2.out⟩
            case measure => simp [intOf]; omega
          · rw [hbt] at hb HD
            obtain ⟨P, hP⟩ : ∃ P : Int, (2 : Int) ^ j = P := ⟨_, rfl⟩
            have HP3 : Hid (P * 2 = (2 : Int) ^ (j + 1)) := by show _ = _; rw [← hP]; exact hp3
            have RC := Lib.hid (fun (W : World) (h : IntSS W.heap (.slice ca cn cc) X) => raised_c (.slice ca cn cc) X P W h (fun r hr => ⟨(hxs.out r hr).1, by have := (hxs.out r hr).2; omega⟩) (by omega) (by omega) (by omega))
            have MD := Lib.hid (fun (v u : Value) (W : World) (h : IntSS W.heap v (digL X e D0 j)) (hu : IntSS W.heap u (raiseL ((2 : Int) ^ j) X)) => multiplyDual_of SO v u _ _ W h hu HSM.out HRS.out (by
              have h1 : (raiseL ((2 : Int) ^ j) X).length ≤ 32 := by simp [raiseL]; exact hxl
              exact Nat.le_trans (Nat.mul_le_mul hlen h1) (by omega)))
            rw [hP] at hp1 hp2 hle hb MD HD ⊢
            have u1 : decide (P ≤ (e : Int)) = true := decide_eq_true hle
            have HPP := Lib.hid hP
            clear hP hp3 hbt HRS HSM
            go_wp2_with (first | (go_at_call 115; refine (RC.out _ HXW.out).mono ?_; rintro e w5 ⟨r5, us5, rfl, hU5, hb5⟩; obtain ⟨da, dn, dc, rfl⟩ := own_shape hU5.row) | (go_at_call 77; refine (MD.out _ _ _ (HO.out.ints.same hb5.block) hU5.ints).mono ?_; rintro e w6 ⟨r6, us6, rfl, hU6, hb6⟩; obtain ⟨ea, en, ec, rfl⟩ := own_shape hU6.row; have HB6 := Lib.hid (hb5.trans (hb6.mono hb5.size)); have HS6 := Lib.hid hb5.size; have HU6 := Lib.hid hU6; clear hU6 hb6 hU5 hb5))
            go_roundw
            case rel => exact ⟨j + 1, us6, by omega, by rw [HP3.out], by rw [HD.out]; exact own_u_base HU6.out (Nat.le_trans HBW.out.size HS6.out), HB2.out.trans (HB6.out.mono HB2.out.size)⟩
            case measure => simp [intOf]; omega
        · have hlt : e < 2 ^ j := by
            have : ((2 ^ j : Nat) : Int) = (2 : Int) ^ j := by rw [Int.natCast_pow]; rfl
            omega
          have HE := Lib.hid (dig_end (x := X) (out := D0) hlt hj)
          have u1 : decide ((2 : Int) ^ j ≤ (e : Int)) = false := decide_eq_false hle
          obtain ⟨P, hP⟩ : ∃ P : Int, (2 : Int) ^ j = P := ⟨_, rfl⟩
          rw [hP] at hp1 hp2 hle u1 ⊢
          clear hP hp3 hlt hlen
          go_wp2_with fail
          go_roundw
          case rel => exact ⟨k + 1, us2, by omega, by go_num, by rw [HSU.out, HE.out]; exact HO.out, HBW.out⟩
          case measure => simp [intOf]; omega
    · obtain rfl : k = r.length := by omega
      clear hU hbl
      go_wp2_with fail
      go_ret
      exact ⟨_, us, rfl, HU.out, HBL.out⟩
end
section
open Go.RowKit Go.Sort

theorem info_slSS : (Try.prog.info? 22).map (fun i => (i.zero, i.size, i.bytes)) = some (some (.slice none 0 0), 1, 24) := by kernel_rfl
/-- A slice of slices of slices of int64 that is read. -/
def IntSSS (h : Array Obj) (v : Value) (xsss : List (List (List Int))) : Prop :=
  ∃ us, SlAt h 22 v us ∧ us.length = xsss.length ∧ ∀ (i : Nat) u xss, us[i]? = some u → xsss[i]? = some xss → IntSS h u xss
theorem IntSSS.same {h h' : Array Obj} {v : Value} {xsss : List (List (List Int))} (a : IntSSS h v xsss) (k : ∀ b, b < h.size → h'[b]? = h[b]?) : IntSSS h' v xsss := by
  obtain ⟨us, h1, h2, h3⟩ := a
  exact ⟨us, h1.same k, h2, fun i u xs hu hx => (h3 i u xs hu hx).same k⟩
theorem IntSSS.len {h : Array Obj} {v : Value} {xsss : List (List (List Int))} (a : IntSSS h v xsss) : ∃ ao cap, v = .slice ao xsss.length cap ∧ xsss.length ≤ 9223372036854775807 := by
  obtain ⟨us, h1, h2, h3⟩ := a
  obtain ⟨ao, cap, hv, h4, h5⟩ := SlAt.len h1
  rw [h2] at hv h4
  exact ⟨ao, cap, hv, by unfold maxLen at h5; omega⟩
theorem IntSSS.at {w : World} {v : Value} {xsss : List (List (List Int))} (a : IntSSS w.heap v xsss) (i : Nat) (hi : i < xsss.length) :
    ∃ b off cap u, v = .slice (some ⟨b, off, none⟩) xsss.length cap ∧ w.cell? ⟨b, off + i, none⟩ = some u ∧ IntSS w.heap u xsss[i] ∧ xsss.length ≤ 9223372036854775807 := by
  obtain ⟨us, h1, h2, h3⟩ := a
  obtain ⟨b, off, cap, cur, hv, hb, g1, g2, g3, g4⟩ := SlAt.at h1 i (by omega)
  rw [h2] at hv g1
  refine ⟨b, off, cap, us[i]'(by omega), hv, ?_, h3 i _ _ (List.getElem?_eq_getElem (by omega)) (List.getElem?_eq_getElem hi), by unfold maxLen at g2; omega⟩
  rw [World.cell?]; simp only [hb]
  simpa [show i < us.length by omega] using g4
/-- A row of references to slices of slices, of the call's own. -/
structure RefSS (w : World) (B : Nat) (h : Array Obj) (v : Value) (us : List Value) (xsss : List (List (List Int))) : Prop where
  row : w.ownsRow B 22 1 v xsss.length us
  each : ∀ (i : Nat) u xss, us[i]? = some u → xsss[i]? = some xss → IntSS h u xss
theorem RefSS.len {w : World} {B : Nat} {h : Array Obj} {v : Value} {us : List Value} {xsss : List (List (List Int))} (a : RefSS w B h v us xsss) : us.length = xsss.length := by simpa using a.row.1
theorem RefSS.ints {w : World} {B : Nat} {h : Array Obj} {v : Value} {us : List Value} {xsss : List (List (List Int))} (a : RefSS w B h v us xsss) (k : ∀ b, b < h.size → w.heap[b]? = h[b]?) : IntSSS w.heap v xsss :=
  ⟨us, slAt_of_own a.row, by simpa using a.row.1, fun i u xs hu hx => (a.each i u xs hu hx).same k⟩
theorem RefSS.same {w w' : World} {B : Nat} {h : Array Obj} {v : Value} {us : List Value} {xsss : List (List (List Int))} (a : RefSS w B h v us xsss) (k : ∀ b, b < w.heap.size → w'.heap[b]? = w.heap[b]?) : RefSS w' B h v us xsss := ⟨own_same a.row k, a.each⟩
theorem RefSS.grow {w : World} {B : Nat} {h h' : Array Obj} {v : Value} {us : List Value} {xsss : List (List (List Int))} (a : RefSS w B h v us xsss) (k : ∀ b, b < h.size → h'[b]? = h[b]?) : RefSS w B h' v us xsss := ⟨a.row, fun i u xs hu hx => (a.each i u xs hu hx).same k⟩
/-- Every row of a type other than t of w lies in w' as it was. -/
def KeepT (t : Nat) (w w' : World) : Prop := ∀ (b : Nat) cs e f, e ≠ t → w.heap[b]? = some (.cells cs e f) → w'.heap[b]? = some (.cells cs e f)
theorem KeepT.grown {w w' : World} {B e n : Nat} {v : Value} {us : List Value} (h : w.ownsRow B e 1 v n us) (k : ∀ b, b < w.heap.size → some b ≠ v.ownBlock → w'.heap[b]? = w.heap[b]?) : KeepT e w w' := by
  intro b cs t f ne hb
  refine (k b (Array.getElem?_eq_some_iff.1 hb).1 ?_).trans hb
  rcases h.2 with ⟨rfl, _⟩ | ⟨g, cap, cur, rfl, _, hg, _⟩
  · simp [Value.ownBlock]
  · intro e1
    simp only [Value.ownBlock, Option.some.injEq] at e1
    subst e1
    rw [hg] at hb
    simp only [Option.some.injEq, Obj.cells.injEq] at hb
    exact ne hb.2.1.symm
theorem SlAt.keepT {w w' : World} {t e : Nat} {v : Value} {us : List Value} (a : SlAt w.heap e v us) (ne : e ≠ t) (k : KeepT t w w') : SlAt w'.heap e v us := by
  rcases a with a | ⟨b, off, cap, cur, rfl, hb, r⟩
  · exact .inl a
  · exact .inr ⟨b, off, cap, cur, rfl, k b _ _ _ ne hb, r⟩
theorem IntSS.keepT {w w' : World} {t : Nat} {v : Value} {xss : List (List Int)} (a : IntSS w.heap v xss) (n1 : 42 ≠ t) (n2 : 2 ≠ t) (k : KeepT t w w') : IntSS w'.heap v xss := by
  obtain ⟨us, h1, h2, h3⟩ := a
  exact ⟨us, h1.keepT n1 k, h2, fun i u xs hu hx => SlAt.keepT (h3 i u xs hu hx) n2 k⟩
theorem refSS_empty {w : World} {B : Nat} (h : Array Obj) (hB : B ≤ w.heap.size) : RefSS (w.alloc (.cells #[] 22)) B h (.slice (some ⟨w.heap.size, 0, none⟩) 0 0) [] [] :=
  ⟨World.ownsRow_made w #[] 0 hB (Nat.zero_le _) rfl, fun i u xs hu => by simp at hu⟩
theorem refSS_one {w : World} {B : Nat} {h : Array Obj} {u : Value} {xss : List (List Int)} (hu : IntSS h u xss) (hB : B ≤ w.heap.size) : RefSS (w.alloc (.cells #[u] 22)) B h (.slice (some ⟨w.heap.size, 0, none⟩) 1 1) [u] [xss] :=
  ⟨World.ownsRow_lit (e := 22) (size := 1) w #[u] 1 hB (by unfold maxLen; omega) rfl, fun i x ys hx hy => by
    match i, hx, hy with
    | 0, hx, hy =>
      simp at hx hy
      subst hx; subst hy; exact hu⟩
theorem intSS_oneCell {h : Array Obj} {u : Value} {xss : List (List Int)} (a : IntSS h u xss) : u.oneCell' = true := by
  obtain ⟨ao, c, rfl, -⟩ := a.len
  cases ao <;> rfl
section
variable {ops : Array Oper} {rest : List Oper} {o : Oper} {a : Act} {Q : Exit → Act → World → Prop} {K : Act → World → Prop} {E : Prop}
/-- 'append(out, x)', out a row of references to slices of slices. -/
theorem append_refSS {w w0 : World} (hg : o.guard = none) (s x : Operand)
    (ho : o.op = .call { callee := .builtin .append, args := #[s, x], argTypes := #[55, 55] })
    (B : Nat) (v u : Value) (us : List Value) (xsss : List (List (List Int))) (xss : List (List Int)) (hR : RefSS w B w.heap v us xsss) (hs : a.eval s = v) (hu : IntSS w.heap u xss) (hbl : Below B w0 w) (hB : B ≤ w.heap.size)
    (b : Nat) (hx : a.eval x = .slice (some ⟨b, 0, none⟩) 1 1) (hb : b = w.heap.size) (hn : xsss.length ≤ 4398046511104)
    (hK : ∀ v' us' w', RefSS w' B w'.heap v' us' (xsss ++ [xss]) → Below B w0 w' → w.heap.size ≤ w'.heap.size → (∀ b, b < w.heap.size → some b ≠ v.ownBlock → w'.heap[b]? = w.heap[b]?) → wpList Try.prog ops Q rest (a.put o.dst v') w') :
    wpList Try.prog ops Q (o :: rest) a (w.alloc (.cells #[u] 22)) := by
  obtain ⟨i0, hi, hz0, hz1, hz2⟩ := info_parts info_slSS
  refine append_one hg s x _ ho B _ i0 _ 24 Try.underlying55 hi hz0 hz1 hz2 rfl (by omega) v _ us u hR.row hs hbl hB b hx hb (intSS_oneCell hu) hn ?_
  intro v' w' h1 h2 h3 h4
  have hk := KeepT.grown hR.row h4
  refine hK v' _ w' ⟨by simpa using h1, fun i y ys hy hz => ?_⟩ h2 h3 h4
  have hl := hR.len
  by_cases hi : i < us.length
  · rw [List.getElem?_append_left hi] at hy
    rw [List.getElem?_append_left (by omega)] at hz
    exact (hR.each i y ys hy hz).keepT (by decide) (by decide) hk
  · rw [List.getElem?_append_right (by omega)] at hy hz
    rw [← hl] at hz
    obtain ⟨m, hm⟩ : ∃ m, i - us.length = m := ⟨_, rfl⟩
    rw [hm] at hy hz
    match m, hy, hz with
    | 0, hy, hz =>
      simp at hy hz
      subst hy; subst hz; exact hu.keepT (by decide) (by decide) hk
end
/-- A row of slices of slices of the call's own: all their blocks lie from B on. -/
structure OwnRS (w : World) (B : Nat) (v : Value) (us : List Value) (xsss : List (List (List Int))) : Prop where
  row : w.ownsRow B 22 1 v xsss.length us
  each : ∀ (i : Nat) u xss, us[i]? = some u → xsss[i]? = some xss → ∃ us', OwnU w B u us' xss
theorem OwnRS.len {w : World} {B : Nat} {v : Value} {us : List Value} {xsss : List (List (List Int))} (a : OwnRS w B v us xsss) : us.length = xsss.length := by simpa using a.row.1
theorem OwnRS.ints {w : World} {B : Nat} {v : Value} {us : List Value} {xsss : List (List (List Int))} (a : OwnRS w B v us xsss) : IntSSS w.heap v xsss :=
  ⟨us, slAt_of_own a.row, a.len, fun i u xss hu hx => by obtain ⟨us', h⟩ := a.each i u xss hu hx; exact h.ints⟩
theorem OwnRS.same {w w' : World} {B : Nat} {v : Value} {us : List Value} {xsss : List (List (List Int))} (a : OwnRS w B v us xsss) (k : ∀ b, b < w.heap.size → w'.heap[b]? = w.heap[b]?) : OwnRS w' B v us xsss :=
  ⟨own_same a.row k, fun i u xss hu hx => by obtain ⟨us', h⟩ := a.each i u xss hu hx; exact ⟨us', h.same k⟩⟩
theorem own_far {w w' : World} {B e n : Nat} {v : Value} {us : List Value} (h : w.ownsRow B e 1 v n us) (k : ∀ b, B ≤ b → b < w.heap.size → w'.heap[b]? = w.heap[b]?) : w'.ownsRow B e 1 v n us := own_kept h fun b e => k b (World.ownsRow.lt h b e).1 (World.ownsRow.lt h b e).2
theorem OwnRS.far {w w' : World} {B : Nat} {v : Value} {us : List Value} {xsss : List (List (List Int))} (a : OwnRS w B v us xsss) (k : ∀ b, B ≤ b → b < w.heap.size → w'.heap[b]? = w.heap[b]?) : OwnRS w' B v us xsss :=
  ⟨own_far a.row k, fun i u xss hu hx => by
    obtain ⟨us', h⟩ := a.each i u xss hu hx
    exact ⟨us', own_far h.row k, fun i u xs hu hx => own_far (h.each i u xs hu hx) k, h.apart⟩⟩
theorem own_keepT {w w' : World} {t B e n : Nat} {v : Value} {us : List Value} (h : w.ownsRow B e 1 v n us) (ne : e ≠ t) (k : KeepT t w w') : w'.ownsRow B e 1 v n us := by
  refine ⟨h.1, ?_⟩
  rcases h.2 with h2 | ⟨g, cap, cur, hv, hb, hg, r⟩
  · exact .inl h2
  · exact .inr ⟨g, cap, cur, hv, hb, k g _ _ _ ne hg, r⟩
theorem OwnU.keepT {w w' : World} {t B : Nat} {v : Value} {us : List Value} {xss : List (List Int)} (a : OwnU w B v us xss) (n1 : 42 ≠ t) (n2 : 2 ≠ t) (k : KeepT t w w') : OwnU w' B v us xss :=
  ⟨own_keepT a.row n1 k, fun i u xs hu hx => own_keepT (a.each i u xs hu hx) n2 k, a.apart⟩
theorem ownRS_one {w : World} {B : Nat} {u : Value} {us' : List Value} {xss : List (List Int)} (hu : OwnU w B u us' xss) (hB : B ≤ w.heap.size) : OwnRS (w.alloc (.cells #[u] 22)) B (.slice (some ⟨w.heap.size, 0, none⟩) 1 1) [u] [xss] :=
  ⟨World.ownsRow_lit (e := 22) (size := 1) w #[u] 1 hB (by unfold maxLen; omega) rfl, fun i x ys hx hy => by
    match i, hx, hy with
    | 0, hx, hy =>
      simp at hx hy
      subst hx; subst hy; exact ⟨us', hu.same (alloc_old w _)⟩⟩
section
variable {ops : Array Oper} {rest : List Oper} {o : Oper} {a : Act} {Q : Exit → Act → World → Prop}
/-- 'append(out, x)', all of it the call's own. -/
theorem append_ownRS {w w0 : World} (hg : o.guard = none) (s x : Operand)
    (ho : o.op = .call { callee := .builtin .append, args := #[s, x], argTypes := #[55, 55] })
    (B : Nat) (v u : Value) (us us' : List Value) (xsss : List (List (List Int))) (xss : List (List Int)) (hR : OwnRS w B v us xsss) (hs : a.eval s = v) (hu : OwnU w B u us' xss) (hbl : Below B w0 w) (hB : B ≤ w.heap.size)
    (b : Nat) (hx : a.eval x = .slice (some ⟨b, 0, none⟩) 1 1) (hb : b = w.heap.size) (hn : xsss.length ≤ 4398046511104)
    (hK : ∀ v' us' w', OwnRS w' B v' us' (xsss ++ [xss]) → Below B w0 w' → w.heap.size ≤ w'.heap.size → (∀ b, b < w.heap.size → some b ≠ v.ownBlock → w'.heap[b]? = w.heap[b]?) → wpList Try.prog ops Q rest (a.put o.dst v') w') :
    wpList Try.prog ops Q (o :: rest) a (w.alloc (.cells #[u] 22)) := by
  obtain ⟨i0, hi, hz0, hz1, hz2⟩ := info_parts info_slSS
  refine append_one hg s x _ ho B _ i0 _ 24 Try.underlying55 hi hz0 hz1 hz2 rfl (by omega) v _ us u hR.row hs hbl hB b hx hb (intSS_oneCell hu.ints) hn ?_
  intro v' w' h1 h2 h3 h4
  have hk := KeepT.grown hR.row h4
  refine hK v' _ w' ⟨by simpa using h1, fun i y ys hy hz => ?_⟩ h2 h3 h4
  have hl := hR.len
  by_cases hi : i < us.length
  · rw [List.getElem?_append_left hi] at hy
    rw [List.getElem?_append_left (by omega)] at hz
    obtain ⟨us'', h⟩ := hR.each i y ys hy hz
    exact ⟨us'', h.keepT (by decide) (by decide) hk⟩
  · rw [List.getElem?_append_right (by omega)] at hy hz
    rw [← hl] at hz
    obtain ⟨m, hm⟩ : ∃ m, i - us.length = m := ⟨_, rfl⟩
    rw [hm] at hy hz
    match m, hy, hz with
    | 0, hy, hz =>
      simp at hy hz
      subst hy; subst hz; exact ⟨us', hu.keepT (by decide) (by decide) hk⟩
end
end
section
open Go.RowKit Go.Sort

set_option maxRecDepth 100000 in
theorem l06Power_c (n : Nat) (e : Int) (w : World) (hn : n ≤ 1000) (he : 1 ≤ e) :
    Calls Try.prog 138 #[.int .i64 n, .int .i64 e] w fun r w' => ∃ v, r = .returned v ∧ OwnI w' w.heap.size v (singL n e) ∧ Below w.heap.size w w' := by
  have te := (neB (show e ≠ 0 by omega)).1
  cases n with
  | zero =>
    go_enter Try.func138, Try.ntmps138
    go_wp2_with fail
    go_ret
    exact ⟨_, rfl, ownI_empty (Nat.le_refl _), (Below.refl _ _).alloc (Nat.le_refl _) _⟩
  | succ m =>
    have hmk := fun w => make_run (P := Try.prog) 42 2 _ 8 info_int64 Try.underlying42 rfl (by omega) (m + 1) (by omega) .i64 .i64 ((m : Int) + 1) ((m : Int) + 1) (by omega) (by omega) w
    have hmo := made_own w w.heap.size 2 (m + 1) (.int .i64 0) (Nat.le_refl _) (by omega)
    have hmo2 : (w.alloc (.cells (madeCells #[.int .i64 0] (m + 1)) 2)).ownsRow w.heap.size 2 1 (.slice (some ⟨w.heap.size, 0, none⟩) (m + 1) (m + 1)) (m + 1) ((List.replicate (m + 1) (0 : Int)).map (Value.int .i64)) := by simpa using hmo
    obtain ⟨W5, hW5⟩ : ∃ W5, W5 = w.alloc (.cells (madeCells #[.int .i64 0] (m + 1)) 2) := ⟨_, rfl⟩
    have hb5 : Below w.heap.size w W5 := by rw [hW5]; exact (Below.refl _ _).alloc (Nat.le_refl _) _
    rw [← hW5] at hmo2
    have q0 := own_int_at hmo2 m (by omega)
    rw [show (List.replicate (m + 1) (0 : Int)).getD m 0 = 0 by simp] at q0
    have f0 := hmo2.frozenAt m
    have hst := own_int_set hmo2 m e
    rw [singL_set] at hst
    have HST : Hid (OwnI (W5.setCell ⟨w.heap.size, m, none⟩ (.int .i64 e)) w.heap.size (.slice (some ⟨w.heap.size, 0, none⟩) (m + 1) (m + 1)) (singL (m + 1) e)) := by
      show OwnI _ _ _ _
      unfold OwnI
      rw [singL_length]; exact hst
    have HB5 := Lib.hid (hb5.setCell (p := ⟨w.heap.size, m, none⟩) (Nat.le_refl _) (.int .i64 e))
    have HW5 := Lib.hid hW5
    clear hmo hmo2 hst hb5 hW5
    have hs1 : (m : Int) + 1 - 1 = m := by omega
    have hi0 : (0 : Int) ≤ m := by omega
    have t0 := (neB (show (m : Int) + 1 ≠ 0 by omega)).1
    rw [show ((m + 1 : Nat) : Int) = (m : Int) + 1 by omega]
    go_enter Try.func138, Try.ntmps138
    go_upto_region 4 with fail
    rw [← HW5.out]
    clear hmk
    go_wp2_with fail
    go_ret
    exact ⟨_, rfl, HST.out, HB5.out⟩
set_option maxRecDepth 100000 in
theorem l06Scaled_c (v : Value) (r : List Int) (c : Int) (w : World) (h : IntS w.heap v r) (hs : Sm 1000000000000 r) (hc0 : 0 ≤ c) (hc : c ≤ 1000) (hl : r.length ≤ 4398046511104) :
    Calls Try.prog 140 #[v, .int .i64 c] w fun e w' => ∃ r', e = .returned r' ∧ OwnI w' w.heap.size r' (scaleL c r) ∧ Below w.heap.size w w' := by
  obtain ⟨ao, cp, rfl, hm⟩ := h.len
  have HX := Lib.hid h; have HRX := Lib.hid hs; clear h hs
  go_enter Try.func140, Try.ntmps140
  go_wp2_with fail
  go_loopw [5, 6] (fun o i wk => ∃ j : Nat, j ≤ r.length ∧ i = .int .i64 j ∧ OwnI wk w.heap.size o (scaleL c (r.take j)) ∧ Below w.heap.size w wk) (fun _ i _ => r.length - (intOf i).toNat)
  case atStart => exact ⟨0, Nat.zero_le _, rfl, ownI_empty (Nat.le_refl _), (Below.refl _ _).alloc (Nat.le_refl _) _⟩
  case round =>
    obtain ⟨j, hj, rfl, hO, hb2⟩ := hrel
    obtain ⟨ya, yn, yc, rfl⟩ := own_shape hO
    have HO := Lib.hid hO; have HB2 := Lib.hid hb2
    have hsz2 := hb2.size
    by_cases hjl : j < r.length
    · obtain ⟨b2, o2, c2, hv2, hc2, -⟩ := HX.out.at j hjl
      simp only [Value.slice.injEq, true_and] at hv2
      obtain ⟨rfl, rfl⟩ := hv2
      have hcy := (hb2.cell (World.block_lt_of_cell? _ _ hc2)).trans hc2
      obtain ⟨hx0, hx1⟩ := HRX.out _ (List.getElem_mem hjl)
      have HT2 : Hid (scaleL c (r.take (j + 1)) = scaleL c (r.take j) ++ [r[j] * c]) := by
        show _ = _
        unfold scaleL; rw [List.take_succ_eq_append_getElem hjl, List.map_append]; rfl
      have hll : (scaleL c (r.take j)).length ≤ 4398046511104 := by simp [scaleL]; omega
      have HLL2 := Lib.hid hll
      have hji : (j : Int) < r.length := by omega
      clear hO hb2 hc2 hll
      generalize r[j] = x at *
      have hm0 : 0 ≤ x * c := Int.mul_nonneg hx0 hc0
      have hm1 : x * c ≤ 1000000000000000 := Int.le_trans (Int.mul_le_mul hx1 hc hc0 (by omega)) (by omega)
      go_wp2_with (at_builtin; refine append_int rfl _ _ rfl w.heap.size _ _ _ HO.out rfl HB2.out hsz2 _ rfl (by simp) HLL2.out ?_; intro v' w3 hown' hbl' _ _; obtain ⟨qa2, qn2, qc2, rfl⟩ := own_shape hown')
      go_roundw
      case rel => exact ⟨j + 1, by omega, by go_num, by rw [HT2.out]; exact hown', hbl'⟩
      case measure => simp [intOf]; omega
    · obtain rfl : j = r.length := by omega
      rw [List.take_length] at HO
      clear hO hb2
      go_wp2_with fail
      go_ret
      exact ⟨_, rfl, HO.out, HB2.out⟩
/-- The places of the first j binary digits of e that are 1. -/
def digP (e : Nat) : Nat → List Int
  | 0 => []
  | j + 1 => if e.testBit j then digP e j ++ [(j : Int)] else digP e j
theorem digP_len (e : Nat) : ∀ j : Nat, (digP e j).length ≤ j := by
  intro j
  induction j with
  | zero => exact Nat.le_refl _
  | succ j ih =>
    rw [digP]
    split
    · rw [List.length_append, List.length_singleton]; omega
    · omega
theorem digP_end {e j : Nat} (h : e < 2 ^ j) : ∀ k : Nat, digP e (j + k) = digP e j := by
  intro k
  induction k with
  | zero => rfl
  | succ k ih => rw [← Nat.add_assoc, digP, Nat.testBit_lt_two_pow (Nat.lt_of_lt_of_le h (Nat.pow_le_pow_right (by omega) (by omega)))]; exact ih
theorem digP_mem (e : Nat) : ∀ j : Nat, ∀ x ∈ digP e j, ∃ i : Nat, x = i ∧ i < j := by
  intro j
  induction j with
  | zero => intro x hx; cases hx
  | succ j ih =>
    intro x hx
    rw [digP] at hx
    split at hx
    · rcases List.mem_append.1 hx with h | h
      · obtain ⟨i, h1, h2⟩ := ih x h; exact ⟨i, h1, by omega⟩
      · rw [List.mem_singleton] at h; exact ⟨j, h, by omega⟩
    · obtain ⟨i, h1, h2⟩ := ih x hx; exact ⟨i, h1, by omega⟩
set_option maxRecDepth 100000 in
theorem l01Digits_c (e : Nat) (w : World) (he : e < 64) :
    Calls Try.prog 139 #[.int .i64 e] w fun r w' => ∃ v, r = .returned v ∧ OwnI w' w.heap.size v (digP e 6) ∧ Below w.heap.size w w' := by
  go_enter Try.func139, Try.ntmps139
  go_wp2_with fail
  go_loopw [0, 3, 4] (fun n o i wk => ∃ j : Nat, j ≤ 6 ∧ n = .int .i64 ((e / 2 ^ j : Nat) : Int) ∧ i = .int .i64 j ∧ OwnI wk w.heap.size o (digP e j) ∧ Below w.heap.size w wk) (fun n _ _ _ => (intOf n).toNat)
  case atStart => exact ⟨0, by omega, by simp, rfl, ownI_empty (Nat.le_refl _), (Below.refl _ _).alloc (Nat.le_refl _) _⟩
  case round =>
    obtain ⟨j, hj, rfl, rfl, hO, hb2⟩ := hrel
    obtain ⟨ya, yn, yc, rfl⟩ := own_shape hO
    have HO := Lib.hid hO; have HB2 := Lib.hid hb2
    have hsz2 := hb2.size
    have HD : Hid (digP e (j + 1) = if e.testBit j then digP e j ++ [(j : Int)] else digP e j) := rfl
    have hn64 : e / 2 ^ j ≤ 64 := Nat.le_trans (Nat.div_le_self _ _) (by omega)
    have hdd : e / 2 ^ (j + 1) = e / 2 ^ j / 2 := by rw [Nat.pow_succ, Nat.div_div_eq_div_mul]
    have hll : (digP e j).length ≤ 4398046511104 := by have := digP_len e j; omega
    have HLL := Lib.hid hll
    by_cases hz : e / 2 ^ j = 0
    · have hlt : e < 2 ^ j := by
        rcases Nat.lt_or_ge e (2 ^ j) with h | h
        · exact h
        · have := Nat.div_pos h (Nat.two_pow_pos j); omega
      have HE : Hid (digP e 6 = digP e j) := by
        show _ = _
        have := digP_end hlt (6 - j)
        rwa [show j + (6 - j) = 6 by omega] at this
      have u1 : decide ((0 : Int) < ((e / 2 ^ j : Nat) : Int)) = false := decide_eq_false (by omega)
      have u2 : decide (0 < e / 2 ^ j) = false := decide_eq_false (by omega)
      clear hO hb2 hll hdd hlt
      generalize e / 2 ^ j = q at *
      go_wp2_with fail
      go_ret
      exact ⟨_, rfl, by rw [HE.out]; exact HO.out, HB2.out⟩
    · have hj6 : j < 6 := by
        rcases Nat.lt_or_ge j 6 with h | h
        · exact h
        · obtain rfl : j = 6 := by omega
          exact absurd (Nat.div_eq_of_lt (show e < 2 ^ 6 from he)) hz
      have hbt : e.testBit j = decide (e / 2 ^ j % 2 = 1) := by rw [Nat.testBit_eq_decide_div_mod_eq]
      have HDD := Lib.hid hdd
      have hq0 : 0 < e / 2 ^ j := Nat.pos_of_ne_zero hz
      clear hO hb2 hll hdd hz
      obtain ⟨q, hq⟩ : ∃ q, e / 2 ^ j = q := ⟨_, rfl⟩
      rw [hq] at hbt hn64 hq0 HDD ⊢
      clear hq
      have hqi : (0 : Int) < (q : Int) := by omega
      by_cases ho : q % 2 = 1
      · rw [hbt, decide_eq_true ho] at HD
        have u3 := (eqB (show (q : Int) % 2 = 1 by omega)).1
        clear hbt
        go_wp2_with (at_builtin; refine append_int rfl _ _ rfl w.heap.size _ _ _ HO.out rfl HB2.out hsz2 _ rfl (by simp) HLL.out ?_; intro v' w3 hown' hbl' _ _; obtain ⟨qa2, qn2, qc2, rfl⟩ := own_shape hown')
        go_roundw
        case rel => exact ⟨j + 1, by omega, by rw [HDD.out]; simp, by go_num, by rw [HD.out]; exact hown', hbl'⟩
        case measure => simp [intOf]; omega
      · rw [hbt, decide_eq_false ho] at HD
        have u3 := (neB (show (q : Int) % 2 ≠ 1 by omega)).1
        clear hbt
        go_wp2_with fail
        go_roundw
        case rel => exact ⟨j + 1, by omega, by rw [HDD.out]; simp, by go_num, by rw [HD.out]; exact HO.out, HB2.out⟩
        case measure => simp [intOf]; omega
theorem sh_small : ∀ k : Nat, k < 8 → IntKind.i64.wrap (2 ^ min (IntKind.u64.wrap (k : Int)).toNat 64) = (2 : Int) ^ k := by decide +kernel
theorem heldC1' {x1 : Value} {g1 : Addr} {w0 W W' : World} (h : W.cell? g1 = some x1 ∧ Below w0.heap.size w0 W) (hb : Below W.heap.size W W') : W'.cell? g1 = some x1 ∧ Below w0.heap.size w0 W' :=
  ⟨(hb.cell (World.block_lt_of_cell? _ _ h.1)).trans h.1, h.2.trans (hb.mono h.2.size)⟩
theorem heldC1X' {x1 : Value} {g1 : Addr} {w0 W : World} (h : W.cell? g1 = some x1 ∧ Below w0.heap.size w0 W) : Below w0.heap.size w0 W := h.2
theorem odds_mrg (a b : List (List Int)) : mrg (oddL a) (oddL b) = oddL (a ++ b) := by
  rw [mrg_odd (asc_oddL a) (asc_oddL b), ← oddL_append', ← oddL_append]
theorem conjTab_succ {n : Nat} (hn : n < 6) : conjTab (n + 1) = conjTab n ++ [oddL (conjStep (conjTab 6) (n + 1) (n + 1))] := by
  rw [conjTab, conjStep_congr (conjTab n) (conjTab 6) (n + 1) (n + 1) fun i hi => conjTab_get (by omega) (by omega)]
set_option maxRecDepth 100000 in
set_option maxHeartbeats 1000000 in
theorem l06Conjugates_c (w : World) :
    Calls Try.prog 112 #[.int .i64 6] w fun e w' => ∃ r us, e = .returned r ∧ OwnRS w' w.heap.size r us (conjTab 6) ∧ Below w.heap.size w w' := by
  have hl0 := ownI_empty (w := w) (B := w.heap.size) (Nat.le_refl _)
  have hl1 := own_u_lit (B := w.heap.size) hl0 (by simp)
  rw [size_alloc_w] at hl1
  have hl3 := ownRS_one (w := (w.alloc (.cells #[] 2)).alloc (.cells #[.slice (some ⟨w.heap.size, 0, none⟩) 0 0] 42)) (B := w.heap.size) hl1 (by simp; omega)
  rw [size_alloc_w, size_alloc_w] at hl3
  have HL := Lib.hid hl3
  clear hl0 hl1 hl3
  go_enter Try.func112, Try.ntmps112
  go_wp2_with fail
  go_loopw [3, 4] (fun o k wr => ∃ (n : Nat) (us : List Value), n ≤ 6 ∧ k = .int .i64 ((n : Int) + 1) ∧ OwnRS wr w.heap.size o us (conjTab n) ∧ Below w.heap.size w wr) (fun _ k _ => 8 - (intOf k).toNat)
  case atStart => exact ⟨0, _, by omega, rfl, HL.out, (((Below.refl _ _).alloc (Nat.le_refl _) _).alloc (by simp) _).alloc (by simp; omega) _⟩
  case round =>
    obtain ⟨n, us, hn, rfl, hR, hbl⟩ := hrel
    obtain ⟨va, vn, vc, rfl⟩ := own_shape hR.row
    have HR := Lib.hid hR; have HBL := Lib.hid hbl
    have hszr := hbl.size
    by_cases hn6 : n < 6
    · have HTS := Lib.hid (conjTab_succ hn6)
      have HRI := Lib.hid hR.ints
      have hvn : vn = n + 1 := by
        obtain ⟨_, _, hv, _⟩ := HRI.out.len
        simp only [Value.slice.injEq, conjTab_length] at hv
        exact hv.2.1
      subst hvn
      have hni : (n : Int) + 1 ≤ 6 := by omega
      clear hR hbl
      rename World => WR
      go_wp2_with fail
      go_loopw [5, 6] (fun o i wk => ∃ (k : Nat) (us2 : List Value), k ≤ n + 1 ∧ i = .int .i64 k ∧ OwnU wk WR.heap.size o us2 (oddL (conjStep (conjTab 6) (n + 1) k)) ∧ Below WR.heap.size WR wk) (fun _ i _ => n + 1 - (intOf i).toNat)
      case atStart => exact ⟨0, [], Nat.zero_le _, rfl, ⟨World.ownsRow_made WR #[] 0 (Nat.le_refl _) (Nat.zero_le _) rfl, fun i u xs hu => by simp at hu, fun i j u u' _ hu => by simp at hu⟩, (Below.refl _ _).alloc (Nat.le_refl _) _⟩
      case round =>
        obtain ⟨k, us2, hk, rfl, hU, hb2⟩ := hrel
        obtain ⟨ya, yn, yc, rfl⟩ := own_shape hU.row
        have HU := Lib.hid hU; have HB2 := Lib.hid hb2
        have hsz2 := hb2.size
        by_cases hkn : k < n + 1
        · have hki : (k : Int) < (n : Int) + 1 := by omega
          obtain ⟨b1, o1, c1, u1, hv1, hc1, hu1, -⟩ := HRI.out.at k (by rw [conjTab_length]; omega)
          rw [conjTab_length] at hv1
          simp only [Value.slice.injEq, true_and] at hv1
          obtain ⟨rfl, rfl⟩ := hv1
          rw [show (conjTab n)[k]'(by rw [conjTab_length]; omega) = conjX k by rw [← conjTab_at n k (by omega)]; simp [conjTab_length, show k < n + 1 by omega]] at hu1
          have hcx := (hb2.cell (World.block_lt_of_cell? _ _ hc1)).trans hc1
          have HCX := Lib.hid (hu1.same hb2.block)
          obtain ⟨ca, cc, rfl, -⟩ := hu1.len
          obtain ⟨m, hm⟩ : ∃ m : Nat, n + 1 - k = m := ⟨_, rfl⟩
          have hm2 : (n : Int) + 1 - k = m := by omega
          have hm9 : m ≤ 1000 := by omega
          have HN : Hid (conjStep (conjTab 6) (n + 1) (k + 1) = conjStep (conjTab 6) (n + 1) k ++ joinsL [singL m (2 ^ k)] (conjX k)) := by show _ = _; rw [conjStep_next (n + 1) k (by omega), hm]
          have hcl := conjStep_ok (n + 1) (by omega) k (by omega)
          have hcs := conjStep_sm (n + 1) (by omega) k (by omega)
          have hxl := conjX_len (n := k) (by omega)
          have hxs := conjX_sm (n := k) (by omega)
          obtain ⟨hp1, hp2, hp3⟩ := pow2_le k (by omega)
          have hol : (oddL (joinsL [singL m (2 ^ k)] (conjX k))).length ≤ 32 := by
            have h1 := oddL_length (joinsL [singL m (2 ^ k)] (conjX k))
            rw [joinsL_length, List.length_singleton] at h1
            omega
          have hsA : SmS 1000000000000000 4398046511104 [singL m (2 ^ k)] := fun r hr => by
            rw [List.mem_singleton] at hr; subst hr
            exact ⟨singL_sm m _ (by omega) (by omega) (by omega), by rw [singL_length]; omega⟩
          have hsB : SmS 1000000000000000 4398046511104 (conjX k) := fun r hr => ⟨fun x hx => by have := (hxs r hr).1 x hx; omega, by have := (hxs r hr).2; omega⟩
          have hsJ := (hsA.joins hsB (by omega) (by omega)).odd
          have PG := Lib.hid (fun (W : World) => l06Power_c m (2 ^ k) W hm9 (by omega))
          have MD := Lib.hid (fun (v u : Value) (W : World) (h : IntSS W.heap v [singL m (2 ^ k)]) (hu : IntSS W.heap u (conjX k)) => l06Times_c v u _ _ W h hu hsA hsB (by rw [List.length_singleton]; omega))
          have SM := Lib.hid (fun (v u : Value) (W : World) (h : IntSS W.heap v (oddL (conjStep (conjTab 6) (n + 1) k))) (hu : IntSS W.heap u (oddL (joinsL [singL m (2 ^ k)] (conjX k)))) => l01Sum_c v u _ _ W h hu (by have := oddL_length (conjStep (conjTab 6) (n + 1) k); omega) (fun r hr => by have := List.all_eq_true.1 hcs r (mem_oddL_sub hr); simp at this; omega) (fun r hr => (hsJ r hr).2))
          simp only [odds_mrg, ← HN.out] at SM
          have hpw : wrap64 (2 ^ k) = (2 : Int) ^ k := by unfold wrap64; omega
          obtain ⟨E, hE⟩ : ∃ E : Int, (2 : Int) ^ k = E := ⟨_, rfl⟩
          have hpw2 := hpw.trans hE
          rw [hE] at PG MD SM
          have e3 := (sh_small k (by omega)).trans hE
          have e1 : IntKind.i64.wrap ((n : Int) + 1 - k) = m := by rw [hm2]; exact IntWalk.i64_in _ (by omega)
          have e2 : IntKind.i64.wrap (m : Int) = m := IntWalk.i64_in _ (by omega)
          clear hU hb2 hc1 hu1 hm hcl hcs hxl hxs hol hsA hsB hsJ hpw hE hp1 hp2 hp3 hkn
          generalize oddL (joinsL [singL m E] (conjX k)) = px at *
          generalize oddL (conjStep (conjTab 6) (n + 1) k) = py at *
          obtain ⟨pz, hpz⟩ : ∃ pz, oddL (conjStep (conjTab 6) (n + 1) (k + 1)) = pz := ⟨_, rfl⟩
          rw [hpz] at SM
          have HPZ := Lib.hid hpz
          clear hpz
          go_wp2_with fail
          go_region_held3 (fun W => W.cell? ⟨b1, o1 + k, none⟩ = some (.slice ca (conjX k).length cc) ∧ Below wr.heap.size wr W)
            (first | exact ⟨hcx, (Below.refl _ _).drew⟩ | exact heldC1' (by assumption) hx2 | exact heldC1' (by assumption) hx3 | exact heldC1' (by assumption) hx4 | exact heldC1' (by assumption) ((Below.refl _ _).alloc (Nat.le_refl _) _))
            (first | (go_at_call 75; (with_reducible refine (MD.out _ _ _ (by exact one_row hs2.ints) (HCX.out.same (heldC1X' (by assumption)).block)).mono ?_); rintro e W3 ⟨r3, us3, rfl, hU3, hx3⟩; obtain ⟨da, dn, dc, rfl⟩ := own_shape hU3.row) | (go_at_call 65; (with_reducible refine (SM.out _ _ _ (HU.out.ints.same (heldC1X' (by assumption)).block) hU3.ints).mono ?_); rintro e W4 ⟨r4, rfl, ⟨us4, hU4⟩, hx4⟩; obtain ⟨ea, en, ec, rfl⟩ := own_shape hU4.row) | (go_at_call 138; (with_reducible refine (PG.out _).mono ?_); rintro e W2 ⟨r2, rfl, hs2, hx2⟩; obtain ⟨ra, rn, rc, rfl⟩ := own_shape hs2))
          all_goals
            rename_i hh
            have hz2 : wr.heap.size ≤ W2.heap.size := hx2.size
            have hz3 : W2.heap.size + 1 ≤ W3.heap.size := by have := hx3.size; simpa using this
            have HB4 := Lib.hid (HB2.out.trans (hh.2.mono hsz2))
            have HU4 := Lib.hid (own_u_base (B' := WR.heap.size) hU4 (by omega))
            clear hh hx2 hx3 hx4 hU4 hU3 hs2 hcx e1 e2 e3 hpw2 hm2 hz2 hz3
            go_wp2_with fail
            go_roundw
            case rel => exact ⟨k + 1, us4, by omega, by go_num, by rw [HPZ.out]; exact HU4.out, HB4.out⟩
            case measure => simp [intOf]; omega
        · obtain rfl : k = n + 1 := by omega
          have HRW := Lib.hid (HR.out.same hb2.block)
          have HBW := Lib.hid (HBL.out.trans (hb2.mono hszr))
          have hszW := HBW.out.size
          have HUI := Lib.hid (own_u_base (B' := w.heap.size) HU.out hszr)
          clear hU hb2
          go_wp2_with (at_builtin; refine append_ownRS rfl _ _ rfl w.heap.size _ _ us _ _ _ HRW.out rfl HUI.out HBW.out hszW _ rfl rfl (by rw [conjTab_length]; omega) ?_; intro v5 us5 w5 hR5 hb5 _ _; obtain ⟨sa, sn, sc, rfl⟩ := own_shape hR5.row)
          go_roundw
          case rel => exact ⟨n + 1, us5, by omega, by go_num, by rw [HTS.out]; exact hR5, hb5⟩
          case measure => simp [intOf]; omega
    · obtain rfl : n = 6 := by omega
      clear hbl
      go_wp2_with fail
      go_ret
      exact ⟨_, us, rfl, HR.out, HBL.out⟩
end
section
open Go.RowKit Go.Sort

/-- Times the powers of x whose exponents have the places told. -/
def foldD (X D0 : List (List Int)) (ds : List Int) : List (List Int) := ds.foldl (fun out d => oddL (joinsL out (raiseL (2 ^ d.toNat) X))) D0
theorem foldD_digP (X D0 : List (List Int)) (e : Nat) : ∀ j : Nat, foldD X D0 (digP e j) = digL X e D0 j := by
  intro j
  induction j with
  | zero => rfl
  | succ j ih =>
    rw [digP, digL]
    cases e.testBit j
    · exact ih
    · simp only [if_true]
      rw [← ih]
      simp [foldD, List.foldl_append]
theorem digP_take (e : Nat) : ∀ J t : Nat, t ≤ (digP e J).length → ∃ j : Nat, j ≤ J ∧ (digP e J).take t = digP e j := by
  intro J
  induction J with
  | zero => intro t ht; exact ⟨0, Nat.le_refl _, by simp [digP]⟩
  | succ J ih =>
    intro t ht
    rw [digP] at ht ⊢
    cases hb : e.testBit J
    · rw [hb] at ht
      obtain ⟨j, h1, h2⟩ := ih t ht
      exact ⟨j, by omega, by simpa using h2⟩
    · rw [hb] at ht
      simp only [if_true] at ht ⊢
      by_cases h : t ≤ (digP e J).length
      · obtain ⟨j, h1, h2⟩ := ih t h
        exact ⟨j, by omega, by rw [List.take_append_of_le_length h]; exact h2⟩
      · rw [List.length_append, List.length_singleton] at ht
        refine ⟨J + 1, Nat.le_refl _, ?_⟩
        rw [List.take_of_length_le (by simp; omega), digP, hb]; rfl
theorem foldD_take (X D0 : List (List Int)) (ds : List Int) (t : Nat) (h : t < ds.length) : foldD X D0 (ds.take (t + 1)) = oddL (joinsL (foldD X D0 (ds.take t)) (raiseL (2 ^ ds[t].toNat) X)) := by
  unfold foldD
  rw [List.take_succ_eq_append_getElem h, List.foldl_append]; rfl
theorem heldC3T {x1 x2 x3 : Value} {g1 g2 g3 : Addr} {w0 W W' : World} {B : Nat} (h : W.cell? g1 = some x1 ∧ W.cell? g2 = some x2 ∧ W.cell? g3 = some x3 ∧ Below B w0 W) (hb : Below W.heap.size W W') (hB : B ≤ W.heap.size) : W'.cell? g1 = some x1 ∧ W'.cell? g2 = some x2 ∧ W'.cell? g3 = some x3 ∧ Below B w0 W' :=
  ⟨(hb.cell (World.block_lt_of_cell? _ _ h.1)).trans h.1, (hb.cell (World.block_lt_of_cell? _ _ h.2.1)).trans h.2.1, (hb.cell (World.block_lt_of_cell? _ _ h.2.2.1)).trans h.2.2.1, h.2.2.2.trans (hb.mono hB)⟩
theorem raiseL_take (c : Int) (X : List (List Int)) (j : Nat) (h : j < X.length) : raiseL c (X.take (j + 1)) = raiseL c (X.take j) ++ [scaleL c X[j]] := by
  unfold raiseL; rw [List.take_succ_eq_append_getElem h, List.map_append]; rfl
set_option maxRecDepth 100000 in
set_option maxHeartbeats 2000000 in
theorem l06Monomial_c (v u : Value) (r : List Int) (w : World) (h : IntSSS w.heap v (conjTab 6)) (hu : IntS w.heap u r) (hE : isExp r = true) (hd : deg r ≤ 40) :
    Calls Try.prog 113 #[v, u] w fun e w' => ∃ r', ∃ us, e = .returned r' ∧ OwnU w' w.heap.size r' us (dconL r) ∧ Below w.heap.size w w' := by
  have hl5 := exp_len5 hE hd
  have DA := Lib.hid (fun k (hk : k < r.length) => dig_all hE hd hk)
  obtain ⟨va, vc, rfl, -⟩ := h.len
  obtain ⟨ao, c, rfl, hm⟩ := hu.len
  have H := Lib.hid h; have HUR := Lib.hid hu
  have hl1 := own_u_lit (B := w.heap.size) (ownI_empty (w := w) (B := w.heap.size) (Nat.le_refl _)) (by simp)
  rw [size_alloc_w] at hl1
  have HL := Lib.hid hl1
  rw [conjTab_length]
  clear hl1 h hu hE hd
  unfold dconL
  go_enter Try.func113, Try.ntmps113
  go_wp2_with fail
  go_loopw [5, 6] (fun o i wr => ∃ (k : Nat) (us : List Value), k ≤ r.length ∧ i = .int .i64 k ∧ OwnU wr w.heap.size o us (dconN r k) ∧ Below w.heap.size w wr) (fun _ i _ => r.length - (intOf i).toNat)
  case atStart => exact ⟨0, _, Nat.zero_le _, rfl, HL.out, ((Below.refl _ _).alloc (Nat.le_refl _) _).alloc (by simp) _⟩
  case round =>
    obtain ⟨k, us, hk, rfl, hU, hbl⟩ := hrel
    obtain ⟨pa, pn, pc, rfl⟩ := own_shape hU.row
    have HU := Lib.hid hU; have HBL := Lib.hid hbl
    by_cases hkl : k < r.length
    · obtain ⟨e, he, he40, HJ⟩ := DA.out k hkl
      have HJ := Lib.hid HJ
      obtain ⟨b1, o1, c1, hv1, hc1, -⟩ := HUR.out.at k hkl
      simp only [Value.slice.injEq, true_and] at hv1
      obtain ⟨rfl, rfl⟩ := hv1
      have hcx := (hbl.cell (World.block_lt_of_cell? _ _ hc1)).trans hc1
      rw [← getD_at', he] at hcx
      have HSU := Lib.hid (dconN_succ r k e he)
      have hki : (k : Int) < r.length := by omega
      have DG := Lib.hid (fun W => l01Digits_c e W (by omega))
      obtain ⟨b2, o2, c2, u2, hv2, hc2, hu2, -⟩ := H.out.at (k + 1) (by rw [conjTab_length]; omega)
      rw [conjTab_length] at hv2
      simp only [Value.slice.injEq, true_and] at hv2
      obtain ⟨rfl, rfl⟩ := hv2
      rw [show (conjTab 6)[k + 1]'(by rw [conjTab_length]; omega) = conjX (k + 1) by rw [← conjTab_at 6 (k + 1) (by omega)]; simp [conjTab_length, show k + 1 < 7 by omega]] at hu2
      obtain ⟨xa, xc, rfl, -⟩ := hu2.len
      have HX := Lib.hid (hu2.same hbl.block)
      have HCX := Lib.hid ((hbl.cell (World.block_lt_of_cell? _ _ hc2)).trans hc2)
      have hxl := conjX_len (n := k + 1) (by omega)
      have hxs := Lib.hid (conjX_sm (n := k + 1) (by omega))
      have hk7 : (k : Int) + 1 < 7 := by omega
      have hk70 : (0 : Int) ≤ (k : Int) + 1 := by omega
      have hwk : IntKind.i64.wrap ((k : Int) + 1) = (k : Int) + 1 := IntWalk.i64_in _ (by omega)
      have hkt : ((k : Int) + 1).toNat = k + 1 := by omega
      clear hU hbl hc1 he hc2 hu2
      generalize conjX (k + 1) = X at *
      generalize dconN r k = D0 at *
      rename World => WR
      go_wp2_with (go_at_call 139; refine (DG.out _).mono ?_; rintro e w3 ⟨r3, rfl, hO3, hb3⟩; obtain ⟨da, dc, rfl, -⟩ := hO3.ints.len; have HD3 := Lib.hid hO3.ints; have HB3 := Lib.hid hb3; have HB30 := Lib.hid (HBL.out.trans (hb3.mono HBL.out.size)); have HU3 := Lib.hid (HU.out.same hb3.block); have HX3 := Lib.hid (HX.out.same hb3.block); have HCX3 := Lib.hid ((hb3.cell (World.block_lt_of_cell? _ _ HCX.out)).trans HCX.out); clear hO3 hb3)
      go_loopw [5, 8] (fun o i wk => ∃ (t : Nat) (us : List Value), t ≤ (digP e 6).length ∧ i = .int .i64 t ∧ OwnU wk w.heap.size o us (foldD X D0 ((digP e 6).take t)) ∧ Below w3.heap.size w3 wk) (fun _ i _ => (digP e 6).length - (intOf i).toNat)
      case atStart => exact ⟨0, us, Nat.zero_le _, rfl, HU3.out, Below.refl _ _⟩
      case round =>
        obtain ⟨t, us2, ht, rfl, hO, hb2⟩ := hrel
        obtain ⟨ya, yn, yc, rfl⟩ := own_shape hO.row
        have HO := Lib.hid hO; have HB2 := Lib.hid hb2
        have HBW := Lib.hid (HB30.out.trans (hb2.mono HB30.out.size))
        have hd6 := digP_len e 6
        by_cases htl : t < (digP e 6).length
        · obtain ⟨b3, o3, c3, hv3, hc3, -⟩ := HD3.out.at t htl
          simp only [Value.slice.injEq, true_and] at hv3
          obtain ⟨rfl, rfl⟩ := hv3
          have hcd := (hb2.cell (World.block_lt_of_cell? _ _ hc3)).trans hc3
          obtain ⟨i, hi, hi6⟩ := digP_mem e 6 _ (List.getElem_mem htl)
          have hft := foldD_take X D0 (digP e 6) t htl
          rw [hi, Int.toNat_natCast] at hft
          rw [hi] at hcd
          have HFT := Lib.hid hft
          have HXW := Lib.hid (HX3.out.same hb2.block)
          have hcw := (hb2.cell (World.block_lt_of_cell? _ _ HCX3.out)).trans HCX3.out
          obtain ⟨j0, hj0, he0⟩ := digP_take e 6 t (by omega)
          obtain ⟨hsm, hlen⟩ := HJ.out j0 hj0
          rw [← foldD_digP, ← he0] at hsm hlen
          obtain ⟨hp1, hp2, -⟩ := pow2_le i (by omega)
          have HRS := Lib.hid (raise_smS hxs.out (show (0 : Int) ≤ 2 ^ i by omega) hp2)
          have MD := Lib.hid (fun (v u : Value) (W : World) (h : IntSS W.heap v (foldD X D0 ((digP e 6).take t))) (hu : IntSS W.heap u (raiseL ((2 : Int) ^ i) X)) => l06Times_c v u _ _ W h hu hsm HRS.out (by
            have h1 : (raiseL ((2 : Int) ^ i) X).length ≤ 32 := by simp [raiseL]; exact hxl
            exact Nat.le_trans (Nat.mul_le_mul hlen h1) (by omega)))
          rw [← HFT.out] at MD
          have hti : (t : Int) < (digP e 6).length := by omega
          obtain ⟨P, hP⟩ : ∃ P : Int, (2 : Int) ^ i = P := ⟨_, rfl⟩
          have hsh := (sh_small i (by omega)).trans hP
          rw [hP] at hp1 hp2 MD
          have HPP := Lib.hid hP
          clear hO hb2 hc3 hi hft hj0 he0 hsm hlen hP HRS
          rename World => WK
          have hlt1 := World.block_lt_of_cell? _ _ hcw
          have hlt2 := World.block_lt_of_cell? _ _ hcd
          simp only at hlt1 hlt2
          go_wp2_with fail
          go_loopw [9, 10] (fun o i wm => ∃ (j : Nat) (us : List Value), j ≤ X.length ∧ i = .int .i64 j ∧ OwnU wm WK.heap.size o us (raiseL P (X.take j)) ∧ Below WK.heap.size WK wm) (fun _ i _ => X.length - (intOf i).toNat)
          case atStart => exact ⟨0, [], Nat.zero_le _, rfl, ⟨World.ownsRow_made WK #[] 0 (Nat.le_refl _) (Nat.zero_le _) rfl, fun i u xs hu => by simp at hu, fun i j u u' _ hu => by simp at hu⟩, (Below.refl _ _).alloc (Nat.le_refl _) _⟩
          case round =>
            obtain ⟨j, us4, hj, rfl, hQ, hb4⟩ := hrel
            obtain ⟨qa, qn, qc, rfl⟩ := own_shape hQ.row
            have HQ := Lib.hid hQ; have HB4 := Lib.hid hb4
            have hsz4 := hb4.size
            have m1 := (hb4.cell (World.block_lt_of_cell? _ _ hcw)).trans hcw
            have m2 := (hb4.cell (World.block_lt_of_cell? _ _ hcd)).trans hcd
            by_cases hjl : j < X.length
            · obtain ⟨b5, o5, c5, u5, hv5, hc5, hu5, -⟩ := HXW.out.at j hjl
              simp only [Value.slice.injEq, true_and] at hv5
              obtain ⟨rfl, rfl⟩ := hv5
              have m3 := (hb4.cell (World.block_lt_of_cell? _ _ hc5)).trans hc5
              have hlt3 := World.block_lt_of_cell? _ _ hc5
              simp only at hlt3
              have HRW := Lib.hid (hu5.same hb4.block)
              obtain ⟨za, zc, rfl, -⟩ := hu5.len
              have HRT := Lib.hid (raiseL_take P X j hjl)
              have hsx := hxs.out _ (List.getElem_mem hjl)
              have SC := Lib.hid (fun (W : World) (h : IntS W.heap (.slice za X[j].length zc) X[j]) => l06Scaled_c _ X[j] P W h hsx.1 (by omega) (by omega) (by have := hsx.2; omega))
              have hqn : (raiseL P (X.take j)).length < 4398046511104 := by simp [raiseL]; omega
              have HQN := Lib.hid hqn
              have hji : (j : Int) < X.length := by omega
              clear hQ hb4 hc5 hu5 hsx hqn
              generalize X[j] = y at *
              go_wp2_with fail
              go_region_held3 (fun W => W.cell? ⟨b2, o2 + (k + 1), none⟩ = some (.slice (some ⟨b5, o5, none⟩) X.length xc) ∧ W.cell? ⟨b5, o5 + j, none⟩ = some (.slice za y.length zc) ∧ W.cell? ⟨b3, o3 + t, none⟩ = some (.int .i64 i) ∧ Below WK.heap.size wr W)
                (first | exact ⟨m1, m3, m2, (Below.refl _ _).drew⟩ | exact heldC3T (by assumption) hx2 hsz4 | exact heldC3T (by assumption) ((Below.refl _ _).alloc (Nat.le_refl _) _) (Nat.le_trans hsz4 hx2.size) | exact ⟨(hb6.cell hlt1).trans m1, (hb6.cell hlt3).trans m3, (hb6.cell hlt2).trans m2, hb6⟩ | fail)
                (first | (go_at_call 140; refine (SC.out _ (by exact HRW.out)).mono ?_; rintro e W2 ⟨r2, rfl, hs2, hx2⟩; obtain ⟨ra, rn, rc, rfl⟩ := own_shape hs2) | (refine step_append_rowU (w0 := wr) (wE := wr) (by rfl) _ _ (by rfl) WK.heap.size _ (.slice ra rn rc) us4 _ _ HQ.out (by rfl) (by exact OwnI.same hs2 (alloc_old _ _)) (by exact ((Below.refl wr.heap.size wr).drew.trans hx2).alloc hx2.size _) (by exact Below.refl _ wr) (by exact hsz4) W2.heap.size (by rfl) (by exact heap_alloc_new _ _) HQN.out ?_; intro v6 w6 hU6 hb6 hs6 hk6; obtain ⟨sa, sn, sc, rfl⟩ := own_shape hU6.row) | fail)
              have HU6 := Lib.hid hU6
              have HB6 := Lib.hid (HB4.out.trans hb6)
              clear hU6 hb6 hs6 hk6 hx2 hs2 m1 m2 m3
              go_wp2_with fail
              go_roundw
              case rel => exact ⟨j + 1, _, by omega, by go_num, by rw [HRT.out]; exact HU6.out, HB6.out⟩
              case measure => simp [intOf]; omega
            · obtain rfl : j = X.length := by omega
              rw [List.take_length] at HQ
              have HOQ := Lib.hid (HO.out.ints.same hb4.block)
              have HBQ := Lib.hid (HB2.out.trans (hb4.mono HB2.out.size))
              have HBWQ := Lib.hid (HBW.out.trans (hb4.mono HBW.out.size))
              have HQI := Lib.hid HQ.out.ints
              clear hQ hb4 m2
              have MD1 := Lib.hid (fun (W : World) (h : IntSS W.heap (.slice ya yn yc) (foldD X D0 ((digP e 6).take t))) (hu : IntSS W.heap (.slice qa qn qc) (raiseL P X)) => MD.out _ _ W h hu)
              go_wp2_with (go_at_call 75; (with_reducible refine (MD1.out _ HOQ.out HQI.out).mono ?_); rintro e w8 ⟨r8, us8, rfl, hU8, hb8⟩; obtain ⟨ta, tn, tc, rfl⟩ := own_shape hU8.row)
              go_roundw
              case rel => exact ⟨t + 1, us8, by omega, by go_num, own_u_base hU8 HBWQ.out.size, HBQ.out.trans (hb8.mono HBQ.out.size)⟩
              case measure => simp [intOf]; omega
        · obtain rfl : t = (digP e 6).length := by omega
          rw [List.take_length, foldD_digP] at HO
          clear hO hb2
          go_wp2_with fail
          go_roundw
          case rel => exact ⟨k + 1, us2, by omega, by go_num, by rw [HSU.out]; exact HO.out, HBW.out⟩
          case measure => simp [intOf]; omega
    · obtain rfl : k = r.length := by omega
      clear hU hbl
      go_wp2_with fail
      go_ret
      exact ⟨_, us, rfl, HU.out, HBL.out⟩
end
section
open Go.RowKit Go.Sort

/-- The lists of a basis whose conjugates have the pairing 1 with an element. -/
def cjgL (xss basis : List (List Int)) : List (List Int) := basis.filter fun r => pairL xss (dconL r) == 1
def cjR (xss : List (List Int)) : List (List Int) := if arT xss = true ∧ xss.length ≠ 0 then cjgL xss (partL (degT xss).toNat) else []
def cjC (xss : List (List Int)) : Int := if arT xss then 0 else 1
theorem cjgL_step (xss basis : List (List Int)) (k : Nat) (h : k < basis.length) : cjgL xss (basis.take (k + 1)) = cjgL xss (basis.take k) ++ (if pairL xss (dconL basis[k]) = 1 then [basis[k]] else []) := by
  unfold cjgL
  rw [List.take_succ_eq_append_getElem h, List.filter_append]
  congr 1
  by_cases e : pairL xss (dconL basis[k]) = 1
  · rw [if_pos e]; simp [e]
  · rw [if_neg e]; simp [e]
theorem cjR_cnt (xss : List (List Int)) : cnt (cjR xss) ≤ 5000 := by
  unfold cjR
  split
  · rename_i h
    have hd := degT_in h.1
    obtain ⟨n, hn⟩ : ∃ n : Nat, degT xss = n := ⟨(degT xss).toNat, by omega⟩
    rw [hn, Int.toNat_natCast]
    have hl : (partL n).length ≤ 504 := expD_length (d := (n : Int)) (asc_partL n) (fun x hx => mem_partL (by omega) hx) (by omega)
    have h1 : (cjgL xss (partL n)).length ≤ 504 := Nat.le_trans (List.length_filter_le _ _) hl
    have h2 : cnt (cjgL xss (partL n)) ≤ (cjgL xss (partL n)).length * 5 := cnt_le fun r hr => by
      have := mem_partL (d := n) (by omega) (List.mem_filter.1 hr).1
      exact exp_len5 this.1 (by rw [this.2]; omega)
    omega
  · simp [cnt]
theorem pairL_01 (a b : List (List Int)) : pairL a b = 0 ∨ pairL a b = 1 := by unfold pairL; omega
theorem slAt_eq {h : Array Obj} {e : Nat} {v : Value} {us vs : List Value} (a : SlAt h e v us) (b : SlAt h e v vs) : us = vs := by
  rcases a with ⟨rfl, rfl⟩ | ⟨b1, o1, c1, cur, rfl, hb, h1, h2, h3, h4⟩
  · rcases b with ⟨_, rfl⟩ | ⟨b2, o2, c2, cur2, hv, _⟩
    · rfl
    · simp at hv
  · rcases b with ⟨hv, _⟩ | ⟨b2, o2, c2, cur2, hv, hb2, k1, k2, k3, k4⟩
    · simp at hv
    · simp only [Value.slice.injEq, Option.some.injEq, Addr.mk.injEq, and_true] at hv
      obtain ⟨⟨rfl, rfl⟩, hl, rfl⟩ := hv
      rw [hb] at hb2
      simp only [Option.some.injEq, Obj.cells.injEq] at hb2
      obtain ⟨rfl, -⟩ := hb2
      rw [← h4, ← k4, hl]
theorem ints_eq {h : Array Obj} {v : Value} {xs ys : List Int} (a : IntS h v xs) (b : IntS h v ys) : xs = ys := by
  have := slAt_eq a b
  exact (List.map_inj_right (f := Value.int .i64) (fun x y e => by injection e)).1 this
/-- A row of values, some of those of a list of the call's own. -/
structure SubU (us vs : List Value) (n : Nat) : Prop where
  ok : ∃ ks : List Nat, ks.Pairwise (· < ·) ∧ (∀ k ∈ ks, k < n) ∧ us = ks.map fun k => vs.getD k .nilFunc
theorem SubU.nil (vs : List Value) : SubU [] vs 0 := ⟨[], List.Pairwise.nil, by simp, rfl⟩
theorem SubU.skip {us vs : List Value} {n : Nat} (h : SubU us vs n) : SubU us vs (n + 1) := by
  obtain ⟨ks, h1, h2, h3⟩ := h.ok
  exact ⟨ks, h1, fun k hk => by have := h2 k hk; omega, h3⟩
theorem SubU.add {us vs : List Value} {n : Nat} (h : SubU us vs n) {u : Value} (hu : vs[n]? = some u) : SubU (us ++ [u]) vs (n + 1) := by
  obtain ⟨ks, h1, h2, h3⟩ := h.ok
  refine ⟨ks ++ [n], ?_, fun k hk => ?_, ?_⟩
  · rw [List.pairwise_append]
    exact ⟨h1, List.pairwise_singleton .., fun a ha b hb => by rw [List.mem_singleton] at hb; subst hb; exact h2 a ha⟩
  · rcases List.mem_append.1 hk with h | h
    · have := h2 k h; omega
    · rw [List.mem_singleton] at h; omega
  · rw [h3, List.map_append]; simp [List.getD_eq_getElem?_getD, hu]
/-- A row of references to rows of a list of the call's own: it is the call's own as well. -/
theorem SubU.own {w : World} {B : Nat} {v v' : Value} {us vs : List Value} {xss yss : List (List Int)} {n : Nat} (h : SubU us vs n) (hn : n ≤ vs.length) (ho : OwnU w B v' vs yss) (hr : w.ownsRow B 42 1 v xss.length us)
    (he : ∀ (i : Nat) u xs, us[i]? = some u → xss[i]? = some xs → IntS w.heap u xs) : OwnU w B v us xss := by
  obtain ⟨ks, h1, h2, h3⟩ := h.ok
  have hvl := ho.len
  have hul : us.length = xss.length := by simpa using hr.1
  have hkl : ks.length = us.length := by rw [h3]; simp
  have key : ∀ (i : Nat) u, us[i]? = some u → ∃ k, ks[i]? = some k ∧ vs[k]? = some u := by
    intro i u hu
    have hi : i < ks.length := by
      have := (List.getElem?_eq_some_iff.1 hu).1
      omega
    refine ⟨ks[i], List.getElem?_eq_getElem hi, ?_⟩
    rw [h3, List.getElem?_map, List.getElem?_eq_getElem hi] at hu
    simp only [Option.map_some, Option.some.injEq] at hu
    have := h2 ks[i] (List.getElem_mem hi)
    rw [← hu]; simp [List.getD_eq_getElem?_getD, show ks[i] < vs.length by omega]
  refine ⟨hr, fun i u xs hu hx => ?_, fun i j u u' hij hu hu' => ?_⟩
  · obtain ⟨k, -, hk⟩ := key i u hu
    have hkv := (List.getElem?_eq_some_iff.1 hk).1
    have hown := ho.each k u _ hk (List.getElem?_eq_getElem (show k < yss.length by omega))
    have h4 := he i u xs hu hx
    have e := ints_eq hown.ints h4
    rw [e] at hown; exact hown
  · obtain ⟨k, hk1, hk⟩ := key i u hu
    obtain ⟨k', hk1', hk'⟩ := key j u' hu'
    refine ho.apart k k' u u' ?_ hk hk'
    have hi := (List.getElem?_eq_some_iff.1 hk1); have hj := (List.getElem?_eq_some_iff.1 hk1')
    obtain ⟨hi1, hi2⟩ := hi; obtain ⟨hj1, hj2⟩ := hj
    rw [← hi2, ← hj2]
    exact List.pairwise_iff_getElem.1 h1 i j hi1 hj1 hij
section
variable {ops : Array Oper} {rest : List Oper} {o : Oper} {a : Act} {Q : Exit → Act → World → Prop}
/-- 'append(out, row)', out a row of references: where the grown row lies is told. -/
theorem append_ref1 {w w0 : World} (hg : o.guard = none) (s x : Operand)
    (ho : o.op = .call { callee := .builtin .append, args := #[s, x], argTypes := #[22, 22] })
    (B : Nat) (v u : Value) (us : List Value) (xss : List (List Int)) (xs : List Int) (hR : RefR w B w.heap v us xss) (hs : a.eval s = v) (hu : IntS w.heap u xs) (hbl : Below B w0 w) (hB : B ≤ w.heap.size)
    (b : Nat) (hx : a.eval x = .slice (some ⟨b, 0, none⟩) 1 1) (hb : b = w.heap.size) (hn : xss.length ≤ 4398046511104)
    (hK : ∀ v' w', RefR w' B w'.heap v' (us ++ [u]) (xss ++ [xs]) → Below B w0 w' → w.heap.size ≤ w'.heap.size → (∀ b, b < w.heap.size → some b ≠ v.ownBlock → w'.heap[b]? = w.heap[b]?) → (v'.ownBlock = v.ownBlock ∨ ∃ k, w.heap.size ≤ k ∧ v'.ownBlock = some k) → KeepI w w' → wpList Try.prog ops Q rest (a.put o.dst v') w') :
    wpList Try.prog ops Q (o :: rest) a (w.alloc (.cells #[u] 42)) := by
  obtain ⟨i0, hi, hz0, hz1, hz2⟩ := info_parts info_slI
  refine append_at hg s x _ ho B _ i0 _ 24 Try.underlying22 hi hz0 hz1 hz2 rfl (by omega) v _ us u hR.row hs hbl hB b hx hb (slAt_oneCell hu) hn ?_
  intro v' w' h1 h2 h3 h4 h5
  have hk := KeepI.grown hR.row (by decide) h4
  exact hK v' w' ⟨by simpa using h1, append_each hR.len (fun i y ys hy hz => (hR.each i y ys hy hz).keep hk) (fun i y ys hy hz => by
    match i, hy, hz with
    | 0, hy, hz =>
      simp at hy hz
      subst hy; subst hz; exact hu.keep hk)⟩ h2 h3 h4 h5 hk
end
theorem RefR.intsS {w : World} {B : Nat} {v : Value} {us : List Value} {xss : List (List Int)} (a : RefR w B w.heap v us xss) : IntSS w.heap v xss := a.ints (fun _ _ => rfl)
/-- Where the row of references lies: not among the blocks from lo on that are below hi. -/
def Out (v : Value) (lo hi : Nat) : Prop := ∀ b, v.ownBlock = some b → b < lo ∨ hi ≤ b
theorem Out.step {v v' : Value} {lo hi n : Nat} (h : Out v lo hi) (hn : hi ≤ n) (k : v'.ownBlock = v.ownBlock ∨ ∃ k, n ≤ k ∧ v'.ownBlock = some k) : Out v' lo hi := by
  intro b hb
  rcases k with k | ⟨k, h1, h2⟩
  · exact h b (by rw [← k]; exact hb)
  · rw [h2] at hb; injection hb with e; right; omega
/-- The blocks from lo on that are below hi are as they were. -/
def SameIn (lo hi : Nat) (w w' : World) : Prop := ∀ b, lo ≤ b → b < hi → w'.heap[b]? = w.heap[b]?
theorem SameIn.of {lo hi : Nat} {w w1 w2 : World} (h : SameIn lo hi w w1) (hs : hi ≤ w1.heap.size) (k : Below w1.heap.size w1 w2) : SameIn lo hi w w2 := fun b h1 h2 => (k.block b (by omega)).trans (h b h1 h2)
theorem SameIn.app {lo hi : Nat} {w w1 w2 : World} {v : Value} (h : SameIn lo hi w w1) (hs : hi ≤ w1.heap.size) (ho : Out v lo hi) (k : ∀ b, b < w1.heap.size → some b ≠ v.ownBlock → w2.heap[b]? = w1.heap[b]?) : SameIn lo hi w w2 := fun b h1 h2 =>
  (k b (by omega) (fun e => by have := ho b e.symm; omega)).trans (h b h1 h2)
theorem SameIn.own {lo hi : Nat} {w w' : World} {v : Value} {us : List Value} {xss : List (List Int)} (h : SameIn lo hi w w') (hhi : w.heap.size = hi) (ho : OwnU w lo v us xss) : OwnU w' lo v us xss := ho.far fun b h1 h2 => h b h1 (by omega)
set_option maxRecDepth 100000 in
set_option maxHeartbeats 2000000 in
theorem conjugate_of (SO : SortOk) (SO2 : SortOk2) (v : Value) (xss : List (List Int)) (w : World) (h : IntSS w.heap v xss) (hT : arT xss = true) :
    Calls Try.prog 87 #[v] w fun e w' => ∃ r us, e = .returned r ∧ OwnU w' w.heap.size r us (cjR xss) ∧ Below w.heap.size w w' := by
  obtain ⟨ao, c, rfl, hm⟩ := h.len
  have H := Lib.hid h
  have R0 := Lib.hid (ref_empty (w := w) (B := w.heap.size) (w.alloc (.cells #[] 42)).heap (Nat.le_refl _))
  have hb0 : Below w.heap.size w (w.alloc (.cells #[] 42)) := (Below.refl _ _).alloc (Nat.le_refl _) _
  have HB0 := Lib.hid hb0
  by_cases h0 : xss.length = 0
  · have e1 : cjR xss = [] := by unfold cjR; rw [if_neg (fun x => x.2 h0)]
    rw [e1]
    have t1 := (eqB (show (xss.length : Int) = 0 by omega)).1
    clear e1 h hT h0 SO SO2 hb0
    go_enter Try.func87, Try.ntmps87
    go_wp2_with fail
    go_ret
    exact ⟨_, [], rfl, ⟨World.ownsRow_made w #[] 0 (Nat.le_refl _) (Nat.zero_le _) rfl, fun i u xs hu => by simp at hu, fun i j u u' _ hu => by simp at hu⟩, HB0.out⟩
  · have hd := degT_in hT
    obtain ⟨n, hn⟩ : ∃ n : Nat, degT xss = n := ⟨(degT xss).toNat, by omega⟩
    have e1 : cjR xss = cjgL xss (partL n) := by unfold cjR; rw [if_pos ⟨hT, h0⟩, hn, Int.toNat_natCast]
    rw [e1]
    have t1 := (neB (show (xss.length : Int) ≠ 0 by omega)).1
    have D := Lib.hid (fun (W : World) (h : IntSS W.heap (.slice ao xss.length c) xss) => degreeOfT_c _ xss W h hT)
    rw [hn] at D
    have hn40 : n ≤ 40 := by omega
    have P := Lib.hid (fun W => partitions_of SO2 n W hn40)
    have hlen : (partL n).length ≤ 504 := expD_length (d := (n : Int)) (asc_partL n) (fun x hx => mem_partL hn40 hx) (by omega)
    have HME := Lib.hid (fun x (hx : x ∈ partL n) => mem_partL hn40 hx)
    have hxl := arT_len hT
    clear e1 h hT h0 SO2 hd hn hb0
    generalize partL n = basis at *
    have hs0 : (w.alloc (.cells #[] 42)).heap.size = w.heap.size + 1 := by simp
    obtain ⟨w0, hw0⟩ : ∃ w0, w0 = w.alloc (.cells #[] 42) := ⟨_, rfl⟩
    rw [← hw0] at R0 HB0 hs0
    have HW0 := Lib.hid hw0
    clear hw0
    have HS0 := Lib.hid hs0
    clear hs0
    go_enter Try.func87, Try.ntmps87
    go_wp2_with (first | (go_at_call 71; rw [← HW0.out]; refine (D.out _ (H.out.same HB0.out.block)).mono ?_; rintro e w2 ⟨rfl, rfl⟩) | (go_at_call 73; refine (P.out _).mono ?_; rintro e w1 ⟨r1, us1, rfl, hU1, hb1⟩; obtain ⟨ba, bc, rfl, -⟩ := hU1.ints.len; rw [HS0.out] at hU1; have HU1 := Lib.hid hU1; have HB1 := Lib.hid hb1; clear hU1 hb1))
    have HBA := Lib.hid (HB0.out.trans (HB1.out.mono HB0.out.size))
    have hw1 : w.heap.size + 1 ≤ w1.heap.size := by have := HB1.out.size; have := HS0.out; omega
    have HR1 := Lib.hid ((R0.out.same HB1.out.block).grow HB1.out.block)
    go_loopw [3, 15] (fun o i wr => ∃ (k : Nat) (us : List Value), k ≤ basis.length ∧ i = .int .i64 k ∧ RefR wr w.heap.size wr.heap o us (cjgL xss (basis.take k)) ∧ SubU us us1 k ∧ Out o (w.heap.size + 1) w1.heap.size ∧ SameIn (w.heap.size + 1) w1.heap.size w1 wr ∧ Below w.heap.size w wr ∧ w1.heap.size ≤ wr.heap.size) (fun _ i _ => basis.length - (intOf i).toNat)
    case atStart => exact ⟨0, [], Nat.zero_le _, rfl, HR1.out, SubU.nil _, fun b hb => by simp [Value.ownBlock] at hb; omega, fun b _ _ => rfl, HBA.out, Nat.le_refl _⟩
    case round =>
      obtain ⟨k, us, hk, rfl, hR, hSU, hOU, hSI, hbl, hws⟩ := hrel
      obtain ⟨pa, pn, pc, rfl⟩ := own_shape hR.row
      have hown := hSI.own rfl HU1.out
      have HR := Lib.hid hR; have HSU := Lib.hid hSU; have HOU := Lib.hid hOU; have HSI := Lib.hid hSI; have HBL := Lib.hid hbl; have HOWN := Lib.hid hown
      have hszb := hbl.size
      have HXW := Lib.hid (H.out.same hbl.block)
      clear hR hSU hOU hSI hbl hown
      by_cases hkl : k < basis.length
      · obtain ⟨b1, o1, c1, uk, hv1, hc1, huk, -⟩ := HOWN.out.ints.at k hkl
        simp only [Value.slice.injEq, true_and] at hv1
        obtain ⟨rfl, rfl⟩ := hv1
        have huc : us1[k]? = some uk := by
          have hrw := HOWN.out.row
          have hll := HOWN.out.len
          obtain ⟨g, cap, hv, -⟩ := own_open hrw (show 0 < basis.length by omega)
          simp only [Value.slice.injEq, Option.some.injEq, Addr.mk.injEq, true_and, and_true] at hv
          obtain ⟨⟨rfl, rfl⟩, rfl⟩ := hv
          have := World.ownsRow.cellAt hrw k (by omega)
          rw [Nat.zero_add] at hc1
          rw [← this, hc1]
        have HUC := Lib.hid huc
        obtain ⟨qa, qc, rfl, -⟩ := huk.len
        have HUK := Lib.hid huk
        have hex := HME.out _ (List.getElem_mem hkl)
        have HST := Lib.hid (cjgL_step xss basis k hkl)
        have hda := (dconL_ok hex.1 (by rw [hex.2]; omega))
        have hdl : (dconL basis[k]).length ≤ 504 := expD_length hda.2 hda.1 (by rw [hex.2]; omega)
        have DC := Lib.hid (fun (W : World) (hu : IntS W.heap (.slice qa basis[k].length qc) basis[k]) => dualConjugate_of SO _ basis[k] W hu hex.1 (by rw [hex.2]; omega))
        have PR := Lib.hid (fun (u : Value) (W : World) (h : IntSS W.heap (.slice ao xss.length c) xss) (hu : IntSS W.heap u (dconL basis[k])) => pairing_c _ u xss (dconL basis[k]) W h hu hda.2 (by omega))
        have hcl : (cjgL xss (basis.take k)).length ≤ 4398046511104 := by
          have := List.length_filter_le (fun r => pairL xss (dconL r) == 1) (basis.take k)
          have h2 : (basis.take k).length ≤ k := List.length_take_le _ _
          unfold cjgL; omega
        have HCL := Lib.hid hcl
        have hki : (k : Int) < basis.length := by omega
        clear huc huk hex hda hdl hcl
        by_cases hp : pairL xss (dconL basis[k]) = 1
        · rw [if_pos hp] at HST
          rw [hp] at PR
          clear hp
          generalize dconL basis[k] = dk at *
          generalize basis[k] = ys at *
          go_wp2_with (first | (go_at_call 84; refine (DC.out _ HUK.out).mono ?_; rintro e w3 ⟨r3, us3, rfl, hU3, hb3⟩; obtain ⟨da, dn, dc, rfl⟩ := own_shape hU3.row; have HD3 := Lib.hid hU3.ints; have HB3 := Lib.hid hb3; have HR3 := Lib.hid ((HR.out.same hb3.block).grow hb3.block); have HU3 := Lib.hid (HUK.out.same hb3.block); have HBX := Lib.hid (HBL.out.trans (hb3.mono HBL.out.size)); clear hU3 hb3) | (go_at_call 120; refine (PR.out _ _ (HXW.out.same HB3.out.block) HD3.out).mono ?_; rintro e w4 ⟨rfl, rfl⟩) | (at_builtin; refine append_ref1 rfl _ _ rfl w.heap.size _ _ us _ _ HR3.out rfl HU3.out HBX.out HBX.out.size _ rfl rfl HCL.out ?_; intro v5 w5 hU5 hb5 hs5 hk5 hw5 _; obtain ⟨sa, sn, sc, rfl⟩ := own_shape hU5.row))
          have hz3 := Nat.le_trans hws HB3.out.size
          have G := Lib.hid (And.intro (HSU.out.add HUC.out) (And.intro (HOU.out.step hz3 hw5) (((HSI.out.of hws HB3.out).app hz3 HOU.out hk5))))
          have HU5 := Lib.hid hU5; have HB5 := Lib.hid hb5
          have hs6 : w1.heap.size ≤ w5.heap.size := Nat.le_trans hz3 hs5
          clear hU5 hb5 hk5 hw5
          go_roundw
          case rel => exact ⟨k + 1, _, by omega, by go_num, by rw [HST.out]; exact HU5.out, G.out.1, G.out.2.1, G.out.2.2, HB5.out, hs6⟩
          case measure => simp [intOf]; omega
        · rw [if_neg hp, List.append_nil] at HST
          have hp0 : pairL xss (dconL basis[k]) = 0 := by have := pairL_01 xss (dconL basis[k]); omega
          rw [hp0] at PR
          clear hp hp0
          generalize dconL basis[k] = dk at *
          generalize basis[k] = ys at *
          go_wp2_with (first | (go_at_call 84; refine (DC.out _ HUK.out).mono ?_; rintro e w3 ⟨r3, us3, rfl, hU3, hb3⟩; obtain ⟨da, dn, dc, rfl⟩ := own_shape hU3.row; have HD3 := Lib.hid hU3.ints; have HB3 := Lib.hid hb3; have HR3 := Lib.hid ((HR.out.same hb3.block).grow hb3.block); have HBX := Lib.hid (HBL.out.trans (hb3.mono HBL.out.size)); clear hU3 hb3) | (go_at_call 120; refine (PR.out _ _ (HXW.out.same HB3.out.block) HD3.out).mono ?_; rintro e w4 ⟨rfl, rfl⟩))
          have hz3 := Nat.le_trans hws HB3.out.size
          have G := Lib.hid (HSI.out.of hws HB3.out)
          go_roundw
          case rel => exact ⟨k + 1, us, by omega, by go_num, by rw [HST.out]; exact HR3.out, HSU.out.skip, HOU.out, G.out, HBX.out, hz3⟩
          case measure => simp [intOf]; omega
      · obtain rfl : k = basis.length := by omega
        rw [List.take_length] at HR
        have HF := Lib.hid (HSU.out.own (by have := HOWN.out.len; omega) (own_u_base (B' := w.heap.size) HOWN.out (by omega)) HR.out.row HR.out.each)
        go_wp2_with fail
        go_ret
        exact ⟨_, us, rfl, HF.out, HBL.out⟩
set_option maxRecDepth 100000 in
set_option maxHeartbeats 2000000 in
theorem l05Conjugate_c (v : Value) (xss : List (List Int)) (w : World) (h : IntSS w.heap v xss) (hT : arT xss = true) :
    Calls Try.prog 86 #[v] w fun e w' => ∃ r, e = .returned r ∧ IntSS w'.heap r (cjR xss) ∧ Below w.heap.size w w' := by
  obtain ⟨ao, c, rfl, hm⟩ := h.len
  have H := Lib.hid h
  by_cases h0 : xss.length = 0
  · have e1 : cjR xss = [] := by unfold cjR; rw [if_neg (fun x => x.2 h0)]
    rw [e1]
    have t1 := (eqB (show (xss.length : Int) = 0 by omega)).1
    clear e1 h hT h0
    go_enter Try.func86, Try.ntmps86
    go_wp2_with fail
    go_ret
    exact ⟨_, rfl, IntSS.nil _, Below.refl _ _⟩
  · have hd := degT_in hT
    obtain ⟨n, hn⟩ : ∃ n : Nat, degT xss = n := ⟨(degT xss).toNat, by omega⟩
    have e1 : cjR xss = cjgL xss (partL n) := by unfold cjR; rw [if_pos ⟨hT, h0⟩, hn, Int.toNat_natCast]
    rw [e1]
    have t1 := (neB (show (xss.length : Int) ≠ 0 by omega)).1
    have hz : (0 : Int) < xss.length := by omega
    obtain ⟨b1, o1, c1, u1, hv1, hc1, hu1, -⟩ := H.out.at 0 (by omega)
    simp only [Value.slice.injEq, true_and] at hv1
    obtain ⟨rfl, rfl⟩ := hv1
    rw [show o1 + 0 = o1 from rfl] at hc1
    rw [show xss[0] = xss.getD 0 [] by simp [show 0 < xss.length by omega]] at hu1
    have F1 := Lib.hid (arT_first' hT)
    have D := Lib.hid (l01DegreeE_c u1 _ w hu1 F1.out)
    rw [show deg (xss.getD 0 []) = n from hn] at D
    obtain ⟨ua, uc, rfl, -⟩ := hu1.len
    have hn40 : n ≤ 40 := by omega
    have AL := Lib.hid (l01All_c n w hn40)
    have CJ := Lib.hid l06Conjugates_c
    have hlen : (partL n).length ≤ 504 := expD_length (d := (n : Int)) (asc_partL n) (fun x hx => mem_partL hn40 hx) (by omega)
    have HME := Lib.hid (fun x (hx : x ∈ partL n) => mem_partL hn40 hx)
    have hxl := arT_len hT
    clear e1 h hT h0 hd hn hu1 F1
    generalize partL n = basis at *
    generalize xss.getD 0 [] = y0 at *
    go_enter Try.func86, Try.ntmps86
    go_wp2_with (first | (go_at_call 67; refine D.out.mono ?_; rintro e w' ⟨rfl, rfl⟩) | (go_at_call 118; refine AL.out.mono ?_; rintro e w1 ⟨r1, us1, rfl, hU1, hb1⟩; obtain ⟨ba, bc, rfl, -⟩ := hU1.ints.len; have HU1 := Lib.hid hU1; have HB1 := Lib.hid hb1; have hws1 := hb1.size; clear hU1 hb1) | (go_at_call 112; refine (CJ.out _).mono ?_; rintro e w2 ⟨r2, us2, rfl, hS2, hb2⟩; obtain ⟨ja, jc, rfl, -⟩ := hS2.ints.len; have HS2 := Lib.hid hS2; have HB2 := Lib.hid hb2; clear hS2 hb2))
    have hsA : (w1.alloc (.cells #[] 42)).heap.size = w1.heap.size + 1 := by simp
    have hws2 : w1.heap.size + 1 ≤ w2.heap.size := by have := HB2.out.size; omega
    have HBA := Lib.hid (HB1.out.trans ((((Below.refl w1.heap.size w1).alloc (Nat.le_refl _) (.cells #[] 42)).trans (HB2.out.mono (by simp))).mono HB1.out.size))
    have HB12 := Lib.hid (((Below.refl w1.heap.size w1).alloc (Nat.le_refl _) (.cells #[] 42)).trans (HB2.out.mono (by simp)))
    have HR1 := Lib.hid (((ref_empty (w := w1) (B := w1.heap.size) (w1.alloc (.cells #[] 42)).heap (Nat.le_refl _)).same HB2.out.block).grow HB2.out.block)
    rw [hsA] at HS2
    go_loopw [4, 6] (fun o i wr => ∃ (k : Nat) (us : List Value), k ≤ basis.length ∧ i = .int .i64 k ∧ RefR wr w1.heap.size wr.heap o us (cjgL xss (basis.take k)) ∧ Out o (w1.heap.size + 1) w2.heap.size ∧ SameIn (w1.heap.size + 1) w2.heap.size w2 wr ∧ Below w1.heap.size w1 wr ∧ w2.heap.size ≤ wr.heap.size) (fun _ i _ => basis.length - (intOf i).toNat)
    case atStart => exact ⟨0, [], Nat.zero_le _, rfl, HR1.out, fun b hb => by simp [Value.ownBlock] at hb; omega, fun b _ _ => rfl, HB12.out, Nat.le_refl _⟩
    case round =>
      obtain ⟨k, us, hk, rfl, hR, hOU, hSI, hbl, hws⟩ := hrel
      obtain ⟨pa, pn, pc, rfl⟩ := own_shape hR.row
      have HR := Lib.hid hR; have HOU := Lib.hid hOU; have HSI := Lib.hid hSI; have HBL := Lib.hid hbl
      have HBW := Lib.hid (HB1.out.trans (hbl.mono HB1.out.size))
      have HXW := Lib.hid (H.out.same HBW.out.block)
      have HUW := Lib.hid (HU1.out.ints.same hbl.block)
      have HSW := Lib.hid (HS2.out.far fun b h1 h2 => hSI b h1 h2).ints
      clear hR hOU hSI hbl
      by_cases hkl : k < basis.length
      · obtain ⟨b3, o3, c3, uk, hv3, hc3, huk, -⟩ := HUW.out.at k hkl
        simp only [Value.slice.injEq, true_and] at hv3
        obtain ⟨rfl, rfl⟩ := hv3
        obtain ⟨qa, qc, rfl, -⟩ := huk.len
        have HUK := Lib.hid huk
        have hex := HME.out _ (List.getElem_mem hkl)
        have HST := Lib.hid (cjgL_step xss basis k hkl)
        have hda := (dconL_ok hex.1 (by rw [hex.2]; omega))
        have MO := Lib.hid (fun (W : World) (h : IntSSS W.heap (.slice ja (conjTab 6).length jc) (conjTab 6)) (hu : IntS W.heap (.slice qa basis[k].length qc) basis[k]) => l06Monomial_c _ _ basis[k] W h hu hex.1 (by rw [hex.2]; omega))
        have PR := Lib.hid (fun (u : Value) (W : World) (h : IntSS W.heap (.slice (some ⟨b1, o1, none⟩) xss.length c) xss) (hu : IntSS W.heap u (dconL basis[k])) => l06Pairing_c _ u xss (dconL basis[k]) W h hu (by omega))
        have hcl : (cjgL xss (basis.take k)).length ≤ 4398046511104 := by
          have := List.length_filter_le (fun r => pairL xss (dconL r) == 1) (basis.take k)
          have h2 : (basis.take k).length ≤ k := List.length_take_le _ _
          unfold cjgL; omega
        have HCL := Lib.hid hcl
        have hki : (k : Int) < basis.length := by omega
        clear huk hex hda hcl
        by_cases hp : pairL xss (dconL basis[k]) = 1
        · rw [if_pos hp] at HST
          rw [hp] at PR
          clear hp
          generalize dconL basis[k] = dk at *
          generalize basis[k] = ys at *
          go_wp2_with (first | (go_at_call 113; refine (MO.out _ HSW.out HUK.out).mono ?_; rintro e w3 ⟨r3, us3, rfl, hU3, hb3⟩; obtain ⟨da, dn, dc, rfl⟩ := own_shape hU3.row; have HD3 := Lib.hid hU3.ints; have HB3 := Lib.hid hb3; have HR3 := Lib.hid ((HR.out.same hb3.block).grow hb3.block); have HU3 := Lib.hid (HUK.out.same hb3.block); have HBX := Lib.hid (HBL.out.trans (hb3.mono HBL.out.size)); have hc4 := (hb3.cell (World.block_lt_of_cell? _ _ hc3)).trans hc3; clear hU3 hb3) | (go_at_call 119; refine (PR.out _ _ (HXW.out.same HB3.out.block) HD3.out).mono ?_; rintro e w4 ⟨rfl, n4, rfl⟩; have hc5 : (w3.drewN n4).cell? ⟨b3, o3 + k, none⟩ = _ := hc4) | (at_builtin; refine append_ref1 (w := w3.drewN n4) rfl _ _ rfl w1.heap.size _ _ us _ _ (by exact HR3.out.same (fun _ _ => rfl)) rfl (by exact HU3.out) (below_drewN n4 HBX.out) HBX.out.size _ rfl rfl HCL.out ?_; intro v5 w5 hU5 hb5 hs5 hk5 hw5 _; obtain ⟨sa, sn, sc, rfl⟩ := own_shape hU5.row))
          have hz3 := Nat.le_trans hws HB3.out.size
          have G := Lib.hid (And.intro (HOU.out.step hz3 hw5) (((HSI.out.of hws HB3.out).app hz3 HOU.out hk5)))
          have HU5 := Lib.hid hU5; have HB5 := Lib.hid hb5
          have hs6 : w2.heap.size ≤ w5.heap.size := Nat.le_trans hz3 hs5
          clear hU5 hb5 hk5 hw5
          go_roundw
          case rel => exact ⟨k + 1, _, by omega, by go_num, by rw [HST.out]; exact HU5.out, G.out.1, G.out.2, HB5.out, hs6⟩
          case measure => simp [intOf]; omega
        · rw [if_neg hp, List.append_nil] at HST
          have hp0 : pairL xss (dconL basis[k]) = 0 := by have := pairL_01 xss (dconL basis[k]); omega
          rw [hp0] at PR
          clear hp hp0
          generalize dconL basis[k] = dk at *
          generalize basis[k] = ys at *
          go_wp2_with (first | (go_at_call 113; refine (MO.out _ HSW.out HUK.out).mono ?_; rintro e w3 ⟨r3, us3, rfl, hU3, hb3⟩; obtain ⟨da, dn, dc, rfl⟩ := own_shape hU3.row; have HD3 := Lib.hid hU3.ints; have HB3 := Lib.hid hb3; have HR3 := Lib.hid ((HR.out.same hb3.block).grow hb3.block); have HBX := Lib.hid (HBL.out.trans (hb3.mono HBL.out.size)); clear hU3 hb3) | (go_at_call 119; refine (PR.out _ _ (HXW.out.same HB3.out.block) HD3.out).mono ?_; rintro e w4 ⟨rfl, n4, rfl⟩))
          have hz3 := Nat.le_trans hws HB3.out.size
          have G := Lib.hid (HSI.out.of hws HB3.out)
          go_roundw
          case rel => exact ⟨k + 1, us, by omega, by go_num, by rw [HST.out]; exact (HR3.out.same (fun _ _ => rfl)), HOU.out, G.out, below_drewN n4 HBX.out, hz3⟩
          case measure => simp [intOf]; omega
      · obtain rfl : k = basis.length := by omega
        rw [List.take_length] at HR
        go_wp2_with fail
        go_ret
        exact ⟨_, rfl, HR.out.intsS, HBW.out⟩
end
section
open Go.RowKit Go.Sort

set_option maxRecDepth 100000 in
set_option maxHeartbeats 1000000 in
theorem implConjugateOf_of (SO : SortOk) (SO2 : SortOk2) (v : Value) (xss : List (List Int)) (w : World) (h : IntSS w.heap v xss) :
    Calls Try.prog 46 #[.agg #[v]] w fun e w' => ∃ r us, e = .returned (.tuple #[.agg #[r], .int .i64 (cjC xss)]) ∧ OwnU w' w.heap.size r us (cjR xss) ∧ Below w.heap.size w w' := by
  have hb : Below w.heap.size w ((w.alloc (.cells #[v] 26)).alloc (.cells #[.slice none 0 0] 26)) := ((Below.refl _ _).alloc (Nat.le_refl _) _).alloc (by simp) _
  have k0 := (Cell1.new w v 26).kept (alloc_old _ (.cells #[.slice none 0 0] 26))
  have k2 := Cell1.new (w.alloc (.cells #[v] 26)) (.slice none 0 0) 26
  simp only [size_alloc_w] at k2
  have hsz : ((w.alloc (.cells #[v] 26)).alloc (.cells #[.slice none 0 0] 26)).heap.size = w.heap.size + 2 := by simp
  have C := Lib.hid (isMilnor_c v xss _ (h.same hb.block))
  obtain ⟨ao, c, rfl, hm⟩ := h.len
  have H := Lib.hid h; clear h
  obtain ⟨w0, hw0⟩ : ∃ w0, w0 = (w.alloc (.cells #[.slice ao xss.length c] 26)).alloc (.cells #[.slice none 0 0] 26) := ⟨_, rfl⟩
  have q0 := k0.c0
  rw [← hw0] at k0 k2 hb hsz C
  have HW := Lib.hid hw0; clear hw0
  have HB0 := Lib.hid hb; have K0 := Lib.hid k0; have K2 := Lib.hid k2; have HSZ := Lib.hid hsz
  clear hb k0 k2 hsz
  cases hT : arT xss
  · have e1 : cjC xss = 1 := by simp [cjC, hT]
    have e2 : cjR xss = [] := by unfold cjR; rw [hT, if_neg (fun x => by cases x.1)]
    rw [e1, e2]
    rw [hT] at C
    clear e1 e2 hT SO SO2
    go_enter Try.func46, Try.ntmps46
    go_wp2_with fail
    rw [← HW.out]
    refine C.out.mono ?_
    rintro e w1 ⟨rfl, hb1⟩
    have K01 := Lib.hid (K0.out.kept hb1.block)
    have K21 := Lib.hid (K2.out.kept hb1.block)
    have q0' := K01.out.c0; have q2 := K21.out.c0; have f2 := K21.out.free 0
    have HB1 := Lib.hid (HB0.out.trans (hb1.mono HB0.out.size))
    have HS1 := Lib.hid hb1.size
    clear hb1 HW q0
    go_wp2_with fail
    have g0 := (K21.out.set (.slice none 0 0)).c0
    exact bodyPost_ret (v := .tuple #[.agg #[.slice none 0 0], .int .i64 1]) (by simp [results, Try.results46, go_sem, g0]) rfl
      ⟨_, [], rfl, own_u_nil _ _, HB1.out.setCell (by show w.heap.size ≤ w.heap.size + 1; omega) _⟩
  · have e1 : cjC xss = 0 := by simp [cjC, hT]
    rw [e1]
    rw [hT] at C
    have CO := Lib.hid (fun (W : World) (h : IntSS W.heap (.slice ao xss.length c) xss) => conjugate_of SO SO2 _ xss W h hT)
    clear e1 hT
    generalize cjR xss = rx at *
    go_enter Try.func46, Try.ntmps46
    go_wp2_with fail
    rw [← HW.out]
    refine C.out.mono ?_
    rintro e w1 ⟨rfl, hb1⟩
    have K01 := Lib.hid (K0.out.kept hb1.block)
    have K21 := Lib.hid (K2.out.kept hb1.block)
    have q0' := K01.out.c0; have q2 := K21.out.c0; have f2 := K21.out.free 0
    have HB1 := Lib.hid (HB0.out.trans (hb1.mono HB0.out.size))
    have HS1 := Lib.hid hb1.size
    clear hb1 HW q0
    clear q2 f2
    go_wp2_with (go_at_call 87; refine (CO.out _ (H.out.same HB1.out.block)).mono ?_; rintro e w2 ⟨r2, us2, rfl, hU2, hb2⟩; obtain ⟨sa, sn, sc, rfl⟩ := own_shape hU2.row; have K23 := Lib.hid (K21.out.kept hb2.block); have q2 := K23.out.c0; have f2 := K23.out.free 0; have HU2 := Lib.hid hU2; have HB2 := Lib.hid (HB1.out.trans (hb2.mono HB1.out.size)); clear hU2 hb2)
    have g0 := (K23.out.set (.slice sa sn sc)).c0
    exact bodyPost_ret (v := .tuple #[.agg #[.slice sa sn sc], .int .i64 0]) (by simp [results, Try.results46, go_sem, g0]) rfl
      ⟨_, us2, rfl, own_var1 HU2.out (by have := HS1.out; have := HSZ.out; omega) _ HB1.out.size K23.out, HB2.out.setCell (by show w.heap.size ≤ w.heap.size + 1; omega) _⟩
set_option maxRecDepth 100000 in
set_option maxHeartbeats 1000000 in
theorem specConjugateOf_c (v : Value) (xss : List (List Int)) (w : World) (h : IntSS w.heap v xss) :
    Calls Try.prog 45 #[.agg #[v]] w fun e w' => ∃ r, e = .returned (.tuple #[.agg #[r], .int .i64 (cjC xss)]) ∧ IntSS w'.heap r (cjR xss) ∧ Below w.heap.size w w' := by
  have hb : Below w.heap.size w ((w.alloc (.cells #[v] 26)).alloc (.cells #[.slice none 0 0] 26)) := ((Below.refl _ _).alloc (Nat.le_refl _) _).alloc (by simp) _
  have k0 := (Cell1.new w v 26).kept (alloc_old _ (.cells #[.slice none 0 0] 26))
  have k2 := Cell1.new (w.alloc (.cells #[v] 26)) (.slice none 0 0) 26
  simp only [size_alloc_w] at k2
  have hsz : ((w.alloc (.cells #[v] 26)).alloc (.cells #[.slice none 0 0] 26)).heap.size = w.heap.size + 2 := by simp
  have C := Lib.hid (l04Is_c v xss _ (h.same hb.block))
  obtain ⟨ao, c, rfl, hm⟩ := h.len
  have H := Lib.hid h; clear h
  obtain ⟨w0, hw0⟩ : ∃ w0, w0 = (w.alloc (.cells #[.slice ao xss.length c] 26)).alloc (.cells #[.slice none 0 0] 26) := ⟨_, rfl⟩
  have q0 := k0.c0
  rw [← hw0] at k0 k2 hb hsz C
  have HW := Lib.hid hw0; clear hw0
  have HB0 := Lib.hid hb; have K0 := Lib.hid k0; have K2 := Lib.hid k2; have HSZ := Lib.hid hsz
  clear hb k0 k2 hsz
  cases hT : arT xss
  · have e1 : cjC xss = 1 := by simp [cjC, hT]
    have e2 : cjR xss = [] := by unfold cjR; rw [hT, if_neg (fun x => by cases x.1)]
    rw [e1, e2]
    rw [hT] at C
    clear e1 e2 hT
    go_enter Try.func45, Try.ntmps45
    go_wp2_with fail
    rw [← HW.out]
    refine C.out.mono ?_
    rintro e w1 ⟨rfl, hb1⟩
    have K01 := Lib.hid (K0.out.kept hb1.block)
    have K21 := Lib.hid (K2.out.kept hb1.block)
    have q0' := K01.out.c0; have q2 := K21.out.c0; have f2 := K21.out.free 0
    have HB1 := Lib.hid (HB0.out.trans (hb1.mono HB0.out.size))
    have HS1 := Lib.hid hb1.size
    clear hb1 HW q0
    go_wp2_with fail
    have g0 := (K21.out.set (.slice none 0 0)).c0
    exact bodyPost_ret (v := .tuple #[.agg #[.slice none 0 0], .int .i64 1]) (by simp [results, Try.results45, go_sem, g0]) rfl
      ⟨_, rfl, IntSS.nil _, HB1.out.setCell (by show w.heap.size ≤ w.heap.size + 1; omega) _⟩
  · have e1 : cjC xss = 0 := by simp [cjC, hT]
    rw [e1]
    rw [hT] at C
    have CO := Lib.hid (fun (W : World) (h : IntSS W.heap (.slice ao xss.length c) xss) => l05Conjugate_c _ xss W h hT)
    clear e1 hT
    generalize cjR xss = rx at *
    go_enter Try.func45, Try.ntmps45
    go_wp2_with fail
    rw [← HW.out]
    refine C.out.mono ?_
    rintro e w1 ⟨rfl, hb1⟩
    have K01 := Lib.hid (K0.out.kept hb1.block)
    have K21 := Lib.hid (K2.out.kept hb1.block)
    have q0' := K01.out.c0; have q2 := K21.out.c0; have f2 := K21.out.free 0
    have HB1 := Lib.hid (HB0.out.trans (hb1.mono HB0.out.size))
    have HS1 := Lib.hid hb1.size
    clear hb1 HW q0
    clear q2 f2
    go_wp2_with (go_at_call 86; refine (CO.out _ (H.out.same HB1.out.block)).mono ?_; rintro e w2 ⟨r2, rfl, hU2, hb2⟩; obtain ⟨sa, sc, rfl, -⟩ := hU2.len; have K23 := Lib.hid (K21.out.kept hb2.block); have q2 := K23.out.c0; have f2 := K23.out.free 0; have HU2 := Lib.hid hU2; have HB2 := Lib.hid (HB1.out.trans (hb2.mono HB1.out.size)); clear hU2 hb2)
    have g0 := (K23.out.set (.slice sa rx.length sc)).c0
    exact bodyPost_ret (v := .tuple #[.agg #[.slice sa rx.length sc], .int .i64 0]) (by simp [results, Try.results45, go_sem, g0]) rfl
      ⟨_, rfl, HU2.out.other K23.out (by decide) (by decide) _, HB2.out.setCell (by show w.heap.size ≤ w.heap.size + 1; omega) _⟩
end
open Go.ChangeShapes Go.WideShapes Go.ChangeAt Go.RowKit
open Go.ChangeMaps (open_string shut_string)

theorem sortOk : SortOk := sortSS_c
theorem sortOk2 : SortOk2 := sortSS_c2
set_option maxRecDepth 100000 in
set_option maxHeartbeats 4000000 in
theorem fnExactConjugateOf_walk (w : World) (a1 : Option Addr) (l1 p1 : Nat) (t1 : List (List Int)) (h1 : IsRows w a1 l1 t1) :
    Calls Try.prog 12 #[.agg #[.slice a1 l1 p1]] w fun e w' => e = .returned (.bool true) ∧ Below w.heap.size w w' := by
  have S := Lib.hid (fun (v : Value) (W : World) (h : IntSS W.heap v t1) => specConjugateOf_c v t1 W h)
  have I := Lib.hid (fun (v : Value) (W : World) (h : IntSS W.heap v t1) => implConjugateOf_of sortOk sortOk2 v t1 W h)
  have HXL := Lib.hid (cjR_cnt t1)
  generalize cjR t1 = rx at *
  generalize cjC t1 = pc at *
  have u1 : (pc != pc) = false := by simp
  obtain ⟨W0, hW0⟩ : ∃ W, W = (w.alloc (.cells #[.slice a1 l1 p1] 24)) := ⟨_, rfl⟩
  have hx : Below w.heap.size w W0 := by rw [hW0]; exact ((Below.refl _ _).alloc (by exact Nat.le_refl _) _)
  have hsz : w.heap.size + 1 ≤ W0.heap.size := by rw [hW0]; simp
  have k1 := (Cell1.new w (.slice a1 l1 p1) 24).c0
  rw [← hW0] at k1
  have BW0 := Lib.hid hx
  have Z2 := Lib.hid (hsz)
  have HW0 := Lib.hid hW0
  clear hW0 hx hsz
  have SM1 := Lib.hid (fun (left : Nat) (hl : left ≤ 1048576) (W : World) (hb : Below w.heap.size w W) => szMilnor_c a1 l1 p1 t1 left W (h1.same hb.block hb.size) hl)
  have TM10 := fun (W : World) (hb : Below w.heap.size w W) => toMilnor_c a1 l1 p1 t1 W (h1.same hb.block hb.size)
  clear h1
  go_enter Try.func12, Try.ntmps12
  go_wp2_with fail
  rw [← HW0.out]
  clear HW0
  have S0 := SM1.out 1048576 (Nat.le_refl _) _ BW0.out
  by_cases hz1 : t1.length + cnt t1 ≤ 1048576
  rotate_left
  · have e9 : szR t1 1048576 = -1 := by unfold szR; rw [if_neg hz1]
    rw [e9] at S0
    have S1 := Lib.hid S0
    clear S0 e9
    refine (S1.out).mono ?_
    rintro e W ⟨rfl, hx⟩
    have BE := Lib.hid (BW0.out.trans (hx.mono BW0.out.size))
    clear hx
    go_wp2_with fail
    go_ret
    exact ⟨rfl, BE.out⟩
  obtain ⟨left1, hl9⟩ : ∃ left : Nat, szR t1 1048576 = left := ⟨1048576 - (t1.length + cnt t1), by unfold szR; rw [if_pos hz1]; omega⟩
  have HLN : Hid (left1 ≤ 1048576) := by show _ ≤ _; unfold szR at hl9; rw [if_pos hz1] at hl9; have := Nat.le_refl 1048576; omega
  rw [hl9] at S0
  have S1 := Lib.hid S0
  clear S0 hl9
  have TM1 := Lib.hid (fun (W : World) (hb : Below w.heap.size w W) => TM10 W hb (by have := Nat.le_refl 1048576; omega))
  have HSZ1 : Hid (cnt t1 ≤ 1048576) := by show _ ≤ _; have := Nat.le_refl 1048576; omega
  clear TM10 hz1 SM1
  have HLF := HLN
  clear HLN
  refine (S1.out).mono ?_
  rintro e W3 ⟨rfl, hx⟩
  clear S1
  have Z4 := Lib.hid (hx.size)
  have k5 := (hx.cell (World.block_lt_of_cell? _ _ k1)).trans k1
  clear k1
  have B6 := Lib.hid (BW0.out.trans (hx.mono BW0.out.size))
  clear BW0
  clear hx
  go_wp2_with fail
  refine (TM1.out _ B6.out).mono ?_
  rintro e W9 ⟨v7, rfl, ⟨u8, hm⟩, hx⟩
  obtain ⟨q10, q11, q12, rfl⟩ := own_shape hm.row
  have O13 := Lib.hid hm
  have R14 := Lib.hid hm.range
  clear hm
  have Z15 := Lib.hid (hx.size)
  have k16 := (hx.cell (World.block_lt_of_cell? _ _ k5)).trans k5
  clear k5
  have B17 := Lib.hid (B6.out.trans (hx.mono B6.out.size))
  clear B6
  clear hx
  go_wp2_with fail
  refine (S.out (.slice q10 q11 q12) _ O13.out.ints).mono ?_
  rintro e W18 ⟨r1, rfl, hm, hx⟩
  obtain ⟨j1, j2, rfl, -⟩ := hm.len
  have RW := Lib.hid hm
  clear hm
  have Z19 := Lib.hid (hx.size)
  have k20 := (hx.cell (World.block_lt_of_cell? _ _ k16)).trans k16
  clear k16
  have O21 := Lib.hid (O13.out.same hx.block)
  clear O13
  have B22 := Lib.hid (B17.out.trans (hx.mono B17.out.size))
  clear B17
  clear hx
  have B23 := Lib.hid (Below.refl W18.heap.size W18)
  obtain ⟨W24, E250⟩ : ∃ W, W = W18.alloc (.cells #[.slice j1 rx.length j2] 26) := ⟨_, rfl⟩
  have hx : Below W18.heap.size W18 W24 := by rw [E250]; exact (Below.refl _ _).alloc (Nat.le_refl _) _
  have k26 : W24.cell? ⟨W18.heap.size, 0, none⟩ = some (.slice j1 rx.length j2) := by rw [E250, World.cell?]; simp only [heap_alloc_new]; rfl
  have kx0 := Go.Lib.cell?_alloc_some (.cells #[.slice j1 rx.length j2] 26) k20
  have Z27 := Lib.hid (World.block_lt_of_cell? _ _ k26)
  simp only at Z27
  have Z28 := Lib.hid (hx.size)
  have k29 := (hx.cell (World.block_lt_of_cell? _ _ k20)).trans k20
  clear k20
  have O30 := Lib.hid (O21.out.same hx.block)
  clear O21
  have B31 := Lib.hid (B22.out.trans (hx.mono B22.out.size))
  clear B22
  have B32 := Lib.hid (B23.out.trans (hx.mono B23.out.size))
  clear B23
  clear hx
  have E25 := Lib.hid E250
  clear E250
  go_wp2_with fail
  rw [← E25.out]
  clear E25 kx0
  clear O30
  go_wp2_with fail
  refine (TM1.out _ B31.out).mono ?_
  rintro e W35 ⟨v33, rfl, ⟨u34, hm⟩, hx⟩
  obtain ⟨q36, q37, q38, rfl⟩ := own_shape hm.row
  have O39 := Lib.hid hm
  have R40 := Lib.hid hm.range
  clear hm
  have Z41 := Lib.hid (hx.size)
  have k42 := (hx.cell (World.block_lt_of_cell? _ _ k29)).trans k29
  clear k29
  have k43 := (hx.cell (World.block_lt_of_cell? _ _ k26)).trans k26
  clear k26
  have B44 := Lib.hid (B31.out.trans (hx.mono B31.out.size))
  clear B31
  have B45 := Lib.hid (B32.out.trans (hx.mono B32.out.size))
  clear B32
  clear hx
  obtain ⟨W46, E470⟩ : ∃ W, W = W35.alloc (.cells #[.slice q36 q37 q38] 26) := ⟨_, rfl⟩
  have hx : Below W35.heap.size W35 W46 := by rw [E470]; exact (Below.refl _ _).alloc (Nat.le_refl _) _
  have k48 : W46.cell? ⟨W35.heap.size, 0, none⟩ = some (.slice q36 q37 q38) := by rw [E470, World.cell?]; simp only [heap_alloc_new]; rfl
  have kx0 := Go.Lib.cell?_alloc_some (.cells #[.slice q36 q37 q38] 26) k42
  have kx1 := Go.Lib.cell?_alloc_some (.cells #[.slice q36 q37 q38] 26) k43
  have Z49 := Lib.hid (World.block_lt_of_cell? _ _ k48)
  simp only at Z49
  have Z50 := Lib.hid (hx.size)
  have k51 := (hx.cell (World.block_lt_of_cell? _ _ k42)).trans k42
  clear k42
  have k52 := (hx.cell (World.block_lt_of_cell? _ _ k43)).trans k43
  clear k43
  have O53 := Lib.hid (O39.out.same hx.block)
  clear O39
  have B54 := Lib.hid (B44.out.trans (hx.mono B44.out.size))
  clear B44
  have B55 := Lib.hid (B45.out.trans (hx.mono B45.out.size))
  clear B45
  clear hx
  have E47 := Lib.hid E470
  clear E470
  go_wp2_with fail
  rw [← E47.out]
  clear E47 kx0 kx1
  go_wp2_with fail
  refine (I.out (.slice q36 q37 q38) _ O53.out.ints).mono ?_
  rintro e W58 ⟨v56, u57, rfl, hm, hx⟩
  obtain ⟨q59, q60, q61, rfl⟩ := own_shape hm.row
  have O62 := Lib.hid hm
  have R63 := Lib.hid hm.range
  clear hm
  have Z64 := Lib.hid (hx.size)
  have k65 := (hx.cell (World.block_lt_of_cell? _ _ k51)).trans k51
  clear k51
  have k66 := (hx.cell (World.block_lt_of_cell? _ _ k52)).trans k52
  clear k52
  have k67 := (hx.cell (World.block_lt_of_cell? _ _ k48)).trans k48
  clear k48
  have O68 := Lib.hid (O53.out.same hx.block)
  clear O53
  have B69 := Lib.hid (B54.out.trans (hx.mono B54.out.size))
  clear B54
  have B70 := Lib.hid (B55.out.trans (hx.mono B55.out.size))
  clear B55
  clear hx
  obtain ⟨W71, E720⟩ : ∃ W, W = W58.alloc (.cells #[.slice q59 q60 q61] 26) := ⟨_, rfl⟩
  have hx : Below W58.heap.size W58 W71 := by rw [E720]; exact (Below.refl _ _).alloc (Nat.le_refl _) _
  have k73 : W71.cell? ⟨W58.heap.size, 0, none⟩ = some (.slice q59 q60 q61) := by rw [E720, World.cell?]; simp only [heap_alloc_new]; rfl
  have kx0 := Go.Lib.cell?_alloc_some (.cells #[.slice q59 q60 q61] 26) k65
  have kx1 := Go.Lib.cell?_alloc_some (.cells #[.slice q59 q60 q61] 26) k66
  have kx2 := Go.Lib.cell?_alloc_some (.cells #[.slice q59 q60 q61] 26) k67
  have Z74 := Lib.hid (World.block_lt_of_cell? _ _ k73)
  simp only at Z74
  have Z75 := Lib.hid (hx.size)
  have k76 := (hx.cell (World.block_lt_of_cell? _ _ k65)).trans k65
  clear k65
  have k77 := (hx.cell (World.block_lt_of_cell? _ _ k66)).trans k66
  clear k66
  have k78 := (hx.cell (World.block_lt_of_cell? _ _ k67)).trans k67
  clear k67
  have O79 := Lib.hid (O68.out.same hx.block)
  clear O68
  have O80 := Lib.hid (O62.out.same hx.block)
  clear O62
  have B81 := Lib.hid (B69.out.trans (hx.mono B69.out.size))
  clear B69
  have B82 := Lib.hid (B70.out.trans (hx.mono B70.out.size))
  clear B70
  clear hx
  have E72 := Lib.hid E720
  clear E720
  go_wp2_with fail
  rw [← E72.out]
  clear E72 kx0 kx1 kx2
  go_wp2_with fail
  refine (eqMilnor_same _ _ rx _ O80.out.ints (RW.out.same B82.out.block)).mono ?_
  rintro e W83 ⟨rfl, hx⟩
  have Z84 := Lib.hid (hx.size)
  have k85 := (hx.cell (World.block_lt_of_cell? _ _ k76)).trans k76
  clear k76
  have k86 := (hx.cell (World.block_lt_of_cell? _ _ k77)).trans k77
  clear k77
  have k87 := (hx.cell (World.block_lt_of_cell? _ _ k78)).trans k78
  clear k78
  have k88 := (hx.cell (World.block_lt_of_cell? _ _ k73)).trans k73
  clear k73
  have O89 := Lib.hid (O79.out.same hx.block)
  clear O79
  have O90 := Lib.hid (O80.out.same hx.block)
  clear O80
  have B91 := Lib.hid (B81.out.trans (hx.mono B81.out.size))
  clear B81
  have B92 := Lib.hid (B82.out.trans (hx.mono B82.out.size))
  clear B82
  clear hx
  go_wp2_with fail
  go_region_held3 (fun W => W.cell? ⟨W35.heap.size, 0, none⟩ = some (.slice q36 q37 q38) ∧ W.cell? ⟨w.heap.size, 0, none⟩ = some (.slice a1 l1 p1) ∧ Below W83.heap.size W83 W)
    (first | exact ⟨k87, k85, (Below.refl _ _).drew⟩ | exact heldC2 (by assumption) hx8 | exact heldC2 (by assumption) hx9)
    (first | (go_at_call 16; refine (TM1.out _ (heldC2B B91.out (by assumption) B91.out.size)).mono ?_; rintro e W9 ⟨v9, rfl, ⟨u9, hm9⟩, hx9⟩; obtain ⟨e1, e2, e3, rfl⟩ := own_shape hm9.row) | (go_at_call 18; refine (eqMilnor_same _ _ t1 _ (O89.out.ints.same (heldC2X (by assumption)).block) hm9.ints).mono ?_; rintro e W8 ⟨rfl, hx8⟩))
  all_goals
    rename_i hh
    obtain ⟨W93, hWe⟩ : ∃ W, W = W8 := ⟨_, rfl⟩
    have hx : Below W83.heap.size W83 W93 := by rw [hWe]; exact heldC2X hh
    rw [← hWe]
    clear hWe hh hx8 hx9 hm9
    have Z94 := Lib.hid (hx.size)
    have k95 := (hx.cell (World.block_lt_of_cell? _ _ k85)).trans k85
    clear k85
    have k96 := (hx.cell (World.block_lt_of_cell? _ _ k86)).trans k86
    clear k86
    have k97 := (hx.cell (World.block_lt_of_cell? _ _ k87)).trans k87
    clear k87
    have k98 := (hx.cell (World.block_lt_of_cell? _ _ k88)).trans k88
    clear k88
    have O99 := Lib.hid (O89.out.same hx.block)
    clear O89
    have O100 := Lib.hid (O90.out.same hx.block)
    clear O90
    have B101 := Lib.hid (B91.out.trans (hx.mono B91.out.size))
    clear B91
    have B102 := Lib.hid (B92.out.trans (hx.mono B92.out.size))
    clear B92
    clear hx
    go_wp2_with fail
    refine (markMilnor_c (.slice q36 q37 q38) u34 t1 1 W24.heap.size W93 O99.out (by have := Z2.out; have := Z4.out; have := Z15.out; have := Z19.out; have := Z27.out; have := Z28.out; have := Z41.out; have := Z49.out; have := Z50.out; have := Z64.out; have := Z74.out; have := Z75.out; have := Z84.out; have := Z94.out; omega) (by omega) (by have := HXL.out; have := HSZ1.out; omega)).mono ?_
    rintro e W103 ⟨rfl, hm, hlow, hfr⟩
    have RRR := R40.out
    have hhi : ∀ b, W35.heap.size ≤ b → b < W93.heap.size → W103.heap[b]? = W93.heap[b]? := fun b h1 h2 => hfr b h2 (fun u hu e => by have := RRR.2 u hu b e; omega)
    clear RRR
    have O104 := Lib.hid hm
    clear hm
    have Z105 := Lib.hid (hlow.size)
    have k106 := (hlow.cell (p := ⟨w.heap.size, 0, none⟩) (by show w.heap.size < W24.heap.size; exact (by have := Z2.out; have := Z4.out; have := Z15.out; have := Z19.out; have := Z27.out; have := Z28.out; have := Z41.out; have := Z49.out; have := Z50.out; have := Z64.out; have := Z74.out; have := Z75.out; have := Z84.out; have := Z94.out; have := Z105.out; omega))).trans k95
    clear k95
    have k107 := (hlow.cell (p := ⟨W18.heap.size, 0, none⟩) (by show W18.heap.size < W24.heap.size; exact (by have := Z2.out; have := Z4.out; have := Z15.out; have := Z19.out; have := Z27.out; have := Z28.out; have := Z41.out; have := Z49.out; have := Z50.out; have := Z64.out; have := Z74.out; have := Z75.out; have := Z84.out; have := Z94.out; have := Z105.out; omega))).trans k96
    clear k96
    have k108 := (World.cell?_of_block (hhi W35.heap.size (by have := Z2.out; have := Z4.out; have := Z15.out; have := Z19.out; have := Z27.out; have := Z28.out; have := Z41.out; have := Z49.out; have := Z50.out; have := Z64.out; have := Z74.out; have := Z75.out; have := Z84.out; have := Z94.out; have := Z105.out; omega) (World.block_lt_of_cell? _ _ k97))).trans k97
    clear k97
    have k109 := (World.cell?_of_block (hhi W58.heap.size (by have := Z2.out; have := Z4.out; have := Z15.out; have := Z19.out; have := Z27.out; have := Z28.out; have := Z41.out; have := Z49.out; have := Z50.out; have := Z64.out; have := Z74.out; have := Z75.out; have := Z84.out; have := Z94.out; have := Z105.out; omega) (World.block_lt_of_cell? _ _ k98))).trans k98
    clear k98
    have O110 := Lib.hid (O100.out.far fun b h1 h2 => hhi b (Nat.le_trans (by have := Z2.out; have := Z4.out; have := Z15.out; have := Z19.out; have := Z27.out; have := Z28.out; have := Z41.out; have := Z49.out; have := Z50.out; have := Z64.out; have := Z74.out; have := Z75.out; have := Z84.out; have := Z94.out; have := Z105.out; omega) h1) h2)
    clear O100
    have B111 := Lib.hid (B101.out.trans (hlow.mono (by have := Z2.out; have := Z4.out; have := Z15.out; have := Z19.out; have := Z27.out; have := Z28.out; have := Z41.out; have := Z49.out; have := Z50.out; have := Z64.out; have := Z74.out; have := Z75.out; have := Z84.out; have := Z94.out; have := Z105.out; omega)))
    clear B101
    have B112 := Lib.hid (B102.out.trans (hlow.mono (by have := Z2.out; have := Z4.out; have := Z15.out; have := Z19.out; have := Z27.out; have := Z28.out; have := Z41.out; have := Z49.out; have := Z50.out; have := Z64.out; have := Z74.out; have := Z75.out; have := Z84.out; have := Z94.out; have := Z105.out; omega)))
    clear B102
    clear hlow hhi hfr
    have t9 : decide ((1 + (cnt t1 : Int)) < 0) = false := by simp; omega
    clear O104
    clear k108
    go_wp2_with fail
    refine (eqMilnor_same _ _ rx _ O110.out.ints (RW.out.same B112.out.block)).mono ?_
    rintro e W113 ⟨rfl, hx⟩
    have Z114 := Lib.hid (hx.size)
    have k115 := (hx.cell (World.block_lt_of_cell? _ _ k106)).trans k106
    clear k106
    have k116 := (hx.cell (World.block_lt_of_cell? _ _ k107)).trans k107
    clear k107
    have k117 := (hx.cell (World.block_lt_of_cell? _ _ k109)).trans k109
    clear k109
    have O118 := Lib.hid (O110.out.same hx.block)
    clear O110
    have B119 := Lib.hid (B111.out.trans (hx.mono B111.out.size))
    clear B111
    have B120 := Lib.hid (B112.out.trans (hx.mono B112.out.size))
    clear B112
    clear hx
    go_wp2_with fail
    refine (markMilnor_c (.slice q59 q60 q61) u57 rx 1 W46.heap.size W113 O118.out (by have := Z2.out; have := Z4.out; have := Z15.out; have := Z19.out; have := Z27.out; have := Z28.out; have := Z41.out; have := Z49.out; have := Z50.out; have := Z64.out; have := Z74.out; have := Z75.out; have := Z84.out; have := Z94.out; have := Z105.out; have := Z114.out; omega) (by omega) (by have := HXL.out; have := HSZ1.out; omega)).mono ?_
    rintro e W121 ⟨rfl, hm, hlow, hfr⟩
    have RRR := R63.out
    have hhi : ∀ b, W58.heap.size ≤ b → b < W113.heap.size → W121.heap[b]? = W113.heap[b]? := fun b h1 h2 => hfr b h2 (fun u hu e => by have := RRR.2 u hu b e; omega)
    clear RRR
    have O122 := Lib.hid hm
    clear hm
    have Z123 := Lib.hid (hlow.size)
    have k124 := (hlow.cell (p := ⟨w.heap.size, 0, none⟩) (by show w.heap.size < W46.heap.size; exact (by have := Z2.out; have := Z4.out; have := Z15.out; have := Z19.out; have := Z27.out; have := Z28.out; have := Z41.out; have := Z49.out; have := Z50.out; have := Z64.out; have := Z74.out; have := Z75.out; have := Z84.out; have := Z94.out; have := Z105.out; have := Z114.out; have := Z123.out; omega))).trans k115
    clear k115
    have k125 := (hlow.cell (p := ⟨W18.heap.size, 0, none⟩) (by show W18.heap.size < W46.heap.size; exact (by have := Z2.out; have := Z4.out; have := Z15.out; have := Z19.out; have := Z27.out; have := Z28.out; have := Z41.out; have := Z49.out; have := Z50.out; have := Z64.out; have := Z74.out; have := Z75.out; have := Z84.out; have := Z94.out; have := Z105.out; have := Z114.out; have := Z123.out; omega))).trans k116
    clear k116
    have k126 := (World.cell?_of_block (hhi W58.heap.size (by have := Z2.out; have := Z4.out; have := Z15.out; have := Z19.out; have := Z27.out; have := Z28.out; have := Z41.out; have := Z49.out; have := Z50.out; have := Z64.out; have := Z74.out; have := Z75.out; have := Z84.out; have := Z94.out; have := Z105.out; have := Z114.out; have := Z123.out; omega) (World.block_lt_of_cell? _ _ k117))).trans k117
    clear k117
    have B127 := Lib.hid (B119.out.trans (hlow.mono (by have := Z2.out; have := Z4.out; have := Z15.out; have := Z19.out; have := Z27.out; have := Z28.out; have := Z41.out; have := Z49.out; have := Z50.out; have := Z64.out; have := Z74.out; have := Z75.out; have := Z84.out; have := Z94.out; have := Z105.out; have := Z114.out; have := Z123.out; omega)))
    clear B119
    have B128 := Lib.hid (B120.out.trans (hlow.mono (by have := Z2.out; have := Z4.out; have := Z15.out; have := Z19.out; have := Z27.out; have := Z28.out; have := Z41.out; have := Z49.out; have := Z50.out; have := Z64.out; have := Z74.out; have := Z75.out; have := Z84.out; have := Z94.out; have := Z105.out; have := Z114.out; have := Z123.out; omega)))
    clear B120
    clear hlow hhi hfr
    go_wp2_with fail
    refine (heldMilnor_c (.slice q59 q60 q61) rx 1 _ O122.out.ints (by omega) (by have := HXL.out; have := HSZ1.out; omega)).mono ?_
    rintro e W129 ⟨rfl, hx⟩
    have Z130 := Lib.hid (hx.size)
    have k131 := (hx.cell (World.block_lt_of_cell? _ _ k124)).trans k124
    clear k124
    have k132 := (hx.cell (World.block_lt_of_cell? _ _ k125)).trans k125
    clear k125
    have k133 := (hx.cell (World.block_lt_of_cell? _ _ k126)).trans k126
    clear k126
    have O134 := Lib.hid (O122.out.same hx.block)
    clear O122
    have B135 := Lib.hid (B127.out.trans (hx.mono B127.out.size))
    clear B127
    have B136 := Lib.hid (B128.out.trans (hx.mono B128.out.size))
    clear B128
    clear hx
    go_wp2_with fail
    refine (TM1.out _ B135.out).mono ?_
    rintro e W139 ⟨v137, rfl, ⟨u138, hm⟩, hx⟩
    obtain ⟨q140, q141, q142, rfl⟩ := own_shape hm.row
    have O143 := Lib.hid hm
    have R144 := Lib.hid hm.range
    clear hm
    have Z145 := Lib.hid (hx.size)
    have k146 := (hx.cell (World.block_lt_of_cell? _ _ k131)).trans k131
    clear k131
    have k147 := (hx.cell (World.block_lt_of_cell? _ _ k132)).trans k132
    clear k132
    have k148 := (hx.cell (World.block_lt_of_cell? _ _ k133)).trans k133
    clear k133
    have O149 := Lib.hid (O134.out.same hx.block)
    clear O134
    have B150 := Lib.hid (B135.out.trans (hx.mono B135.out.size))
    clear B135
    have B151 := Lib.hid (B136.out.trans (hx.mono B136.out.size))
    clear B136
    clear hx
    go_wp2_with fail
    refine (I.out (.slice q140 q141 q142) _ O143.out.ints).mono ?_
    rintro e W154 ⟨v152, u153, rfl, hm, hx⟩
    obtain ⟨q155, q156, q157, rfl⟩ := own_shape hm.row
    have O158 := Lib.hid hm
    have R159 := Lib.hid hm.range
    clear hm
    have Z160 := Lib.hid (hx.size)
    have k161 := (hx.cell (World.block_lt_of_cell? _ _ k146)).trans k146
    clear k146
    have k162 := (hx.cell (World.block_lt_of_cell? _ _ k147)).trans k147
    clear k147
    have k163 := (hx.cell (World.block_lt_of_cell? _ _ k148)).trans k148
    clear k148
    have O164 := Lib.hid (O149.out.same hx.block)
    clear O149
    have O165 := Lib.hid (O143.out.same hx.block)
    clear O143
    have B166 := Lib.hid (B150.out.trans (hx.mono B150.out.size))
    clear B150
    have B167 := Lib.hid (B151.out.trans (hx.mono B151.out.size))
    clear B151
    clear hx
    obtain ⟨W168, E1690⟩ : ∃ W, W = W154.alloc (.cells #[.slice q155 q156 q157] 26) := ⟨_, rfl⟩
    have hx : Below W154.heap.size W154 W168 := by rw [E1690]; exact (Below.refl _ _).alloc (Nat.le_refl _) _
    have k170 : W168.cell? ⟨W154.heap.size, 0, none⟩ = some (.slice q155 q156 q157) := by rw [E1690, World.cell?]; simp only [heap_alloc_new]; rfl
    have kx0 := Go.Lib.cell?_alloc_some (.cells #[.slice q155 q156 q157] 26) k161
    have kx1 := Go.Lib.cell?_alloc_some (.cells #[.slice q155 q156 q157] 26) k162
    have kx2 := Go.Lib.cell?_alloc_some (.cells #[.slice q155 q156 q157] 26) k163
    have Z171 := Lib.hid (World.block_lt_of_cell? _ _ k170)
    simp only at Z171
    have Z172 := Lib.hid (hx.size)
    have k173 := (hx.cell (World.block_lt_of_cell? _ _ k161)).trans k161
    clear k161
    have k174 := (hx.cell (World.block_lt_of_cell? _ _ k162)).trans k162
    clear k162
    have k175 := (hx.cell (World.block_lt_of_cell? _ _ k163)).trans k163
    clear k163
    have O176 := Lib.hid (O164.out.same hx.block)
    clear O164
    have O177 := Lib.hid (O165.out.same hx.block)
    clear O165
    have O178 := Lib.hid (O158.out.same hx.block)
    clear O158
    have B179 := Lib.hid (B166.out.trans (hx.mono B166.out.size))
    clear B166
    have B180 := Lib.hid (B167.out.trans (hx.mono B167.out.size))
    clear B167
    clear hx
    have E169 := Lib.hid E1690
    clear E1690
    go_wp2_with fail
    rw [← E169.out]
    clear E169 kx0 kx1 kx2
    clear O177
    go_wp2_with fail
    refine (eqMilnor_same _ _ rx _ O178.out.ints (RW.out.same B180.out.block)).mono ?_
    rintro e W181 ⟨rfl, hx⟩
    have Z182 := Lib.hid (hx.size)
    have k183 := (hx.cell (World.block_lt_of_cell? _ _ k173)).trans k173
    clear k173
    have k184 := (hx.cell (World.block_lt_of_cell? _ _ k174)).trans k174
    clear k174
    have k185 := (hx.cell (World.block_lt_of_cell? _ _ k175)).trans k175
    clear k175
    have k186 := (hx.cell (World.block_lt_of_cell? _ _ k170)).trans k170
    clear k170
    have O187 := Lib.hid (O176.out.same hx.block)
    clear O176
    have O188 := Lib.hid (O178.out.same hx.block)
    clear O178
    have B189 := Lib.hid (B179.out.trans (hx.mono B179.out.size))
    clear B179
    have B190 := Lib.hid (B180.out.trans (hx.mono B180.out.size))
    clear B180
    clear hx
    go_wp2_with fail
    refine (heldMilnor_c (.slice q59 q60 q61) rx 1 _ O187.out.ints (by omega) (by have := HXL.out; have := HSZ1.out; omega)).mono ?_
    rintro e W191 ⟨rfl, hx⟩
    have Z192 := Lib.hid (hx.size)
    have k193 := (hx.cell (World.block_lt_of_cell? _ _ k183)).trans k183
    clear k183
    have k194 := (hx.cell (World.block_lt_of_cell? _ _ k184)).trans k184
    clear k184
    have k195 := (hx.cell (World.block_lt_of_cell? _ _ k185)).trans k185
    clear k185
    have k196 := (hx.cell (World.block_lt_of_cell? _ _ k186)).trans k186
    clear k186
    have O197 := Lib.hid (O187.out.same hx.block)
    clear O187
    have O198 := Lib.hid (O188.out.same hx.block)
    clear O188
    have B199 := Lib.hid (B189.out.trans (hx.mono B189.out.size))
    clear B189
    have B200 := Lib.hid (B190.out.trans (hx.mono B190.out.size))
    clear B190
    clear hx
    go_wp2_with fail
    go_ret
    exact ⟨rfl, B199.out⟩

namespace fnExactConjugateOf_row
theorem own : ownKnob Try.prog.godebug = none := by kernel_rfl
theorem laidOut : laidOutB Try.prog = true := by kernel_rfl
set_option linter.unusedVariables false in
set_option maxRecDepth 100000 in
theorem lifted (os : Os) (started : os.Started) (H : Type) (enc : TypeId × Value → H) :
    ReturnsInHanded {} Try.checked os 12 .any (Rows.fnExactConjugateOfSpec.pre6 enc Try.prog Try.f12 Rows.fnExactConjugateOfRow.domain false) (Rows.fnExactConjugateOfSpec.post enc Try.prog Try.f12 false true false false) := by
  refine returnsInHanded_of_change (C := Try.checked) own started (by kernel_rfl) Try.func12
    (ChangeSpec.witness6 (enc := enc) (C := Try.checked) false ⟨#[], #[.agg #[.slice none 0 0]], []⟩ 8 (by kernel_rfl) (by kernel_rfl) (by kernel_rfl) (by kernel_rfl)) ?_
  intro W base args ds gs before hval0 hW hcnd _
  have hval : ∀ (j : Nat) t v, Try.f12.params[j]? = some t → args[j]? = some v → Value.okWide Try.prog W .any base t v := hval0
  have hW' := hW
  obtain ⟨p, q, hA0, hV, rfl, hfz, hnd⟩ := hW
  have hA : DataW.TrodAll enc Try.prog W 0 (fun _ => true) true Try.f12.params.toList args.toList ds p := hA0
  rw [Try.params12] at hA hval
  obtain ⟨v0, vs0, d0, ds0, p0, q0, hargs, rfl, rfl, h0, r0⟩ := trodAll_cons hA
  obtain ⟨rfl, rfl, rfl⟩ := trodAll_nil r0
  obtain rfl : args = #[v0] := by cases args; simp_all
  obtain ⟨rfl, rfl⟩ := trodVars_none hV
  have k0 := h0
  have lt0 : ∀ x ∈ p0, x.block < W.heap.size := by obtain ⟨m, hm⟩ := k0; exact DataW.trod_lt m _ _ _ hm
  obtain ⟨x0, y0, n0, rfl, f0⟩ := open_agg1 Try.underlying24 (by kernel_rfl) (by kernel_rfl) (hval 0 24 v0 rfl rfl) h0
  obtain ⟨a0, len0, cap0, z0, e0, w0⟩ := isRows_of Try.underlying22 Try.underlying42 Try.underlying2 (by kernel_rfl) (by kernel_rfl) f0
  obtain rfl : x0 = .slice a0 len0 cap0 := by simpa using e0
  clear hA0 hval0
  refine (fnExactConjugateOf_walk W a0 len0 cap0 z0 w0).mono fun e W' ⟨he, bel⟩ => ?_
  subst he
  exact ⟨_, rfl, _, _, _, [], _, [], hW', trodAll_mk1 (shut_bool Try.underlying4 _), (trodAll_cons_mk (Below.trod laidOut (by kernel_rfl) (of_decide_eq_true (by kernel_rfl)) k0 bel lt0) trodAll_mk0), rfl, bel.frame _, fun h => by cases h⟩
theorem over : Rows.fnExactConjugateOfRow.holds Try.pinned (OpenSpec.ofChange Rows.fnExactConjugateOfSpec) :=
  OpenClaim.holds_of_wide 12 Try.f12 rfl rfl rfl rfl rfl rfl rfl ⟨rfl, rfl, rfl, rfl, rfl⟩ rfl rfl rfl rfl rfl (by kernel_rfl) Try.func12 (by kernel_rfl)
    (of_decide_eq_true (by kernel_rfl)) (by unfold Func.isWrapper; first | (rw [if_pos (by decide +kernel)]; kernel_rfl) | (rw [if_neg (by decide +kernel)]; exact ⟨rfl, rfl⟩))
    (fun os started H enc _ => lifted os started H enc)
end fnExactConjugateOf_row
/-- The statement. -/
theorem fnExactConjugateOf_proved : Rows.FnExactConjugateOfSaid := fnExactConjugateOf_row.over
#print axioms fnExactConjugateOf_proved
end Go.Proofs.Ytljpjoegeincoaa

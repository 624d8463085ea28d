/- oddPairs: the pairs that are there an odd number of times. -/
import Derived.Test.YtmnkccjddahcjaaGreatLPrS
import Derived.Test.YtmnkccjddahcjaaGreatLPut
import Derived.Test.YtmnkccjddahcjaaGreatLib4
namespace Go.Proofs.YtmnkccjddahcjaaGreat
open Go.RowKit Go.Sort

theorem put_last {R : List (List Int)} {p : List Int} (hA : Asc R) (h : ∀ z ∈ R, ltL p z = false) :
    put p R = if 0 < R.length ∧ R.getD (R.length - 1) [] = p then R.take (R.length - 1) else R ++ [p] := by
  have hasc : ∀ i j, i < j → j < R.length → ltL (R.getD i []) (R.getD j []) = true := fun i j hij hj => asc_getD hA i j hij hj
  have hle : ∀ j, j < R.length → ltL p (R.getD j []) = false := fun j hj => h _ (by rw [show R.getD j [] = R[j] by simp [hj]]; exact List.getElem_mem _)
  by_cases h0 : 0 < R.length ∧ R.getD (R.length - 1) [] = p
  · rw [if_pos h0, put_split p R (R.length - 1) (by omega) (fun j hj => by rw [← h0.2]; exact hasc _ _ hj (by omega)) (fun _ => by rw [h0.2]; exact ltL_irrefl _), if_pos ⟨by omega, h0.2⟩, List.drop_of_length_le (by omega), List.append_nil]
  · rw [if_neg h0, put_split p R R.length (Nat.le_refl _) (fun j hj => ?_) (fun hh => absurd hh (Nat.lt_irrefl _)), if_neg (fun hh => absurd hh.1 (Nat.lt_irrefl _)), List.take_length, List.drop_length]
    have hl : ltL (R.getD (R.length - 1) []) p = true := by
      cases e : ltL (R.getD (R.length - 1) []) p
      · exact absurd ⟨by omega, ltL_total _ _ e (hle _ (by omega))⟩ h0
      · rfl
    by_cases e : j = R.length - 1
    · rw [e]; exact hl
    · exact ltL_trans _ _ _ (hasc j (R.length - 1) (by omega) (by omega)) hl
theorem getD_enc (l : List (List (List Int))) (i : Nat) (h : i < l.length) : (l.map encP).getD i [] = encP (l.getD i []) := by simp [h]
theorem oddP_asc (l : List (List (List Int))) : Asc ((oddP l).map encP) := by rw [oddP_enc]; exact asc_oddL _
theorem oddP_step {ys : List (List (List Int))} (hs : ys.Pairwise fun a b => ltL (encP b) (encP a) = false) (hp : ∀ y ∈ ys, IsPr y) (x : Nat) (hx : x < ys.length) :
    oddP (ys.take (x + 1)) = if 0 < (oddP (ys.take x)).length ∧ encP ((oddP (ys.take x)).getD ((oddP (ys.take x)).length - 1) []) = encP ys[x] then (oddP (ys.take x)).take ((oddP (ys.take x)).length - 1) else oddP (ys.take x) ++ [ys[x]] := by
  have hpt : ∀ (k : Nat), ∀ y ∈ oddP (ys.take k), IsPr y := fun k y hy => hp y (List.mem_of_mem_take (oddP_mem hy))
  have hy := hp _ (List.getElem_mem hx)
  have hle : ∀ z ∈ (oddP (ys.take x)).map encP, ltL (encP ys[x]) z = false := fun z hz => by
    obtain ⟨q, hq, rfl⟩ := List.mem_map.1 hz
    obtain ⟨i, hi, rfl⟩ := List.getElem_of_mem (oddP_mem hq)
    rw [List.length_take] at hi
    rw [List.getElem_take]
    exact List.pairwise_iff_getElem.1 hs i x _ _ (by omega)
  have hput := put_last (oddP_asc (ys.take x)) hle
  have e1 : (oddP (ys.take (x + 1))).map encP = put (encP ys[x]) ((oddP (ys.take x)).map encP) := by
    rw [List.take_succ_eq_append_getElem hx, oddP_snoc, putP_enc]
  rw [hput, List.length_map] at e1
  refine enc_map_inj (hpt (x + 1)) (fun y hy2 => ?_) ?_
  · split at hy2
    · exact hpt x y (List.mem_of_mem_take hy2)
    · rcases List.mem_append.1 hy2 with h | h
      · exact hpt x y h
      · rw [List.mem_singleton.1 h]; exact hy
  · rw [e1]
    by_cases h0 : 0 < (oddP (ys.take x)).length
    · rw [getD_enc _ _ (by omega)]
      split
      · rw [List.map_take]
      · rw [List.map_append]; rfl
    · rw [if_neg (fun h => h0 h.1), if_neg (fun h => h0 h.1), List.map_append]; rfl
theorem own_upto {w : World} {B e n : Nat} {ao : Option Addr} {c : Nat} {us : List Value} (a : w.ownsRow B e 1 (.slice ao n c) n us) (m : Nat) (hm : m ≤ n) : w.ownsRow B e 1 (.slice ao m c) m (us.take m) := by
  obtain ⟨h1, h2⟩ := a
  rw [Nat.mul_one] at h1
  refine ⟨by rw [List.length_take]; omega, ?_⟩
  rcases h2 with ⟨hv, h0⟩ | ⟨g, cap, cur, hv, hb, hg, h3, h4, h5, h6⟩
  · simp only [Value.slice.injEq] at hv
    obtain ⟨rfl, -, rfl⟩ := hv
    exact .inl ⟨by rw [show m = 0 by omega], by omega⟩
  · simp only [Value.slice.injEq, true_and] at hv
    obtain ⟨rfl, rfl⟩ := hv
    refine .inr ⟨g, c, cur, rfl, hb, hg, by omega, h4, h5, ?_⟩
    rw [Nat.mul_one] at *
    rw [← h6, List.take_take, Nat.min_eq_left hm]
theorem RefSS.take {w : World} {B n c : Nat} {h : Array Obj} {ao : Option Addr} {us : List Value} {xsss : List (List (List Int))} (a : RefSS w B h (.slice ao n c) us xsss) (hn : xsss.length = n) (m : Nat) (hm : m ≤ n) : RefSS w B h (.slice ao m c) (us.take m) (xsss.take m) := by
  refine ⟨?_, fun i u xss hu hx => ?_⟩
  · have := a.row
    rw [hn] at this
    rw [List.length_take, hn, Nat.min_eq_left hm]
    exact own_upto this m hm
  · rw [List.getElem?_take] at hu hx
    split at hu
    · rename_i hi
      rw [if_pos hi] at hx
      exact a.each i u xss hu hx
    · cases hu
set_option maxRecDepth 100000 in
theorem oddPairs_c (v : Value) (us : List Value) (xsss : List (List (List Int))) (B : Nat) (w : World) (hR : RefSS w B w.heap v us xsss) (hB : B ≤ w.heap.size) (hl : xsss.length ≤ 4398046511104) (hpr : ∀ x ∈ xsss, IsPr x) :
    Calls Tryz.prog 185 #[v] w fun e w' => ∃ r us', e = .returned r ∧ RefSS w' w.heap.size w'.heap r us' (oddP xsss) ∧ Below B w w' ∧ KeepT 22 w w' := by
  have SO := Lib.hid (sortSSS_c v us xsss B w hR hB (by omega) hpr)
  obtain ⟨ra, rn, rc, rfl⟩ := own_shape hR.row
  clear hR
  go_enter Tryz.func185, Tryz.ntmps185
  go_wp2_with (go_at_call 198; refine SO.out.mono ?_; rintro e w2 ⟨rfl, us2, ys, hR2, hperm, hsort, hb2, hk2⟩)
  have hlen : rn = ys.length := by
    obtain ⟨_, _, hv, _⟩ := SlAt.len (slAt_of_own hR2.row)
    simp only [Value.slice.injEq] at hv
    rw [hv.2.1, hR2.len]
  subst hlen
  have hpl := hperm.length_eq
  have HPY : Hid (∀ y ∈ ys, IsPr y) := fun y hy => hpr y (hperm.mem_iff.1 hy)
  have HPE := Lib.hid (oddP_perm HPY.out hperm)
  have HSO := Lib.hid hsort
  have HB2 := Lib.hid hb2
  have HK2 := Lib.hid hk2
  have HR : Hid (IntSSS w2.heap (.slice ra ys.length rc) ys) := ⟨us2, slAt_of_own hR2.row, hR2.len, fun i u xs hu hx => (hR2.each i u xs hu hx).keepT (by decide) (by decide) hk2⟩
  have hyl : ys.length ≤ 4398046511104 := by omega
  have hsz0 := hb2.size
  clear hR2 hperm hsort hb2 hk2 SO hpr hpl
  go_wp2_with fail
  go_loopw [3, 12] (fun o i wr => ∃ (x : Nat) (us : List Value), x ≤ ys.length ∧ i = .int .i64 x ∧ RefSS wr w2.heap.size wr.heap o us (oddP (ys.take x)) ∧ Below w2.heap.size w2 wr) (fun _ i _ => ys.length - (intOf i).toNat)
  case atStart => exact ⟨0, [], Nat.zero_le _, rfl, refSS_empty _ (Nat.le_refl _), (Below.refl _ _).alloc (Nat.le_refl _) _⟩
  case round =>
    obtain ⟨x, us, hx, rfl, hU, hbl⟩ := hrel
    by_cases hxl : x < ys.length
    · obtain ⟨b1, o1, c1, u1, hv1, hc1, hu1, -⟩ := HR.out.at x hxl
      simp only [Value.slice.injEq, true_and] at hv1
      obtain ⟨rfl, rfl⟩ := hv1
      have hcx := (hbl.cell (World.block_lt_of_cell? _ _ hc1)).trans hc1
      have HU1 := Lib.hid (hu1.same hbl.block)
      obtain ⟨ua, uc, rfl, -⟩ := hu1.len
      have HPX := Lib.hid (HPY.out _ (List.getElem_mem hxl))
      have HST := Lib.hid (oddP_step HSO.out HPY.out x hxl)
      have HPR : Hid (∀ y ∈ oddP (ys.take x), IsPr y) := fun y hy => HPY.out y (List.mem_of_mem_take (oddP_mem hy))
      have hol : (oddP (ys.take x)).length ≤ 4398046511104 := by
        have := oddP_length (ys.take x); rw [List.length_take] at this; omega
      have HB := Lib.hid hbl; have hsz := hbl.size
      have hxi : (x : Int) < ys.length := by omega
      clear hc1 hu1 hbl
      generalize ys[x] = y at *
      generalize oddP (ys.take x) = R at *
      have HOL := Lib.hid hol
      rcases Nat.eq_zero_or_pos R.length with h0 | h0
      · obtain rfl : R = [] := List.eq_nil_of_length_eq_zero h0
        obtain ⟨va, vc, rfl, -⟩ := hU.ints (fun _ _ => rfl) |>.len
        have HS : Hid (oddP (ys.take (x + 1)) = [] ++ [y]) := by show _ = _; rw [HST.out, if_neg (fun h => absurd h.1 (by simp))]
        have HU := Lib.hid hU
        clear hU HST hol h0
        go_wp2_with (at_builtin; refine append_refSS rfl _ _ rfl w2.heap.size _ _ us _ y HU.out rfl HU1.out HB.out hsz _ rfl rfl HOL.out ?_; intro v3 us3 w4 hU3 hb3 _ _; obtain ⟨sa, sn, sc, rfl⟩ := own_shape hU3.row)
        go_roundw
        case rel => exact ⟨x + 1, us3, by omega, by go_num, by rw [HS.out]; exact hU3, hb3⟩
        case measure => simp [intOf]; omega
      · obtain ⟨m, hm⟩ : ∃ m, R.length = m + 1 := ⟨R.length - 1, by omega⟩
        obtain ⟨b2, o2, c2, u2, rfl, hc2, hu2, -⟩ := (hU.ints (fun _ _ => rfl)).at m (by omega)
        have hcap : m + 1 ≤ c2 := by
          obtain ⟨_, _, hv, h3, _⟩ := SlAt.len (slAt_of_own hU.row)
          simp only [Value.slice.injEq] at hv
          have := hU.len
          omega
        have HP2 := Lib.hid (HPR.out _ (List.getElem_mem (show m < R.length by omega)))
        have hgl : R.getD (R.length - 1) [] = R[m] := by simp [hm]
        rw [hgl] at HST
        obtain ⟨wa, wc, rfl, -⟩ := hu2.len
        have HU2 := Lib.hid hu2
        have CP := Lib.hid (comparePairs_c _ _ _ _ wr hu2 HU1.out HP2.out HPX.out)
        have HTK := Lib.hid (hU.take rfl m (by omega))
        have HU := Lib.hid hU
        have HM := Lib.hid hm
        have hmb : (m : Int) + 1 ≤ 4398046511104 := by omega
        by_cases he : encP R[m] = encP y
        · have HS : Hid (oddP (ys.take (x + 1)) = R.take m) := by show _ = _; rw [HST.out, if_pos ⟨h0, he⟩, hm, Nat.add_sub_cancel]
          rw [(cmpL_zero _ _).2 he] at CP
          clear hU hu2 hgl he HST hol h0 HPR
          generalize R[m] = rm at *
          rw [hm] at HOL ⊢
          have t1 := (eqB (show (0 : Int) = 0 by rfl)).2
          have hs1 : (m : Int) + 1 - 1 = m := by omega
          have hm0 : (0 : Int) ≤ m := by omega
          have hmc : (m : Int) ≤ c2 := by omega
          clear hm
          go_wp2_with (go_at_call 199; refine CP.out.mono ?_; rintro e w' ⟨rfl, rfl⟩)
          go_roundw
          case rel => exact ⟨x + 1, us.take m, by omega, by go_num, by rw [HS.out]; exact HTK.out, HB.out⟩
          case measure => simp [intOf]; omega
        · have HS : Hid (oddP (ys.take (x + 1)) = R ++ [y]) := by show _ = _; rw [HST.out, if_neg (fun h => he h.2)]
          have hq : cmpL (encP R[m]) (encP y) = 1 ∨ cmpL (encP R[m]) (encP y) = -1 := (cmpL_some _ _).resolve_left fun h => he ((cmpL_zero _ _).1 h)
          clear hU hu2 hgl he HST hol h0 HPR
          generalize cmpL (encP R[m]) (encP y) = q at *
          generalize R[m] = rm at *
          rw [hm] at HOL HU ⊢
          have hs1 : (m : Int) + 1 - 1 = m := by omega
          have hm0 : (0 : Int) ≤ m := by omega
          clear hm
          rcases hq with rfl | rfl
          · have t1 := (neB (show (1 : Int) ≠ 0 by decide)).1
            go_wp2_with (first | (go_at_call 199; refine CP.out.mono ?_; rintro e w' ⟨rfl, rfl⟩) | (at_builtin; refine append_refSS rfl _ _ rfl w2.heap.size _ _ us R y HU.out rfl HU1.out HB.out hsz _ rfl rfl (Nat.le_trans (Nat.le_of_eq HM.out) HOL.out) ?_; intro v3 us3 w4 hU3 hb3 _ _; obtain ⟨sa, sn, sc, rfl⟩ := own_shape hU3.row))
            go_roundw
            case rel => exact ⟨x + 1, us3, by omega, by go_num, by rw [HS.out]; exact hU3, hb3⟩
            case measure => simp [intOf]; omega
          · have t1 := (neB (show (-1 : Int) ≠ 0 by decide)).1
            go_wp2_with (first | (go_at_call 199; refine CP.out.mono ?_; rintro e w' ⟨rfl, rfl⟩) | (at_builtin; refine append_refSS rfl _ _ rfl w2.heap.size _ _ us R y HU.out rfl HU1.out HB.out hsz _ rfl rfl (Nat.le_trans (Nat.le_of_eq HM.out) HOL.out) ?_; intro v3 us3 w4 hU3 hb3 _ _; obtain ⟨sa, sn, sc, rfl⟩ := own_shape hU3.row))
            go_roundw
            case rel => exact ⟨x + 1, us3, by omega, by go_num, by rw [HS.out]; exact hU3, hb3⟩
            case measure => simp [intOf]; omega
    · obtain rfl : x = ys.length := by omega
      rw [List.take_length, HPE.out] at hU
      obtain ⟨va, vc, rfl, -⟩ := hU.ints (fun _ _ => rfl) |>.len
      go_wp2_with fail
      go_ret
      exact ⟨_, _, rfl, ⟨own_base hU.row hsz0, hU.each⟩, HB2.out.trans (hbl.mono (by omega)), fun b cs t f ne hb => (hbl.block b (Nat.lt_of_lt_of_le (Array.getElem?_eq_some_iff.1 hb).1 hsz0)).trans (HK2.out b cs t f ne hb)⟩
end Go.Proofs.YtmnkccjddahcjaaGreat

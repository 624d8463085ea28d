/- ProjectiveModule, of the program and of the reference. -/
import Derived.Test.YtlakdlnfijkaeaaLMod
import Derived.Test.YtlakdlnfijkaeaaLWf
import Derived.Test.YtlakdlnfijkaeaaFn
import Derived.Test.YtlakdlnfijkaeaaLCell
namespace Go.Proofs.Ytlakdlnfijkaeaa
open Go.RowKit Go.Sort

/-- The row of the square i of the element b, if there is one. -/
def prR (m s i b : Nat) : List (List Int) := if b + i ≤ s ∧ par ((m : Int) + b) i = true then [[(i : Int), (b : Int), (b : Int) + i]] else []
def prB (m s i : Nat) : Nat → List (List Int)
  | 0 => []
  | b + 1 => prB m s i b ++ prR m s i b
def prN (m s : Nat) : Nat → List (List Int)
  | 0 => []
  | k + 1 => prN m s k ++ prB m s (k + 1) (s + 1)
def prSq (m s i b : Nat) : Int := if b + i ≤ s ∧ par ((m : Int) + b) i = true then 2 ^ (b + i) else 0
theorem bit_pow : ∀ e : Nat, e < 16 → ∀ c : Nat, c < 16 → bitB (2 ^ e) c = decide (e = c) := by decide +kernel
theorem bit_none : ∀ c : Nat, c < 16 → bitB 0 c = false := by decide +kernel
theorem prC (m s i b : Nat) (hs : s < 16) : ∀ c, c ≤ s + 1 → modC (prSq m s) i b c = if b + i < c then prR m s i b else [] := by
  intro c
  induction c with
  | zero => intro _; simp [modC]
  | succ c ih =>
    intro hc
    rw [modC, ih (by omega)]
    by_cases hp : b + i ≤ s ∧ par ((m : Int) + b) i = true
    · rw [show prSq m s i b = 2 ^ (b + i) by rw [prSq, if_pos hp], bit_pow (b + i) (by omega) c (by omega)]
      by_cases e : b + i = c
      · rw [if_neg (show ¬ b + i < c by omega), if_pos (show b + i < c + 1 by omega), prR, if_pos hp, ← e]; simp
      · rw [decide_eq_false e]
        by_cases h2 : b + i < c
        · rw [if_pos h2, if_pos (show b + i < c + 1 by omega)]; simp
        · rw [if_neg h2, if_neg (show ¬ b + i < c + 1 by omega)]; simp
    · have hz : prR m s i b = [] := by rw [prR, if_neg hp]
      rw [show prSq m s i b = 0 by rw [prSq, if_neg hp], bit_none c (by omega), hz]; simp
theorem prBB (m s i : Nat) (hs : s < 16) : ∀ b, modB (prSq m s) (s + 1) i b = prB m s i b := by
  intro b
  induction b with
  | zero => rfl
  | succ b ih =>
    rw [modB, prB, ih, prC m s i b hs (s + 1) (Nat.le_refl _)]
    by_cases h : b + i ≤ s
    · rw [if_pos (by omega)]
    · rw [if_neg (by omega), prR, if_neg (fun x => h x.1)]
theorem prNN (m s : Nat) (hs : s < 16) : ∀ k, modN (prSq m s) (s + 1) k = prN m s k := by
  intro k
  induction k with
  | zero => rfl
  | succ k ih => rw [modN, prN, ih, prBB m s (k + 1) hs]
/-- Behind the place from which on no row stands. -/
theorem prB_stop (m s i b k : Nat) (hb : s + 1 ≤ b + i) (hk : b ≤ k) : prB m s i k = prB m s i b := by
  induction k with
  | zero => rw [show b = 0 by omega]
  | succ k ih =>
    by_cases e : b = k + 1
    · rw [e]
    · rw [prB, ih (by omega), prR, if_neg (fun x => by omega)]; simp
theorem prN_stop (m s k : Nat) (hk : s ≤ k) : prN m s k = prN m s s := by
  induction k with
  | zero => rw [show s = 0 by omega]
  | succ k ih =>
    by_cases e : s = k + 1
    · rw [e]
    · rw [prN, ih (by omega), prB_stop m s (k + 1) 0 (s + 1) (by omega) (by omega)]; simp [prB]
def prDeg (m : Int) (k : Nat) : List Int := (List.range k).map fun (i : Nat) => m + i
theorem prDeg_length (m : Int) (k : Nat) : (prDeg m k).length = k := by simp [prDeg]
theorem prDeg_succ (m : Int) (k : Nat) : prDeg m (k + 1) = prDeg m k ++ [m + k] := by simp [prDeg, List.range_succ]
theorem prN_len (m s k : Nat) : (prN m s k).length ≤ k * (s + 1) ∧ cnt (prN m s k) ≤ 3 * (k * (s + 1)) := by
  have hB : ∀ i b, (prB m s i b).length ≤ b ∧ cnt (prB m s i b) ≤ 3 * b := by
    intro i b
    induction b with
    | zero => simp [prB, cnt]
    | succ b ih => rw [prB, List.length_append, cnt_append]; unfold prR; split <;> simp [cnt] at * <;> omega
  induction k with
  | zero => simp [prN, cnt]
  | succ k ih => rw [prN, List.length_append, cnt_append, Nat.succ_mul]; have := hB (k + 1) (s + 1); omega
theorem prB_len (m s i b : Nat) : (prB m s i b).length ≤ b := by
  induction b with
  | zero => simp [prB]
  | succ b ih => rw [prB, List.length_append]; unfold prR; split <;> simp <;> omega
theorem OwnM.cast {w : World} {B : Nat} {d a : Value} {us : List Value} {ds : List Int} {act act' : List (List Int)} (h : OwnM w B d a us ds act) (e : act = act') : OwnM w B d a us ds act' := e ▸ h
theorem OwnI.cast {w : World} {B : Nat} {v : Value} {xs ys : List Int} (h : OwnI w B v xs) (e : xs = ys) : OwnI w B v ys := e ▸ h
set_option maxHeartbeats 400000 in
theorem l11Projective_c (m s : Nat) (n : Int) (hn : n = (m : Int) + s) (hm : m + s ≤ 20) (w : World) :
    Calls Try.prog 66 #[.int .i64 m, .int .i64 n] w fun e w' => ∃ d a us, e = .returned (.agg #[d, a]) ∧ OwnM w' w.heap.size d a us (prDeg m (s + 1)) (prN m s s) ∧ Below w.heap.size w w' := by
  have hn1 : 0 ≤ n ∧ n ≤ 20 := by omega
  have HN := Lib.hid hn
  have hs1 : n - m = s := by omega
  have HS := Lib.hid hs1
  go_enter Try.func66, Try.ntmps66
  clear hn hs1
  go_wp2_with fail
  go_loopw [6] (fun i wr => ∃ (j : Nat) (dv : Value), j ≤ s + 1 ∧ i = .int .i64 ((m : Int) + j) ∧ OwnI wr w.heap.size dv (prDeg m j) ∧ Var2 wr w.heap.size (.slice none 0 0) (.slice none 0 0) 42 ∧ Var2 wr (w.heap.size + 1) dv (.slice none 0 0) 42 ∧ Below w.heap.size w wr) (fun i _ => m + s + 1 - (intOf i).toNat)
  case atStart =>
    refine ⟨0, .slice none 0 0, Nat.zero_le _, by simp, OwnI.nil _ _, (Var2.new w _ _ _).kept (alloc_old _ _), by simpa using Var2.new (w.alloc _) _ _ _, ((Below.refl _ w).alloc (Nat.le_refl _) _).alloc (by simp) _⟩
  case round =>
    obtain ⟨j, dv, hj, rfl, hO, hV4, hV5, hbl⟩ := hrel
    obtain ⟨pd, nd, cd, rfl⟩ := own_shape hO
    by_cases hlt : j < s + 1
    · have t6 : (m : Int) + j ≤ n := by have := HN.out; omega
      have hl := prDeg_length m j
      have hs := hbl.size
      have c0 := hV5.c0; have c1 := hV5.c1
      have HNA := Lib.hid (own_ne_var hO hV5 (by decide))
      have HNB := Lib.hid (own_ne_var hO hV4 (by decide))
      have HO := Lib.hid hO; have H4 := Lib.hid hV4; have H5 := Lib.hid hV5; have HB := Lib.hid hbl; clear hO hV4 hV5 hbl
      go_wp2_with (first | (at_builtin; refine append_int (w := wr) rfl _ _ rfl _ _ _ _ HO.out rfl HB.out hs _ rfl (by simp) (by omega) ?_; intro v' w' hown' hbl' _ hk'; obtain ⟨pv, nv, cv, rfl⟩ := own_shape hown'; have V5' := H5.out.same (hk' _ H5.out.lt (fun e => HNA.out e.symm)); have V4' := H4.out.same (hk' _ H4.out.lt (fun e => HNB.out e.symm)); have d0 := V5'.c0; have fr := V5'.free 0; have HO' := Lib.hid hown'; have H4' := Lib.hid V4'; have H5' := Lib.hid V5'; have HB' := Lib.hid hbl'; clear hown' V4' V5' hbl' hk'))
      go_roundw
      case rel =>
        exact ⟨j + 1, .slice pv nv cv, by omega, by go_num, ((HO'.out.cast (prDeg_succ m j).symm).setVar H5'.out (by decide) _), H4'.out.setFar _ (by show w.heap.size ≠ w.heap.size + 1; omega) _, H5'.out.set0 _, HB'.out.setCell (by show w.heap.size ≤ w.heap.size + 1; omega) _⟩
      case measure => simp [intOf]; omega
    · obtain rfl : j = s + 1 := by omega
      have t6 : ¬ (m : Int) + ((s + 1 : Nat) : Int) ≤ n := by have := HN.out; omega
      have HO := Lib.hid hO; have H4 := Lib.hid hV4; have H5 := Lib.hid hV5; have HB := Lib.hid hbl; clear hO hV4 hV5 hbl
      go_wp2_with fail
      obtain ⟨wo, rfl⟩ : ∃ wo : World, wo = wr := ⟨_, rfl⟩
      have t13 : decide ((m : Int) + ((s : Int) + 1) ≤ n) = false := by simp; have := HN.out; omega
      simp only [t13]
      clear t13 t6
      go_loopw [7] (fun i wr => ∃ (k : Nat) (av : Value) (us : List Value), k ≤ s ∧ i = .int .i64 ((k : Int) + 1) ∧ OwnM wr w.heap.size (.slice pd nd cd) av us (prDeg m (s + 1)) (prN m s k) ∧ Var2 wr w.heap.size (.slice none 0 0) (.slice none 0 0) 42 ∧ Var2 wr (w.heap.size + 1) (.slice pd nd cd) av 42 ∧ Below w.heap.size w wr) (fun i _ => s + 1 - (intOf i).toNat)
      case atStart =>
        exact ⟨0, .slice none 0 0, [], Nat.zero_le _, rfl, ⟨HO.out, (OwnM.nil _ _).act, fun u hu => by simp at hu⟩, H4.out, H5.out, HB.out⟩
      case round =>
        clear HO H4 H5 HB
        obtain ⟨k, av, us, hk, rfl, hM, hV4, hV5, hbl⟩ := hrel
        by_cases hks : k < s
        · have t7 : (k : Int) + 1 ≤ n - m := by rw [HS.out]; omega
          have t7b : decide ((k : Int) + 1 ≤ n - m) = true := by simp only [decide_eq_true_eq]; exact t7
          have HM := Lib.hid hM; have H4 := Lib.hid hV4; have H5 := Lib.hid hV5; have HB := Lib.hid hbl; clear hM hV4 hV5 hbl
          go_wp2_with fail
          clear t7 t7b
          obtain ⟨wp, rfl⟩ : ∃ wp : World, wp = wr := ⟨_, rfl⟩
          go_loopw [8] (fun i wr => ∃ (b : Nat) (av : Value) (us : List Value), b + (k + 1) ≤ s + 1 ∧ i = .int .i64 ((m : Int) + b) ∧ OwnM wr w.heap.size (.slice pd nd cd) av us (prDeg m (s + 1)) (prN m s k ++ prB m s (k + 1) b) ∧ Var2 wr w.heap.size (.slice none 0 0) (.slice none 0 0) 42 ∧ Var2 wr (w.heap.size + 1) (.slice pd nd cd) av 42 ∧ Below w.heap.size w wr) (fun i _ => m + s + 1 - (intOf i).toNat)
          case atStart => exact ⟨0, av, us, by omega, by simp, HM.out.cast (by simp [prB]), H4.out, H5.out, HB.out⟩
          case round =>
            clear HM H4 H5 HB
            obtain ⟨b, av, us, hb, rfl, hM, hV4, hV5, hbl⟩ := hrel
            obtain ⟨pa, na, ca, rfl⟩ := own_shape hM.act.row
            by_cases hlt : b + (k + 1) < s + 1
            · have t8 : (m : Int) + b + (k + 1) ≤ n := by have := HN.out; omega
              have t8b : decide ((m : Int) + b + (k + 1) ≤ n) = true := by simp only [decide_eq_true_eq]; exact t8
              cases hpar : par ((m : Int) + b) ((k + 1 : Nat) : Int)
              · have hst : prB m s (k + 1) (b + 1) = prB m s (k + 1) b := by
                  rw [prB, prR, if_neg (by rw [hpar]; simp)]; simp
                have hp : parI ((m : Int) + b) ((k : Int) + 1) = 0 := by unfold parI; rw [show ((k : Int) + 1) = ((k + 1 : Nat) : Int) by omega, hpar]; rfl
                have HST := Lib.hid hst; have HP := Lib.hid hp; have HM := Lib.hid hM; have H4 := Lib.hid hV4; have H5 := Lib.hid hV5; have HB := Lib.hid hbl; clear hst hp hpar hM hV4 hV5 hbl
                go_wp2_with fail
                refine (l01Parity_par _ _ _ (by omega) (by omega) (by omega) (by omega)).mono ?_
                rw [HP.out]
                rintro e w' ⟨rfl, rfl⟩
                go_wp2_with fail
                go_roundw
                case rel => exact ⟨b + 1, _, us, by omega, by go_num, HM.out.cast (by rw [HST.out]), H4.out, H5.out, HB.out⟩
                case measure => simp [intOf]; omega
              · have hst : prB m s (k + 1) (b + 1) = prB m s (k + 1) b ++ [[((k + 1 : Nat) : Int), (b : Int), (b : Int) + ((k + 1 : Nat) : Int)]] := by
                  rw [prB, prR, if_pos ⟨by omega, hpar⟩]
                have hp : parI ((m : Int) + b) ((k : Int) + 1) = 1 := by unfold parI; rw [show ((k : Int) + 1) = ((k + 1 : Nat) : Int) by omega, hpar]; rfl
                have hln : (prN m s k ++ prB m s (k + 1) b).length ≤ 4398046511104 := by
                  have q1 := (prN_len m s k).1; have q2 := prB_len m s (k + 1) b
                  have q5 : k * (s + 1) ≤ 20 * 21 := Nat.mul_le_mul (by omega) (by omega)
                  simp only [List.length_append]; omega
                have hsz := hbl.size
                have c0 := hV5.c0; have c1 := hV5.c1
                have HNA := Lib.hid (own_ne_var hM.act.row hV5 (by decide))
                have HNB := Lib.hid (own_ne_var hM.act.row hV4 (by decide))
                have HLN := Lib.hid hln
                have HST := Lib.hid hst; have HP := Lib.hid hp; have HM := Lib.hid hM; have H4 := Lib.hid hV4; have H5 := Lib.hid hV5; have HB := Lib.hid hbl; clear hst hp hpar hM hV4 hV5 hbl hln
                go_wp2_with fail
                refine (l01Parity_par _ _ _ (by omega) (by omega) (by omega) (by omega)).mono ?_
                rw [HP.out]
                rintro e w' ⟨rfl, rfl⟩
                go_wp2_with (first | (at_builtin; refine append_rowM (w := wr.alloc _) (wE := wr) rfl _ _ rfl _ _ _ _ _ _ _ _ HM.out rfl (ownI_lit3 (Nat.le_refl _) _ _ _) ((Below.refl _ _).alloc (Nat.le_refl _) _) HB.out hsz _ rfl (by simp) HLN.out ?_; intro v' w' hown' hbl' _ hk'; obtain ⟨pv, nv, cv, rfl⟩ := own_shape hown'.act.row; have V5' := H5.out.same ((hk' _ (by have := H5.out.lt; simp; omega) (fun e => HNA.out e.symm)).trans (alloc_old _ _ _ H5.out.lt)); have V4' := H4.out.same ((hk' _ (by have := H4.out.lt; simp; omega) (fun e => HNB.out e.symm)).trans (alloc_old _ _ _ H4.out.lt)); have d1 := V5'.c1; have fr := V5'.free 1; have HM' := Lib.hid hown'; have H4' := Lib.hid V4'; have H5' := Lib.hid V5'; have HB' := Lib.hid hbl'; clear hown' V4' V5' hbl' hk'))
                go_roundw
                case rel =>
                  refine ⟨b + 1, .slice pv nv cv, us ++ [.slice (some ⟨wr.heap.size, 0, none⟩) 3 3], by omega, by go_num, ?_, ?_, H5'.out.set1 _, HB'.out.setCell (by show w.heap.size ≤ w.heap.size + 1; omega) _⟩
                  · refine OwnM.cast ((by simpa using HM'.out : OwnM w' w.heap.size (.slice pd nd cd) (.slice pv nv cv) _ _ _).setVar H5'.out (by decide) (by decide) _) ?_
                    rw [HST.out]; simp; try omega
                  · exact H4'.out.setFar _ (by show w.heap.size ≠ w.heap.size + 1; omega) _
                case measure => simp [intOf]; omega
            · have e1 : b + (k + 1) = s + 1 := by omega
              have t8 : ¬ (m : Int) + b + (k + 1) ≤ n := by have := HN.out; omega
              have t8b : decide ((m : Int) + b + (k + 1) ≤ n) = false := by simp only [decide_eq_false_iff_not]; exact t8
              have hst : prN m s (k + 1) = prN m s k ++ prB m s (k + 1) b := by rw [prN, prB_stop m s (k + 1) b (s + 1) (by omega) (by omega)]
              have HST := Lib.hid hst; have HM := Lib.hid hM; have H4 := Lib.hid hV4; have H5 := Lib.hid hV5; have HB := Lib.hid hbl; clear hst hM hV4 hV5 hbl
              go_wp2_with fail
              go_roundw
              case rel => exact ⟨k + 1, _, us, by omega, by go_num, HM.out.cast (by rw [HST.out]), H4.out, H5.out, HB.out⟩
              case measure => simp [intOf]; omega
        · obtain rfl : k = s := by omega
          have t7 : ¬ (k : Int) + 1 ≤ n - m := by rw [HS.out]; omega
          have t7b : decide ((k : Int) + 1 ≤ n - m) = false := by simp only [decide_eq_false_iff_not]; exact t7
          have c0 := hV5.c0; have c1 := hV5.c1
          have e0 := hV4.c0; have e1 := hV4.c1; have f0 := hV4.free 0; have f1 := hV4.free 1
          obtain ⟨pa, na, ca, rfl⟩ := own_shape hM.act.row
          have HM := Lib.hid hM; have H4 := Lib.hid hV4; have HB := Lib.hid hbl; clear hM hV4 hV5 hbl
          go_wp2_with fail
          have W4 := H4.out.set0 (.slice pd nd cd)
          have g0 := W4.c0
          have g1 := (W4.set1 (.slice pa na ca)).c1
          exact bodyPost_ret (v := .agg #[.slice pd nd cd, .slice pa na ca]) (by simp [results, Try.results66, go_sem, g0, g1])  rfl ⟨_, _, rfl, ⟨us, (HM.out.setVar H4.out (by decide) (by decide) _).setVar (H4.out.set0 _) (by decide) (by decide) _⟩, (HB.out.setCell (Nat.le_refl _) _).setCell (Nat.le_refl _) _⟩
end Go.Proofs.Ytlakdlnfijkaeaa

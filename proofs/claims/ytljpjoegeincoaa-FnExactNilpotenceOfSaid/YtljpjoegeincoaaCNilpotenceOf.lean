/- What is proved: for every input the law FnExactNilpotenceOf returns true and its arguments read behind the call as before: the program's NilpotenceOf and the reference's agree, and the result is the call's own. No condition. -/
import Derived.Test.YtljpjoegeincoaaRows
import Derived.Test.YtljpjoegeincoaaLMulM
import Derived.Test.YtljpjoegeincoaaLCount
import Derived.Test.YtljpjoegeincoaaLPair
import Derived.Test.YtljpjoegeincoaaLMilArg
import Derived.Test.YtljpjoegeincoaaLSort
import Derived.Test.YtljpjoegeincoaaLGen
import Derived.Test.YtljpjoegeincoaaLHeld2
import Derived.Deep.DeepCutAuto
import Derived.Lib.SliceRun
import Derived.OpenShut
import Derived.ShutString
import Derived.ChangeOld
namespace Go.Proofs.Ytljpjoegeincoaa
section
open Go.RowKit Go.Sort

theorem degreeOfT_c (v : Value) (xss : List (List Int)) (w : World) (h : IntSS w.heap v xss) (hT : arT xss = true) :
    Calls Try.prog 71 #[v] w fun e w' => e = .returned (.int .i64 (degT xss)) ∧ w = w' := by
  refine (degreeOf_c v xss w h).mono fun _ _ ⟨⟨d, he, hd⟩, hw⟩ => ⟨?_, hw⟩
  rw [he, hd]
  by_cases h0 : xss.length = 0
  · obtain rfl : xss = [] := List.eq_nil_of_length_eq_zero h0
    rfl
  · exact (arT_row hT _ (by rw [show xss.getD 0 [] = xss[0]'(by omega) by simp [show 0 < xss.length by omega]]; exact List.getElem_mem _)).1
theorem degT_bound {xss : List (List Int)} (hT : arT xss = true) : 0 ≤ degT xss ∧ degT xss ≤ 40 := by
  by_cases h0 : xss.length = 0
  · obtain rfl : xss = [] := List.eq_nil_of_length_eq_zero h0
    exact ⟨Int.le_refl 0, by decide⟩
  · exact (arT_row hT _ (by rw [show xss.getD 0 [] = xss[0]'(by omega) by simp [show 0 < xss.length by omega]]; exact List.getElem_mem _)).2
end
section
open Go.RowKit Go.Sort

/-- The product of j + 1 copies of an element. -/
def nilP (a : List (List Int)) : Nat → List (List Int)
  | 0 => a
  | j + 1 => oddL (prodsL (nilP a j) a)
def nilF (a : List (List Int)) (d : Int) : Nat → Nat → Int × Int
  | 0, _ => (0, 3)
  | f + 1, j => if (nilP a j).length = 0 then ((j : Int) + 1, 0) else if ((j : Int) + 1 + 1) * d > 40 then (0, 3) else nilF a d f (j + 1)
def nilB (a : List (List Int)) : Int × Int := if arT a = false then (0, 1) else if a.length = 0 then (1, 0) else if degT a = 0 then (0, 5) else nilF a (degT a) 41 0
theorem nilP_asc {a : List (List Int)} (h : Asc a) (j : Nat) : Asc (nilP a j) := by
  cases j with
  | zero => exact h
  | succ j => exact asc_oddL _
theorem nilP_exp {a : List (List Int)} {d : Int} (ha : ExpD d a) (hd : 0 ≤ d) : ∀ j : Nat, ((j : Int) + 1) * d ≤ 40 → ExpD (((j : Int) + 1) * d) (nilP a j) := by
  intro j
  induction j with
  | zero => intro _; simpa [nilP] using ha
  | succ j ih =>
    intro h
    have e : (((j + 1 : Nat) : Int) + 1) * d = ((j : Int) + 1) * d + d := by rw [Int.natCast_add, Int.add_mul (((j : Nat) : Int) + ((1 : Nat) : Int))]; simp
    rw [e] at h ⊢
    have hk : 0 ≤ ((j : Int) + 1) * d := Int.mul_nonneg (by omega) hd
    exact (prodsL_exp (ih (by omega)) ha hk hd h).odd
/-- What the next product asks. -/
theorem nil_ok {a : List (List Int)} {d : Int} (ha : ExpD d a) (aa : Asc a) (hd : 1 ≤ d) (j : Nat) (h : ((j : Int) + 1 + 1) * d ≤ 40) : SmS 1000000000000 20 (nilP a j) ∧ SmS 1000000000000 20 a ∧ (prodsL (nilP a j) a).length ≤ 100000000 ∧ ∀ x ∈ prodsL (nilP a j) a, x.length ≤ 5 := by
  have e : ((j : Int) + 1 + 1) * d = ((j : Int) + 1) * d + d := by rw [Int.add_mul ((j : Int) + 1)]; simp
  rw [e] at h
  have hk : 0 ≤ ((j : Int) + 1) * d := Int.mul_nonneg (by omega) (by omega)
  exact prods_ok (nilP_exp ha (by omega) j (by omega)) ha hk (by omega) h (nilP_asc aa j) aa
theorem nil_j {d : Int} (hd : 1 ≤ d) (j : Nat) (h : ((j : Int) + 1) * d ≤ 40) : j ≤ 39 := by
  have := Int.mul_le_mul_of_nonneg_left hd (show (0 : Int) ≤ (j : Int) + 1 by omega)
  omega
set_option maxRecDepth 100000 in
set_option maxHeartbeats 1000000 in
theorem implNilpotenceOf_of (SO : SortOk) (v : Value) (xss : List (List Int)) (w : World) (h : IntSS w.heap v xss) :
    Calls Try.prog 42 #[.agg #[v]] w fun e w' => e = .returned (.tuple #[.int .i64 (nilB xss).1, .int .i64 (nilB xss).2]) ∧ Below w.heap.size w w' := by
  have hb : Below w.heap.size w (w.alloc (.cells #[v] 26)) := (Below.refl _ _).alloc (Nat.le_refl _) _
  have hA := h.same hb.block
  have M := Lib.hid (fun (W : World) (h : IntSS W.heap v xss) => isMilnor_c v xss W h)
  have k0 := (Cell1.new w v 26).c0
  obtain ⟨ao, c, rfl, hm⟩ := h.len
  have H := Lib.hid hA
  have HB := Lib.hid hb; clear hb h hA
  cases hT : arT xss
  · have e1 : nilB xss = (0, 1) := by simp [nilB, hT]
    rw [e1]
    rw [hT] at M
    dsimp only
    have D := Lib.hid (degreeOf_c (.slice ao xss.length c) xss _ H.out)
    clear e1 hT
    go_enter Try.func42, Try.ntmps42
    go_wp2_with (first | (go_at_call 71; refine D.out.mono ?_; rintro e w1 ⟨⟨d, rfl, -⟩, rfl⟩) | (go_at_call 69; refine (M.out _ H.out).mono ?_; rintro e w2 ⟨rfl, hb2⟩; have HB2 := Lib.hid (HB.out.trans (hb2.mono HB.out.size)); clear hb2))
    go_ret2
    exact ⟨rfl, HB2.out⟩
  · rw [hT] at M
    have D := Lib.hid (degreeOfT_c (.slice ao xss.length c) xss _ H.out hT)
    by_cases h0 : xss.length = 0
    · have e1 : nilB xss = (1, 0) := by simp [nilB, hT, h0]
      rw [e1]
      dsimp only
      have t1 : decide ((0 : Int) < (xss.length : Int)) = false := decide_eq_false (by omega)
      have t2 : decide (0 < xss.length) = false := decide_eq_false (by omega)
      have t3 := (eqB (show (xss.length : Int) = 0 by omega)).1
      clear e1 hT h0
      go_enter Try.func42, Try.ntmps42
      go_wp2_with (first | (go_at_call 71; refine D.out.mono ?_; rintro e w1 ⟨rfl, rfl⟩) | (go_at_call 69; refine (M.out _ H.out).mono ?_; rintro e w2 ⟨rfl, hb2⟩; have k2 := (hb2.cell (World.block_lt_of_cell? _ _ k0)).trans k0; have HB2 := Lib.hid (HB.out.trans (hb2.mono HB.out.size)); clear hb2))
      go_loopw [5, 6] (fun p k wr => p = .slice ao xss.length c ∧ k = .int .i64 1 ∧ wr = w2) (fun _ _ _ => 0)
      case atStart => exact ⟨rfl, rfl, rfl⟩
      case round =>
        obtain ⟨rfl, rfl, rfl⟩ := hrel
        go_wp2_with fail
        go_ret2
        exact ⟨rfl, HB2.out⟩
    · have t1 : decide ((0 : Int) < (xss.length : Int)) = true := decide_eq_true (by omega)
      have t2 : decide (0 < xss.length) = true := decide_eq_true (by omega)
      by_cases hd0 : degT xss = 0
      · have e1 : nilB xss = (0, 5) := by simp [nilB, hT, h0, hd0]
        rw [e1]
        rw [hd0] at D
        dsimp only
        clear e1 hT h0 hd0
        go_enter Try.func42, Try.ntmps42
        go_wp2_with (first | (go_at_call 71; refine D.out.mono ?_; rintro e w1 ⟨rfl, rfl⟩) | (go_at_call 69; refine (M.out _ H.out).mono ?_; rintro e w2 ⟨rfl, hb2⟩; have k2 := (hb2.cell (World.block_lt_of_cell? _ _ k0)).trans k0; have HB2 := Lib.hid (HB.out.trans (hb2.mono HB.out.size)); clear hb2))
        go_ret2
        exact ⟨rfl, HB2.out⟩
      · skip
        have hexp := arT_expD hT
        have hasc := arT_asc hT
        have hdd := degT_bound hT
        obtain ⟨d, hdg⟩ : ∃ d, degT xss = d := ⟨_, rfl⟩
        rw [hdg] at D hexp hdd hd0
        have e1 : nilB xss = nilF xss d 41 0 := by simp [nilB, hT, h0, hdg, hd0]
        rw [e1]
        have hd1 : 1 ≤ d := by omega
        have hd2 : d ≤ 40 := hdd.2
        have NOK := Lib.hid (fun j => nil_ok hexp hasc hd1 j)
        clear e1 hdg hdd hexp hasc hT
        obtain ⟨R, hR⟩ : ∃ R, nilF xss d 41 0 = R := ⟨_, rfl⟩
        have HR := Lib.hid hR
        rw [hR]
        clear hR
        have t5 := (neB (show d ≠ 0 by omega)).1
        clear hd0
        go_enter Try.func42, Try.ntmps42
        go_wp2_with (first | (go_at_call 71; refine D.out.mono ?_; rintro e w1 ⟨rfl, rfl⟩) | (go_at_call 69; refine (M.out _ H.out).mono ?_; rintro e w2 ⟨rfl, hb2⟩; have k2 := (hb2.cell (World.block_lt_of_cell? _ _ k0)).trans k0; have HB2 := Lib.hid (HB.out.trans (hb2.mono HB.out.size)); have H2 := Lib.hid (H.out.same hb2.block); clear hb2))
        go_loopw [5, 6] (fun p k wr => ∃ j : Nat, ((j : Int) + 1) * d ≤ 40 ∧ k = .int .i64 ((j : Int) + 1) ∧ Hid (nilF xss d (41 - j) j = R) ∧ IntSS wr.heap p (nilP xss j) ∧ Below w2.heap.size w2 wr) (fun _ k _ => 41 - (intOf k).toNat)
        case atStart => exact ⟨0, by omega, rfl, HR.out, H2.out, Below.refl _ _⟩
        case round =>
          obtain ⟨j, hj, rfl, hF, hp, hb3⟩ := hrel
          obtain ⟨pa, pc, rfl, -⟩ := hp.len
          have HP := Lib.hid hp; have HB3 := Lib.hid hb3
          have k3 := (hb3.cell (World.block_lt_of_cell? _ _ k2)).trans k2
          have H3 := Lib.hid (H2.out.same hb3.block)
          have hj39 := nil_j hd1 j hj
          obtain ⟨f, hf⟩ : ∃ f, 41 - j = f + 1 := ⟨40 - j, by omega⟩
          rw [hf] at hF
          have hp0 : 0 ≤ ((j : Int) + 1 + 1) * d := Int.mul_nonneg (by omega) (by omega)
          have hp1 : ((j : Int) + 1 + 1) * d ≤ 80 := by rw [Int.add_mul ((j : Int) + 1)]; omega
          clear hp hb3
          by_cases hl : (nilP xss j).length = 0
          · have HE : Hid (R = ((j : Int) + 1, 0)) := by show _ = _; rw [← hF.out, nilF, if_pos hl]
            have u1 := (eqB (show ((nilP xss j).length : Int) = 0 by omega)).1
            clear hl hF hf k3
            go_wp2_with fail
            go_ret2
            exact ⟨by rw [HE.out]; rfl, HB2.out.trans (HB3.out.mono HB2.out.size)⟩
          · have u1 := (neB (show ((nilP xss j).length : Int) ≠ 0 by omega)).1
            by_cases hg : ((j : Int) + 1 + 1) * d > 40
            · have HE : Hid (R = (0, 3)) := by show _ = _; rw [← hF.out, nilF, if_neg hl, if_pos hg]
              have u2 : decide (40 < ((j : Int) + 1 + 1) * d) = true := decide_eq_true hg
              clear hl hg hF hf k3
              go_wp2_with fail
              go_ret2
              exact ⟨by rw [HE.out]; rfl, HB2.out.trans (HB3.out.mono HB2.out.size)⟩
            · have HE : Hid (nilF xss d (41 - (j + 1)) (j + 1) = R) := by show _ = _; rw [← hF.out, nilF, if_neg hl, if_neg hg, show 41 - (j + 1) = f by omega]
              have u2 : decide (40 < ((j : Int) + 1 + 1) * d) = false := decide_eq_false hg
              have hg2 : ((j : Int) + 1 + 1) * d ≤ 40 := by omega
              have SN := Lib.hid (fun (u : Value) (W : World) (hu : IntSS W.heap u (nilP xss j)) (h : IntSS W.heap (.slice ao xss.length c) xss) => multiplied_of SO u _ (nilP xss j) xss W hu h (NOK.out j hg2).1 (NOK.out j hg2).2.1 (by have := (NOK.out j hg2).2.2.1; omega) (fun x hx => by have := (NOK.out j hg2).2.2.2 x hx; omega))
              have HG2 := Lib.hid hg2
              clear hl hg hF hf hg2
              go_wp2_with (go_at_call 80; refine (SN.out _ _ HP.out H3.out).mono ?_; rintro e w3 ⟨r3, us3, rfl, hU3, hb3⟩; obtain ⟨ua, un, uc, rfl⟩ := own_shape hU3.row)
              go_roundw
              case rel => exact ⟨j + 1, by have := HG2.out; rw [show (((j + 1 : Nat) : Int) + 1) = (j : Int) + 1 + 1 by omega]; exact this, by go_num, HE.out, hU3.ints, HB3.out.trans (hb3.mono HB3.out.size)⟩
              case measure => simp [intOf]; omega
set_option maxRecDepth 100000 in
set_option maxHeartbeats 1000000 in
theorem specNilpotenceOf_c (v : Value) (xss : List (List Int)) (w : World) (h : IntSS w.heap v xss) :
    Calls Try.prog 41 #[.agg #[v]] w fun e w' => e = .returned (.tuple #[.int .i64 (nilB xss).1, .int .i64 (nilB xss).2]) ∧ Below w.heap.size w w' := by
  have hb : Below w.heap.size w (w.alloc (.cells #[v] 26)) := (Below.refl _ _).alloc (Nat.le_refl _) _
  have hA := h.same hb.block
  have M := Lib.hid (l04Is_c v xss _ hA)
  have k0 := (Cell1.new w v 26).c0
  obtain ⟨ao, c, rfl, hm⟩ := h.len
  have H := Lib.hid hA
  have HB := Lib.hid hb; clear hb h hA
  cases hT : arT xss
  · have e1 : nilB xss = (0, 1) := by simp [nilB, hT]
    rw [e1]
    rw [hT] at M
    dsimp only
    clear e1 hT
    go_enter Try.func41, Try.ntmps41
    go_wp2_with (go_at_call 53; refine M.out.mono ?_; rintro e w2 ⟨rfl, hb2⟩; have HB2 := Lib.hid (HB.out.trans (hb2.mono HB.out.size)); clear hb2)
    go_ret2
    exact ⟨rfl, HB2.out⟩
  · rw [hT] at M
    by_cases h0 : xss.length = 0
    · have e1 : nilB xss = (1, 0) := by simp [nilB, hT, h0]
      rw [e1]
      dsimp only
      have t3 := (eqB (show (xss.length : Int) = 0 by omega)).1
      clear e1 hT h0
      go_enter Try.func41, Try.ntmps41
      go_wp2_with (go_at_call 53; refine M.out.mono ?_; rintro e w2 ⟨rfl, hb2⟩; have k2 := (hb2.cell (World.block_lt_of_cell? _ _ k0)).trans k0; have HB2 := Lib.hid (HB.out.trans (hb2.mono HB.out.size)); clear hb2)
      go_ret2
      exact ⟨rfl, HB2.out⟩
    · have t3 := (neB (show (xss.length : Int) ≠ 0 by omega)).1
      have hz : (0 : Int) < xss.length := by omega
      have t4 : decide (0 < xss.length) = true := decide_eq_true (by omega)
      have F1 := Lib.hid (arT_first' hT)
      obtain ⟨b1, o1, c1, u1, hv1, hc1, hu1, -⟩ := H.out.at 0 (by omega)
      simp only [Value.slice.injEq, true_and] at hv1
      obtain ⟨rfl, rfl⟩ := hv1
      rw [show o1 + 0 = o1 from rfl] at hc1
      rw [show xss[0] = xss.getD 0 [] by simp [show 0 < xss.length by omega]] at hu1
      have D := Lib.hid (fun (W : World) (h : IntS W.heap u1 (xss.getD 0 [])) => l01DegreeE_c u1 _ W h F1.out)
      rw [show deg (xss.getD 0 []) = degT xss from rfl] at D
      have HU1 := Lib.hid hu1
      have HC1 := Lib.hid hc1
      obtain ⟨ua, uc, rfl, -⟩ := hu1.len
      clear hu1 hc1 F1
      by_cases hd0 : degT xss = 0
      · have e1 : nilB xss = (0, 5) := by simp [nilB, hT, h0, hd0]
        rw [e1]
        rw [hd0] at D
        dsimp only
        clear e1 hT h0 hd0
        generalize xss.getD 0 [] = ys at *
        go_enter Try.func41, Try.ntmps41
        go_wp2_with (first | (go_at_call 53; refine M.out.mono ?_; rintro e w2 ⟨rfl, hb2⟩; have hc2 := (hb2.cell (World.block_lt_of_cell? _ _ HC1.out)).trans HC1.out; have HU2 := Lib.hid (HU1.out.same hb2.block); have k2 := (hb2.cell (World.block_lt_of_cell? _ _ k0)).trans k0; have HB2 := Lib.hid (HB.out.trans (hb2.mono HB.out.size)); clear hb2) | (go_at_call 67; refine (D.out _ HU2.out).mono ?_; rintro e w3 ⟨rfl, rfl⟩))
        go_ret2
        exact ⟨rfl, HB2.out⟩
      · skip
        have hexp := arT_expD hT
        have hasc := arT_asc hT
        have hdd := degT_bound hT
        obtain ⟨d, hdg⟩ : ∃ d, degT xss = d := ⟨_, rfl⟩
        rw [hdg] at D hexp hdd hd0
        have e1 : nilB xss = nilF xss d 41 0 := by simp [nilB, hT, h0, hdg, hd0]
        rw [e1]
        have hd1 : 1 ≤ d := by omega
        have hd2 : d ≤ 40 := hdd.2
        have NOK := Lib.hid (fun j => nil_ok hexp hasc hd1 j)
        clear e1 hdg hdd hexp hasc hT
        obtain ⟨R, hR⟩ : ∃ R, nilF xss d 41 0 = R := ⟨_, rfl⟩
        have HR := Lib.hid hR
        rw [hR]
        clear hR
        have t5 := (neB (show d ≠ 0 by omega)).1
        clear hd0
        generalize xss.getD 0 [] = ys at *
        go_enter Try.func41, Try.ntmps41
        go_wp2_with (first | (go_at_call 53; refine M.out.mono ?_; rintro e w2 ⟨rfl, hb2⟩; have hc2 := (hb2.cell (World.block_lt_of_cell? _ _ HC1.out)).trans HC1.out; have HU2 := Lib.hid (HU1.out.same hb2.block); have H2 := Lib.hid (H.out.same hb2.block); have k2 := (hb2.cell (World.block_lt_of_cell? _ _ k0)).trans k0; have HB2 := Lib.hid (HB.out.trans (hb2.mono HB.out.size)); clear hb2) | (go_at_call 67; refine (D.out _ HU2.out).mono ?_; rintro e w3 ⟨rfl, rfl⟩))
        clear hc2
        go_loopw [5, 6] (fun p k wr => ∃ j : Nat, ((j : Int) + 1) * d ≤ 40 ∧ k = .int .i64 ((j : Int) + 1) ∧ Hid (nilF xss d (41 - j) j = R) ∧ IntSS wr.heap p (nilP xss j) ∧ Below w2.heap.size w2 wr) (fun _ k _ => 41 - (intOf k).toNat)
        case atStart => exact ⟨0, by omega, rfl, HR.out, H2.out, Below.refl _ _⟩
        case round =>
          obtain ⟨j, hj, rfl, hF, hp, hb3⟩ := hrel
          obtain ⟨pa, pc, rfl, -⟩ := hp.len
          have HP := Lib.hid hp; have HB3 := Lib.hid hb3
          have k3 := (hb3.cell (World.block_lt_of_cell? _ _ k2)).trans k2
          have H3 := Lib.hid (H2.out.same hb3.block)
          have hj39 := nil_j hd1 j hj
          obtain ⟨f, hf⟩ : ∃ f, 41 - j = f + 1 := ⟨40 - j, by omega⟩
          rw [hf] at hF
          have hp0 : 0 ≤ ((j : Int) + 1 + 1) * d := Int.mul_nonneg (by omega) (by omega)
          have hp1 : ((j : Int) + 1 + 1) * d ≤ 80 := by rw [Int.add_mul ((j : Int) + 1)]; omega
          clear hp hb3
          by_cases hl : (nilP xss j).length = 0
          · have HE : Hid (R = ((j : Int) + 1, 0)) := by show _ = _; rw [← hF.out, nilF, if_pos hl]
            have u1 : decide ((0 : Int) < ((nilP xss j).length : Int)) = false := decide_eq_false (by omega)
            have u2 : decide (0 < (nilP xss j).length) = false := decide_eq_false (by omega)
            clear hl hF hf k3
            go_wp2_with fail
            go_ret2
            exact ⟨by rw [HE.out]; rfl, HB2.out.trans (HB3.out.mono HB2.out.size)⟩
          · have u1 : decide ((0 : Int) < ((nilP xss j).length : Int)) = true := decide_eq_true (by omega)
            have u3 : decide (0 < (nilP xss j).length) = true := decide_eq_true (by omega)
            by_cases hg : ((j : Int) + 1 + 1) * d > 40
            · have HE : Hid (R = (0, 3)) := by show _ = _; rw [← hF.out, nilF, if_neg hl, if_pos hg]
              have u2 : decide (40 < ((j : Int) + 1 + 1) * d) = true := decide_eq_true hg
              clear hl hg hF hf k3
              go_wp2_with fail
              go_ret2
              exact ⟨by rw [HE.out]; rfl, HB2.out.trans (HB3.out.mono HB2.out.size)⟩
            · have HE : Hid (nilF xss d (41 - (j + 1)) (j + 1) = R) := by show _ = _; rw [← hF.out, nilF, if_neg hl, if_neg hg, show 41 - (j + 1) = f by omega]
              have u2 : decide (40 < ((j : Int) + 1 + 1) * d) = false := decide_eq_false hg
              have hg2 : ((j : Int) + 1 + 1) * d ≤ 40 := by omega
              have SN := Lib.hid (fun (u : Value) (W : World) (hu : IntSS W.heap u (nilP xss j)) (h : IntSS W.heap (.slice (some ⟨b1, o1, none⟩) xss.length c) xss) => l04Times_c u _ (nilP xss j) xss W hu h (NOK.out j hg2).1 (NOK.out j hg2).2.1 (by have := (NOK.out j hg2).2.2.1; omega))
              have HG2 := Lib.hid hg2
              clear hl hg hF hf hg2
              go_wp2_with (go_at_call 79; refine (SN.out _ _ HP.out H3.out).mono ?_; rintro e w3 ⟨r3, us3, rfl, hU3, hb3⟩; obtain ⟨ua2, un2, uc2, rfl⟩ := own_shape hU3.row)
              go_roundw
              case rel => exact ⟨j + 1, by have := HG2.out; rw [show (((j + 1 : Nat) : Int) + 1) = (j : Int) + 1 + 1 by omega]; exact this, by go_num, HE.out, hU3.ints, HB3.out.trans (hb3.mono HB3.out.size)⟩
              case measure => simp [intOf]; omega
end
open Go.ChangeShapes Go.WideShapes Go.ChangeAt Go.RowKit
open Go.ChangeMaps (open_string shut_string)

theorem sortOk : SortOk := sortSS_c
set_option maxRecDepth 100000 in
set_option maxHeartbeats 4000000 in
theorem fnExactNilpotenceOf_walk (w : World) (a1 : Option Addr) (l1 p1 : Nat) (t1 : List (List Int)) (h1 : IsRows w a1 l1 t1) :
    Calls Try.prog 10 #[.agg #[.slice a1 l1 p1]] w fun e w' => e = .returned (.bool true) ∧ Below w.heap.size w w' := by
  have S := Lib.hid (fun (v : Value) (W : World) (h : IntSS W.heap v t1) => specNilpotenceOf_c v t1 W h)
  have I := Lib.hid (fun (v : Value) (W : World) (h : IntSS W.heap v t1) => implNilpotenceOf_of sortOk v t1 W h)
  generalize (nilB t1).1 = pb at *
  generalize (nilB t1).2 = pc at *
  have u1 : (pc != pc) = false := by simp
  have u2 : (pb != pb) = false := by simp
  obtain ⟨W0, hW0⟩ : ∃ W, W = (w.alloc (.cells #[.slice a1 l1 p1] 24)) := ⟨_, rfl⟩
  have hx : Below w.heap.size w W0 := by rw [hW0]; exact ((Below.refl _ _).alloc (by exact Nat.le_refl _) _)
  have hsz : w.heap.size + 1 ≤ W0.heap.size := by rw [hW0]; simp
  have k1 := (Cell1.new w (.slice a1 l1 p1) 24).c0
  rw [← hW0] at k1
  have BW0 := Lib.hid hx
  have Z2 := Lib.hid (hsz)
  have HW0 := Lib.hid hW0
  clear hW0 hx hsz
  have SM1 := Lib.hid (fun (left : Nat) (hl : left ≤ 1048576) (W : World) (hb : Below w.heap.size w W) => szMilnor_c a1 l1 p1 t1 left W (h1.same hb.block hb.size) hl)
  have TM10 := fun (W : World) (hb : Below w.heap.size w W) => toMilnor_c a1 l1 p1 t1 W (h1.same hb.block hb.size)
  clear h1
  go_enter Try.func10, Try.ntmps10
  go_wp2_with fail
  rw [← HW0.out]
  clear HW0
  have S0 := SM1.out 1048576 (Nat.le_refl _) _ BW0.out
  by_cases hz1 : t1.length + cnt t1 ≤ 1048576
  rotate_left
  · have e9 : szR t1 1048576 = -1 := by unfold szR; rw [if_neg hz1]
    rw [e9] at S0
    have S1 := Lib.hid S0
    clear S0 e9
    refine (S1.out).mono ?_
    rintro e W ⟨rfl, hx⟩
    have BE := Lib.hid (BW0.out.trans (hx.mono BW0.out.size))
    clear hx
    go_wp2_with fail
    go_ret
    exact ⟨rfl, BE.out⟩
  obtain ⟨left1, hl9⟩ : ∃ left : Nat, szR t1 1048576 = left := ⟨1048576 - (t1.length + cnt t1), by unfold szR; rw [if_pos hz1]; omega⟩
  have HLN : Hid (left1 ≤ 1048576) := by show _ ≤ _; unfold szR at hl9; rw [if_pos hz1] at hl9; have := Nat.le_refl 1048576; omega
  rw [hl9] at S0
  have S1 := Lib.hid S0
  clear S0 hl9
  have TM1 := Lib.hid (fun (W : World) (hb : Below w.heap.size w W) => TM10 W hb (by have := Nat.le_refl 1048576; omega))
  have HSZ1 : Hid (cnt t1 ≤ 1048576) := by show _ ≤ _; have := Nat.le_refl 1048576; omega
  clear TM10 hz1 SM1
  have HLF := HLN
  clear HLN
  refine (S1.out).mono ?_
  rintro e W3 ⟨rfl, hx⟩
  clear S1
  have Z4 := Lib.hid (hx.size)
  have k5 := (hx.cell (World.block_lt_of_cell? _ _ k1)).trans k1
  clear k1
  have B6 := Lib.hid (BW0.out.trans (hx.mono BW0.out.size))
  clear BW0
  clear hx
  go_wp2_with fail
  refine (TM1.out _ B6.out).mono ?_
  rintro e W9 ⟨v7, rfl, ⟨u8, hm⟩, hx⟩
  obtain ⟨q10, q11, q12, rfl⟩ := own_shape hm.row
  have O13 := Lib.hid hm
  have R14 := Lib.hid hm.range
  clear hm
  have Z15 := Lib.hid (hx.size)
  have k16 := (hx.cell (World.block_lt_of_cell? _ _ k5)).trans k5
  clear k5
  have B17 := Lib.hid (B6.out.trans (hx.mono B6.out.size))
  clear B6
  clear hx
  go_wp2_with fail
  refine (S.out (.slice q10 q11 q12) _ O13.out.ints).mono ?_
  rintro e W18 ⟨rfl, hx⟩
  have Z19 := Lib.hid (hx.size)
  have k20 := (hx.cell (World.block_lt_of_cell? _ _ k16)).trans k16
  clear k16
  have O21 := Lib.hid (O13.out.same hx.block)
  clear O13
  have B22 := Lib.hid (B17.out.trans (hx.mono B17.out.size))
  clear B17
  clear hx
  clear O21
  go_wp2_with fail
  refine (TM1.out _ B22.out).mono ?_
  rintro e W25 ⟨v23, rfl, ⟨u24, hm⟩, hx⟩
  obtain ⟨q26, q27, q28, rfl⟩ := own_shape hm.row
  have O29 := Lib.hid hm
  have R30 := Lib.hid hm.range
  clear hm
  have Z31 := Lib.hid (hx.size)
  have k32 := (hx.cell (World.block_lt_of_cell? _ _ k20)).trans k20
  clear k20
  have B33 := Lib.hid (B22.out.trans (hx.mono B22.out.size))
  clear B22
  clear hx
  obtain ⟨W34, E350⟩ : ∃ W, W = W25.alloc (.cells #[.slice q26 q27 q28] 26) := ⟨_, rfl⟩
  have hx : Below W25.heap.size W25 W34 := by rw [E350]; exact (Below.refl _ _).alloc (Nat.le_refl _) _
  have k36 : W34.cell? ⟨W25.heap.size, 0, none⟩ = some (.slice q26 q27 q28) := by rw [E350, World.cell?]; simp only [heap_alloc_new]; rfl
  have kx0 := Go.Lib.cell?_alloc_some (.cells #[.slice q26 q27 q28] 26) k32
  have Z37 := Lib.hid (World.block_lt_of_cell? _ _ k36)
  simp only at Z37
  have Z38 := Lib.hid (hx.size)
  have k39 := (hx.cell (World.block_lt_of_cell? _ _ k32)).trans k32
  clear k32
  have O40 := Lib.hid (O29.out.same hx.block)
  clear O29
  have B41 := Lib.hid (B33.out.trans (hx.mono B33.out.size))
  clear B33
  clear hx
  have E35 := Lib.hid E350
  clear E350
  go_wp2_with fail
  rw [← E35.out]
  clear E35 kx0
  go_wp2_with fail
  refine (I.out (.slice q26 q27 q28) _ O40.out.ints).mono ?_
  rintro e W42 ⟨rfl, hx⟩
  have Z43 := Lib.hid (hx.size)
  have k44 := (hx.cell (World.block_lt_of_cell? _ _ k39)).trans k39
  clear k39
  have k45 := (hx.cell (World.block_lt_of_cell? _ _ k36)).trans k36
  clear k36
  have O46 := Lib.hid (O40.out.same hx.block)
  clear O40
  have B47 := Lib.hid (B41.out.trans (hx.mono B41.out.size))
  clear B41
  clear hx
  go_wp2_with fail
  go_region_held3 (fun W => W.cell? ⟨W25.heap.size, 0, none⟩ = some (.slice q26 q27 q28) ∧ W.cell? ⟨w.heap.size, 0, none⟩ = some (.slice a1 l1 p1) ∧ Below W42.heap.size W42 W)
    (first | exact ⟨k45, k44, (Below.refl _ _).drew⟩ | exact heldC2 (by assumption) hx8 | exact heldC2 (by assumption) hx9)
    (first | (go_at_call 16; refine (TM1.out _ (heldC2B B47.out (by assumption) B47.out.size)).mono ?_; rintro e W9 ⟨v9, rfl, ⟨u9, hm9⟩, hx9⟩; obtain ⟨e1, e2, e3, rfl⟩ := own_shape hm9.row) | (go_at_call 18; refine (eqMilnor_same _ _ t1 _ (O46.out.ints.same (heldC2X (by assumption)).block) hm9.ints).mono ?_; rintro e W8 ⟨rfl, hx8⟩))
  all_goals
    rename_i hh
    obtain ⟨W48, hWe⟩ : ∃ W, W = W8 := ⟨_, rfl⟩
    have hx : Below W42.heap.size W42 W48 := by rw [hWe]; exact heldC2X hh
    rw [← hWe]
    clear hWe hh hx8 hx9 hm9
    have Z49 := Lib.hid (hx.size)
    have k50 := (hx.cell (World.block_lt_of_cell? _ _ k44)).trans k44
    clear k44
    have k51 := (hx.cell (World.block_lt_of_cell? _ _ k45)).trans k45
    clear k45
    have O52 := Lib.hid (O46.out.same hx.block)
    clear O46
    have B53 := Lib.hid (B47.out.trans (hx.mono B47.out.size))
    clear B47
    clear hx
    go_wp2_with fail
    go_ret
    exact ⟨rfl, B53.out⟩

namespace fnExactNilpotenceOf_row
theorem own : ownKnob Try.prog.godebug = none := by kernel_rfl
theorem laidOut : laidOutB Try.prog = true := by kernel_rfl
set_option linter.unusedVariables false in
set_option maxRecDepth 100000 in
theorem lifted (os : Os) (started : os.Started) (H : Type) (enc : TypeId × Value → H) :
    ReturnsInHanded {} Try.checked os 10 .any (Rows.fnExactNilpotenceOfSpec.pre6 enc Try.prog Try.f10 Rows.fnExactNilpotenceOfRow.domain false) (Rows.fnExactNilpotenceOfSpec.post enc Try.prog Try.f10 false true false false) := by
  refine returnsInHanded_of_change (C := Try.checked) own started (by kernel_rfl) Try.func10
    (ChangeSpec.witness6 (enc := enc) (C := Try.checked) false ⟨#[], #[.agg #[.slice none 0 0]], []⟩ 8 (by kernel_rfl) (by kernel_rfl) (by kernel_rfl) (by kernel_rfl)) ?_
  intro W base args ds gs before hval0 hW hcnd _
  have hval : ∀ (j : Nat) t v, Try.f10.params[j]? = some t → args[j]? = some v → Value.okWide Try.prog W .any base t v := hval0
  have hW' := hW
  obtain ⟨p, q, hA0, hV, rfl, hfz, hnd⟩ := hW
  have hA : DataW.TrodAll enc Try.prog W 0 (fun _ => true) true Try.f10.params.toList args.toList ds p := hA0
  rw [Try.params10] at hA hval
  obtain ⟨v0, vs0, d0, ds0, p0, q0, hargs, rfl, rfl, h0, r0⟩ := trodAll_cons hA
  obtain ⟨rfl, rfl, rfl⟩ := trodAll_nil r0
  obtain rfl : args = #[v0] := by cases args; simp_all
  obtain ⟨rfl, rfl⟩ := trodVars_none hV
  have k0 := h0
  have lt0 : ∀ x ∈ p0, x.block < W.heap.size := by obtain ⟨m, hm⟩ := k0; exact DataW.trod_lt m _ _ _ hm
  obtain ⟨x0, y0, n0, rfl, f0⟩ := open_agg1 Try.underlying24 (by kernel_rfl) (by kernel_rfl) (hval 0 24 v0 rfl rfl) h0
  obtain ⟨a0, len0, cap0, z0, e0, w0⟩ := isRows_of Try.underlying22 Try.underlying42 Try.underlying2 (by kernel_rfl) (by kernel_rfl) f0
  obtain rfl : x0 = .slice a0 len0 cap0 := by simpa using e0
  clear hA0 hval0
  refine (fnExactNilpotenceOf_walk W a0 len0 cap0 z0 w0).mono fun e W' ⟨he, bel⟩ => ?_
  subst he
  exact ⟨_, rfl, _, _, _, [], _, [], hW', trodAll_mk1 (shut_bool Try.underlying4 _), (trodAll_cons_mk (Below.trod laidOut (by kernel_rfl) (of_decide_eq_true (by kernel_rfl)) k0 bel lt0) trodAll_mk0), rfl, bel.frame _, fun h => by cases h⟩
theorem over : Rows.fnExactNilpotenceOfRow.holds Try.pinned (OpenSpec.ofChange Rows.fnExactNilpotenceOfSpec) :=
  OpenClaim.holds_of_wide 10 Try.f10 rfl rfl rfl rfl rfl rfl rfl ⟨rfl, rfl, rfl, rfl, rfl⟩ rfl rfl rfl rfl rfl (by kernel_rfl) Try.func10 (by kernel_rfl)
    (of_decide_eq_true (by kernel_rfl)) (by unfold Func.isWrapper; first | (rw [if_pos (by decide +kernel)]; kernel_rfl) | (rw [if_neg (by decide +kernel)]; exact ⟨rfl, rfl⟩))
    (fun os started H enc _ => lifted os started H enc)
end fnExactNilpotenceOf_row
/-- The statement. -/
theorem fnExactNilpotenceOf_proved : Rows.FnExactNilpotenceOfSaid := fnExactNilpotenceOf_row.over
#print axioms fnExactNilpotenceOf_proved
end Go.Proofs.Ytljpjoegeincoaa

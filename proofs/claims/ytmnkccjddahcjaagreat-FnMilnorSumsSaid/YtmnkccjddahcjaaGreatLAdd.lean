/- Sums of elements: whether two can be added, of the program and of the reference. -/
import Derived.Test.YtmnkccjddahcjaaGreatLMil2
import Derived.Test.YtmnkccjddahcjaaGreatLPair
import Derived.Test.YtmnkccjddahcjaaGreatLSum
import Derived.Test.YtmnkccjddahcjaaGreatLMilArg
namespace Go.Proofs.YtmnkccjddahcjaaGreat
open Go.RowKit Go.Sort

def sameD (xss yss : List (List Int)) : Bool := decide (xss.length = 0) || decide (yss.length = 0) || deg (xss.getD 0 []) == deg (yss.getD 0 [])
def addC (xss yss : List (List Int)) : Int := if arT xss && arT yss then (if sameD xss yss then 0 else 2) else 1
def addL (xss yss : List (List Int)) : List (List Int) := if arT xss && arT yss && sameD xss yss then mrg xss yss else []
theorem cnt_mrg : ∀ (a b : List (List Int)), cnt (mrg a b) ≤ cnt a + cnt b
  | [], b => by rw [mrg]; simp [cnt]
  | x :: a, [] => by rw [mrg]; simp [cnt]
  | x :: a, y :: b => by
    rw [mrg]
    split
    · have := cnt_mrg a (y :: b)
      simp only [cnt, List.map_cons, List.sum_cons] at *; omega
    · split
      · have := cnt_mrg (x :: a) b
        simp only [cnt, List.map_cons, List.sum_cons] at *; omega
      · have := cnt_mrg a b
        simp only [cnt, List.map_cons, List.sum_cons] at *; omega
termination_by a b => a.length + b.length
theorem addL_cnt (xss yss : List (List Int)) : cnt (addL xss yss) ≤ cnt xss + cnt yss := by
  unfold addL; split
  · exact cnt_mrg _ _
  · simp [cnt]
theorem arT_first {xss : List (List Int)} (h : arT xss = true) (h0 : 0 < xss.length) : isExp (xss.getD 0 []) = true := by
  rw [show xss.getD 0 [] = xss[0] by simp [h0]]; exact (arT_row h _ (List.getElem_mem _)).1
theorem isExp_nil : isExp [] = true := by decide
theorem arT_first' {xss : List (List Int)} (h : arT xss = true) : isExp (xss.getD 0 []) = true := by
  by_cases h0 : 0 < xss.length
  · exact arT_first h h0
  · rw [show xss = [] from List.eq_nil_of_length_eq_zero (by omega)]; exact isExp_nil
theorem degreeOfE_c (v : Value) (xss : List (List Int)) (w : World) (h : IntSS w.heap v xss) (hT : arT xss = true) :
    Calls Tryz.prog 122 #[v] w fun e w' => e = .returned (.int .i64 (degT xss)) ∧ w = w' :=
  (degreeOf_c v xss w h).mono fun _ _ ⟨⟨d, he, hd⟩, hw⟩ => ⟨by rw [he, hd (arT_first' hT)], hw⟩
set_option maxHeartbeats 400000 in
theorem addable_c (v u : Value) (xss yss : List (List Int)) (w : World) (h : IntSS w.heap v xss) (hu : IntSS w.heap u yss) :
    Calls Tryz.prog 133 #[v, u] w fun e w' => e = .returned (.int .i64 (addC xss yss)) ∧ Below w.heap.size w w' := by
  have I := Lib.hid (areTerms_c v xss w h)
  have J := Lib.hid (fun (W : World) (h : IntSS W.heap u yss) => areTerms_c u yss W h)
  obtain ⟨ao, c, rfl, hm⟩ := h.len
  obtain ⟨bo, d, rfl, hn⟩ := hu.len
  have H := Lib.hid h; have HU := Lib.hid hu; clear h hu
  cases hT : arT xss
  · have e : addC xss yss = 1 := by simp [addC, hT]
    rw [e]; rw [hT] at I
    clear hT e J
    go_enter Tryz.func133, Tryz.ntmps133
    go_wp2_with (go_at_call 183; refine I.out.mono ?_; rintro e w1 ⟨rfl, hb1⟩)
    go_ret
    exact ⟨rfl, hb1⟩
  · rw [hT] at I
    cases hT2 : arT yss
    · have e : addC xss yss = 1 := by simp [addC, hT2]
      rw [e]; rw [hT2] at J
      clear hT hT2 e
      go_enter Tryz.func133, Tryz.ntmps133
      go_wp2_with (first | (go_at_call 183; first | ((with_reducible refine I.out.mono ?_); rintro e w1 ⟨rfl, hb1⟩; have HB1 := Lib.hid hb1; clear hb1) | ((with_reducible refine (J.out _ (HU.out.same HB1.out.block)).mono ?_); rintro e w2 ⟨rfl, hb2⟩)))
      go_ret
      exact ⟨rfl, HB1.out.trans (hb2.mono HB1.out.size)⟩
    · rw [hT2] at J
      have HE : Hid (addC xss yss = if sameD xss yss then 0 else 2) := by show _ = _; simp [addC, hT, hT2]
      have HSD : Hid (sameD xss yss = (decide (xss.length = 0) || decide (yss.length = 0) || degT xss == degT yss)) := rfl
      have D1 := Lib.hid (fun (W : World) (h : IntSS W.heap (.slice ao xss.length c) xss) => degreeOfE_c _ xss W h hT)
      have D2 := Lib.hid (fun (W : World) (h : IntSS W.heap (.slice bo yss.length d) yss) => degreeOfE_c _ yss W h hT2)
      clear hT hT2
      by_cases h0 : xss.length = 0
      · have HF : Hid (addC xss yss = 0) := by show _ = _; rw [HE.out, HSD.out, h0]; simp
        rw [HF.out]
        have t1 : decide (0 < xss.length) = false := decide_eq_false (by omega)
        have t2 : decide ((0 : Int) < (xss.length : Int)) = false := decide_eq_false (by omega)
        clear h0 HE HSD HF
        go_enter Tryz.func133, Tryz.ntmps133
        go_wp2_with (first | (go_at_call 183; first | ((with_reducible refine I.out.mono ?_); rintro e w1 ⟨rfl, hb1⟩; have HB1 := Lib.hid hb1; clear hb1) | ((with_reducible refine (J.out _ (HU.out.same HB1.out.block)).mono ?_); rintro e w2 ⟨rfl, hb2⟩)))
        go_ret
        exact ⟨rfl, HB1.out.trans (hb2.mono HB1.out.size)⟩
      · by_cases h1 : yss.length = 0
        · have HF : Hid (addC xss yss = 0) := by show _ = _; rw [HE.out, HSD.out, h1]; simp
          rw [HF.out]
          have t1 : decide (0 < xss.length) = true := decide_eq_true (by omega)
          have t2 : decide ((0 : Int) < (xss.length : Int)) = true := decide_eq_true (by omega)
          have t3 : decide (0 < yss.length) = false := decide_eq_false (by omega)
          have t4 : decide ((0 : Int) < (yss.length : Int)) = false := decide_eq_false (by omega)
          clear h0 h1 HE HSD HF
          go_enter Tryz.func133, Tryz.ntmps133
          go_wp2_with (first | (go_at_call 183; first | ((with_reducible refine I.out.mono ?_); rintro e w1 ⟨rfl, hb1⟩; have HB1 := Lib.hid hb1; clear hb1) | ((with_reducible refine (J.out _ (HU.out.same HB1.out.block)).mono ?_); rintro e w2 ⟨rfl, hb2⟩)))
          go_ret
          exact ⟨rfl, HB1.out.trans (hb2.mono HB1.out.size)⟩
        · have t1 : decide (0 < xss.length) = true := decide_eq_true (by omega)
          have t2 : decide ((0 : Int) < (xss.length : Int)) = true := decide_eq_true (by omega)
          have t3 : decide (0 < yss.length) = true := decide_eq_true (by omega)
          have t4 : decide ((0 : Int) < (yss.length : Int)) = true := decide_eq_true (by omega)
          have HF : Hid (addC xss yss = if degT xss = degT yss then 0 else 2) := by
            show _ = _
            rw [HE.out, HSD.out, decide_eq_false h0, decide_eq_false h1]
            simp
          rw [HF.out]
          clear h0 h1 HE HSD HF
          generalize degT xss = p at *
          generalize degT yss = q at *
          by_cases hpq : p = q
          · have t5 := (eqB hpq).2
            rw [if_pos hpq]
            clear hpq
            go_enter Tryz.func133, Tryz.ntmps133
            go_wp2_with (first | (go_at_call 183; first | ((with_reducible refine I.out.mono ?_); rintro e w1 ⟨rfl, hb1⟩; have HB1 := Lib.hid hb1; clear hb1) | ((with_reducible refine (J.out _ (HU.out.same HB1.out.block)).mono ?_); rintro e w2 ⟨rfl, hb2⟩; have HB2 := Lib.hid (HB1.out.trans (hb2.mono HB1.out.size)); clear hb2)) | (go_at_call 122; first | ((with_reducible refine (D1.out _ (H.out.same HB2.out.block)).mono ?_); rintro e w3 ⟨rfl, rfl⟩) | ((with_reducible refine (D2.out _ (HU.out.same HB2.out.block)).mono ?_); rintro e w4 ⟨rfl, rfl⟩)))
            go_ret
            exact ⟨rfl, HB2.out⟩
          · have t5 := (neB hpq).2
            rw [if_neg hpq]
            clear hpq
            go_enter Tryz.func133, Tryz.ntmps133
            go_wp2_with (first | (go_at_call 183; first | ((with_reducible refine I.out.mono ?_); rintro e w1 ⟨rfl, hb1⟩; have HB1 := Lib.hid hb1; clear hb1) | ((with_reducible refine (J.out _ (HU.out.same HB1.out.block)).mono ?_); rintro e w2 ⟨rfl, hb2⟩; have HB2 := Lib.hid (HB1.out.trans (hb2.mono HB1.out.size)); clear hb2)) | (go_at_call 122; first | ((with_reducible refine (D1.out _ (H.out.same HB2.out.block)).mono ?_); rintro e w3 ⟨rfl, rfl⟩) | ((with_reducible refine (D2.out _ (HU.out.same HB2.out.block)).mono ?_); rintro e w4 ⟨rfl, rfl⟩)))
            go_ret
            exact ⟨rfl, HB2.out⟩
end Go.Proofs.YtmnkccjddahcjaaGreat

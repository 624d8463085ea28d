/- What is proved: for every input the law FnExactPowerOfMilnor returns true and its arguments read behind the call as before: the program's PowerOfMilnor and the reference's agree, and the result is the call's own. No condition. -/
import Derived.Test.YtljpjoegeincoaaRows
import Derived.Test.YtljpjoegeincoaaLMulM
import Derived.Test.YtljpjoegeincoaaLCount
import Derived.Test.YtljpjoegeincoaaLPair
import Derived.Test.YtljpjoegeincoaaLMilArg
import Derived.Test.YtljpjoegeincoaaLSort
import Derived.Test.YtljpjoegeincoaaLGen
import Derived.Test.YtljpjoegeincoaaLHeld2
import Derived.Deep.DeepCutAuto
import Derived.Lib.SliceRun
import Derived.OpenShut
import Derived.ShutString
import Derived.ChangeOld
namespace Go.Proofs.Ytljpjoegeincoaa
section
open Go.RowKit Go.Sort

theorem degreeOfT_c (v : Value) (xss : List (List Int)) (w : World) (h : IntSS w.heap v xss) (hT : arT xss = true) :
    Calls Try.prog 71 #[v] w fun e w' => e = .returned (.int .i64 (degT xss)) ∧ w = w' := by
  refine (degreeOf_c v xss w h).mono fun _ _ ⟨⟨d, he, hd⟩, hw⟩ => ⟨?_, hw⟩
  rw [he, hd]
  by_cases h0 : xss.length = 0
  · obtain rfl : xss = [] := List.eq_nil_of_length_eq_zero h0
    rfl
  · exact (arT_row hT _ (by rw [show xss.getD 0 [] = xss[0]'(by omega) by simp [show 0 < xss.length by omega]]; exact List.getElem_mem _)).1
theorem degT_bound {xss : List (List Int)} (hT : arT xss = true) : 0 ≤ degT xss ∧ degT xss ≤ 40 := by
  by_cases h0 : xss.length = 0
  · obtain rfl : xss = [] := List.eq_nil_of_length_eq_zero h0
    exact ⟨Int.le_refl 0, by decide⟩
  · exact (arT_row hT _ (by rw [show xss.getD 0 [] = xss[0]'(by omega) by simp [show 0 < xss.length by omega]]; exact List.getElem_mem _)).2
end
section
def inK (k : Int) : Bool := decide (0 ≤ k) && decide (k ≤ 40)
end
section
open Go.RowKit Go.Sort

def pwC (xss : List (List Int)) (k : Int) : Int := if arT xss = false then 1 else if inK k = false then 2 else if k * degT xss ≤ 40 then 0 else 3
def pwL (xss : List (List Int)) (k : Int) : List (List Int) := if pwC xss k = 0 then powL xss k.toNat else []
theorem pow_ok {a : List (List Int)} {d : Int} (ha : ExpD d a) (aa : Asc a) (hd : 0 ≤ d) (hd2 : d ≤ 40) (n : Nat) (h : ((n : Int) + 1) * d ≤ 40) : SmS 1000000000000 20 (powL a n) ∧ SmS 1000000000000 20 a ∧ (prodsL (powL a n) a).length ≤ 100000000 ∧ ∀ x ∈ prodsL (powL a n) a, x.length ≤ 5 := by
  have e : ((n : Int) + 1) * d = (n : Int) * d + d := by rw [Int.add_mul]; simp
  rw [e] at h
  have hk : 0 ≤ (n : Int) * d := Int.mul_nonneg (by omega) hd
  exact prods_ok (powL_exp ha hd n (by omega)) ha hk hd h (powL_asc a n) aa
theorem pow_le {n K : Nat} {d : Int} (hn : n < K) (hd : 0 ≤ d) (h : (K : Int) * d ≤ 40) : ((n : Int) + 1) * d ≤ 40 :=
  Int.le_trans (Int.mul_le_mul_of_nonneg_right (by omega) hd) h
theorem pwL_cnt (xss : List (List Int)) (k : Int) : cnt (pwL xss k) ≤ 5000 := by
  unfold pwL
  split
  · rename_i h
    have hT : arT xss = true := by
      cases h1 : arT xss
      · simp [pwC, h1] at h
      · rfl
    have hk : inK k = true := by
      cases h1 : inK k
      · simp [pwC, hT, h1] at h
      · rfl
    have hd : k * degT xss ≤ 40 := by
      by_cases h1 : k * degT xss ≤ 40
      · exact h1
      · simp [pwC, hT, hk, h1] at h
    have hdd := degT_bound hT
    have hk2 := hk
    simp only [inK, Bool.and_eq_true, decide_eq_true_eq] at hk2
    obtain ⟨K, rfl⟩ : ∃ K : Nat, k = K := ⟨k.toNat, by omega⟩
    rw [Int.toNat_natCast]
    have h1 := powL_exp (arT_expD hT) hdd.1 K hd
    have h2 := expD_length (powL_asc xss K) h1 hd
    have h3 : cnt (powL xss K) ≤ (powL xss K).length * 5 := cnt_le fun r hr => exp_len5 (h1 r hr).1 (by rw [(h1 r hr).2]; exact hd)
    omega
  · simp [cnt]
set_option maxRecDepth 100000 in
set_option maxHeartbeats 1000000 in
theorem implPowerOfMilnor_of (SO : SortOk) (v : Value) (xss : List (List Int)) (k : Int) (w : World) (h : IntSS w.heap v xss) :
    Calls Try.prog 38 #[.agg #[v], .int .i64 k] w fun e w' => ∃ r us, e = .returned (.tuple #[.agg #[r], .int .i64 (pwC xss k)]) ∧ OwnU w' w.heap.size r us (pwL xss k) ∧ Below w.heap.size w w' := by
  have hb : Below w.heap.size w ((w.alloc (.cells #[v] 26)).alloc (.cells #[.slice none 0 0] 26)) := ((Below.refl _ _).alloc (Nat.le_refl _) _).alloc (by simp) _
  have k0 := (Cell1.new w v 26).kept (alloc_old _ (.cells #[.slice none 0 0] 26))
  have k2 := Cell1.new (w.alloc (.cells #[v] 26)) (.slice none 0 0) 26
  simp only [size_alloc_w] at k2
  have hsz : ((w.alloc (.cells #[v] 26)).alloc (.cells #[.slice none 0 0] 26)).heap.size = w.heap.size + 2 := by simp
  have C := Lib.hid (isMilnor_c v xss _ (h.same hb.block))
  obtain ⟨ao, c, rfl, hm⟩ := h.len
  have H := Lib.hid h; clear h
  obtain ⟨w0, hw0⟩ : ∃ w0, w0 = (w.alloc (.cells #[.slice ao xss.length c] 26)).alloc (.cells #[.slice none 0 0] 26) := ⟨_, rfl⟩
  have q0 := k0.c0
  rw [← hw0] at k0 k2 hb hsz C
  have HW := Lib.hid hw0; clear hw0
  have HB0 := Lib.hid hb; have K0 := Lib.hid k0; have K2 := Lib.hid k2; have HSZ := Lib.hid hsz
  clear hb k0 k2 hsz
  cases hT : arT xss
  · have e1 : pwC xss k = 1 := by simp [pwC, hT]
    have e2 : pwL xss k = [] := by simp [pwL, e1]
    rw [e1, e2]
    rw [hT] at C
    clear e1 e2 hT SO
    go_enter Try.func38, Try.ntmps38
    go_wp2_with fail
    rw [← HW.out]
    refine C.out.mono ?_
    rintro e w1 ⟨rfl, hb1⟩
    have K01 := Lib.hid (K0.out.kept hb1.block)
    have K21 := Lib.hid (K2.out.kept hb1.block)
    have q0' := K01.out.c0; have q2 := K21.out.c0; have f2 := K21.out.free 0
    have HB1 := Lib.hid (HB0.out.trans (hb1.mono HB0.out.size))
    have HS1 := Lib.hid hb1.size
    have HB01 := Lib.hid hb1
    clear hb1 HW q0
    go_wp2_with fail
    have g0 := (K21.out.set (.slice none 0 0)).c0
    exact bodyPost_ret (v := .tuple #[.agg #[.slice none 0 0], .int .i64 1]) (by simp [results, Try.results38, go_sem, g0]) rfl
      ⟨_, [], rfl, own_u_nil _ _, HB1.out.setCell (by show w.heap.size ≤ w.heap.size + 1; omega) _⟩
  · rw [hT] at C
    cases hK : inK k
    · have e1 : pwC xss k = 2 := by simp [pwC, hT, hK]
      have e2 : pwL xss k = [] := by simp [pwL, e1]
      rw [e1, e2]
      have IN := Lib.hid (fun W => in_c k 0 40 W)
      rw [show (decide ((0 : Int) ≤ k) && decide (k ≤ 40)) = false from hK] at IN
      clear e1 e2 hT SO hK
      go_enter Try.func38, Try.ntmps38
      go_wp2_with fail
      rw [← HW.out]
      refine C.out.mono ?_
      rintro e w1 ⟨rfl, hb1⟩
      have K01 := Lib.hid (K0.out.kept hb1.block)
      have K21 := Lib.hid (K2.out.kept hb1.block)
      have q0' := K01.out.c0; have q2 := K21.out.c0; have f2 := K21.out.free 0
      have HB1 := Lib.hid (HB0.out.trans (hb1.mono HB0.out.size))
      have HS1 := Lib.hid hb1.size
      have HB01 := Lib.hid hb1
      clear hb1 HW q0
      go_wp2_with (go_at_call 81; refine (IN.out _).mono ?_; rintro e w' ⟨rfl, rfl⟩)
      have g0 := (K21.out.set (.slice none 0 0)).c0
      exact bodyPost_ret (v := .tuple #[.agg #[.slice none 0 0], .int .i64 2]) (by simp [results, Try.results38, go_sem, g0]) rfl
        ⟨_, [], rfl, own_u_nil _ _, HB1.out.setCell (by show w.heap.size ≤ w.heap.size + 1; omega) _⟩
    · have IN := Lib.hid (fun W => in_c k 0 40 W)
      rw [show (decide ((0 : Int) ≤ k) && decide (k ≤ 40)) = true from hK] at IN
      have hk := hK
      simp only [inK, Bool.and_eq_true, decide_eq_true_eq] at hk
      obtain ⟨K, rfl⟩ : ∃ K : Nat, k = K := ⟨k.toNat, by omega⟩
      have D := Lib.hid (fun (W : World) (h : IntSS W.heap (.slice ao xss.length c) xss) => degreeOfT_c _ xss W h hT)
      obtain ⟨d, hdg⟩ : ∃ d, degT xss = d := ⟨_, rfl⟩
      have hdd := degT_bound hT
      have hexp := arT_expD hT
      have hasc := arT_asc hT
      rw [hdg] at D hdd hexp
      obtain ⟨hd0, hd1⟩ := hdd
      have hp0 : 0 ≤ (K : Int) * d := Int.mul_nonneg (by omega) hd0
      have hp1 : (K : Int) * d ≤ 1600 := Int.le_trans (Int.mul_le_mul hk.2 hd1 hd0 (by omega)) (by omega)
      by_cases hp : (K : Int) * d ≤ 40
      · have e1 : pwC xss (K : Int) = 0 := by simp [pwC, hT, hK, hdg, hp]
        have e2 : pwL xss (K : Int) = powL xss K := by simp [pwL, e1]
        rw [e1, e2]
        have t3 : decide (40 < (K : Int) * d) = false := decide_eq_false (by omega)
        have POK := Lib.hid (fun n (hn : n < K) => pow_ok hexp hasc hd0 hd1 n (pow_le hn hd0 hp))
        have S := Lib.hid (fun (n : Nat) (hn : n < K) (u : Value) (W : World) (hu : IntSS W.heap u (powL xss n)) (h : IntSS W.heap (.slice ao xss.length c) xss) => multiplied_of SO u _ (powL xss n) xss W hu h (pow_ok hexp hasc hd0 hd1 n (pow_le hn hd0 hp)).1 (pow_ok hexp hasc hd0 hd1 n (pow_le hn hd0 hp)).2.1 (by have := (pow_ok hexp hasc hd0 hd1 n (pow_le hn hd0 hp)).2.2.1; omega) (fun x hx => by have := (pow_ok hexp hasc hd0 hd1 n (pow_le hn hd0 hp)).2.2.2 x hx; omega))
        have hK40 : K ≤ 40 := by omega
        clear e1 e2 hT SO hK hdg hexp hasc hk hp POK
        go_enter Try.func38, Try.ntmps38
        go_wp2_with fail
        rw [← HW.out]
        refine C.out.mono ?_
        rintro e w1 ⟨rfl, hb1⟩
        have K01 := Lib.hid (K0.out.kept hb1.block)
        have K21 := Lib.hid (K2.out.kept hb1.block)
        have q0' := K01.out.c0; have q2 := K21.out.c0; have f2 := K21.out.free 0
        have HB1 := Lib.hid (HB0.out.trans (hb1.mono HB0.out.size))
        have HS1 := Lib.hid hb1.size
        have HB01 := Lib.hid hb1
        clear hb1 HW q0
        have H1 := Lib.hid (H.out.same HB1.out.block)
        go_wp2_with (first | (go_at_call 81; refine (IN.out _).mono ?_; rintro e w' ⟨rfl, rfl⟩) | (go_at_call 71; refine (D.out _ H1.out).mono ?_; rintro e w2 ⟨rfl, rfl⟩))
        clear t3 hp0 hp1
        have hge : w0.heap.size ≤ w1.heap.size := HS1.out
        have hl1 := own_lit1 (B := w0.heap.size) (ownI_empty (w := w1) (B := w0.heap.size) hge) (by simp; omega)
        rw [size_alloc_w] at hl1
        have HL1 := Lib.hid hl1
        clear hl1
        go_loopw [6, 28] (fun o i wr => ∃ (n : Nat) (us : List Value), n ≤ K ∧ i = .int .i64 n ∧ OwnU wr w0.heap.size o us (powL xss n) ∧ Below w1.heap.size w1 wr) (fun _ i _ => K - (intOf i).toNat)
        case atStart => exact ⟨0, _, by omega, rfl, HL1.out, ((Below.refl _ _).alloc (Nat.le_refl _) _).alloc (by simp) _⟩
        case round =>
          obtain ⟨n, us, hn, rfl, hU, hbl⟩ := hrel
          obtain ⟨va, vn, vc, rfl⟩ := own_shape hU.row
          have HU := Lib.hid hU; have HBL := Lib.hid hbl
          have k0' := (K01.out.kept hbl.block).c0
          have K22 := Lib.hid (K21.out.kept hbl.block)
          clear hU hbl
          by_cases hnK : n < K
          · have hni : (n : Int) < K := by omega
            have SN := Lib.hid (S.out n hnK)
            clear hnK
            go_wp2_with (go_at_call 80; refine (SN.out _ _ HU.out.ints (H1.out.same HBL.out.block)).mono ?_; rintro e w3 ⟨r3, us3, rfl, hU3, hb3⟩; obtain ⟨ua, un, uc, rfl⟩ := own_shape hU3.row)
            go_roundw
            case rel => exact ⟨n + 1, us3, by omega, by go_num, own_u_base hU3 (by have := HBL.out.size; have := HS1.out; omega), HBL.out.trans (hb3.mono HBL.out.size)⟩
            case measure => simp [intOf]; omega
          · obtain rfl : n = K := by omega
            have q2 := K22.out.c0; have f2 := K22.out.free 0
            go_wp2_with fail
            have g0 := (K22.out.set (.slice va vn vc)).c0
            exact bodyPost_ret (v := .tuple #[.agg #[.slice va vn vc], .int .i64 0]) (by simp [results, Try.results38, go_sem, g0]) rfl
              ⟨_, us, rfl, own_var1 HU.out (by have := HSZ.out; omega) _ (by have := HSZ.out; omega) K22.out, (HB1.out.trans (HBL.out.mono HB1.out.size)).setCell (by show w.heap.size ≤ w.heap.size + 1; omega) _⟩
      · have e1 : pwC xss (K : Int) = 3 := by simp [pwC, hT, hK, hdg, hp]
        have e2 : pwL xss (K : Int) = [] := by simp [pwL, e1]
        rw [e1, e2]
        have t3 : decide (40 < (K : Int) * d) = true := decide_eq_true (by omega)
        clear e1 e2 hT SO hK hdg hp hexp hasc
        go_enter Try.func38, Try.ntmps38
        go_wp2_with fail
        rw [← HW.out]
        refine C.out.mono ?_
        rintro e w1 ⟨rfl, hb1⟩
        have K01 := Lib.hid (K0.out.kept hb1.block)
        have K21 := Lib.hid (K2.out.kept hb1.block)
        have q0' := K01.out.c0; have q2 := K21.out.c0; have f2 := K21.out.free 0
        have HB1 := Lib.hid (HB0.out.trans (hb1.mono HB0.out.size))
        have HS1 := Lib.hid hb1.size
        have HB01 := Lib.hid hb1
        clear hb1 HW q0
        have H1 := Lib.hid (H.out.same HB1.out.block)
        go_wp2_with (first | (go_at_call 81; refine (IN.out _).mono ?_; rintro e w' ⟨rfl, rfl⟩) | (go_at_call 71; refine (D.out _ H1.out).mono ?_; rintro e w2 ⟨rfl, rfl⟩))
        have g0 := (K21.out.set (.slice none 0 0)).c0
        exact bodyPost_ret (v := .tuple #[.agg #[.slice none 0 0], .int .i64 3]) (by simp [results, Try.results38, go_sem, g0]) rfl
          ⟨_, [], rfl, own_u_nil _ _, HB1.out.setCell (by show w.heap.size ≤ w.heap.size + 1; omega) _⟩
set_option maxRecDepth 100000 in
set_option maxHeartbeats 1000000 in
theorem specPowerOfMilnor_c (v : Value) (xss : List (List Int)) (k : Int) (w : World) (h : IntSS w.heap v xss) :
    Calls Try.prog 37 #[.agg #[v], .int .i64 k] w fun e w' => ∃ r us, e = .returned (.tuple #[.agg #[r], .int .i64 (pwC xss k)]) ∧ OwnU w' w.heap.size r us (pwL xss k) ∧ Below w.heap.size w w' := by
  have hb : Below w.heap.size w ((w.alloc (.cells #[v] 26)).alloc (.cells #[.slice none 0 0] 26)) := ((Below.refl _ _).alloc (Nat.le_refl _) _).alloc (by simp) _
  have k0 := (Cell1.new w v 26).kept (alloc_old _ (.cells #[.slice none 0 0] 26))
  have k2 := Cell1.new (w.alloc (.cells #[v] 26)) (.slice none 0 0) 26
  simp only [size_alloc_w] at k2
  have hsz : ((w.alloc (.cells #[v] 26)).alloc (.cells #[.slice none 0 0] 26)).heap.size = w.heap.size + 2 := by simp
  have C := Lib.hid (l04Is_c v xss _ (h.same hb.block))
  obtain ⟨ao, c, rfl, hm⟩ := h.len
  have H := Lib.hid h; clear h
  obtain ⟨w0, hw0⟩ : ∃ w0, w0 = (w.alloc (.cells #[.slice ao xss.length c] 26)).alloc (.cells #[.slice none 0 0] 26) := ⟨_, rfl⟩
  have q0 := k0.c0
  rw [← hw0] at k0 k2 hb hsz C
  have HW := Lib.hid hw0; clear hw0
  have HB0 := Lib.hid hb; have K0 := Lib.hid k0; have K2 := Lib.hid k2; have HSZ := Lib.hid hsz
  clear hb k0 k2 hsz
  cases hT : arT xss
  · have e1 : pwC xss k = 1 := by simp [pwC, hT]
    have e2 : pwL xss k = [] := by simp [pwL, e1]
    rw [e1, e2]
    rw [hT] at C
    clear e1 e2 hT
    go_enter Try.func37, Try.ntmps37
    go_wp2_with fail
    rw [← HW.out]
    refine C.out.mono ?_
    rintro e w1 ⟨rfl, hb1⟩
    have K01 := Lib.hid (K0.out.kept hb1.block)
    have K21 := Lib.hid (K2.out.kept hb1.block)
    have q0' := K01.out.c0; have q2 := K21.out.c0; have f2 := K21.out.free 0
    have HB1 := Lib.hid (HB0.out.trans (hb1.mono HB0.out.size))
    have HS1 := Lib.hid hb1.size
    have HB01 := Lib.hid hb1
    clear hb1 HW q0
    go_wp2_with fail
    have g0 := (K21.out.set (.slice none 0 0)).c0
    exact bodyPost_ret (v := .tuple #[.agg #[.slice none 0 0], .int .i64 1]) (by simp [results, Try.results37, go_sem, g0]) rfl
      ⟨_, [], rfl, own_u_nil _ _, HB1.out.setCell (by show w.heap.size ≤ w.heap.size + 1; omega) _⟩
  · rw [hT] at C
    cases hK : inK k
    · have e1 : pwC xss k = 2 := by simp [pwC, hT, hK]
      have e2 : pwL xss k = [] := by simp [pwL, e1]
      rw [e1, e2]
      have IN := Lib.hid (fun W => l01In_c k 0 40 W)
      rw [show (decide ((0 : Int) ≤ k) && decide (k ≤ 40)) = false from hK] at IN
      clear e1 e2 hT hK
      go_enter Try.func37, Try.ntmps37
      go_wp2_with fail
      rw [← HW.out]
      refine C.out.mono ?_
      rintro e w1 ⟨rfl, hb1⟩
      have K01 := Lib.hid (K0.out.kept hb1.block)
      have K21 := Lib.hid (K2.out.kept hb1.block)
      have q0' := K01.out.c0; have q2 := K21.out.c0; have f2 := K21.out.free 0
      have HB1 := Lib.hid (HB0.out.trans (hb1.mono HB0.out.size))
      have HS1 := Lib.hid hb1.size
      have HB01 := Lib.hid hb1
      clear hb1 HW q0
      go_wp2_with (go_at_call 66; refine (IN.out _).mono ?_; rintro e w' ⟨rfl, rfl⟩)
      have g0 := (K21.out.set (.slice none 0 0)).c0
      exact bodyPost_ret (v := .tuple #[.agg #[.slice none 0 0], .int .i64 2]) (by simp [results, Try.results37, go_sem, g0]) rfl
        ⟨_, [], rfl, own_u_nil _ _, HB1.out.setCell (by show w.heap.size ≤ w.heap.size + 1; omega) _⟩
    · have IN := Lib.hid (fun W => l01In_c k 0 40 W)
      rw [show (decide ((0 : Int) ≤ k) && decide (k ≤ 40)) = true from hK] at IN
      have hk := hK
      simp only [inK, Bool.and_eq_true, decide_eq_true_eq] at hk
      obtain ⟨K, rfl⟩ : ∃ K : Nat, k = K := ⟨k.toNat, by omega⟩
      have F1 := Lib.hid (arT_first' hT)
      obtain ⟨d, hdg⟩ : ∃ d, degT xss = d := ⟨_, rfl⟩
      have hdd := degT_bound hT
      have hexp := arT_expD hT
      have hasc := arT_asc hT
      rw [hdg] at hdd hexp
      obtain ⟨hd0, hd1⟩ := hdd
      have hp0 : 0 ≤ (K : Int) * d := Int.mul_nonneg (by omega) hd0
      have hp1 : (K : Int) * d ≤ 1600 := Int.le_trans (Int.mul_le_mul hk.2 hd1 hd0 (by omega)) (by omega)
      by_cases h0 : xss.length = 0
      · have t1 : decide (0 < xss.length) = false := decide_eq_false (by omega)
        have t2 : decide ((0 : Int) < (xss.length : Int)) = false := decide_eq_false (by omega)
        have hd00 : d = 0 := by
          obtain rfl : xss = [] := List.eq_nil_of_length_eq_zero h0
          rw [← hdg]; rfl
        have hp : (K : Int) * d ≤ 40 := by rw [hd00]; omega
        have e1 : pwC xss (K : Int) = 0 := by simp [pwC, hT, hK, hdg, hp]
        have e2 : pwL xss (K : Int) = powL xss K := by simp [pwL, e1]
        rw [e1, e2]
        have S := Lib.hid (fun (n : Nat) (hn : n < K) (u : Value) (W : World) (hu : IntSS W.heap u (powL xss n)) (h : IntSS W.heap (.slice ao xss.length c) xss) => l04Times_c u _ (powL xss n) xss W hu h (pow_ok hexp hasc hd0 hd1 n (pow_le hn hd0 hp)).1 (pow_ok hexp hasc hd0 hd1 n (pow_le hn hd0 hp)).2.1 (by have := (pow_ok hexp hasc hd0 hd1 n (pow_le hn hd0 hp)).2.2.1; omega))
        have hK40 : K ≤ 40 := by omega
        clear e1 e2 hT hK hdg hexp hasc hk hp
        clear h0 hd00
        go_enter Try.func37, Try.ntmps37
        go_wp2_with fail
        rw [← HW.out]
        refine C.out.mono ?_
        rintro e w1 ⟨rfl, hb1⟩
        have K01 := Lib.hid (K0.out.kept hb1.block)
        have K21 := Lib.hid (K2.out.kept hb1.block)
        have q0' := K01.out.c0; have q2 := K21.out.c0; have f2 := K21.out.free 0
        have HB1 := Lib.hid (HB0.out.trans (hb1.mono HB0.out.size))
        have HS1 := Lib.hid hb1.size
        have HB01 := Lib.hid hb1
        clear hb1 HW q0
        have H1 := Lib.hid (H.out.same HB1.out.block)
        go_wp2_with (go_at_call 66; refine (IN.out _).mono ?_; rintro e w' ⟨rfl, rfl⟩)
        clear hp0 hp1
        have hge : w0.heap.size ≤ w1.heap.size := HS1.out
        have hl1 := own_lit1 (B := w0.heap.size) (ownI_empty (w := w1) (B := w0.heap.size) hge) (by simp; omega)
        rw [size_alloc_w] at hl1
        have HL1 := Lib.hid hl1
        clear hl1
        go_loopw [6, 1] (fun o i wr => ∃ (n : Nat) (us : List Value), n ≤ K ∧ i = .int .i64 ((K : Int) - n) ∧ OwnU wr w0.heap.size o us (powL xss n) ∧ Below w1.heap.size w1 wr) (fun _ i _ => (intOf i).toNat)
        case atStart => exact ⟨0, _, by omega, by simp, HL1.out, ((Below.refl _ _).alloc (Nat.le_refl _) _).alloc (by simp) _⟩
        case round =>
          obtain ⟨n, us, hn, rfl, hU, hbl⟩ := hrel
          obtain ⟨va, vn, vc, rfl⟩ := own_shape hU.row
          have HU := Lib.hid hU; have HBL := Lib.hid hbl
          have k0' := (K01.out.kept hbl.block).c0
          have K22 := Lib.hid (K21.out.kept hbl.block)
          clear hU hbl
          by_cases hnK : n < K
          · have hni : (n : Int) < K := by omega
            have SN := Lib.hid (S.out n hnK)
            have tk : decide (0 < (K : Int) - n) = true := decide_eq_true (by omega)
            clear hnK
            go_wp2_with (go_at_call 79; refine (SN.out _ _ HU.out.ints (H1.out.same HBL.out.block)).mono ?_; rintro e w3 ⟨r3, us3, rfl, hU3, hb3⟩; obtain ⟨ua, un, uc, rfl⟩ := own_shape hU3.row)
            go_roundw
            case rel => exact ⟨n + 1, us3, by omega, by go_num, own_u_base hU3 (by have := HBL.out.size; have := HS1.out; omega), HBL.out.trans (hb3.mono HBL.out.size)⟩
            case measure => simp [intOf]; omega
          · obtain rfl : n = K := by omega
            have q2 := K22.out.c0; have f2 := K22.out.free 0
            go_wp2_with fail
            have g0 := (K22.out.set (.slice va vn vc)).c0
            exact bodyPost_ret (v := .tuple #[.agg #[.slice va vn vc], .int .i64 0]) (by simp [results, Try.results37, go_sem, g0]) rfl
              ⟨_, us, rfl, own_var1 HU.out (by have := HSZ.out; omega) _ (by have := HSZ.out; omega) K22.out, (HB1.out.trans (HBL.out.mono HB1.out.size)).setCell (by show w.heap.size ≤ w.heap.size + 1; omega) _⟩
      · have t1 : decide (0 < xss.length) = true := decide_eq_true (by omega)
        have t2 : decide ((0 : Int) < (xss.length : Int)) = true := decide_eq_true (by omega)
        have hz : (0 : Int) < xss.length := by omega
        obtain ⟨b1, o1, c1, u1, hv1, hc1, hu1, -⟩ := (H.out.same HB0.out.block).at 0 (by omega)
        simp only [Value.slice.injEq, true_and] at hv1
        obtain ⟨rfl, rfl⟩ := hv1
        rw [show o1 + 0 = o1 from rfl] at hc1
        rw [show xss[0] = xss.getD 0 [] by simp [show 0 < xss.length by omega]] at hu1
        have D1 := Lib.hid (fun (W : World) (h : IntS W.heap u1 (xss.getD 0 [])) => l01DegreeE_c u1 _ W h F1.out)
        rw [show deg (xss.getD 0 []) = d from hdg] at D1
        have HU1 := Lib.hid hu1
        have HC1 := Lib.hid hc1
        obtain ⟨ua, uc, rfl, -⟩ := hu1.len
        clear hu1 hc1
        by_cases hp : (K : Int) * d ≤ 40
        · have t3 : decide (40 < (K : Int) * d) = false := decide_eq_false (by omega)
          have e1 : pwC xss (K : Int) = 0 := by simp [pwC, hT, hK, hdg, hp]
          have e2 : pwL xss (K : Int) = powL xss K := by simp [pwL, e1]
          rw [e1, e2]
          have S := Lib.hid (fun (n : Nat) (hn : n < K) (u : Value) (W : World) (hu : IntSS W.heap u (powL xss n)) (h : IntSS W.heap (.slice (some ⟨b1, o1, none⟩) xss.length c) xss) => l04Times_c u _ (powL xss n) xss W hu h (pow_ok hexp hasc hd0 hd1 n (pow_le hn hd0 hp)).1 (pow_ok hexp hasc hd0 hd1 n (pow_le hn hd0 hp)).2.1 (by have := (pow_ok hexp hasc hd0 hd1 n (pow_le hn hd0 hp)).2.2.1; omega))
          have hK40 : K ≤ 40 := by omega
          clear e1 e2 hT hK hdg hexp hasc hk hp
          clear h0 F1
          generalize xss.getD 0 [] = ys at *
          go_enter Try.func37, Try.ntmps37
          go_wp2_with fail
          rw [← HW.out]
          refine C.out.mono ?_
          rintro e w1 ⟨rfl, hb1⟩
          have K01 := Lib.hid (K0.out.kept hb1.block)
          have K21 := Lib.hid (K2.out.kept hb1.block)
          have q0' := K01.out.c0; have q2 := K21.out.c0; have f2 := K21.out.free 0
          have HB1 := Lib.hid (HB0.out.trans (hb1.mono HB0.out.size))
          have HS1 := Lib.hid hb1.size
          have HB01 := Lib.hid hb1
          clear hb1 HW q0
          have H1 := Lib.hid (H.out.same HB1.out.block)
          have hc2 := (HB01.out.cell (World.block_lt_of_cell? _ _ HC1.out)).trans HC1.out
          go_wp2_with (first | (go_at_call 66; refine (IN.out _).mono ?_; rintro e w' ⟨rfl, rfl⟩) | (go_at_call 67; refine (D1.out _ (HU1.out.same HB01.out.block)).mono ?_; rintro e w2 ⟨rfl, rfl⟩))
          clear hc2
          clear hp0 hp1
          have hge : w0.heap.size ≤ w1.heap.size := HS1.out
          have hl1 := own_lit1 (B := w0.heap.size) (ownI_empty (w := w1) (B := w0.heap.size) hge) (by simp; omega)
          rw [size_alloc_w] at hl1
          have HL1 := Lib.hid hl1
          clear hl1
          go_loopw [6, 1] (fun o i wr => ∃ (n : Nat) (us : List Value), n ≤ K ∧ i = .int .i64 ((K : Int) - n) ∧ OwnU wr w0.heap.size o us (powL xss n) ∧ Below w1.heap.size w1 wr) (fun _ i _ => (intOf i).toNat)
          case atStart => exact ⟨0, _, by omega, by simp, HL1.out, ((Below.refl _ _).alloc (Nat.le_refl _) _).alloc (by simp) _⟩
          case round =>
            obtain ⟨n, us, hn, rfl, hU, hbl⟩ := hrel
            obtain ⟨va, vn, vc, rfl⟩ := own_shape hU.row
            have HU := Lib.hid hU; have HBL := Lib.hid hbl
            have k0' := (K01.out.kept hbl.block).c0
            have K22 := Lib.hid (K21.out.kept hbl.block)
            clear hU hbl
            by_cases hnK : n < K
            · have hni : (n : Int) < K := by omega
              have SN := Lib.hid (S.out n hnK)
              have tk : decide (0 < (K : Int) - n) = true := decide_eq_true (by omega)
              clear hnK
              go_wp2_with (go_at_call 79; refine (SN.out _ _ HU.out.ints (H1.out.same HBL.out.block)).mono ?_; rintro e w3 ⟨r3, us3, rfl, hU3, hb3⟩; obtain ⟨ua, un, uc, rfl⟩ := own_shape hU3.row)
              go_roundw
              case rel => exact ⟨n + 1, us3, by omega, by go_num, own_u_base hU3 (by have := HBL.out.size; have := HS1.out; omega), HBL.out.trans (hb3.mono HBL.out.size)⟩
              case measure => simp [intOf]; omega
            · obtain rfl : n = K := by omega
              have q2 := K22.out.c0; have f2 := K22.out.free 0
              go_wp2_with fail
              have g0 := (K22.out.set (.slice va vn vc)).c0
              exact bodyPost_ret (v := .tuple #[.agg #[.slice va vn vc], .int .i64 0]) (by simp [results, Try.results37, go_sem, g0]) rfl
                ⟨_, us, rfl, own_var1 HU.out (by have := HSZ.out; omega) _ (by have := HSZ.out; omega) K22.out, (HB1.out.trans (HBL.out.mono HB1.out.size)).setCell (by show w.heap.size ≤ w.heap.size + 1; omega) _⟩
        · have t3 : decide (40 < (K : Int) * d) = true := decide_eq_true (by omega)
          have e1 : pwC xss (K : Int) = 3 := by simp [pwC, hT, hK, hdg, hp]
          have e2 : pwL xss (K : Int) = [] := by simp [pwL, e1]
          rw [e1, e2]
          clear e1 e2 hT hK hdg hp hexp hasc h0 F1
          generalize xss.getD 0 [] = ys at *
          go_enter Try.func37, Try.ntmps37
          go_wp2_with fail
          rw [← HW.out]
          refine C.out.mono ?_
          rintro e w1 ⟨rfl, hb1⟩
          have K01 := Lib.hid (K0.out.kept hb1.block)
          have K21 := Lib.hid (K2.out.kept hb1.block)
          have q0' := K01.out.c0; have q2 := K21.out.c0; have f2 := K21.out.free 0
          have HB1 := Lib.hid (HB0.out.trans (hb1.mono HB0.out.size))
          have HS1 := Lib.hid hb1.size
          have HB01 := Lib.hid hb1
          clear hb1 HW q0
          have hc2 := (HB01.out.cell (World.block_lt_of_cell? _ _ HC1.out)).trans HC1.out
          go_wp2_with (first | (go_at_call 66; refine (IN.out _).mono ?_; rintro e w' ⟨rfl, rfl⟩) | (go_at_call 67; refine (D1.out _ (HU1.out.same HB01.out.block)).mono ?_; rintro e w2 ⟨rfl, rfl⟩))
          have g0 := (K21.out.set (.slice none 0 0)).c0
          exact bodyPost_ret (v := .tuple #[.agg #[.slice none 0 0], .int .i64 3]) (by simp [results, Try.results37, go_sem, g0]) rfl
            ⟨_, [], rfl, own_u_nil _ _, HB1.out.setCell (by show w.heap.size ≤ w.heap.size + 1; omega) _⟩
end
open Go.ChangeShapes Go.WideShapes Go.ChangeAt Go.RowKit
open Go.ChangeMaps (open_string shut_string)

theorem sortOk : SortOk := sortSS_c
set_option maxRecDepth 100000 in
set_option maxHeartbeats 4000000 in
theorem fnExactPowerOfMilnor_walk (w : World) (a1 : Option Addr) (l1 p1 : Nat) (t1 : List (List Int)) (h1 : IsRows w a1 l1 t1) (n : Int) (_hn : (Lit.int .i64 n).wf = true) :
    Calls Try.prog 8 #[.agg #[.slice a1 l1 p1], .int .i64 n] w fun e w' => e = .returned (.bool true) ∧ Below w.heap.size w w' := by
  have S := Lib.hid (fun (v : Value) (W : World) (h : IntSS W.heap v t1) => readO (specPowerOfMilnor_c v t1 n W h))
  have I := Lib.hid (fun (v : Value) (W : World) (h : IntSS W.heap v t1) => implPowerOfMilnor_of sortOk v t1 n W h)
  have HXL := Lib.hid (pwL_cnt t1 n)
  generalize pwL t1 n = rx at *
  generalize pwC t1 n = pc at *
  have u1 : (pc != pc) = false := by simp
  obtain ⟨W0, hW0⟩ : ∃ W, W = (w.alloc (.cells #[.slice a1 l1 p1] 24)) := ⟨_, rfl⟩
  have hx : Below w.heap.size w W0 := by rw [hW0]; exact ((Below.refl _ _).alloc (by exact Nat.le_refl _) _)
  have hsz : w.heap.size + 1 ≤ W0.heap.size := by rw [hW0]; simp
  have k1 := (Cell1.new w (.slice a1 l1 p1) 24).c0
  rw [← hW0] at k1
  have BW0 := Lib.hid hx
  have Z2 := Lib.hid (hsz)
  have HW0 := Lib.hid hW0
  clear hW0 hx hsz
  have SM1 := Lib.hid (fun (left : Nat) (hl : left ≤ 1048576) (W : World) (hb : Below w.heap.size w W) => szMilnor_c a1 l1 p1 t1 left W (h1.same hb.block hb.size) hl)
  have TM10 := fun (W : World) (hb : Below w.heap.size w W) => toMilnor_c a1 l1 p1 t1 W (h1.same hb.block hb.size)
  clear h1
  go_enter Try.func8, Try.ntmps8
  go_wp2_with fail
  rw [← HW0.out]
  clear HW0
  have S0 := SM1.out 1048576 (Nat.le_refl _) _ BW0.out
  by_cases hz1 : t1.length + cnt t1 ≤ 1048576
  rotate_left
  · have e9 : szR t1 1048576 = -1 := by unfold szR; rw [if_neg hz1]
    rw [e9] at S0
    have S1 := Lib.hid S0
    clear S0 e9
    refine (S1.out).mono ?_
    rintro e W ⟨rfl, hx⟩
    have BE := Lib.hid (BW0.out.trans (hx.mono BW0.out.size))
    clear hx
    go_wp2_with fail
    go_ret
    exact ⟨rfl, BE.out⟩
  obtain ⟨left1, hl9⟩ : ∃ left : Nat, szR t1 1048576 = left := ⟨1048576 - (t1.length + cnt t1), by unfold szR; rw [if_pos hz1]; omega⟩
  have HLN : Hid (left1 ≤ 1048576) := by show _ ≤ _; unfold szR at hl9; rw [if_pos hz1] at hl9; have := Nat.le_refl 1048576; omega
  rw [hl9] at S0
  have S1 := Lib.hid S0
  clear S0 hl9
  have TM1 := Lib.hid (fun (W : World) (hb : Below w.heap.size w W) => TM10 W hb (by have := Nat.le_refl 1048576; omega))
  have HSZ1 : Hid (cnt t1 ≤ 1048576) := by show _ ≤ _; have := Nat.le_refl 1048576; omega
  clear TM10 hz1 SM1
  have HLF := HLN
  clear HLN
  refine (S1.out).mono ?_
  rintro e W3 ⟨rfl, hx⟩
  clear S1
  have Z4 := Lib.hid (hx.size)
  have k5 := (hx.cell (World.block_lt_of_cell? _ _ k1)).trans k1
  clear k1
  have B6 := Lib.hid (BW0.out.trans (hx.mono BW0.out.size))
  clear BW0
  clear hx
  go_wp2_with fail
  refine (TM1.out _ B6.out).mono ?_
  rintro e W9 ⟨v7, rfl, ⟨u8, hm⟩, hx⟩
  obtain ⟨q10, q11, q12, rfl⟩ := own_shape hm.row
  have O13 := Lib.hid hm
  have R14 := Lib.hid hm.range
  clear hm
  have Z15 := Lib.hid (hx.size)
  have k16 := (hx.cell (World.block_lt_of_cell? _ _ k5)).trans k5
  clear k5
  have B17 := Lib.hid (B6.out.trans (hx.mono B6.out.size))
  clear B6
  clear hx
  go_wp2_with fail
  refine (S.out (.slice q10 q11 q12) _ O13.out.ints).mono ?_
  rintro e W18 ⟨r1, rfl, hm, hx⟩
  obtain ⟨j1, j2, rfl, -⟩ := hm.len
  have RW := Lib.hid hm
  clear hm
  have Z19 := Lib.hid (hx.size)
  have k20 := (hx.cell (World.block_lt_of_cell? _ _ k16)).trans k16
  clear k16
  have O21 := Lib.hid (O13.out.same hx.block)
  clear O13
  have B22 := Lib.hid (B17.out.trans (hx.mono B17.out.size))
  clear B17
  clear hx
  have B23 := Lib.hid (Below.refl W18.heap.size W18)
  obtain ⟨W24, E250⟩ : ∃ W, W = W18.alloc (.cells #[.slice j1 rx.length j2] 26) := ⟨_, rfl⟩
  have hx : Below W18.heap.size W18 W24 := by rw [E250]; exact (Below.refl _ _).alloc (Nat.le_refl _) _
  have k26 : W24.cell? ⟨W18.heap.size, 0, none⟩ = some (.slice j1 rx.length j2) := by rw [E250, World.cell?]; simp only [heap_alloc_new]; rfl
  have kx0 := Go.Lib.cell?_alloc_some (.cells #[.slice j1 rx.length j2] 26) k20
  have Z27 := Lib.hid (World.block_lt_of_cell? _ _ k26)
  simp only at Z27
  have Z28 := Lib.hid (hx.size)
  have k29 := (hx.cell (World.block_lt_of_cell? _ _ k20)).trans k20
  clear k20
  have O30 := Lib.hid (O21.out.same hx.block)
  clear O21
  have B31 := Lib.hid (B22.out.trans (hx.mono B22.out.size))
  clear B22
  have B32 := Lib.hid (B23.out.trans (hx.mono B23.out.size))
  clear B23
  clear hx
  have E25 := Lib.hid E250
  clear E250
  go_wp2_with fail
  rw [← E25.out]
  clear E25 kx0
  clear O30
  go_wp2_with fail
  refine (TM1.out _ B31.out).mono ?_
  rintro e W35 ⟨v33, rfl, ⟨u34, hm⟩, hx⟩
  obtain ⟨q36, q37, q38, rfl⟩ := own_shape hm.row
  have O39 := Lib.hid hm
  have R40 := Lib.hid hm.range
  clear hm
  have Z41 := Lib.hid (hx.size)
  have k42 := (hx.cell (World.block_lt_of_cell? _ _ k29)).trans k29
  clear k29
  have k43 := (hx.cell (World.block_lt_of_cell? _ _ k26)).trans k26
  clear k26
  have B44 := Lib.hid (B31.out.trans (hx.mono B31.out.size))
  clear B31
  have B45 := Lib.hid (B32.out.trans (hx.mono B32.out.size))
  clear B32
  clear hx
  obtain ⟨W46, E470⟩ : ∃ W, W = W35.alloc (.cells #[.slice q36 q37 q38] 26) := ⟨_, rfl⟩
  have hx : Below W35.heap.size W35 W46 := by rw [E470]; exact (Below.refl _ _).alloc (Nat.le_refl _) _
  have k48 : W46.cell? ⟨W35.heap.size, 0, none⟩ = some (.slice q36 q37 q38) := by rw [E470, World.cell?]; simp only [heap_alloc_new]; rfl
  have kx0 := Go.Lib.cell?_alloc_some (.cells #[.slice q36 q37 q38] 26) k42
  have kx1 := Go.Lib.cell?_alloc_some (.cells #[.slice q36 q37 q38] 26) k43
  have Z49 := Lib.hid (World.block_lt_of_cell? _ _ k48)
  simp only at Z49
  have Z50 := Lib.hid (hx.size)
  have k51 := (hx.cell (World.block_lt_of_cell? _ _ k42)).trans k42
  clear k42
  have k52 := (hx.cell (World.block_lt_of_cell? _ _ k43)).trans k43
  clear k43
  have O53 := Lib.hid (O39.out.same hx.block)
  clear O39
  have B54 := Lib.hid (B44.out.trans (hx.mono B44.out.size))
  clear B44
  have B55 := Lib.hid (B45.out.trans (hx.mono B45.out.size))
  clear B45
  clear hx
  have E47 := Lib.hid E470
  clear E470
  go_wp2_with fail
  rw [← E47.out]
  clear E47 kx0 kx1
  go_wp2_with fail
  refine (I.out (.slice q36 q37 q38) _ O53.out.ints).mono ?_
  rintro e W58 ⟨v56, u57, rfl, hm, hx⟩
  obtain ⟨q59, q60, q61, rfl⟩ := own_shape hm.row
  have O62 := Lib.hid hm
  have R63 := Lib.hid hm.range
  clear hm
  have Z64 := Lib.hid (hx.size)
  have k65 := (hx.cell (World.block_lt_of_cell? _ _ k51)).trans k51
  clear k51
  have k66 := (hx.cell (World.block_lt_of_cell? _ _ k52)).trans k52
  clear k52
  have k67 := (hx.cell (World.block_lt_of_cell? _ _ k48)).trans k48
  clear k48
  have O68 := Lib.hid (O53.out.same hx.block)
  clear O53
  have B69 := Lib.hid (B54.out.trans (hx.mono B54.out.size))
  clear B54
  have B70 := Lib.hid (B55.out.trans (hx.mono B55.out.size))
  clear B55
  clear hx
  obtain ⟨W71, E720⟩ : ∃ W, W = W58.alloc (.cells #[.slice q59 q60 q61] 26) := ⟨_, rfl⟩
  have hx : Below W58.heap.size W58 W71 := by rw [E720]; exact (Below.refl _ _).alloc (Nat.le_refl _) _
  have k73 : W71.cell? ⟨W58.heap.size, 0, none⟩ = some (.slice q59 q60 q61) := by rw [E720, World.cell?]; simp only [heap_alloc_new]; rfl
  have kx0 := Go.Lib.cell?_alloc_some (.cells #[.slice q59 q60 q61] 26) k65
  have kx1 := Go.Lib.cell?_alloc_some (.cells #[.slice q59 q60 q61] 26) k66
  have kx2 := Go.Lib.cell?_alloc_some (.cells #[.slice q59 q60 q61] 26) k67
  have Z74 := Lib.hid (World.block_lt_of_cell? _ _ k73)
  simp only at Z74
  have Z75 := Lib.hid (hx.size)
  have k76 := (hx.cell (World.block_lt_of_cell? _ _ k65)).trans k65
  clear k65
  have k77 := (hx.cell (World.block_lt_of_cell? _ _ k66)).trans k66
  clear k66
  have k78 := (hx.cell (World.block_lt_of_cell? _ _ k67)).trans k67
  clear k67
  have O79 := Lib.hid (O68.out.same hx.block)
  clear O68
  have O80 := Lib.hid (O62.out.same hx.block)
  clear O62
  have B81 := Lib.hid (B69.out.trans (hx.mono B69.out.size))
  clear B69
  have B82 := Lib.hid (B70.out.trans (hx.mono B70.out.size))
  clear B70
  clear hx
  have E72 := Lib.hid E720
  clear E720
  go_wp2_with fail
  rw [← E72.out]
  clear E72 kx0 kx1 kx2
  go_wp2_with fail
  refine (eqMilnor_same _ _ rx _ O80.out.ints (RW.out.same B82.out.block)).mono ?_
  rintro e W83 ⟨rfl, hx⟩
  have Z84 := Lib.hid (hx.size)
  have k85 := (hx.cell (World.block_lt_of_cell? _ _ k76)).trans k76
  clear k76
  have k86 := (hx.cell (World.block_lt_of_cell? _ _ k77)).trans k77
  clear k77
  have k87 := (hx.cell (World.block_lt_of_cell? _ _ k78)).trans k78
  clear k78
  have k88 := (hx.cell (World.block_lt_of_cell? _ _ k73)).trans k73
  clear k73
  have O89 := Lib.hid (O79.out.same hx.block)
  clear O79
  have O90 := Lib.hid (O80.out.same hx.block)
  clear O80
  have B91 := Lib.hid (B81.out.trans (hx.mono B81.out.size))
  clear B81
  have B92 := Lib.hid (B82.out.trans (hx.mono B82.out.size))
  clear B82
  clear hx
  go_wp2_with fail
  go_region_held3 (fun W => W.cell? ⟨W35.heap.size, 0, none⟩ = some (.slice q36 q37 q38) ∧ W.cell? ⟨w.heap.size, 0, none⟩ = some (.slice a1 l1 p1) ∧ Below W83.heap.size W83 W)
    (first | exact ⟨k87, k85, (Below.refl _ _).drew⟩ | exact heldC2 (by assumption) hx8 | exact heldC2 (by assumption) hx9)
    (first | (go_at_call 16; refine (TM1.out _ (heldC2B B91.out (by assumption) B91.out.size)).mono ?_; rintro e W9 ⟨v9, rfl, ⟨u9, hm9⟩, hx9⟩; obtain ⟨e1, e2, e3, rfl⟩ := own_shape hm9.row) | (go_at_call 18; refine (eqMilnor_same _ _ t1 _ (O89.out.ints.same (heldC2X (by assumption)).block) hm9.ints).mono ?_; rintro e W8 ⟨rfl, hx8⟩))
  all_goals
    rename_i hh
    obtain ⟨W93, hWe⟩ : ∃ W, W = W8 := ⟨_, rfl⟩
    have hx : Below W83.heap.size W83 W93 := by rw [hWe]; exact heldC2X hh
    rw [← hWe]
    clear hWe hh hx8 hx9 hm9
    have Z94 := Lib.hid (hx.size)
    have k95 := (hx.cell (World.block_lt_of_cell? _ _ k85)).trans k85
    clear k85
    have k96 := (hx.cell (World.block_lt_of_cell? _ _ k86)).trans k86
    clear k86
    have k97 := (hx.cell (World.block_lt_of_cell? _ _ k87)).trans k87
    clear k87
    have k98 := (hx.cell (World.block_lt_of_cell? _ _ k88)).trans k88
    clear k88
    have O99 := Lib.hid (O89.out.same hx.block)
    clear O89
    have O100 := Lib.hid (O90.out.same hx.block)
    clear O90
    have B101 := Lib.hid (B91.out.trans (hx.mono B91.out.size))
    clear B91
    have B102 := Lib.hid (B92.out.trans (hx.mono B92.out.size))
    clear B92
    clear hx
    go_wp2_with fail
    refine (markMilnor_c (.slice q36 q37 q38) u34 t1 1 W24.heap.size W93 O99.out (by have := Z2.out; have := Z4.out; have := Z15.out; have := Z19.out; have := Z27.out; have := Z28.out; have := Z41.out; have := Z49.out; have := Z50.out; have := Z64.out; have := Z74.out; have := Z75.out; have := Z84.out; have := Z94.out; omega) (by omega) (by have := HXL.out; have := HSZ1.out; omega)).mono ?_
    rintro e W103 ⟨rfl, hm, hlow, hfr⟩
    have RRR := R40.out
    have hhi : ∀ b, W35.heap.size ≤ b → b < W93.heap.size → W103.heap[b]? = W93.heap[b]? := fun b h1 h2 => hfr b h2 (fun u hu e => by have := RRR.2 u hu b e; omega)
    clear RRR
    have O104 := Lib.hid hm
    clear hm
    have Z105 := Lib.hid (hlow.size)
    have k106 := (hlow.cell (p := ⟨w.heap.size, 0, none⟩) (by show w.heap.size < W24.heap.size; exact (by have := Z2.out; have := Z4.out; have := Z15.out; have := Z19.out; have := Z27.out; have := Z28.out; have := Z41.out; have := Z49.out; have := Z50.out; have := Z64.out; have := Z74.out; have := Z75.out; have := Z84.out; have := Z94.out; have := Z105.out; omega))).trans k95
    clear k95
    have k107 := (hlow.cell (p := ⟨W18.heap.size, 0, none⟩) (by show W18.heap.size < W24.heap.size; exact (by have := Z2.out; have := Z4.out; have := Z15.out; have := Z19.out; have := Z27.out; have := Z28.out; have := Z41.out; have := Z49.out; have := Z50.out; have := Z64.out; have := Z74.out; have := Z75.out; have := Z84.out; have := Z94.out; have := Z105.out; omega))).trans k96
    clear k96
    have k108 := (World.cell?_of_block (hhi W35.heap.size (by have := Z2.out; have := Z4.out; have := Z15.out; have := Z19.out; have := Z27.out; have := Z28.out; have := Z41.out; have := Z49.out; have := Z50.out; have := Z64.out; have := Z74.out; have := Z75.out; have := Z84.out; have := Z94.out; have := Z105.out; omega) (World.block_lt_of_cell? _ _ k97))).trans k97
    clear k97
    have k109 := (World.cell?_of_block (hhi W58.heap.size (by have := Z2.out; have := Z4.out; have := Z15.out; have := Z19.out; have := Z27.out; have := Z28.out; have := Z41.out; have := Z49.out; have := Z50.out; have := Z64.out; have := Z74.out; have := Z75.out; have := Z84.out; have := Z94.out; have := Z105.out; omega) (World.block_lt_of_cell? _ _ k98))).trans k98
    clear k98
    have O110 := Lib.hid (O100.out.far fun b h1 h2 => hhi b (Nat.le_trans (by have := Z2.out; have := Z4.out; have := Z15.out; have := Z19.out; have := Z27.out; have := Z28.out; have := Z41.out; have := Z49.out; have := Z50.out; have := Z64.out; have := Z74.out; have := Z75.out; have := Z84.out; have := Z94.out; have := Z105.out; omega) h1) h2)
    clear O100
    have B111 := Lib.hid (B101.out.trans (hlow.mono (by have := Z2.out; have := Z4.out; have := Z15.out; have := Z19.out; have := Z27.out; have := Z28.out; have := Z41.out; have := Z49.out; have := Z50.out; have := Z64.out; have := Z74.out; have := Z75.out; have := Z84.out; have := Z94.out; have := Z105.out; omega)))
    clear B101
    have B112 := Lib.hid (B102.out.trans (hlow.mono (by have := Z2.out; have := Z4.out; have := Z15.out; have := Z19.out; have := Z27.out; have := Z28.out; have := Z41.out; have := Z49.out; have := Z50.out; have := Z64.out; have := Z74.out; have := Z75.out; have := Z84.out; have := Z94.out; have := Z105.out; omega)))
    clear B102
    clear hlow hhi hfr
    have t9 : decide ((1 + (cnt t1 : Int)) < 0) = false := by simp; omega
    clear O104
    clear k108
    go_wp2_with fail
    refine (eqMilnor_same _ _ rx _ O110.out.ints (RW.out.same B112.out.block)).mono ?_
    rintro e W113 ⟨rfl, hx⟩
    have Z114 := Lib.hid (hx.size)
    have k115 := (hx.cell (World.block_lt_of_cell? _ _ k106)).trans k106
    clear k106
    have k116 := (hx.cell (World.block_lt_of_cell? _ _ k107)).trans k107
    clear k107
    have k117 := (hx.cell (World.block_lt_of_cell? _ _ k109)).trans k109
    clear k109
    have O118 := Lib.hid (O110.out.same hx.block)
    clear O110
    have B119 := Lib.hid (B111.out.trans (hx.mono B111.out.size))
    clear B111
    have B120 := Lib.hid (B112.out.trans (hx.mono B112.out.size))
    clear B112
    clear hx
    go_wp2_with fail
    refine (markMilnor_c (.slice q59 q60 q61) u57 rx 1 W46.heap.size W113 O118.out (by have := Z2.out; have := Z4.out; have := Z15.out; have := Z19.out; have := Z27.out; have := Z28.out; have := Z41.out; have := Z49.out; have := Z50.out; have := Z64.out; have := Z74.out; have := Z75.out; have := Z84.out; have := Z94.out; have := Z105.out; have := Z114.out; omega) (by omega) (by have := HXL.out; have := HSZ1.out; omega)).mono ?_
    rintro e W121 ⟨rfl, hm, hlow, hfr⟩
    have RRR := R63.out
    have hhi : ∀ b, W58.heap.size ≤ b → b < W113.heap.size → W121.heap[b]? = W113.heap[b]? := fun b h1 h2 => hfr b h2 (fun u hu e => by have := RRR.2 u hu b e; omega)
    clear RRR
    have O122 := Lib.hid hm
    clear hm
    have Z123 := Lib.hid (hlow.size)
    have k124 := (hlow.cell (p := ⟨w.heap.size, 0, none⟩) (by show w.heap.size < W46.heap.size; exact (by have := Z2.out; have := Z4.out; have := Z15.out; have := Z19.out; have := Z27.out; have := Z28.out; have := Z41.out; have := Z49.out; have := Z50.out; have := Z64.out; have := Z74.out; have := Z75.out; have := Z84.out; have := Z94.out; have := Z105.out; have := Z114.out; have := Z123.out; omega))).trans k115
    clear k115
    have k125 := (hlow.cell (p := ⟨W18.heap.size, 0, none⟩) (by show W18.heap.size < W46.heap.size; exact (by have := Z2.out; have := Z4.out; have := Z15.out; have := Z19.out; have := Z27.out; have := Z28.out; have := Z41.out; have := Z49.out; have := Z50.out; have := Z64.out; have := Z74.out; have := Z75.out; have := Z84.out; have := Z94.out; have := Z105.out; have := Z114.out; have := Z123.out; omega))).trans k116
    clear k116
    have k126 := (World.cell?_of_block (hhi W58.heap.size (by have := Z2.out; have := Z4.out; have := Z15.out; have := Z19.out; have := Z27.out; have := Z28.out; have := Z41.out; have := Z49.out; have := Z50.out; have := Z64.out; have := Z74.out; have := Z75.out; have := Z84.out; have := Z94.out; have := Z105.out; have := Z114.out; have := Z123.out; omega) (World.block_lt_of_cell? _ _ k117))).trans k117
    clear k117
    have B127 := Lib.hid (B119.out.trans (hlow.mono (by have := Z2.out; have := Z4.out; have := Z15.out; have := Z19.out; have := Z27.out; have := Z28.out; have := Z41.out; have := Z49.out; have := Z50.out; have := Z64.out; have := Z74.out; have := Z75.out; have := Z84.out; have := Z94.out; have := Z105.out; have := Z114.out; have := Z123.out; omega)))
    clear B119
    have B128 := Lib.hid (B120.out.trans (hlow.mono (by have := Z2.out; have := Z4.out; have := Z15.out; have := Z19.out; have := Z27.out; have := Z28.out; have := Z41.out; have := Z49.out; have := Z50.out; have := Z64.out; have := Z74.out; have := Z75.out; have := Z84.out; have := Z94.out; have := Z105.out; have := Z114.out; have := Z123.out; omega)))
    clear B120
    clear hlow hhi hfr
    go_wp2_with fail
    refine (heldMilnor_c (.slice q59 q60 q61) rx 1 _ O122.out.ints (by omega) (by have := HXL.out; have := HSZ1.out; omega)).mono ?_
    rintro e W129 ⟨rfl, hx⟩
    have Z130 := Lib.hid (hx.size)
    have k131 := (hx.cell (World.block_lt_of_cell? _ _ k124)).trans k124
    clear k124
    have k132 := (hx.cell (World.block_lt_of_cell? _ _ k125)).trans k125
    clear k125
    have k133 := (hx.cell (World.block_lt_of_cell? _ _ k126)).trans k126
    clear k126
    have O134 := Lib.hid (O122.out.same hx.block)
    clear O122
    have B135 := Lib.hid (B127.out.trans (hx.mono B127.out.size))
    clear B127
    have B136 := Lib.hid (B128.out.trans (hx.mono B128.out.size))
    clear B128
    clear hx
    go_wp2_with fail
    refine (TM1.out _ B135.out).mono ?_
    rintro e W139 ⟨v137, rfl, ⟨u138, hm⟩, hx⟩
    obtain ⟨q140, q141, q142, rfl⟩ := own_shape hm.row
    have O143 := Lib.hid hm
    have R144 := Lib.hid hm.range
    clear hm
    have Z145 := Lib.hid (hx.size)
    have k146 := (hx.cell (World.block_lt_of_cell? _ _ k131)).trans k131
    clear k131
    have k147 := (hx.cell (World.block_lt_of_cell? _ _ k132)).trans k132
    clear k132
    have k148 := (hx.cell (World.block_lt_of_cell? _ _ k133)).trans k133
    clear k133
    have O149 := Lib.hid (O134.out.same hx.block)
    clear O134
    have B150 := Lib.hid (B135.out.trans (hx.mono B135.out.size))
    clear B135
    have B151 := Lib.hid (B136.out.trans (hx.mono B136.out.size))
    clear B136
    clear hx
    go_wp2_with fail
    refine (I.out (.slice q140 q141 q142) _ O143.out.ints).mono ?_
    rintro e W154 ⟨v152, u153, rfl, hm, hx⟩
    obtain ⟨q155, q156, q157, rfl⟩ := own_shape hm.row
    have O158 := Lib.hid hm
    have R159 := Lib.hid hm.range
    clear hm
    have Z160 := Lib.hid (hx.size)
    have k161 := (hx.cell (World.block_lt_of_cell? _ _ k146)).trans k146
    clear k146
    have k162 := (hx.cell (World.block_lt_of_cell? _ _ k147)).trans k147
    clear k147
    have k163 := (hx.cell (World.block_lt_of_cell? _ _ k148)).trans k148
    clear k148
    have O164 := Lib.hid (O149.out.same hx.block)
    clear O149
    have O165 := Lib.hid (O143.out.same hx.block)
    clear O143
    have B166 := Lib.hid (B150.out.trans (hx.mono B150.out.size))
    clear B150
    have B167 := Lib.hid (B151.out.trans (hx.mono B151.out.size))
    clear B151
    clear hx
    obtain ⟨W168, E1690⟩ : ∃ W, W = W154.alloc (.cells #[.slice q155 q156 q157] 26) := ⟨_, rfl⟩
    have hx : Below W154.heap.size W154 W168 := by rw [E1690]; exact (Below.refl _ _).alloc (Nat.le_refl _) _
    have k170 : W168.cell? ⟨W154.heap.size, 0, none⟩ = some (.slice q155 q156 q157) := by rw [E1690, World.cell?]; simp only [heap_alloc_new]; rfl
    have kx0 := Go.Lib.cell?_alloc_some (.cells #[.slice q155 q156 q157] 26) k161
    have kx1 := Go.Lib.cell?_alloc_some (.cells #[.slice q155 q156 q157] 26) k162
    have kx2 := Go.Lib.cell?_alloc_some (.cells #[.slice q155 q156 q157] 26) k163
    have Z171 := Lib.hid (World.block_lt_of_cell? _ _ k170)
    simp only at Z171
    have Z172 := Lib.hid (hx.size)
    have k173 := (hx.cell (World.block_lt_of_cell? _ _ k161)).trans k161
    clear k161
    have k174 := (hx.cell (World.block_lt_of_cell? _ _ k162)).trans k162
    clear k162
    have k175 := (hx.cell (World.block_lt_of_cell? _ _ k163)).trans k163
    clear k163
    have O176 := Lib.hid (O164.out.same hx.block)
    clear O164
    have O177 := Lib.hid (O165.out.same hx.block)
    clear O165
    have O178 := Lib.hid (O158.out.same hx.block)
    clear O158
    have B179 := Lib.hid (B166.out.trans (hx.mono B166.out.size))
    clear B166
    have B180 := Lib.hid (B167.out.trans (hx.mono B167.out.size))
    clear B167
    clear hx
    have E169 := Lib.hid E1690
    clear E1690
    go_wp2_with fail
    rw [← E169.out]
    clear E169 kx0 kx1 kx2
    clear O177
    go_wp2_with fail
    refine (eqMilnor_same _ _ rx _ O178.out.ints (RW.out.same B180.out.block)).mono ?_
    rintro e W181 ⟨rfl, hx⟩
    have Z182 := Lib.hid (hx.size)
    have k183 := (hx.cell (World.block_lt_of_cell? _ _ k173)).trans k173
    clear k173
    have k184 := (hx.cell (World.block_lt_of_cell? _ _ k174)).trans k174
    clear k174
    have k185 := (hx.cell (World.block_lt_of_cell? _ _ k175)).trans k175
    clear k175
    have k186 := (hx.cell (World.block_lt_of_cell? _ _ k170)).trans k170
    clear k170
    have O187 := Lib.hid (O176.out.same hx.block)
    clear O176
    have O188 := Lib.hid (O178.out.same hx.block)
    clear O178
    have B189 := Lib.hid (B179.out.trans (hx.mono B179.out.size))
    clear B179
    have B190 := Lib.hid (B180.out.trans (hx.mono B180.out.size))
    clear B180
    clear hx
    go_wp2_with fail
    refine (heldMilnor_c (.slice q59 q60 q61) rx 1 _ O187.out.ints (by omega) (by have := HXL.out; have := HSZ1.out; omega)).mono ?_
    rintro e W191 ⟨rfl, hx⟩
    have Z192 := Lib.hid (hx.size)
    have k193 := (hx.cell (World.block_lt_of_cell? _ _ k183)).trans k183
    clear k183
    have k194 := (hx.cell (World.block_lt_of_cell? _ _ k184)).trans k184
    clear k184
    have k195 := (hx.cell (World.block_lt_of_cell? _ _ k185)).trans k185
    clear k185
    have k196 := (hx.cell (World.block_lt_of_cell? _ _ k186)).trans k186
    clear k186
    have O197 := Lib.hid (O187.out.same hx.block)
    clear O187
    have O198 := Lib.hid (O188.out.same hx.block)
    clear O188
    have B199 := Lib.hid (B189.out.trans (hx.mono B189.out.size))
    clear B189
    have B200 := Lib.hid (B190.out.trans (hx.mono B190.out.size))
    clear B190
    clear hx
    go_wp2_with fail
    go_ret
    exact ⟨rfl, B199.out⟩

namespace fnExactPowerOfMilnor_row
theorem own : ownKnob Try.prog.godebug = none := by kernel_rfl
theorem laidOut : laidOutB Try.prog = true := by kernel_rfl
set_option linter.unusedVariables false in
set_option maxRecDepth 100000 in
theorem lifted (os : Os) (started : os.Started) (H : Type) (enc : TypeId × Value → H) :
    ReturnsInHanded {} Try.checked os 8 .any (Rows.fnExactPowerOfMilnorSpec.pre6 enc Try.prog Try.f8 Rows.fnExactPowerOfMilnorRow.domain false) (Rows.fnExactPowerOfMilnorSpec.post enc Try.prog Try.f8 false true false false) := by
  refine returnsInHanded_of_change (C := Try.checked) own started (by kernel_rfl) Try.func8
    (ChangeSpec.witness6 (enc := enc) (C := Try.checked) false ⟨#[], #[.agg #[.slice none 0 0], .int .i64 0], []⟩ 8 (by kernel_rfl) (by kernel_rfl) (by kernel_rfl) (by kernel_rfl)) ?_
  intro W base args ds gs before hval0 hW hcnd _
  have hval : ∀ (j : Nat) t v, Try.f8.params[j]? = some t → args[j]? = some v → Value.okWide Try.prog W .any base t v := hval0
  have hW' := hW
  obtain ⟨p, q, hA0, hV, rfl, hfz, hnd⟩ := hW
  have hA : DataW.TrodAll enc Try.prog W 0 (fun _ => true) true Try.f8.params.toList args.toList ds p := hA0
  rw [Try.params8] at hA hval
  obtain ⟨v0, vs0, d0, ds0, p0, q0, hargs, rfl, rfl, h0, r0⟩ := trodAll_cons hA
  obtain ⟨v1, vs1, d1, ds1, p1, q1, rfl, rfl, rfl, h1, r1⟩ := trodAll_cons r0
  obtain ⟨rfl, rfl, rfl⟩ := trodAll_nil r1
  obtain rfl : args = #[v0, v1] := by cases args; simp_all
  obtain ⟨rfl, rfl⟩ := trodVars_none hV
  have k0 := h0
  have lt0 : ∀ x ∈ p0, x.block < W.heap.size := by obtain ⟨m, hm⟩ := k0; exact DataW.trod_lt m _ _ _ hm
  obtain ⟨x0, y0, n0, rfl, f0⟩ := open_agg1 Try.underlying24 (by kernel_rfl) (by kernel_rfl) (hval 0 24 v0 rfl rfl) h0
  obtain ⟨a0, len0, cap0, z0, e0, w0⟩ := isRows_of Try.underlying22 Try.underlying42 Try.underlying2 (by kernel_rfl) (by kernel_rfl) f0
  obtain rfl : x0 = .slice a0 len0 cap0 := by simpa using e0
  obtain ⟨a1, rfl, rfl, rfl, w1⟩ := open_int Try.underlying2 (hval 1 2 v1 rfl rfl) h1
  clear hA0 hval0
  refine (fnExactPowerOfMilnor_walk W a0 len0 cap0 z0 w0 a1 w1).mono fun e W' ⟨he, bel⟩ => ?_
  subst he
  exact ⟨_, rfl, _, _, _, [], _, [], hW', trodAll_mk1 (shut_bool Try.underlying4 _), (trodAll_cons_mk (Below.trod laidOut (by kernel_rfl) (of_decide_eq_true (by kernel_rfl)) k0 bel lt0) (trodAll_cons_mk (shut_int Try.underlying2 w1) trodAll_mk0)), rfl, bel.frame _, fun h => by cases h⟩
theorem over : Rows.fnExactPowerOfMilnorRow.holds Try.pinned (OpenSpec.ofChange Rows.fnExactPowerOfMilnorSpec) :=
  OpenClaim.holds_of_wide 8 Try.f8 rfl rfl rfl rfl rfl rfl rfl ⟨rfl, rfl, rfl, rfl, rfl⟩ rfl rfl rfl rfl rfl (by kernel_rfl) Try.func8 (by kernel_rfl)
    (of_decide_eq_true (by kernel_rfl)) (by unfold Func.isWrapper; first | (rw [if_pos (by decide +kernel)]; kernel_rfl) | (rw [if_neg (by decide +kernel)]; exact ⟨rfl, rfl⟩))
    (fun os started H enc _ => lifted os started H enc)
end fnExactPowerOfMilnor_row
/-- The statement. -/
theorem fnExactPowerOfMilnor_proved : Rows.FnExactPowerOfMilnorSaid := fnExactPowerOfMilnor_row.over
#print axioms fnExactPowerOfMilnor_proved
end Go.Proofs.Ytljpjoegeincoaa

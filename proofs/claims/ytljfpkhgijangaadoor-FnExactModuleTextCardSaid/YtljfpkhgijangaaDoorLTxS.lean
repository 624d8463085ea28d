/- Texts of elements: of the reference. -/
import Derived.Test.YtljfpkhgijangaaDoorLTxI
namespace Go.Proofs.YtljfpkhgijangaaDoor
open Go.RowKit Go.Sort

theorem join_step (xs : List (List UInt8)) (y sep : List UInt8) (h : xs ≠ []) : Go.Lib.join (xs ++ [y]) sep = Go.Lib.join xs sep ++ sep ++ y := by rw [join_snoc, if_neg h]
set_option maxRecDepth 100000 in
theorem l01List_c (v : Value) (r : List Int) (sep : List UInt8) (w : World) (h : IntS w.heap v r) (hd : Deg2 r) (hs : sep.length ≤ 10) :
    Calls Tryd.prog 43 #[v, .string (bs sep)] w fun e w' => e = .returned (.string (bs (Go.Lib.join (r.map dec) sep))) ∧ Below w.heap.size w w' := by
  obtain ⟨ao, c, rfl, hm⟩ := h.len
  have H := Lib.hid h; have HD := Lib.hid hd
  have hl := hd.1
  have HJL := Lib.hid (fun (k : Nat) (hk : k ≤ r.length) => join_len sep ((r.take k).map dec) (fun x hx => by
    obtain ⟨y, hy, rfl⟩ := List.mem_map.1 hx
    exact hd.dec _ (List.mem_map_of_mem (List.mem_of_mem_take hy))))
  clear h hd
  go_enter Tryd.func43, Tryd.ntmps43
  go_wp2_with fail
  go_loopw [5, 6] (fun t i wr => ∃ m : Nat, m ≤ r.length ∧ i = .int .i64 m ∧ t = .string (bs (Go.Lib.join ((r.take m).map dec) sep)) ∧ Below w.heap.size w wr) (fun _ i _ => r.length - (intOf i).toNat)
  case atStart => exact ⟨0, Nat.zero_le _, rfl, rfl, Below.refl _ _⟩
  case round =>
    obtain ⟨m, hm2, rfl, rfl, hb3⟩ := hrel
    have HB3 := Lib.hid hb3
    have hsz3 := hb3.size
    clear hb3
    by_cases hml : m < r.length
    · obtain ⟨b4, o4, q4, hv4, hc4, -⟩ := H.out.at m hml
      simp only [Value.slice.injEq, true_and] at hv4
      obtain ⟨rfl, rfl⟩ := hv4
      have hc := (HB3.out.cell (World.block_lt_of_cell? _ _ hc4)).trans hc4
      clear hc4
      obtain ⟨x, hx, hx2⟩ := HD.out.row m hml
      have hjl := HJL.out m hm2
      rw [List.length_map, List.length_take, Nat.min_eq_left (by omega)] at hjl
      have hjl2 : (Go.Lib.join ((r.take m).map dec) sep).length ≤ 12000 := by
        have : m * (2 + sep.length) ≤ 1000 * 12 := Nat.mul_le_mul (by omega) (by omega)
        omega
      have hdx := dec_len x hx2
      have D := Lib.hid (fun W => l01Dec_c x hx2 W)
      by_cases h0 : m = 0
      · subst h0
        have HTK : Hid (Go.Lib.join ((r.take (0 + 1)).map dec) sep = [] ++ dec x) := by
          show _ = _
          rw [map_take_succ dec r 0 hml, hx]
          simp [Go.Lib.join_one]
        have e0 : Go.Lib.join ((r.take 0).map dec) sep = [] := by simp [Go.Lib.join_nil]
        have hadd := fun W => cat_run [] (dec (x : Int)) (by simp only [List.length_nil]; omega) Tryd.prog W
        rw [hx, Nat.add_zero] at hc
        rw [e0]
        obtain ⟨R, hR⟩ : ∃ R, R = [] ++ dec (x : Int) := ⟨_, rfl⟩
        rw [← hR] at HTK hadd
        clear hjl hjl2 e0 hx hR hdx
        generalize dec (x : Int) = dx at *
        go_wp2_with (go_at_call 56; refine (D.out _).mono ?_; rintro e w1 ⟨rfl, hx1⟩)
        go_roundw
        case rel => exact ⟨1, by omega, by go_num, by rw [HTK.out], HB3.out.trans (hx1.mono hsz3)⟩
        case measure => simp [intOf]; omega
      · have tm : decide ((0 : Int) < (m : Int)) = true := by simp; omega
        have HTK : Hid (Go.Lib.join ((r.take (m + 1)).map dec) sep = (Go.Lib.join ((r.take m).map dec) sep ++ sep) ++ dec x) := by
          show _ = _
          rw [map_take_succ dec r m hml, hx, join_step _ _ _ (fun e => by have := congrArg List.length e; rw [List.length_map, List.length_take, List.length_nil] at this; omega)]
        have hadd1 := fun W => cat_run (Go.Lib.join ((r.take m).map dec) sep) sep (by omega) Tryd.prog W
        have hadd2 := fun W => cat_run (Go.Lib.join ((r.take m).map dec) sep ++ sep) (dec (x : Int)) (by rw [List.length_append]; omega) Tryd.prog W
        rw [hx] at hc
        obtain ⟨R2, hR2⟩ : ∃ R, R = (Go.Lib.join ((r.take m).map dec) sep ++ sep) ++ dec (x : Int) := ⟨_, rfl⟩
        rw [← hR2] at HTK hadd2
        obtain ⟨R1, hR1⟩ : ∃ R, R = Go.Lib.join ((r.take m).map dec) sep ++ sep := ⟨_, rfl⟩
        rw [← hR1] at hadd1 hadd2
        clear hjl hjl2 hx hR2 hR1 hdx
        generalize Go.Lib.join ((r.take m).map dec) sep = R0 at *
        generalize dec (x : Int) = dx at *
        go_wp2_with (go_at_call 56; refine (D.out _).mono ?_; rintro e w1 ⟨rfl, hx1⟩)
        go_roundw
        case rel => exact ⟨m + 1, by omega, by go_num, by rw [HTK.out], HB3.out.trans (hx1.mono hsz3)⟩
        case measure => simp [intOf]; omega
    · obtain rfl : m = r.length := by omega
      rw [List.take_length]
      go_wp2_with fail
      go_ret
      exact ⟨rfl, HB3.out⟩
theorem expW_join (r : List Int) (R : List UInt8) : ((R ++ [40]) ++ Go.Lib.join (r.map dec) [44]) ++ [41] = R ++ expW r := by unfold expW; simp
theorem expW_ne (r : List Int) : expW r ≠ [] := by unfold expW; simp
theorem bs_isEmpty {l : List UInt8} (h : l ≠ []) : (bs l).toList.isEmpty = false := by
  rw [Go.Lib.toList_data, bs_data]
  cases l with
  | nil => exact absurd rfl h
  | cons _ _ => rfl
theorem bs_isNil : (bs []).toList.isEmpty = true := by rw [Go.Lib.toList_data, bs_data]; rfl
theorem bs_empty {l : List UInt8} (h : l ≠ []) : bs l ≠ ⟨#[]⟩ := fun e => h (bs_inj (e : bs l = bs []))
set_option maxRecDepth 100000 in
set_option maxHeartbeats 1000000 in
theorem l04Text_c (v : Value) (xss : List (List Int)) (w : World) (h : IntSS w.heap v xss) (hT : arT xss = true) :
    Calls Tryd.prog 23 #[v] w fun e w' => e = .returned (.string (bs (sumW expW xss))) ∧ Below w.heap.size w w' := by
  obtain ⟨ao, c, rfl, -⟩ := h.len
  have H := Lib.hid h; have HT := Lib.hid hT
  have hl := arT_len hT
  have HJL := Lib.hid (fun (k : Nat) => join_len (m := 3002) [43] ((xss.take k).map expW) (fun x hx => by
    obtain ⟨y, hy, rfl⟩ := List.mem_map.1 hx
    exact expW_len (arT_deg2 hT y (List.mem_of_mem_take hy))))
  clear h hT
  go_enter Tryd.func23, Tryd.ntmps23
  go_wp2_with fail
  go_loopw [3, 4] (fun t i wr => ∃ m : Nat, m ≤ xss.length ∧ i = .int .i64 m ∧ t = .string (bs (Go.Lib.join ((xss.take m).map expW) [43])) ∧ Below w.heap.size w wr) (fun _ i _ => xss.length - (intOf i).toNat)
  case atStart => exact ⟨0, Nat.zero_le _, rfl, rfl, Below.refl _ _⟩
  case round =>
    obtain ⟨m, hm2, rfl, rfl, hb3⟩ := hrel
    have HB3 := Lib.hid hb3
    have hsz3 := hb3.size
    clear hb3
    by_cases hml : m < xss.length
    · obtain ⟨b4, o4, q4, u4, hv4, hc4, hu4, -⟩ := H.out.at m hml
      simp only [Value.slice.injEq, true_and] at hv4
      obtain ⟨rfl, rfl⟩ := hv4
      have hc := (HB3.out.cell (World.block_lt_of_cell? _ _ hc4)).trans hc4
      have hu := hu4.same HB3.out.block
      clear hc4 hu4
      have hd2 := arT_deg2 HT.out _ (List.getElem_mem hml)
      have C := Lib.hid (l01List_c u4 xss[m] [44] wr hu hd2 (by simp))
      have hjl := HJL.out m
      rw [List.length_map, List.length_take, Nat.min_eq_left (by omega)] at hjl
      have hjl2 : (Go.Lib.join ((xss.take m).map expW) [43]).length ≤ 6006000 := by
        have : m * (3002 + [(43 : UInt8)].length) ≤ 2000 * 3003 := Nat.mul_le_mul (by omega) (by simp)
        omega
      have hel := expW_len hd2
      have heL : (Go.Lib.join (xss[m].map dec) [44]).length ≤ 3002 := by
        unfold expW at hel
        simp only [List.length_cons, List.length_append, List.length_nil] at hel
        omega
      obtain ⟨ra, rc, rfl, -⟩ := hu.len
      by_cases h0 : m = 0
      · subst h0
        obtain ⟨R0, hR0⟩ : ∃ R : List UInt8, R = [] := ⟨_, rfl⟩
        have HTK : Hid (Go.Lib.join ((xss.take (0 + 1)).map expW) [43] = ((R0 ++ ([40] : List UInt8)) ++ Go.Lib.join (xss[0].map dec) [44]) ++ [41]) := by
          show _ = _
          rw [map_take_succ expW xss 0 hml, expW_join, hR0]
          simp [Go.Lib.join_one]
        have e0 : Go.Lib.join ((xss.take 0).map expW) [43] = R0 := by rw [hR0]; simp [Go.Lib.join_nil]
        have hl0 : R0.length = 0 := by rw [hR0]; rfl
        have hadd1 : ∀ W, (Op.stringOp .add (bs R0) ⟨#[40]⟩).run Tryd.prog W = .ok (.string (bs (R0 ++ ([40] : List UInt8)))) W := fun W => cat_run R0 [40] (by rw [hl0]; decide) Tryd.prog W
        have hadd2 := fun W => cat_run (R0 ++ ([40] : List UInt8)) (Go.Lib.join (xss[0].map dec) [44]) (by simp only [List.length_append, List.length_cons, List.length_nil]; omega) Tryd.prog W
        have hadd3 : ∀ W, (Op.stringOp .add (bs ((R0 ++ ([40] : List UInt8)) ++ Go.Lib.join (xss[0].map dec) [44])) ⟨#[41]⟩).run Tryd.prog W = .ok (.string (bs (((R0 ++ ([40] : List UInt8)) ++ Go.Lib.join (xss[0].map dec) [44]) ++ [41]))) W := fun W => cat_run ((R0 ++ ([40] : List UInt8)) ++ Go.Lib.join (xss[0].map dec) [44]) [41] (by simp only [List.length_append, List.length_cons, List.length_nil]; omega) Tryd.prog W
        rw [Nat.add_zero] at hc
        rw [e0]
        clear hjl hjl2 hel heL hd2 hu e0 hR0 hl0
        generalize xss[0] = r at *
        generalize Go.Lib.join (r.map dec) [44] = L at *
        generalize ((R0 ++ [40]) ++ L) ++ [41] = R3 at *
        generalize (R0 ++ [40]) ++ L = R2 at *
        generalize R0 ++ [40] = R1 at *
        go_wp2_with (go_at_call 43; refine C.out.mono ?_; rintro e w1 ⟨rfl, hx1⟩)
        go_roundw
        case rel => exact ⟨1, by omega, by go_num, by rw [HTK.out], HB3.out.trans (hx1.mono hsz3)⟩
        case measure => simp [intOf]; omega
      · have tm : decide ((0 : Int) < (m : Int)) = true := by simp; omega
        have HTK : Hid (Go.Lib.join ((xss.take (m + 1)).map expW) [43] = (((Go.Lib.join ((xss.take m).map expW) [43] ++ [43]) ++ [40]) ++ Go.Lib.join (xss[m].map dec) [44]) ++ [41]) := by
          show _ = _
          rw [map_take_succ expW xss m hml, expW_join, join_step _ _ _ (fun e => by have := congrArg List.length e; rw [List.length_map, List.length_take, List.length_nil] at this; omega)]
        generalize Go.Lib.join ((xss.take m).map expW) [43] = R0 at *
        have hadd0 : ∀ W, (Op.stringOp .add (bs R0) ⟨#[43]⟩).run Tryd.prog W = .ok (.string (bs (R0 ++ [43]))) W := fun W => cat_run R0 [43] (by simp only [List.length_cons, List.length_nil]; omega) Tryd.prog W
        have hadd1 : ∀ W, (Op.stringOp .add (bs (R0 ++ [43])) ⟨#[40]⟩).run Tryd.prog W = .ok (.string (bs ((R0 ++ [43]) ++ [40]))) W := fun W => cat_run (R0 ++ [43]) [40] (by simp only [List.length_append, List.length_cons, List.length_nil]; omega) Tryd.prog W
        have hadd2 := fun W => cat_run ((R0 ++ [43]) ++ [40]) (Go.Lib.join (xss[m].map dec) [44]) (by simp only [List.length_append, List.length_cons, List.length_nil]; omega) Tryd.prog W
        have hadd3 : ∀ W, (Op.stringOp .add (bs (((R0 ++ [43]) ++ [40]) ++ Go.Lib.join (xss[m].map dec) [44])) ⟨#[41]⟩).run Tryd.prog W = .ok (.string (bs ((((R0 ++ [43]) ++ [40]) ++ Go.Lib.join (xss[m].map dec) [44]) ++ [41]))) W := fun W => cat_run _ [41] (by simp only [List.length_append, List.length_cons, List.length_nil]; omega) Tryd.prog W
        clear hjl hjl2 hel heL hd2 hu
        generalize xss[m] = r at *
        generalize Go.Lib.join (r.map dec) [44] = L at *
        generalize (((R0 ++ [43]) ++ [40]) ++ L) ++ [41] = R3 at *
        generalize ((R0 ++ [43]) ++ [40]) ++ L = R2 at *
        generalize (R0 ++ [43]) ++ [40] = R1 at *
        generalize R0 ++ [43] = R4 at *
        go_wp2_with (go_at_call 43; refine C.out.mono ?_; rintro e w1 ⟨rfl, hx1⟩)
        go_roundw
        case rel => exact ⟨m + 1, by omega, by go_num, by rw [HTK.out], HB3.out.trans (hx1.mono hsz3)⟩
        case measure => simp [intOf]; omega
    · obtain rfl : m = xss.length := by omega
      rw [List.take_length]
      by_cases h0 : xss = []
      · have HE : Hid (sumW expW xss = [48]) := by show _ = _; unfold sumW; rw [if_pos h0]
        have e2 : Go.Lib.join (xss.map expW) [43] = [] := by rw [h0]; rfl
        rw [e2]
        have t9 := bs_isNil
        obtain ⟨S, hS⟩ : ∃ S, S = bs [] := ⟨_, rfl⟩
        rw [← hS] at t9
        rw [← hS]
        clear e2 h0 hS
        go_wp2_with fail
        go_ret
        exact ⟨by rw [HE.out]; rfl, HB3.out⟩
      · have HE : Hid (sumW expW xss = Go.Lib.join (xss.map expW) [43]) := by show _ = _; unfold sumW; rw [if_neg h0]
        have hne : Go.Lib.join (xss.map expW) [43] ≠ [] := by
          cases xss with
          | nil => exact absurd rfl h0
          | cons x xss =>
            rw [List.map_cons, Go.Lib.join_cons]
            intro e
            exact expW_ne x (List.append_eq_nil_iff.1 e).1
        have t9 := bs_isEmpty hne
        clear hne h0
        generalize Go.Lib.join (xss.map expW) [43] = J at *
        obtain ⟨S, hS⟩ : ∃ S, S = bs J := ⟨_, rfl⟩
        rw [← hS] at t9
        rw [← hS]
        have HS := Lib.hid hS
        clear hS
        go_wp2_with fail
        go_ret
        exact ⟨by rw [HE.out, ← HS.out]; rfl, HB3.out⟩
theorem specMilnorText_c (v : Value) (xss : List (List Int)) (w : World) (h : IntSS w.heap v xss) :
    Calls Tryd.prog 7 #[.agg #[v]] w fun e w' => e = .returned (.tuple #[.string (bs (milW xss)), .int .i64 (milC xss)]) ∧ Below w.heap.size w w' := by
  have hb : Below w.heap.size w (w.alloc (.cells #[v] 28)) := (Below.refl _ _).alloc (Nat.le_refl _) _
  have I := Lib.hid (l04Is_c v xss _ (h.same hb.block))
  have k0 := (Cell1.new w v 28).c0
  have S := Lib.hid (fun (hT : arT xss = true) (W : World) (h : IntSS W.heap v xss) => l04Text_c v xss W h hT)
  obtain ⟨ao, c, rfl, -⟩ := h.len
  have H := Lib.hid h; have HB := Lib.hid hb; clear h hb
  cases hT : arT xss
  · have e1 : milW xss = [] := by simp [milW, hT]
    have e2 : milC xss = 1 := by simp [milC, hT]
    rw [e1, e2]
    rw [hT] at I
    clear e1 e2 hT S
    go_enter Tryd.func7, Tryd.ntmps7
    go_wp2_with (go_at_call 22; refine I.out.mono ?_; rintro e w1 ⟨rfl, hb1⟩)
    go_ret2
    exact ⟨rfl, HB.out.trans (hb1.mono HB.out.size)⟩
  · have e1 : milW xss = sumW expW xss := by simp [milW, hT]
    have e2 : milC xss = 0 := by simp [milC, hT]
    have S := Lib.hid (S.out hT)
    rw [e1, e2]
    rw [hT] at I
    clear e1 e2 hT
    generalize sumW expW xss = t at *
    go_enter Tryd.func7, Tryd.ntmps7
    go_wp2_with (first | (go_at_call 22; refine I.out.mono ?_; rintro e w1 ⟨rfl, hb1⟩; have k1 := (hb1.cell (World.block_lt_of_cell? _ _ k0)).trans k0; have HB1 := Lib.hid (HB.out.trans (hb1.mono HB.out.size)); clear hb1) | (go_at_call 23; refine (S.out _ (H.out.same HB1.out.block)).mono ?_; rintro e w2 ⟨rfl, hb2⟩))
    go_ret2
    exact ⟨rfl, HB1.out.trans (hb2.mono HB1.out.size)⟩
end Go.Proofs.YtljfpkhgijangaaDoor

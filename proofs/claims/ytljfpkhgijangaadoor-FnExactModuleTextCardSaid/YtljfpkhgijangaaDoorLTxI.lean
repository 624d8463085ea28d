/- Texts of elements: of the program. -/
import Derived.Test.YtljfpkhgijangaaDoorLTx
import Derived.Test.YtljfpkhgijangaaDoorLTxLay
import Derived.Test.YtljfpkhgijangaaDoorLTerm
import Derived.Test.YtljfpkhgijangaaDoorLMil
import Derived.Test.YtljfpkhgijangaaDoorLProf
namespace Go.Proofs.YtljfpkhgijangaaDoor
open Go.RowKit Go.Sort

theorem decimal_c (n : Nat) (hn : n < 100) (w : World) : Calls Tryd.prog 46 #[.int .i64 n] w fun e w' => e = .returned (.string (bs (dec n))) ∧ w = w' := by
  have C := Lib.hid (Go.Proofs.Tryd.strconv_FormatInt_10_small n hn)
  have hd : bs (dec (n : Int)) = ⟨(Go.Lib.decDigits n).toArray⟩ := by unfold bs dec; rw [Int.toNat_natCast]
  rw [hd]
  clear hd
  go_enter Tryd.func46, Tryd.ntmps46
  go_wp2_with (go_at_call 66; refine (C.out _).mono ?_; rintro e w1 ⟨rfl, rfl⟩)
  go_ret
  exact ⟨rfl, rfl⟩
theorem joinW_c (v : Value) (xs : List (List UInt8)) (sep : List UInt8) (B : Nat) (w : World) (h : OwnW w B v xs) (hl : xs.length ≤ 100000) (hm : ∀ x ∈ xs, x.length ≤ 100000) (hs : sep.length ≤ 10) :
    Calls Tryd.prog 45 #[v, .string (bs sep)] w fun e w' => e = .returned (.string (bs (Go.Lib.join xs sep))) ∧ Below w.heap.size w w' := by
  have h0 := h
  unfold OwnW at h
  rcases h.2 with ⟨rfl, h1⟩ | ⟨g, cap, cur, rfl, hgB, hg, h2, h3, h4, h5⟩
  · have hx : xs = [] := List.eq_nil_of_length_eq_zero h1
    subst hx
    exact (Go.Proofs.Tryd.strings_Join_none none 0 (bs sep) w).mono fun e w' ⟨he, hw⟩ => ⟨he, by rw [hw]; exact Below.refl _ _⟩
  · have hj := join_len sep xs hm
    have hj2 : xs.length * (100000 + sep.length) ≤ 100000 * 100010 := Nat.mul_le_mul hl (by omega)
    have hmap : (xs.map bs).map (fun s => s.data.toList) = xs := by
      rw [List.map_map]
      conv => rhs; rw [← List.map_id xs]
      exact List.map_congr_left fun x _ => bs_data x
    have C := Go.Proofs.Tryd.strings_Join g 0 cap (xs.map bs) (bs sep) w (fun j x hx => by
      have hj : j < xs.length := by have := (List.getElem?_eq_some_iff.1 hx).1; simpa using this
      rw [Nat.zero_add, World.ownsRow.cellAt h j (by omega)]
      simp only [List.getElem?_map, List.getElem?_eq_getElem hj, Option.map_some, Option.some.injEq] at hx ⊢
      rw [hx]) (Array.getElem?_eq_some_iff.1 hg).1 (by rw [List.length_map]; omega) (by rw [List.length_map]; omega) (by rw [hmap, bs_data]; omega)
    rw [List.length_map, hmap, bs_data] at C
    exact C
/-- The text of an exponent list. -/
def expW (r : List Int) : List UInt8 := 40 :: (Go.Lib.join (r.map dec) [44] ++ [41])
def Deg2 (r : List Int) : Prop := r.length ≤ 1000 ∧ ∀ x ∈ r, 0 ≤ x ∧ x < 100
theorem Deg2.row {r : List Int} (h : Deg2 r) (i : Nat) (hi : i < r.length) : ∃ n : Nat, r[i] = (n : Int) ∧ n < 100 := by
  have := h.2 _ (List.getElem_mem hi)
  exact ⟨r[i].toNat, by omega, by omega⟩
theorem Deg2.dec {r : List Int} (h : Deg2 r) : ∀ x ∈ r.map dec, x.length ≤ 2 := fun x hx => by
  obtain ⟨y, hy, rfl⟩ := List.mem_map.1 hx
  have := h.2 y hy
  obtain ⟨n, rfl⟩ := Int.eq_ofNat_of_zero_le this.1
  exact dec_len n (by omega)
theorem expW_len {r : List Int} (h : Deg2 r) : (expW r).length ≤ 3002 := by
  unfold expW
  have := join_len [44] (r.map Go.Proofs.YtljfpkhgijangaaDoor.dec) h.dec
  rw [List.length_map] at this
  have h1 := h.1
  simp only [List.length_cons, List.length_append, List.length_nil] at this ⊢
  omega
theorem map_take_succ {α β : Type} (f : α → β) (r : List α) (k : Nat) (hk : k < r.length) : (r.take (k + 1)).map f = (r.take k).map f ++ [f r[k]] := by
  rw [List.take_succ_eq_append_getElem hk, List.map_append]; rfl
set_option maxRecDepth 100000 in
theorem exponentsText_c (v : Value) (r : List Int) (w : World) (h : IntS w.heap v r) (hd : Deg2 r) :
    Calls Tryd.prog 27 #[v] w fun e w' => e = .returned (.string (bs (expW r))) ∧ Below w.heap.size w w' := by
  obtain ⟨ao, c, rfl, hm⟩ := h.len
  have H := Lib.hid h; have HD := Lib.hid hd
  have hl := hd.1
  have hj := join_len [44] (r.map dec) hd.dec
  rw [List.length_map] at hj
  have hadd1 : ∀ W, (Op.stringOp .add ⟨#[40]⟩ (bs (Go.Lib.join (r.map dec) [44]))).run Tryd.prog W = .ok (.string (bs ([40] ++ Go.Lib.join (r.map dec) [44]))) W := fun W => cat_run [40] (Go.Lib.join (r.map dec) [44]) (by simp only [List.length_cons, List.length_nil] at *; omega) Tryd.prog W
  have hadd2 : ∀ W, (Op.stringOp .add (bs ([40] ++ Go.Lib.join (r.map dec) [44])) ⟨#[41]⟩).run Tryd.prog W = .ok (.string (bs (([40] ++ Go.Lib.join (r.map dec) [44]) ++ [41]))) W := fun W => cat_run ([40] ++ Go.Lib.join (r.map dec) [44]) [41] (by simp only [List.length_append, List.length_cons, List.length_nil] at *; omega) Tryd.prog W
  have HJ := Lib.hid (fun (v : Value) (B : Nat) (W : World) (h : OwnW W B v (r.map dec)) => joinW_c v (r.map dec) [44] B W h (by rw [List.length_map]; omega) (fun x hx => by have := HD.out.dec x hx; omega) (by simp))
  have HE : Hid (bs (expW r) = bs (([40] ++ Go.Lib.join (r.map dec) [44]) ++ [41])) := rfl
  clear h hd hj
  rw [HE.out]
  clear HE
  generalize ([40] ++ Go.Lib.join (r.map dec) [44]) ++ [41] = R3 at *
  generalize [40] ++ Go.Lib.join (r.map dec) [44] = R2 at *
  generalize Go.Lib.join (r.map dec) [44] = R1 at *
  go_enter Tryd.func27, Tryd.ntmps27
  go_wp2_with fail
  go_loopw [3, 9] (fun y i wr => ∃ m : Nat, m ≤ r.length ∧ i = .int .i64 m ∧ OwnW wr w.heap.size y ((r.take m).map dec) ∧ Below w.heap.size w wr) (fun _ i _ => r.length - (intOf i).toNat)
  case atStart => exact ⟨0, Nat.zero_le _, rfl, ownW_empty (Nat.le_refl _), (Below.refl _ _).alloc (Nat.le_refl _) _⟩
  case round =>
    obtain ⟨m, hm2, rfl, hy, hb3⟩ := hrel
    obtain ⟨ya, yn, yc, rfl⟩ := own_shape hy
    have HY := Lib.hid hy; have HB3 := Lib.hid hb3
    have hsz3 := hb3.size
    clear hy hb3
    by_cases hml : m < r.length
    · obtain ⟨b4, o4, q4, hv4, hc4, -⟩ := H.out.at m hml
      simp only [Value.slice.injEq, true_and] at hv4
      obtain ⟨rfl, rfl⟩ := hv4
      have hc := (HB3.out.cell (World.block_lt_of_cell? _ _ hc4)).trans hc4
      clear hc4
      obtain ⟨x, hx, hx2⟩ := HD.out.row m hml
      have HTK := Lib.hid (map_take_succ dec r m hml)
      have HLN := Lib.hid (show ((r.take m).map dec).length ≤ 4398046511104 by rw [List.length_map, List.length_take]; omega)
      rw [hx] at hc HTK
      have D := Lib.hid (fun W => decimal_c x hx2 W)
      clear hx
      go_wp2_with (first | (go_at_call 46; refine (D.out _).mono ?_; rintro e w1 ⟨rfl, rfl⟩) | (at_builtin; refine append_word (w := wr) rfl _ _ rfl _ _ _ _ HY.out rfl HB3.out hsz3 _ rfl (by simp) HLN.out ?_; intro v' w' hown' hbl' _ _; obtain ⟨pv, nv, cv, rfl⟩ := own_shape hown'))
      go_roundw
      case rel => exact ⟨m + 1, by omega, by go_num, by rw [HTK.out]; exact hown', hbl'⟩
      case measure => simp [intOf]; omega
    · obtain rfl : m = r.length := by omega
      rw [List.take_length] at HY
      go_wp2_with (go_at_call 45; refine (HJ.out _ _ _ HY.out).mono ?_; rintro e w1 ⟨rfl, hb⟩)
      go_ret
      exact ⟨rfl, HB3.out.trans (hb.mono hsz3)⟩
theorem enters_exponentsText : Enters Tryd.prog 27 := fun args w => by kernel_rfl
/-- The text of a sum. -/
def sumW (f : List Int → List UInt8) (xss : List (List Int)) : List UInt8 := if xss = [] then [48] else Go.Lib.join (xss.map f) [43]
set_option maxRecDepth 100000 in
theorem sumText_c (v : Value) (xss : List (List Int)) (K : Nat) (f : List Int → List UInt8) (w : World) (h : IntSS w.heap v xss) (hl : xss.length ≤ 5000) (hm : ∀ x ∈ xss, (f x).length ≤ 10000) (hcf : Enters Tryd.prog K)
    (hf : ∀ (w1 : World) (u : Value) (r : List Int), r ∈ xss → IntS w1.heap u r → Calls Tryd.prog K #[u] w1 fun e w' => e = .returned (.string (bs (f r))) ∧ Below w1.heap.size w1 w') :
    Calls Tryd.prog 26 #[v, .func (.func K) #[] #[]] w fun e w' => e = .returned (.string (bs (sumW f xss))) ∧ Below w.heap.size w w' := by
  obtain ⟨ao, c, rfl, -⟩ := h.len
  have H := Lib.hid h; have HF := Lib.hid hf
  by_cases h0 : xss = []
  · have e : sumW f xss = [48] := by unfold sumW; rw [if_pos h0]
    have t1 : ((xss.length : Int) == 0) = true := by rw [h0]; rfl
    rw [e]
    clear e h0 h hm hf
    go_enter Tryd.func26, Tryd.ntmps26
    go_wp2_with fail
    go_ret
    exact ⟨rfl, Below.refl _ _⟩
  · have HE : Hid (sumW f xss = Go.Lib.join (xss.map f) [43]) := by show _ = _; unfold sumW; rw [if_neg h0]
    have hpos : 0 < xss.length := List.length_pos_iff.2 h0
    have t1 : ((xss.length : Int) == 0) = false := by simp; omega
    have HJ := Lib.hid (fun (v : Value) (B : Nat) (W : World) (h : OwnW W B v (xss.map f)) => joinW_c v (xss.map f) [43] B W h (by rw [List.length_map]; omega) (fun x hx => by obtain ⟨y, hy, rfl⟩ := List.mem_map.1 hx; have := hm y hy; omega) (by simp))
    unfold Enters at hcf
    clear h hm hf h0
    go_enter Tryd.func26, Tryd.ntmps26
    go_wp2_with fail
    go_loopw [5, 14] (fun y i wr => ∃ m : Nat, m ≤ xss.length ∧ i = .int .i64 m ∧ OwnW wr w.heap.size y ((xss.take m).map f) ∧ Below w.heap.size w wr) (fun _ i _ => xss.length - (intOf i).toNat)
    case atStart => exact ⟨0, Nat.zero_le _, rfl, ownW_empty (Nat.le_refl _), (Below.refl _ _).alloc (Nat.le_refl _) _⟩
    case round =>
      obtain ⟨m, hm2, rfl, hy, hb3⟩ := hrel
      obtain ⟨ya, yn, yc, rfl⟩ := own_shape hy
      have HY := Lib.hid hy; have HB3 := Lib.hid hb3
      have hsz3 := hb3.size
      clear hy hb3
      by_cases hml : m < xss.length
      · obtain ⟨b4, o4, q4, u4, hv4, hc4, hu4, -⟩ := H.out.at m hml
        simp only [Value.slice.injEq, true_and] at hv4
        obtain ⟨rfl, rfl⟩ := hv4
        have hc := (HB3.out.cell (World.block_lt_of_cell? _ _ hc4)).trans hc4
        have hu := hu4.same HB3.out.block
        clear hc4 hu4
        have HTK := Lib.hid (map_take_succ f xss m hml)
        have HLN := Lib.hid (show ((xss.take m).map f).length ≤ 4398046511104 by rw [List.length_map, List.length_take]; omega)
        have C := Lib.hid (HF.out wr u4 _ (List.getElem_mem hml) hu)
        obtain ⟨ra, rc, rfl, -⟩ := hu.len
        clear hu
        generalize xss[m] = r at *
        generalize f r = t at *
        go_wp2_with fail
        refine C.out.mono ?_
        rintro e w1 ⟨rfl, hx1⟩
        have HY1 := Lib.hid (HY.out.same hx1.block); have HB1 := Lib.hid (HB3.out.trans (hx1.mono hsz3))
        have hsz4 := HB1.out.size
        clear hx1
        go_wp2_with (at_builtin; refine append_word (w := w1) rfl _ _ rfl _ _ _ _ HY1.out rfl HB1.out hsz4 _ rfl (by simp) HLN.out ?_; intro v' w' hown' hbl' _ _; obtain ⟨pv, nv, cv, rfl⟩ := own_shape hown')
        go_roundw
        case rel => exact ⟨m + 1, by omega, by go_num, by rw [HTK.out]; exact hown', hbl'⟩
        case measure => simp [intOf]; omega
      · obtain rfl : m = xss.length := by omega
        rw [List.take_length] at HY
        go_wp2_with (go_at_call 45; refine (HJ.out _ _ _ HY.out).mono ?_; rintro e w1 ⟨rfl, hb⟩)
        go_ret
        exact ⟨by rw [HE.out]; rfl, HB3.out.trans (hb.mono hsz3)⟩
def milW (xss : List (List Int)) : List UInt8 := if arT xss then sumW expW xss else []
def milC (xss : List (List Int)) : Int := if arT xss then 0 else 1
theorem arT_deg2 {xss : List (List Int)} (h : arT xss = true) : ∀ r ∈ xss, Deg2 r := fun r hr => by
  have hx := (arT_row h r hr).1
  refine ⟨?_, fun x hxm => ?_⟩
  · simp only [isExp, Bool.and_eq_true, decide_eq_true_eq] at hx; omega
  · obtain ⟨i, hi, rfl⟩ := List.getElem_of_mem hxm
    have := arT_num h r hr i hi
    rw [show r.getD i 0 = r[i] by simp [hi]] at this
    omega
theorem implMilnorText_c (v : Value) (xss : List (List Int)) (w : World) (h : IntSS w.heap v xss) :
    Calls Tryd.prog 9 #[.agg #[v]] w fun e w' => e = .returned (.tuple #[.string (bs (milW xss)), .int .i64 (milC xss)]) ∧ Below w.heap.size w w' := by
  have hb : Below w.heap.size w (w.alloc (.cells #[v] 28)) := (Below.refl _ _).alloc (Nat.le_refl _) _
  have I := Lib.hid (isMilnor_c v xss _ (h.same hb.block))
  have k0 := (Cell1.new w v 28).c0
  have S := Lib.hid (fun (hT : arT xss = true) (W : World) (h : IntSS W.heap v xss) => sumText_c v xss 27 expW W h (by have := arT_len hT; omega) (fun x hx => by have := expW_len (arT_deg2 hT x hx); omega) enters_exponentsText (fun w1 u r hr hu => exponentsText_c u r w1 hu (arT_deg2 hT r hr)))
  obtain ⟨ao, c, rfl, -⟩ := h.len
  have H := Lib.hid h; have HB := Lib.hid hb; clear h hb
  cases hT : arT xss
  · have e1 : milW xss = [] := by simp [milW, hT]
    have e2 : milC xss = 1 := by simp [milC, hT]
    rw [e1, e2]
    rw [hT] at I
    clear e1 e2 hT S
    go_enter Tryd.func9, Tryd.ntmps9
    go_wp2_with (go_at_call 25; refine I.out.mono ?_; rintro e w1 ⟨rfl, hb1⟩)
    go_ret2
    exact ⟨rfl, HB.out.trans (hb1.mono HB.out.size)⟩
  · have e1 : milW xss = sumW expW xss := by simp [milW, hT]
    have e2 : milC xss = 0 := by simp [milC, hT]
    have S := Lib.hid (S.out hT)
    rw [e1, e2]
    rw [hT] at I
    clear e1 e2 hT
    generalize sumW expW xss = t at *
    go_enter Tryd.func9, Tryd.ntmps9
    go_wp2_with (first | (go_at_call 25; refine I.out.mono ?_; rintro e w1 ⟨rfl, hb1⟩; have k1 := (hb1.cell (World.block_lt_of_cell? _ _ k0)).trans k0; have HB1 := Lib.hid (HB.out.trans (hb1.mono HB.out.size)); clear hb1) | (go_at_call 26; refine (S.out _ (H.out.same HB1.out.block)).mono ?_; rintro e w2 ⟨rfl, hb2⟩))
    go_ret2
    exact ⟨rfl, HB1.out.trans (hb2.mono HB1.out.size)⟩
end Go.Proofs.YtljfpkhgijangaaDoor

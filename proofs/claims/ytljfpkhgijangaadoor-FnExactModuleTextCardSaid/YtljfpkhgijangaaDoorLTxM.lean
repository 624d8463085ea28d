/- Texts of modules. -/
import Derived.Test.YtljfpkhgijangaaDoorLTxS
import Derived.Test.YtljfpkhgijangaaDoorLSus
import Derived.Test.YtljfpkhgijangaaDoorLModArg
import Derived.Test.YtljfpkhgijangaaDoorLMt4
namespace Go.Proofs.YtljfpkhgijangaaDoor
open Go.RowKit Go.Sort

/-- The text of a list of numbers. -/
def numW (r : List Int) : List UInt8 := Go.Lib.join (r.map dec) [44]
theorem numW_len {r : List Int} (h : Deg2 r) : (numW r).length ≤ r.length * 3 := by
  have := join_len [44] (r.map dec) h.dec
  rw [List.length_map] at this
  exact this
set_option maxRecDepth 100000 in
theorem numbersText_c (v : Value) (r : List Int) (w : World) (h : IntS w.heap v r) (hd : Deg2 r) :
    Calls Tryd.prog 53 #[v] w fun e w' => e = .returned (.string (bs (numW r))) ∧ Below w.heap.size w w' := by
  obtain ⟨ao, c, rfl, hm⟩ := h.len
  have H := Lib.hid h; have HD := Lib.hid hd
  have hl := hd.1
  have HJ := Lib.hid (fun (v : Value) (B : Nat) (W : World) (h : OwnW W B v (r.map dec)) => joinW_c v (r.map dec) [44] B W h (by rw [List.length_map]; omega) (fun x hx => by have := HD.out.dec x hx; omega) (by simp))
  have HE : Hid (bs (numW r) = bs (Go.Lib.join (r.map dec) [44])) := rfl
  clear h hd
  rw [HE.out]
  clear HE
  generalize Go.Lib.join (r.map dec) [44] = R1 at *
  go_enter Tryd.func53, Tryd.ntmps53
  go_wp2_with fail
  go_loopw [3, 9] (fun y i wr => ∃ m : Nat, m ≤ r.length ∧ i = .int .i64 m ∧ OwnW wr w.heap.size y ((r.take m).map dec) ∧ Below w.heap.size w wr) (fun _ i _ => r.length - (intOf i).toNat)
  case atStart => exact ⟨0, Nat.zero_le _, rfl, ownW_empty (Nat.le_refl _), (Below.refl _ _).alloc (Nat.le_refl _) _⟩
  case round =>
    obtain ⟨m, hm2, rfl, hy, hb3⟩ := hrel
    obtain ⟨ya, yn, yc, rfl⟩ := own_shape hy
    have HY := Lib.hid hy; have HB3 := Lib.hid hb3
    have hsz3 := hb3.size
    clear hy hb3
    by_cases hml : m < r.length
    · obtain ⟨b4, o4, q4, hv4, hc4, -⟩ := H.out.at m hml
      simp only [Value.slice.injEq, true_and] at hv4
      obtain ⟨rfl, rfl⟩ := hv4
      have hc := (HB3.out.cell (World.block_lt_of_cell? _ _ hc4)).trans hc4
      clear hc4
      obtain ⟨x, hx, hx2⟩ := HD.out.row m hml
      have HTK := Lib.hid (map_take_succ dec r m hml)
      have HLN := Lib.hid (show ((r.take m).map dec).length ≤ 4398046511104 by rw [List.length_map, List.length_take]; omega)
      rw [hx] at hc HTK
      have D := Lib.hid (fun W => decimal_c x hx2 W)
      clear hx
      go_wp2_with (first | (go_at_call 46; refine (D.out _).mono ?_; rintro e w1 ⟨rfl, rfl⟩) | (at_builtin; refine append_word (w := wr) rfl _ _ rfl _ _ _ _ HY.out rfl HB3.out hsz3 _ rfl (by simp) HLN.out ?_; intro v' w' hown' hbl' _ _; obtain ⟨pv, nv, cv, rfl⟩ := own_shape hown'))
      go_roundw
      case rel => exact ⟨m + 1, by omega, by go_num, by rw [HTK.out]; exact hown', hbl'⟩
      case measure => simp [intOf]; omega
    · obtain rfl : m = r.length := by omega
      rw [List.take_length] at HY
      go_wp2_with (go_at_call 45; refine (HJ.out _ _ _ HY.out).mono ?_; rintro e w1 ⟨rfl, hb⟩)
      go_ret
      exact ⟨rfl, HB3.out.trans (hb.mono hsz3)⟩
/-- The text of a module up to the row m. -/
def mdT (ds : List Int) (act : List (List Int)) (m : Nat) : List UInt8 := (numW ds ++ [124]) ++ Go.Lib.join ((act.take m).map numW) [59]
def mtxW (ds : List Int) (act : List (List Int)) : List UInt8 := if isMod ds act then mdT ds act act.length else []
def mtxC (ds : List Int) (act : List (List Int)) : Int := if isMod ds act then 0 else 1
theorem modT_deg2 {ds : List Int} {act : List (List Int)} (h : modT ds act = true) : Deg2 ds := by
  refine ⟨by have := modT_len h; omega, fun x hx => ?_⟩
  obtain ⟨i, hi, rfl⟩ := List.getElem_of_mem hx
  have := modT_stem h i
  rw [show ds.getD i 0 = ds[i] by simp [hi]] at this
  omega
theorem modT_row2 {ds : List Int} {act : List (List Int)} (h : modT ds act = true) : ∀ x ∈ act, Deg2 x ∧ x.length = 3 := fun x hx => by
  have h1 := modT_trip h x hx
  unfold trip at h1
  obtain ⟨h3, h1⟩ := h1
  match x, h3 with
  | [a, b, c], _ =>
    simp only [List.getD_cons_zero, List.getD_cons_succ] at h1
    refine ⟨⟨by simp, fun y hy => ?_⟩, rfl⟩
    simp only [List.mem_cons, List.not_mem_nil, or_false] at hy
    rcases hy with rfl | rfl | rfl <;> omega
theorem numW_row {ds : List Int} {act : List (List Int)} (h : modT ds act = true) (x : List Int) (hx : x ∈ act) : (numW x).length ≤ 9 := by
  obtain ⟨h1, h2⟩ := modT_row2 h x hx
  have := numW_len h1
  omega
theorem numW_deg {ds : List Int} {act : List (List Int)} (h : modT ds act = true) : (numW ds).length ≤ 48 := by
  have := numW_len (modT_deg2 h); have := modT_len h
  omega
theorem mdJ_len {ds : List Int} {act : List (List Int)} (h : modT ds act = true) (m : Nat) : (Go.Lib.join ((act.take m).map numW) [59]).length ≤ 53760 := by
  have h1 := join_len (m := 9) [59] ((act.take m).map numW) (fun x hx => by
    obtain ⟨y, hy, rfl⟩ := List.mem_map.1 hx
    exact numW_row h y (List.mem_of_mem_take hy))
  rw [List.length_map, List.length_take] at h1
  have h2 := modT_actlen h
  have h3 : min m act.length * (9 + [(59 : UInt8)].length) ≤ 5376 * 10 := Nat.mul_le_mul (by omega) (by simp)
  omega
theorem mdT_len {ds : List Int} {act : List (List Int)} (h : modT ds act = true) (m : Nat) : (mdT ds act m).length ≤ 53809 := by
  unfold mdT
  have := mdJ_len h m; have := numW_deg h
  simp only [List.length_append, List.length_cons, List.length_nil]
  omega
theorem mdT_zero (ds : List Int) (act : List (List Int)) : mdT ds act 0 = numW ds ++ [124] := by unfold mdT; simp [Go.Lib.join_nil]
theorem mdT_one (ds : List Int) (act : List (List Int)) (h : 0 < act.length) : mdT ds act 1 = mdT ds act 0 ++ numW act[0] := by
  rw [mdT_zero]
  unfold mdT
  rw [map_take_succ numW act 0 h]
  simp [Go.Lib.join_one]
theorem mdT_succ (ds : List Int) (act : List (List Int)) (m : Nat) (hm : m < act.length) (h0 : m ≠ 0) : mdT ds act (m + 1) = (mdT ds act m ++ [59]) ++ numW act[m] := by
  unfold mdT
  rw [map_take_succ numW act m hm, join_step _ _ _ (fun e => by have := congrArg List.length e; rw [List.length_map, List.length_take, List.length_nil] at this; omega)]
  simp
set_option maxRecDepth 100000 in
set_option maxHeartbeats 1000000 in
theorem moduleText_c (d a : Value) (ds : List Int) (act : List (List Int)) (w : World) (h : ModS w.heap d a ds act) (hT : modT ds act = true) :
    Calls Tryd.prog 38 #[.agg #[d, a]] w fun e w' => e = .returned (.string (bs (mdT ds act act.length))) ∧ Below w.heap.size w w' := by
  obtain ⟨ao, ac, hv, hm⟩ := h.1.len
  obtain ⟨bo, bc, hv2, hm2⟩ := h.2.len
  subst hv; subst hv2
  obtain ⟨W1, hW1⟩ : ∃ W1, W1 = w.alloc (.cells #[.slice ao ds.length ac, .slice bo act.length bc] 44) := ⟨_, rfl⟩
  have HV : Hid (Var2 W1 w.heap.size (.slice ao ds.length ac) (.slice bo act.length bc) 44) := by show Var2 _ _ _ _ _; rw [hW1]; exact Var2.new _ _ _ _
  have HB : Hid (Below w.heap.size w W1) := by show Below _ _ _; rw [hW1]; exact (Below.refl _ _).alloc (Nat.le_refl _) _
  have hsz : W1.heap.size = w.heap.size + 1 := by rw [hW1]; simp
  have HSZ := Lib.hid hsz; clear hsz
  have HW1 := Lib.hid hW1; clear hW1
  have hl := modT_actlen hT
  have HLD := Lib.hid (numW_deg hT)
  have HJ := Lib.hid (fun (v : Value) (B : Nat) (W : World) (h : OwnW W B v (act.map numW)) => joinW_c v (act.map numW) [59] B W h (by rw [List.length_map]; omega) (fun x hx => by obtain ⟨y, hy, rfl⟩ := List.mem_map.1 hx; have := numW_row hT y hy; omega) (by simp))
  have HDD := Lib.hid (modT_deg2 hT)
  have HRR := Lib.hid (modT_row2 hT)
  have HJL := Lib.hid (mdJ_len hT act.length)
  have HX : Hid (mdT ds act act.length = (numW ds ++ [124]) ++ Go.Lib.join (act.map numW) [59]) := by show _ = _; unfold mdT; rw [List.take_length]
  have H := Lib.hid h
  rw [HX.out]
  have hjl := HJL.out
  rw [List.take_length] at hjl
  have hld := HLD.out
  have HA1 : Hid (∀ W, (Op.stringOp .add (bs (numW ds)) ⟨#[124]⟩).run Tryd.prog W = .ok (.string (bs (numW ds ++ [124]))) W) := fun W => cat_run (numW ds) [124] (by simp only [List.length_cons, List.length_nil]; omega) Tryd.prog W
  have HA2 := Lib.hid (fun W => cat_run (numW ds ++ [124]) (Go.Lib.join (act.map numW) [59]) (by simp only [List.length_append, List.length_cons, List.length_nil]; omega) Tryd.prog W)
  have C0 := Lib.hid (fun (v : Value) (W : World) (h : IntS W.heap v ds) => numbersText_c v ds W h (modT_deg2 hT))
  clear h hT HX hjl hld HLD HJL HDD
  generalize (numW ds ++ [124]) ++ Go.Lib.join (act.map numW) [59] = R3 at *
  generalize numW ds ++ [124] = R2 at *
  generalize Go.Lib.join (act.map numW) [59] = R1 at *
  generalize numW ds = R0 at *
  go_enter Tryd.func38, Tryd.ntmps38
  go_wp2_with fail
  go_loopw [3, 10] (fun y i wr => ∃ m : Nat, m ≤ act.length ∧ i = .int .i64 m ∧ OwnW wr W1.heap.size y ((act.take m).map numW) ∧ Below W1.heap.size W1 wr) (fun _ i _ => act.length - (intOf i).toNat)
  case atStart =>
    refine ⟨0, Nat.zero_le _, rfl, ?_, ?_⟩
    · have := ownW_empty (w := W1) (Nat.le_refl _)
      rw [← HW1.out, ← HSZ.out]
      exact this
    · have := (Below.refl W1.heap.size W1).alloc (Nat.le_refl _) (.cells #[] 9)
      rw [← HW1.out]
      exact this
  case round =>
    obtain ⟨m, hm3, rfl, hy, hb3⟩ := hrel
    obtain ⟨ya, yn, yc, rfl⟩ := own_shape hy
    have HY := Lib.hid hy; have HB3 := Lib.hid hb3
    have hsz3 := hb3.size
    clear hy hb3
    by_cases hml : m < act.length
    · obtain ⟨b4, o4, q4, u4, hv4, hc4, hu4, -⟩ := H.out.2.at m hml
      simp only [Value.slice.injEq, true_and] at hv4
      obtain ⟨rfl, rfl⟩ := hv4
      have HBW := Lib.hid (HB.out.trans (HB3.out.mono HB.out.size))
      have hc := (HBW.out.cell (World.block_lt_of_cell? _ _ hc4)).trans hc4
      have hu := hu4.same HBW.out.block
      clear hc4 hu4
      have HTK := Lib.hid (map_take_succ numW act m hml)
      have HLN := Lib.hid (show ((act.take m).map numW).length ≤ 4398046511104 by rw [List.length_map, List.length_take]; omega)
      have C := Lib.hid (numbersText_c u4 _ wr hu (HRR.out _ (List.getElem_mem hml)).1)
      obtain ⟨ra, rc, rfl, -⟩ := hu.len
      clear hu
      generalize act[m] = r at *
      generalize numW r = t at *
      go_wp2_with fail
      refine C.out.mono ?_
      rintro e w1 ⟨rfl, hx1⟩
      have HY1 := Lib.hid (HY.out.same hx1.block); have HB1 := Lib.hid (HB3.out.trans (hx1.mono hsz3))
      have hsz4 := HB1.out.size
      clear hx1
      go_wp2_with (at_builtin; refine append_word (w := w1) rfl _ _ rfl _ _ _ _ HY1.out rfl HB1.out hsz4 _ rfl (by simp) HLN.out ?_; intro v' w' hown' hbl' _ _; obtain ⟨pv, nv, cv, rfl⟩ := own_shape hown')
      go_roundw
      case rel => exact ⟨m + 1, by omega, by go_num, by rw [HTK.out]; exact hown', hbl'⟩
      case measure => simp [intOf]; omega
    · obtain rfl : m = act.length := by omega
      rw [List.take_length] at HY
      have HVR := HV.out.below HB3.out (by have := HSZ.out; omega)
      have k0 := HVR.c0
      have HBW := Lib.hid (HB.out.trans (HB3.out.mono HB.out.size))
      have C := Lib.hid (C0.out _ wr (H.out.1.same HBW.out.block))
      have hadd1 := HA1.out; have hadd2 := HA2.out
      go_wp2_with (first | (go_at_call 53; refine C.out.mono ?_; rintro e w1 ⟨rfl, hx1⟩; have HY1 := Lib.hid (HY.out.same hx1.block); have HB1 := Lib.hid (HBW.out.trans (hx1.mono HBW.out.size)); clear hx1) | (go_at_call 45; refine (HJ.out _ _ _ HY1.out).mono ?_; rintro e w2 ⟨rfl, hx2⟩))
      go_ret
      exact ⟨rfl, HB1.out.trans (hx2.mono HB1.out.size)⟩
set_option maxRecDepth 100000 in
set_option maxHeartbeats 1000000 in
theorem l11Text_c (d a : Value) (ds : List Int) (act : List (List Int)) (w : World) (h : ModS w.heap d a ds act) (hT : modT ds act = true) :
    Calls Tryd.prog 35 #[.agg #[d, a]] w fun e w' => e = .returned (.string (bs (mdT ds act act.length))) ∧ Below w.heap.size w w' := by
  obtain ⟨ao, ac, hv, hm⟩ := h.1.len
  obtain ⟨bo, bc, hv2, hm2⟩ := h.2.len
  subst hv; subst hv2
  obtain ⟨W1, hW1⟩ : ∃ W1, W1 = w.alloc (.cells #[.slice ao ds.length ac, .slice bo act.length bc] 44) := ⟨_, rfl⟩
  have HV : Hid (Var2 W1 w.heap.size (.slice ao ds.length ac) (.slice bo act.length bc) 44) := by show Var2 _ _ _ _ _; rw [hW1]; exact Var2.new _ _ _ _
  have HB : Hid (Below w.heap.size w W1) := by show Below _ _ _; rw [hW1]; exact (Below.refl _ _).alloc (Nat.le_refl _) _
  have hsz : W1.heap.size = w.heap.size + 1 := by rw [hW1]; simp
  have HSZ := Lib.hid hsz; clear hsz
  have hl := modT_actlen hT
  have HLD := Lib.hid (numW_deg hT)
  have HRR := Lib.hid (modT_row2 hT)
  have HRW := Lib.hid (numW_row hT)
  have HTL := Lib.hid (mdT_len hT)
  have H0 : Hid (mdT ds act 0 = numW ds ++ [124]) := mdT_zero ds act
  have H1 := Lib.hid (mdT_one ds act)
  have H2 := Lib.hid (mdT_succ ds act)
  have C0 := Lib.hid (l01List_c _ ds [44] W1 (h.1.same HB.out.block) (modT_deg2 hT) (by simp))
  have CR := Lib.hid (fun (v : Value) (r : List Int) (W : World) (h : IntS W.heap v r) (hr : r ∈ act) => l01List_c v r [44] W h (modT_row2 hT r hr).1 (by simp))
  have HE : Hid (Go.Lib.join (ds.map dec) [44] = numW ds) := rfl
  rw [HE.out] at C0
  have H := Lib.hid h
  have hld := HLD.out
  have hadd1 : ∀ W, (Op.stringOp .add (bs (numW ds)) ⟨#[124]⟩).run Tryd.prog W = .ok (.string (bs (numW ds ++ [124]))) W := fun W => cat_run (numW ds) [124] (by simp only [List.length_cons, List.length_nil]; omega) Tryd.prog W
  rw [← H0.out] at hadd1
  clear h hT HE H0 hld HLD
  generalize mdT ds act = M at *
  generalize numW ds = R0 at *
  go_enter Tryd.func35, Tryd.ntmps35
  go_wp2_with fail
  rw [← hW1]
  have HW1 := Lib.hid hW1; clear hW1
  refine C0.out.mono ?_
  rintro e w0 ⟨rfl, hx0⟩
  have HX0 := Lib.hid hx0; clear hx0
  go_wp2_with fail
  go_loopw [3, 4] (fun t i wr => ∃ m : Nat, m ≤ act.length ∧ i = .int .i64 m ∧ t = .string (bs (M m)) ∧ Below W1.heap.size W1 wr) (fun _ i _ => act.length - (intOf i).toNat)
  case atStart => exact ⟨0, Nat.zero_le _, rfl, rfl, HX0.out⟩
  case round =>
    obtain ⟨m, hm3, rfl, rfl, hb3⟩ := hrel
    have HB3 := Lib.hid hb3
    have hsz3 := hb3.size
    clear hb3
    have HVR := HV.out.below HB3.out (by have := HSZ.out; omega)
    have k0 := HVR.c0
    have k1 := HVR.c1
    clear HVR
    have HBW := Lib.hid (HB.out.trans (HB3.out.mono HB.out.size))
    by_cases hml : m < act.length
    · obtain ⟨b4, o4, q4, u4, hv4, hc4, hu4, -⟩ := H.out.2.at m hml
      simp only [Value.slice.injEq, true_and] at hv4
      obtain ⟨rfl, rfl⟩ := hv4
      have hc := (HBW.out.cell (World.block_lt_of_cell? _ _ hc4)).trans hc4
      have hu := hu4.same HBW.out.block
      clear hc4 hu4
      have C := Lib.hid (CR.out u4 _ wr hu (List.getElem_mem hml))
      have htl := HTL.out m
      have hrw := HRW.out _ (List.getElem_mem hml)
      obtain ⟨ra, rc, rfl, -⟩ := hu.len
      have HN : Hid (Go.Lib.join (act[m].map dec) [44] = numW act[m]) := rfl
      rw [HN.out] at C
      by_cases h0 : m = 0
      · subst h0
        have HTK := Lib.hid (H1.out (by omega))
        rw [Nat.add_zero] at hc
        have hadd2 := fun W => cat_run (M 0) (numW act[0]) (by omega) Tryd.prog W
        rw [← HTK.out] at hadd2
        obtain ⟨R2, hR2⟩ : ∃ R, R = M 1 := ⟨_, rfl⟩
        rw [← hR2] at hadd2
        have HR2 := Lib.hid hR2
        clear hu htl hrw HN HTK hR2
        generalize act[0] = r at *
        generalize numW r = L at *
        generalize M 0 = R1 at *
        go_wp2_with (go_at_call 43; refine C.out.mono ?_; rintro e w1 ⟨rfl, hx1⟩)
        go_roundw
        case rel => exact ⟨1, by omega, by go_num, by rw [HR2.out], HB3.out.trans (hx1.mono hsz3)⟩
        case measure => simp [intOf]; omega
      · have tm : decide ((0 : Int) < (m : Int)) = true := by simp; omega
        have HTK := Lib.hid (H2.out m hml h0)
        have hadd2 : ∀ W, (Op.stringOp .add (bs (M m)) ⟨#[59]⟩).run Tryd.prog W = .ok (.string (bs (M m ++ [59]))) W := fun W => cat_run (M m) [59] (by simp only [List.length_cons, List.length_nil]; omega) Tryd.prog W
        have hadd3 := fun W => cat_run (M m ++ [59]) (numW act[m]) (by simp only [List.length_append, List.length_cons, List.length_nil]; omega) Tryd.prog W
        rw [← HTK.out] at hadd3
        obtain ⟨R3, hR3⟩ : ∃ R, R = M (m + 1) := ⟨_, rfl⟩
        rw [← hR3] at hadd3
        have HR3 := Lib.hid hR3
        clear hu htl hrw HN HTK hR3
        generalize act[m] = r at *
        generalize numW r = L at *
        generalize M m ++ [59] = R2 at *
        generalize M m = R1 at *
        go_wp2_with (go_at_call 43; refine C.out.mono ?_; rintro e w1 ⟨rfl, hx1⟩)
        go_roundw
        case rel => exact ⟨m + 1, by omega, by go_num, by rw [HR3.out], HB3.out.trans (hx1.mono hsz3)⟩
        case measure => simp [intOf]; omega
    · obtain rfl : m = act.length := by omega
      go_wp2_with fail
      go_ret
      exact ⟨rfl, HBW.out⟩
theorem isMod_T0 {ds : List Int} {act : List (List Int)} (h : isMod ds act = true) : modT ds act = true := by
  simp only [isMod, Bool.and_eq_true] at h; exact h.1
set_option maxRecDepth 100000 in
set_option maxHeartbeats 1000000 in
theorem implModuleText_c (d a : Value) (ds : List Int) (act : List (List Int)) (w : World) (h : ModS w.heap d a ds act) :
    Calls Tryd.prog 19 #[.agg #[d, a]] w fun e w' => e = .returned (.tuple #[.string (bs (mtxW ds act)), .int .i64 (mtxC ds act)]) ∧ Below w.heap.size w w' := by
  have hb : Below w.heap.size w (w.alloc (.cells #[d, a] 44)) := (Below.refl _ _).alloc (Nat.le_refl _) _
  have V := two_new w d a 44
  have I := Lib.hid (isModule_c d a ds act _ (h.same hb.block))
  have S := Lib.hid (fun (hT : isMod ds act = true) (W : World) (h : ModS W.heap d a ds act) => moduleText_c d a ds act W h (isMod_T0 hT))
  obtain ⟨ao, ac, hv, hm⟩ := h.1.len
  obtain ⟨bo, bc, hv2, hm2⟩ := h.2.len
  subst hv; subst hv2
  have k1 := V.1; have k2 := V.2
  have H := Lib.hid h; have HB := Lib.hid hb; clear h hb V
  cases hT : isMod ds act
  · have e1 : mtxW ds act = [] := by simp [mtxW, hT]
    have e2 : mtxC ds act = 1 := by simp [mtxC, hT]
    rw [e1, e2]
    rw [hT] at I
    clear e1 e2 hT S
    go_enter Tryd.func19, Tryd.ntmps19
    go_wp2_with (go_at_call 37; refine I.out.mono ?_; rintro e w1 ⟨rfl, hb1⟩)
    go_ret2
    exact ⟨rfl, HB.out.trans (hb1.mono HB.out.size)⟩
  · have e1 : mtxW ds act = mdT ds act act.length := by simp [mtxW, hT]
    have e2 : mtxC ds act = 0 := by simp [mtxC, hT]
    have S := Lib.hid (S.out hT)
    rw [e1, e2]
    rw [hT] at I
    clear e1 e2 hT
    generalize mdT ds act act.length = t at *
    go_enter Tryd.func19, Tryd.ntmps19
    go_wp2_with (first | (go_at_call 37; refine I.out.mono ?_; rintro e w1 ⟨rfl, hb1⟩; have k3 := (hb1.cell (World.block_lt_of_cell? _ _ k1)).trans k1; have k4 := (hb1.cell (World.block_lt_of_cell? _ _ k2)).trans k2; have HB1 := Lib.hid (HB.out.trans (hb1.mono HB.out.size)); clear hb1) | (go_at_call 38; refine (S.out _ (H.out.same HB1.out.block)).mono ?_; rintro e w2 ⟨rfl, hb2⟩))
    go_ret2
    exact ⟨rfl, HB1.out.trans (hb2.mono HB1.out.size)⟩
set_option maxRecDepth 100000 in
set_option maxHeartbeats 1000000 in
theorem specModuleText_c (d a : Value) (ds : List Int) (act : List (List Int)) (w : World) (h : ModS w.heap d a ds act) :
    Calls Tryd.prog 17 #[.agg #[d, a]] w fun e w' => e = .returned (.tuple #[.string (bs (mtxW ds act)), .int .i64 (mtxC ds act)]) ∧ Below w.heap.size w w' := by
  have hb : Below w.heap.size w (w.alloc (.cells #[d, a] 44)) := (Below.refl _ _).alloc (Nat.le_refl _) _
  have V := two_new w d a 44
  have I := Lib.hid (l11Is_c d a ds act _ (h.same hb.block))
  have S := Lib.hid (fun (hT : isMod ds act = true) (W : World) (h : ModS W.heap d a ds act) => l11Text_c d a ds act W h (isMod_T0 hT))
  obtain ⟨ao, ac, hv, hm⟩ := h.1.len
  obtain ⟨bo, bc, hv2, hm2⟩ := h.2.len
  subst hv; subst hv2
  have k1 := V.1; have k2 := V.2
  have H := Lib.hid h; have HB := Lib.hid hb; clear h hb V
  cases hT : isMod ds act
  · have e1 : mtxW ds act = [] := by simp [mtxW, hT]
    have e2 : mtxC ds act = 1 := by simp [mtxC, hT]
    rw [e1, e2]
    rw [hT] at I
    clear e1 e2 hT S
    go_enter Tryd.func17, Tryd.ntmps17
    go_wp2_with (go_at_call 34; refine I.out.mono ?_; rintro e w1 ⟨rfl, hb1⟩)
    go_ret2
    exact ⟨rfl, HB.out.trans (hb1.mono HB.out.size)⟩
  · have e1 : mtxW ds act = mdT ds act act.length := by simp [mtxW, hT]
    have e2 : mtxC ds act = 0 := by simp [mtxC, hT]
    have S := Lib.hid (S.out hT)
    rw [e1, e2]
    rw [hT] at I
    clear e1 e2 hT
    generalize mdT ds act act.length = t at *
    go_enter Tryd.func17, Tryd.ntmps17
    go_wp2_with (first | (go_at_call 34; refine I.out.mono ?_; rintro e w1 ⟨rfl, hb1⟩; have k3 := (hb1.cell (World.block_lt_of_cell? _ _ k1)).trans k1; have k4 := (hb1.cell (World.block_lt_of_cell? _ _ k2)).trans k2; have HB1 := Lib.hid (HB.out.trans (hb1.mono HB.out.size)); clear hb1) | (go_at_call 35; refine (S.out _ (H.out.same HB1.out.block)).mono ?_; rintro e w2 ⟨rfl, hb2⟩))
    go_ret2
    exact ⟨rfl, HB1.out.trans (hb2.mono HB1.out.size)⟩
end Go.Proofs.YtljfpkhgijangaaDoor

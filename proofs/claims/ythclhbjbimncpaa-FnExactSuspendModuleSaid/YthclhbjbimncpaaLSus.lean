/- SuspendModule of the program and of the reference. -/
import Derived.Test.YthclhbjbimncpaaLCnt
import Derived.Test.YthclhbjbimncpaaLCopy
import Derived.Test.YthclhbjbimncpaaLStep
import Derived.Test.YthclhbjbimncpaaLGen
namespace Go.Proofs.Ythclhbjbimncpaa
open Go.RowKit Go.Sort

def susB (ds : List Int) (n : Int) : Bool := ds.all fun d => stemB (d + n)
def susOk (ds : List Int) (act : List (List Int)) (n : Int) : Bool := isMod ds act && (decide (-20 ≤ n) && decide (n ≤ 20)) && susB ds n
def susD (ds : List Int) (act : List (List Int)) (n : Int) : List Int := if susOk ds act n then ds.map (· + n) else []
def susA (ds : List Int) (act : List (List Int)) (n : Int) : List (List Int) := if susOk ds act n then act else []
def susC (ds : List Int) (act : List (List Int)) (n : Int) : Int := if isMod ds act then (if (decide (-20 ≤ n) && decide (n ≤ 20)) then (if susB ds n then 0 else 3) else 2) else 1
theorem susB_false {ds : List Int} {n : Int} (k : Nat) (hk : k < ds.length) (h : stemB (ds[k] + n) = false) : susB ds n = false := by
  cases e : susB ds n
  · rfl
  · rw [susB, List.all_eq_true] at e; rw [e _ (List.getElem_mem hk)] at h; cases h
theorem susB_true {ds : List Int} {n : Int} (h : ∀ i (hi : i < ds.length), stemB (ds[i] + n) = true) : susB ds n = true := by
  rw [susB, List.all_eq_true]
  intro x hx
  obtain ⟨i, hi, rfl⟩ := List.getElem_of_mem hx
  exact h i hi
def encT (x : List Int) : Int := x.getD 0 0 * 256 + x.getD 1 0 * 16 + x.getD 2 0
def trip (x : List Int) : Prop := x.length = 3 ∧ 0 ≤ x.getD 0 0 ∧ x.getD 0 0 ≤ 20 ∧ 0 ≤ x.getD 1 0 ∧ x.getD 1 0 < 16 ∧ 0 ≤ x.getD 2 0 ∧ x.getD 2 0 < 16
theorem ltL_enc {x y : List Int} (hx : trip x) (hy : trip y) (h : ltL x y = true) : encT x < encT y := by
  obtain ⟨a, b, c, rfl⟩ : ∃ a b c, x = [a, b, c] := by
    match x, hx.1 with
    | [a, b, c], _ => exact ⟨a, b, c, rfl⟩
  obtain ⟨d, e, f, rfl⟩ : ∃ a b c, y = [a, b, c] := by
    match y, hy.1 with
    | [a, b, c], _ => exact ⟨a, b, c, rfl⟩
  simp only [trip, List.getD_cons_zero, List.getD_cons_succ] at hx hy
  simp only [encT, List.getD_cons_zero, List.getD_cons_succ]
  simp only [ltL] at h
  split at h
  · omega
  · split at h
    · cases h
    · split at h
      · omega
      · split at h
        · cases h
        · split at h
          · omega
          · split at h <;> cases h
theorem asc_len : ∀ (l : List (List Int)) (lo : Int), Asc l → (∀ x ∈ l, trip x ∧ lo ≤ encT x) → 0 ≤ lo → (l.length : Int) + lo ≤ 5376 ∨ l = []
  | [], _, _, _, _ => .inr rfl
  | x :: l, lo, h, hx, h0 => by
    left
    obtain ⟨t, hlo⟩ := hx x (List.mem_cons_self ..)
    have hE : encT x < 5376 := by
      have := t; unfold trip at this; unfold encT; omega
    rcases asc_len l (encT x + 1) h.tail (fun y hy => ⟨(hx y (List.mem_cons_of_mem _ hy)).1, by
      have := ltL_enc t (hx y (List.mem_cons_of_mem _ hy)).1 (h.head y hy); omega⟩) (by omega) with h2 | h2
    · simp only [List.length_cons]; omega
    · subst h2; simp; omega
theorem modT_trip {ds : List Int} {act : List (List Int)} (h : modT ds act = true) (x : List Int) (hx : x ∈ act) : trip x := by
  have h1 := modT_cell h x hx; have h2 := modT_top h x hx; have h3 := modT_len h
  unfold trip; omega
theorem modT_actlen {ds : List Int} {act : List (List Int)} (h : modT ds act = true) : act.length ≤ 5376 := by
  rcases asc_len act 0 (modT_asc h) (fun x hx => ⟨modT_trip h x hx, by have := modT_trip h x hx; unfold trip at this; unfold encT; omega⟩) (Int.le_refl _) with h2 | h2
  · omega
  · rw [h2]; simp
theorem cnt_trip : ∀ (act : List (List Int)), (∀ x ∈ act, x.length = 3) → cnt act = 3 * act.length
  | [], _ => rfl
  | x :: a, h => by
    have := cnt_trip a fun y hy => h y (List.mem_cons_of_mem _ hy)
    have := h x (List.mem_cons_self ..)
    simp only [cnt, List.map_cons, List.sum_cons, List.length_cons] at *; omega
theorem modT_cnt {ds : List Int} {act : List (List Int)} (h : modT ds act = true) : cnt act ≤ 16128 := by
  rw [cnt_trip act fun x hx => (modT_cell h x hx).1]; have := modT_actlen h; omega
theorem sus_bounds (ds : List Int) (act : List (List Int)) (n : Int) : (susD ds act n).length ≤ 16 ∧ cnt (susA ds act n) ≤ 16128 := by
  unfold susD susA
  split
  · rename_i h
    simp only [susOk, Bool.and_eq_true] at h
    have hT := isMod_T h.1.1
    exact ⟨by rw [List.length_map]; exact modT_len hT, modT_cnt hT⟩
  · simp [cnt]
/-- The module of a variable, its degrees made since. -/
theorem ownM_of {w w2 : World} {B : Nat} {d a : Value} {us : List Value} {ds : List Int} {act : List (List Int)} (hd : OwnI w w2.heap.size d ds) (ha : OwnU w2 B a us act) (hB : B ≤ w2.heap.size) (k : Below w2.heap.size w2 w) : OwnM w B d a us ds act :=
  ⟨own_base hd hB, ha.same k.block, fun u hu => by
    cases e : d.ownBlock with
    | none => exact .inl rfl
    | some b =>
      right
      intro e2
      have h1 := (hd.range b e).1
      have h2 := (ha.range.2 u hu b e2.symm).2
      omega⟩
set_option maxRecDepth 100000 in
set_option maxHeartbeats 2000000 in
theorem implSuspendModule_c (d a : Value) (ds : List Int) (act : List (List Int)) (n : Int) (w : World) (h : ModS w.heap d a ds act) :
    Calls Try.prog 69 #[.agg #[d, a], .int .i64 n] w fun e w' => ∃ d' a' us, e = .returned (.tuple #[.agg #[d', a'], .int .i64 (susC ds act n)]) ∧ OwnM w' w.heap.size d' a' us (susD ds act n) (susA ds act n) ∧ Below w.heap.size w w' := by
  have V1 := Var2.new w d a 70
  have V2 := Var2.new (w.alloc (.cells #[d, a] 70)) (.slice none 0 0) (.slice none 0 0) 70
  rw [size_alloc_w] at V2
  have hb : Below w.heap.size w ((w.alloc (.cells #[d, a] 70)).alloc (.cells #[.slice none 0 0, .slice none 0 0] 70)) := ((Below.refl _ _).alloc (Nat.le_refl _) _).alloc (by simp) _
  have V1' := V1.kept (alloc_old _ (.cells #[.slice none 0 0, .slice none 0 0] 70))
  have hsz : ((w.alloc (.cells #[d, a] 70)).alloc (.cells #[.slice none 0 0, .slice none 0 0] 70)).heap.size = w.heap.size + 2 := by simp
  have I := Lib.hid (isModule_c d a ds act _ (h.same hb.block))
  obtain ⟨ao, ac, hdv, hm⟩ := h.1.len
  obtain ⟨bo, bc, hav, hm2⟩ := h.2.len
  subst hdv; subst hav
  have H0 := Lib.hid h; clear h V1
  obtain ⟨w0, hw0⟩ : ∃ w0, w0 = (w.alloc (.cells #[.slice ao ds.length ac, .slice bo act.length bc] 70)).alloc (.cells #[.slice none 0 0, .slice none 0 0] 70) := ⟨_, rfl⟩
  rw [← hw0] at V1' V2 hb hsz I
  have HW := Lib.hid hw0; clear hw0
  have HB0 := Lib.hid hb; have HV1 := Lib.hid V1'; have HV2 := Lib.hid V2; have HSZ := Lib.hid hsz
  clear hb V1' V2 hsz
  have k1 := HV1.out.c0; have k2 := HV1.out.c1
  cases hT : isMod ds act
  · have e1 : susC ds act n = 1 := by simp [susC, hT]
    have e2 : susD ds act n = [] := by simp [susD, susOk, hT]
    have e3 : susA ds act n = [] := by simp [susA, susOk, hT]
    rw [e1, e2, e3]; clear e1 e2 e3
    rw [hT] at I
    clear hT
    go_enter Try.func69, Try.ntmps69
    go_wp2_with fail
    rw [← HW.out]
    refine I.out.mono ?_
    rintro e w1 ⟨rfl, hb1⟩
    have W2 := HV2.out.kept hb1.block
    have c0 := W2.c0; have c1 := W2.c1; have f0 := W2.free 0; have f1 := W2.free 1
    have HB1 := Lib.hid (HB0.out.trans (hb1.mono HB0.out.size)); have HW2 := Lib.hid W2
    clear hb1 W2 HW
    go_wp2_with fail
    have g0 := (HW2.out.set0 (.slice none 0 0)).c0
    have g1 := ((HW2.out.set0 (.slice none 0 0)).set1 (.slice none 0 0)).c1
    exact bodyPost_ret (v := .tuple #[.agg #[.slice none 0 0, .slice none 0 0], .int .i64 1]) (by simp [results, Try.results69, go_sem, g0, g1]) rfl
      ⟨_, _, [], rfl, OwnM.nil _ _, (HB1.out.setCell (by show w.heap.size ≤ w.heap.size + 1; omega) _).setCell (by show w.heap.size ≤ w.heap.size + 1; omega) _⟩
  · have HT := Lib.hid (isMod_T hT)
    have D := Lib.hid (in_c n (-20) 20)
    rw [hT] at I
    cases hN : decide (-20 ≤ n) && decide (n ≤ 20)
    · have e1 : susC ds act n = 2 := by simp only [susC, hT, hN]; rfl
      have e2 : susD ds act n = [] := by simp only [susD, susOk, hT, hN]; rfl
      have e3 : susA ds act n = [] := by simp only [susA, susOk, hT, hN]; rfl
      rw [e1, e2, e3]; clear e1 e2 e3
      rw [hN] at D
      clear hT hN
      go_enter Try.func69, Try.ntmps69
      go_wp2_with fail
      rw [← HW.out]
      refine I.out.mono ?_
      rintro e w1 ⟨rfl, hb1⟩
      have W2 := HV2.out.kept hb1.block
      have c0 := W2.c0; have c1 := W2.c1; have f0 := W2.free 0; have f1 := W2.free 1
      have HB1 := Lib.hid (HB0.out.trans (hb1.mono HB0.out.size)); have HW2 := Lib.hid W2
      clear hb1 W2 HW
      go_wp2_with (go_at_call 87; refine (D.out _).mono ?_; rintro e w2 ⟨rfl, rfl⟩)
      have g0 := (HW2.out.set0 (.slice none 0 0)).c0
      have g1 := ((HW2.out.set0 (.slice none 0 0)).set1 (.slice none 0 0)).c1
      exact bodyPost_ret (v := .tuple #[.agg #[.slice none 0 0, .slice none 0 0], .int .i64 2]) (by simp [results, Try.results69, go_sem, g0, g1]) rfl
        ⟨_, _, [], rfl, OwnM.nil _ _, (HB1.out.setCell (by show w.heap.size ≤ w.heap.size + 1; omega) _).setCell (by show w.heap.size ≤ w.heap.size + 1; omega) _⟩
    · have hn20 : -20 ≤ n ∧ n ≤ 20 := by simpa using hN
      have HE1 : Hid (susC ds act n = if susB ds n then 0 else 3) := by show _ = _; simp only [susC, hT, hN]; rfl
      have HE2 : Hid (susD ds act n = if susB ds n then ds.map (· + n) else []) := by show _ = _; simp only [susD, susOk, hT, hN]; rfl
      have HE3 : Hid (susA ds act n = if susB ds n then act else []) := by show _ = _; simp only [susA, susOk, hT, hN]; rfl
      have C := Lib.hid (fun (W : World) (h : IntSS W.heap (.slice bo act.length bc) act) => copyLists_c (.slice bo act.length bc) act W h (by have := modT_actlen HT.out; omega) (fun x hx => by have := (modT_cell HT.out x hx).1; omega))
      have hl16 := modT_len HT.out
      rw [hN] at D
      clear hT hN
      go_enter Try.func69, Try.ntmps69
      go_wp2_with fail
      rw [← HW.out]
      refine I.out.mono ?_
      rintro e w1 ⟨rfl, hb1⟩
      have HB1 := Lib.hid (HB0.out.trans (hb1.mono HB0.out.size)); have HW2 := Lib.hid (HV2.out.kept hb1.block); have HW1 := Lib.hid (HV1.out.kept hb1.block)
      have c0 := HW1.out.c0; have c1 := HW1.out.c1
      clear hb1 HW k1 k2
      go_wp2_with (first | (go_at_call 87; refine (D.out _).mono ?_; rintro e w2 ⟨rfl, rfl⟩) | (go_at_call 132; refine (C.out _ (H0.out.2.same HB1.out.block)).mono ?_; rintro e w2 ⟨av, us, rfl, hU, hb2⟩; obtain ⟨va, vn, vc, rfl⟩ := own_shape hU.row; have k1 := ((HW1.out.kept hb2.block).kept (alloc_old w2 (.cells #[.slice none 0 0, .slice va vn vc] 70))).c0))
      have HB2 := Lib.hid (HB1.out.trans (hb2.mono HB1.out.size)); have HW3 := Lib.hid (HW2.out.kept hb2.block); have HW4 := Lib.hid (HW1.out.kept hb2.block); have HU := Lib.hid hU
      have HS12 := Lib.hid hb2.size
      clear hb2 hU c0 c1 k1
      have hs2 := HB2.out.size
      have hlt3 := HW3.out.lt
      go_loopw [26] (fun i wr => ∃ (k : Nat) (dv : Value), k ≤ ds.length ∧ i = .int .i64 k ∧ OwnI wr w2.heap.size dv ((ds.take k).map (· + n)) ∧ Var2 wr w2.heap.size dv (.slice va vn vc) 70 ∧ Below w2.heap.size w2 wr ∧ ∀ i (hi : i < ds.length), i < k → stemB (ds[i] + n) = true) (fun i _ => ds.length - (intOf i).toNat)
      case atStart =>
        exact ⟨0, .slice none 0 0, Nat.zero_le _, rfl, OwnI.nil _ _, Var2.new w2 _ _ _, (Below.refl _ _).alloc (Nat.le_refl _) _, fun i _ h => by omega⟩
      case round =>
        obtain ⟨k, dv, hk, rfl, hO, hV, hbl, hst⟩ := hrel
        obtain ⟨pd, nd, cd, rfl⟩ := own_shape hO
        have HST := Lib.hid hst
        have k1' := (HW4.out.kept hbl.block).c0; have k2' := (HW4.out.kept hbl.block).c1
        have HR3 := Lib.hid (HW3.out.kept hbl.block)
        have HO := Lib.hid hO; have HV := Lib.hid hV; have HBL := Lib.hid hbl; have hsz := hbl.size
        clear hst hO hV hbl
        by_cases hlt : k < ds.length
        · obtain ⟨b1, o1, c1, hv1, hc1, -⟩ := H0.out.1.at k hlt
          simp only [Value.slice.injEq, true_and] at hv1
          obtain ⟨rfl, rfl⟩ := hv1
          have hc2 := (HB2.out.cell (World.block_lt_of_cell? _ _ hc1)).trans hc1
          have hc := (HBL.out.cell (World.block_lt_of_cell? _ _ hc2)).trans hc2
          clear hc1 hc2
          have hx := modT_stem HT.out k
          rw [show ds.getD k 0 = ds[k] by simp [hlt]] at hx
          have HSB := Lib.hid (fun (h : stemB (ds[k] + n) = false) => susB_false k hlt h)
          have HSN : Hid (stemB (ds[k] + n) = true → ∀ i (hi : i < ds.length), i < k + 1 → stemB (ds[i] + n) = true) := fun hq i hi hik => by
            by_cases e : i = k
            · subst e; exact hq
            · exact HST.out i hi (by omega)
          have HTK := Lib.hid (show (ds.take (k + 1)).map (· + n) = (ds.take k).map (· + n) ++ [ds[k] + n] by rw [List.take_succ_eq_append_getElem hlt, List.map_append]; rfl)
          have hln : ((ds.take k).map (· + n)).length ≤ 4398046511104 := by rw [List.length_map, List.length_take]; omega
          generalize ds[k] = x at *
          have s1 : IntKind.i64.wrap (x + n) = x + n := IntWalk.i64_in _ (by omega)
          have SS := Lib.hid (isStem_c (x + n))
          cases hq : stemB (x + n)
          · have HF := Lib.hid (HSB.out hq)
            rw [hq] at SS
            clear hq HSN
            have c0 := HR3.out.c0; have c1 := HR3.out.c1; have f0 := HR3.out.free 0; have f1 := HR3.out.free 1
            have HE1' : Hid (susC ds act n = 3) := by show _ = _; rw [HE1.out, HF.out]; rfl
            have HE2' : Hid (susD ds act n = []) := by show _ = _; rw [HE2.out, HF.out]; rfl
            have HE3' : Hid (susA ds act n = []) := by show _ = _; rw [HE3.out, HF.out]; rfl
            go_wp2_with (go_at_call 133; refine (SS.out _).mono ?_; rintro e w4 ⟨rfl, rfl⟩)
            have g0 := (HR3.out.set0 (.slice none 0 0)).c0
            have g1 := ((HR3.out.set0 (.slice none 0 0)).set1 (.slice none 0 0)).c1
            exact bodyPost_ret (v := .tuple #[.agg #[.slice none 0 0, .slice none 0 0], .int .i64 3]) (by simp [results, Try.results69, go_sem, g0, g1]) rfl
              ⟨_, _, [], by rw [HE1'.out], by rw [HE2'.out, HE3'.out]; exact OwnM.nil _ _, ((HB2.out.trans (HBL.out.mono hs2)).setCell (by show w.heap.size ≤ w.heap.size + 1; omega) _).setCell (by show w.heap.size ≤ w.heap.size + 1; omega) _⟩
          · have HSN2 := Lib.hid (HSN.out hq)
            rw [hq] at SS
            clear hq HSN HSB
            have d0 := HV.out.c0; have d1 := HV.out.c1
            have HNA := Lib.hid (own_ne_var HO.out HV.out (by decide))
            go_wp2_with (first | (go_at_call 133; refine (SS.out _).mono ?_; rintro e w4 ⟨rfl, rfl⟩) | (at_builtin; refine append_int (w := wr) rfl _ _ rfl _ _ _ _ HO.out rfl HBL.out hsz _ rfl (by rfl) hln ?_; intro v' w' hown' hbl' _ hk'; obtain ⟨pv, nv, cv, rfl⟩ := own_shape hown'; have V5' := HV.out.same (hk' _ HV.out.lt (fun e => HNA.out e.symm)); have d0' := V5'.c0; have fr := V5'.free 0; have HO' := Lib.hid hown'; have H5' := Lib.hid V5'; have HB' := Lib.hid hbl'; clear hown' V5' hbl' hk'))
            go_roundw
            case rel => exact ⟨k + 1, .slice pv nv cv, by omega, by go_num, by rw [HTK.out]; exact HO'.out.setVar H5'.out (by decide) _, H5'.out.set0 _, HB'.out.setCell (Nat.le_refl _) _, HSN2.out⟩
            case measure => simp [intOf]; omega
        · obtain rfl : k = ds.length := by omega
          rw [List.take_length] at HO
          have HF := Lib.hid (susB_true fun i hi => HST.out i hi hi)
          have HE1' : Hid (susC ds act n = 0) := by show _ = _; rw [HE1.out, HF.out]; rfl
          have HE2' : Hid (susD ds act n = ds.map (· + n)) := by show _ = _; rw [HE2.out, HF.out]; rfl
          have HE3' : Hid (susA ds act n = act) := by show _ = _; rw [HE3.out, HF.out]; rfl
          have d0 := HV.out.c0; have d1 := HV.out.c1
          have c0 := HR3.out.c0; have c1 := HR3.out.c1; have f0 := HR3.out.free 0; have f1 := HR3.out.free 1
          go_wp2_with fail
          have W5 := HR3.out.set0 (.slice pd nd cd)
          have g0 := W5.c0
          have g1 := (W5.set1 (.slice va vn vc)).c1
          exact bodyPost_ret (v := .tuple #[.agg #[.slice pd nd cd, .slice va vn vc], .int .i64 0]) (by simp [results, Try.results69, go_sem, g0, g1]) rfl
            ⟨_, _, us, by rw [HE1'.out], by rw [HE2'.out, HE3'.out]; exact (((ownM_of HO.out HU.out HS12.out HBL.out).base HB1.out.size).setVar HR3.out (by decide) (by decide) _).setVar W5 (by decide) (by decide) _, ((HB2.out.trans (HBL.out.mono hs2)).setCell (by show w.heap.size ≤ w.heap.size + 1; omega) _).setCell (by show w.heap.size ≤ w.heap.size + 1; omega) _⟩
end Go.Proofs.Ythclhbjbimncpaa

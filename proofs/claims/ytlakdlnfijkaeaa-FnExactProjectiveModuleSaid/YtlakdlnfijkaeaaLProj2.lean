/- ProjectiveModule, of the program and of the reference: the closure and the two functions. -/
import Derived.Test.YtlakdlnfijkaeaaLProj
namespace Go.Proofs.Ytlakdlnfijkaeaa
open Go.RowKit Go.Sort

/-- Block g is a variable of one cell of type t. -/
def Var1 (w : World) (g : Nat) (x : Value) (t : Nat) : Prop := w.heap[g]? = some (.cells #[x] t (0, 0))
section
variable {w w' : World} {g : Nat} {x : Value} {t : Nat}
theorem Var1.c0 (h : Var1 w g x t) : w.cell? ⟨g, 0, none⟩ = some x := by rw [World.cell?]; simp only [show w.heap[g]? = _ from h]; rfl
theorem Var1.free (h : Var1 w g x t) (j : Nat) : w.frozen? ⟨g, j, none⟩ = false := by rw [World.frozen?]; simp only [show w.heap[g]? = _ from h]; simp
theorem Var1.lt (h : Var1 w g x t) : g < w.heap.size := (Array.getElem?_eq_some_iff.1 h).1
theorem Var1.same (h : Var1 w g x t) (k : w'.heap[g]? = w.heap[g]?) : Var1 w' g x t := k.trans h
theorem Var1.below {B : Nat} (h : Var1 w g x t) (k : Below B w w') (hg : g < B) : Var1 w' g x t := h.same (k.block g hg)
theorem Var1.kept (h : Var1 w g x t) (k : ∀ b, b < w.heap.size → w'.heap[b]? = w.heap[b]?) : Var1 w' g x t := h.same (k g h.lt)
theorem Var1.new (w : World) (x : Value) (t : Nat) : Var1 (w.alloc (.cells #[x] t)) w.heap.size x t := heap_alloc_new w _
theorem Var1.set0 (h : Var1 w g x t) (u : Value) : Var1 (w.setCell ⟨g, 0, none⟩ u) g u t := heap_setCell_same w g 0 _ t u h
theorem Var1.setFar (h : Var1 w g x t) (p : Addr) (hp : g ≠ p.block) (u : Value) : Var1 (w.setCell p u) g x t := h.same (Below.heap_setCell _ _ _ _ hp)
theorem own_ne_var1 {B e n : Nat} {v : Value} {us : List Value} (h : w.ownsRow B e 1 v n us) (k : Var1 w g x t) (ne : e ≠ t) : v.ownBlock ≠ some g := by
  rcases h.2 with ⟨rfl, _⟩ | ⟨b, cap, cur, rfl, _, hg, _⟩
  · simp [Value.ownBlock]
  · intro e1
    simp only [Value.ownBlock, Option.some.injEq] at e1
    subst e1
    rw [show w.heap[b]? = _ from k] at hg
    simp only [Option.some.injEq, Obj.cells.injEq] at hg
    exact ne hg.2.1.symm
theorem OwnI.setVar1 {B g t : Nat} {v x : Value} {xs : List Int} (h : OwnI w B v xs) (k : Var1 w g x t) (ne : t ≠ 2) (u : Value) : OwnI (w.setCell ⟨g, 0, none⟩ u) B v xs :=
  own_setCell_other h _ (own_ne_var1 h k (fun e => ne e.symm)) u
end
theorem w64_pow : ∀ e : Nat, e < 16 → wrap64 (2 ^ e) = 2 ^ e := by decide +kernel
theorem enters_proj1 : Enters Try.prog 68 := fun args w => by kernel_rfl
theorem proj1_c (m s : Nat) (n : Int) (hn : n = (m : Int) + s) (hm : m + s ≤ 20) (hs : s < 16) (v : Value) (gd gn i b : Nat) (w : World) (h : IntS w.heap v (prDeg m (s + 1))) (hd : w.cell? ⟨gd, 0, none⟩ = some v) (hc : w.cell? ⟨gn, 0, none⟩ = some (.int .i64 n)) (hi : 1 ≤ i) (hi2 : i ≤ 20) (hb : b < s + 1) :
    Calls Try.prog 68 #[.int .i64 i, .int .i64 b, .pointer (some ⟨gd, 0, none⟩), .pointer (some ⟨gn, 0, none⟩)] w fun e w' => e = .returned (.int .i64 (prSq m s i b)) ∧ w = w' := by
  have hl := prDeg_length m (s + 1)
  obtain rfl := hn
  obtain ⟨b1, o1, c1, rfl, hc1, _⟩ := h.at b (by omega)
  have hx : (prDeg (m : Int) (s + 1))[b]'(by rw [prDeg_length]; exact hb) = (m : Int) + b := by simp [prDeg]
  rw [hx] at hc1
  rw [hl] at hd
  clear h hx hl
  by_cases hlt : b + i ≤ s
  · have t1b : decide ((m : Int) + s < (m : Int) + b + i) = false := by simp; omega
    have t2 : ¬ ((b : Int) + i < 0) := by omega
    cases hp : par ((m : Int) + b) i
    · have e : prSq m s i b = 0 := by rw [prSq, if_neg (by rw [hp]; simp)]
      rw [e]
      have hp' : parI ((m : Int) + b) i = 0 := by rw [parI, hp]; rfl
      have HP := Lib.hid hp'; clear hp hp' e
      go_enter Try.func68, Try.ntmps68
      go_wp2_with fail
      refine (choose_c _ _ _).mono ?_
      rw [HP.out]
      rintro e w' ⟨rfl, rfl⟩
      go_wp2_with fail
      go_ret
      exact ⟨rfl, rfl⟩
    · have e : prSq m s i b = 2 ^ (b + i) := by rw [prSq, if_pos ⟨hlt, hp⟩]
      rw [e]
      have hp' : parI ((m : Int) + b) i = 1 := by rw [parI, hp]; rfl
      have HP := Lib.hid hp'; clear hp hp' e
      go_enter Try.func68, Try.ntmps68
      go_wp2_with fail
      refine (choose_c _ _ _).mono ?_
      rw [HP.out]
      rintro e w' ⟨rfl, rfl⟩
      go_wp2_with fail
      go_ret
      exact ⟨ret_int (w64_pow (b + i) (by omega)), rfl⟩
  · have t1 : (m : Int) + s < (m : Int) + b + i := by omega
    have t1b : decide ((m : Int) + s < (m : Int) + b + i) = true := by simp; omega
    have e : prSq m s i b = 0 := by rw [prSq, if_neg (fun x => hlt x.1)]
    rw [e]; clear e hlt
    go_enter Try.func68, Try.ntmps68
    go_wp2_with fail
    go_ret
    exact ⟨rfl, rfl⟩
def prjD (m n : Int) : List Int := if 0 ≤ m ∧ m ≤ n ∧ n ≤ 20 ∧ n - m < 16 then prDeg m ((n - m).toNat + 1) else []
def prjA (m n : Int) : List (List Int) := if 0 ≤ m ∧ m ≤ n ∧ n ≤ 20 ∧ n - m < 16 then prN m.toNat (n - m).toNat (n - m).toNat else []
def prjC (m n : Int) : Int := if 0 ≤ m ∧ m ≤ n ∧ n ≤ 20 then if n - m < 16 then 0 else 3 else 2
theorem prj_bounds (m n : Int) : (prjD m n).length ≤ 21 ∧ cnt (prjA m n) ≤ 1323 := by
  unfold prjD prjA
  split
  · rename_i h
    have q := (prN_len m.toNat (n - m).toNat (n - m).toNat).2
    have q5 : (n - m).toNat * ((n - m).toNat + 1) ≤ 20 * 21 := Nat.mul_le_mul (by omega) (by omega)
    rw [prDeg_length]; omega
  · simp [cnt]
theorem specProjectiveModule_c (m n : Int) (w : World) :
    Calls Try.prog 45 #[.int .i64 m, .int .i64 n] w fun e w' => ∃ d a, e = .returned (.tuple #[.agg #[d, a], .int .i64 (prjC m n)]) ∧ ModS w'.heap d a (prjD m n) (prjA m n) ∧ Below w.heap.size w w' := by
  by_cases hr : 0 ≤ m ∧ m ≤ n ∧ n ≤ 20
  · have t1 : decide (m < 0) = false := by simp; omega
    have t2 : decide (20 < n) = false := by simp; omega
    have t3 : decide (n < m) = false := by simp; omega
    by_cases hx : n - m < 16
    · have t4 : decide (16 ≤ n - m) = false := by simp; omega
      have e1 : prjC m n = 0 := by simp [prjC, hr, hx]
      have e2 : prjD m n = prDeg m ((n - m).toNat + 1) := by rw [prjD, if_pos ⟨hr.1, hr.2.1, hr.2.2, hx⟩]
      have e3 : prjA m n = prN m.toNat (n - m).toNat (n - m).toNat := by rw [prjA, if_pos ⟨hr.1, hr.2.1, hr.2.2, hx⟩]
      rw [e1, e2, e3]; clear e1 e2 e3
      obtain ⟨q, rfl⟩ := Int.eq_ofNat_of_zero_le hr.1
      obtain ⟨s, hs⟩ := Int.eq_ofNat_of_zero_le (show 0 ≤ n - q by omega)
      obtain rfl : n = (q : Int) + s := by omega
      have C := Lib.hid (l11Projective_c q s _ rfl (by omega))
      rw [show ((q : Int) + s - q).toNat = s by omega, show ((q : Int)).toNat = q by omega]
      clear hr hs
      go_enter Try.func45, Try.ntmps45
      go_wp2_with (first | (go_at_call 66; refine (C.out _).mono ?_; rintro e w1 ⟨d, a, us, rfl, hM, hb⟩; obtain ⟨pd, nd, cd, rfl⟩ := own_shape hM.deg; obtain ⟨pa, na, ca, rfl⟩ := own_shape hM.act.row; have V1 : Var2 w1 w.heap.size (.slice none 0 0) (.slice none 0 0) 42 := (Var2.new w _ _ _).below hb (by simp); have e0 := V1.c0; have e1 := V1.c1; have f0 := V1.free 0; have f1 := V1.free 1; have HM := Lib.hid hM; have H4 := Lib.hid V1; have HB := Lib.hid hb; clear hM V1 hb))
      have W4 := H4.out.set0 (.slice pd nd cd)
      have g0 := W4.c0
      have g1 := (W4.set1 (.slice pa na ca)).c1
      exact bodyPost_ret (v := .tuple #[.agg #[.slice pd nd cd, .slice pa na ca], .int .i64 0]) (by simp [results, Try.results45, go_sem, g0, g1]) rfl
        ⟨_, _, rfl, ((HM.out.setVar H4.out (by decide) (by decide) _).setVar (H4.out.set0 _) (by decide) (by decide) _).ints, ((((Below.refl _ w).alloc (Nat.le_refl _) _).trans (HB.out.mono (by simp))).setCell (Nat.le_refl _) _).setCell (Nat.le_refl _) _⟩
    · have t4 : decide (16 ≤ n - m) = true := by simp; omega
      have e1 : prjC m n = 3 := by simp [prjC, hr, hx]
      have e2 : prjD m n = [] := by rw [prjD, if_neg (fun x => hx x.2.2.2)]
      have e3 : prjA m n = [] := by rw [prjA, if_neg (fun x => hx x.2.2.2)]
      rw [e1, e2, e3]; clear e1 e2 e3
      obtain ⟨hr1, hr2, hr3⟩ := hr
      go_enter Try.func45, Try.ntmps45
      go_wp2_with fail
      exact bodyPost_ret (v := .tuple #[.agg #[.slice none 0 0, .slice none 0 0], .int .i64 3]) (by simp [results, Try.results45, go_sem]) rfl
        ⟨_, _, rfl, ModS.nil _, (Below.refl _ w).alloc (Nat.le_refl _) _⟩
  · have t1 : (decide (m < 0) || decide (20 < n) || decide (n < m)) = true := by simp; omega
    have e1 : prjC m n = 2 := by simp [prjC, hr]
    have e2 : prjD m n = [] := by rw [prjD, if_neg (fun x => hr ⟨x.1, x.2.1, x.2.2.1⟩)]
    have e3 : prjA m n = [] := by rw [prjA, if_neg (fun x => hr ⟨x.1, x.2.1, x.2.2.1⟩)]
    rw [e1, e2, e3]; clear e1 e2 e3 hr
    by_cases h1 : m < 0
    · have t1' : decide (m < 0) = true := by simp; omega
      clear t1
      go_enter Try.func45, Try.ntmps45
      go_wp2_with fail
      exact bodyPost_ret (v := .tuple #[.agg #[.slice none 0 0, .slice none 0 0], .int .i64 2]) (by simp [results, Try.results45, go_sem]) rfl
        ⟨_, _, rfl, ModS.nil _, (Below.refl _ w).alloc (Nat.le_refl _) _⟩
    · have t1' : decide (m < 0) = false := by simp; omega
      by_cases h2 : 20 < n
      · have t2' : decide (20 < n) = true := by simp; omega
        clear t1
        go_enter Try.func45, Try.ntmps45
        go_wp2_with fail
        exact bodyPost_ret (v := .tuple #[.agg #[.slice none 0 0, .slice none 0 0], .int .i64 2]) (by simp [results, Try.results45, go_sem]) rfl
          ⟨_, _, rfl, ModS.nil _, (Below.refl _ w).alloc (Nat.le_refl _) _⟩
      · have t2' : decide (20 < n) = false := by simp; omega
        have t3 : n < m := by simp [t1', t2'] at t1; omega
        have t3' : decide (n < m) = true := by simp; omega
        clear t1
        go_enter Try.func45, Try.ntmps45
        go_wp2_with fail
        exact bodyPost_ret (v := .tuple #[.agg #[.slice none 0 0, .slice none 0 0], .int .i64 2]) (by simp [results, Try.results45, go_sem]) rfl
          ⟨_, _, rfl, ModS.nil _, (Below.refl _ w).alloc (Nat.le_refl _) _⟩
set_option maxHeartbeats 400000 in
theorem implProjectiveModule_c (m n : Int) (w : World) :
    Calls Try.prog 46 #[.int .i64 m, .int .i64 n] w fun e w' => ∃ d a us, e = .returned (.tuple #[.agg #[d, a], .int .i64 (prjC m n)]) ∧ OwnM w' w.heap.size d a us (prjD m n) (prjA m n) ∧ Below w.heap.size w w' := by
  by_cases hr : 0 ≤ m ∧ m ≤ n ∧ n ≤ 20
  · have t1 : decide (m < 0) = false := by simp; omega
    have t2 : decide (20 < n) = false := by simp; omega
    have t3 : decide (n < m) = false := by simp; omega
    by_cases hx : n - m < 16
    · have t4 : decide (16 < n - m + 1) = false := by simp; omega
      have e1 : prjC m n = 0 := by simp [prjC, hr, hx]
      have e2 : prjD m n = prDeg m ((n - m).toNat + 1) := by rw [prjD, if_pos ⟨hr.1, hr.2.1, hr.2.2, hx⟩]
      have e3 : prjA m n = prN m.toNat (n - m).toNat (n - m).toNat := by rw [prjA, if_pos ⟨hr.1, hr.2.1, hr.2.2, hx⟩]
      rw [e1, e2, e3]; clear e1 e2 e3
      obtain ⟨q, rfl⟩ := Int.eq_ofNat_of_zero_le hr.1
      obtain ⟨s, hs⟩ := Int.eq_ofNat_of_zero_le (show 0 ≤ n - q by omega)
      obtain rfl : n = (q : Int) + s := by omega
      rw [show ((q : Int) + s - q).toNat = s by omega, show ((q : Int)).toNat = q by omega]
      have hq : q + s ≤ 20 := by omega
      clear hr hs
      go_enter Try.func46, Try.ntmps46
      go_wp2_with fail
      go_loopw [7] (fun i wr => ∃ (j : Nat) (dv : Value), j ≤ s + 1 ∧ i = .int .i64 ((q : Int) + j) ∧ OwnI wr (w.heap.size + 1) dv (prDeg q j) ∧ Var2 wr (w.heap.size + 1) (.slice none 0 0) (.slice none 0 0) 42 ∧ Var1 wr (w.heap.size + 1 + 1 + 1) dv 25 ∧ Below (w.heap.size + 1) (w.alloc (.cells #[.int .i64 ((q : Int) + s)] 2)) wr) (fun i _ => q + s + 1 - (intOf i).toNat)
      case atStart =>
        have V := Var2.new (w.alloc (.cells #[.int .i64 ((q : Int) + s)] 2)) (.slice none 0 0) (.slice none 0 0) 42
        rw [size_alloc_if] at V
        refine ⟨0, .slice (some ⟨w.heap.size + 1 + 1, 0, none⟩) 0 0, Nat.zero_le _, by simp, ?_, (V.kept (alloc_old _ _)).kept (alloc_old _ _), ?_, ?_⟩
        · have := (ownI_empty (w := (w.alloc (.cells #[.int .i64 ((q : Int) + s)] 2)).alloc (.cells #[.slice none 0 0, .slice none 0 0] 42)) (B := w.heap.size + 1) (by simp only [size_alloc_if]; omega)).same (alloc_old _ (.cells #[.slice (some ⟨w.heap.size + 1 + 1, 0, none⟩) 0 0] 25))
          simp only [size_alloc_if] at this
          exact this
        · have := Var1.new (((w.alloc (.cells #[.int .i64 ((q : Int) + s)] 2)).alloc (.cells #[.slice none 0 0, .slice none 0 0] 42)).alloc (.cells #[] 2)) (.slice (some ⟨w.heap.size + 1 + 1, 0, none⟩) 0 0) 25
          simp only [size_alloc_if] at this
          exact this
        · exact (((Below.refl _ _).alloc (by simp only [size_alloc_if]; omega) _).alloc (by simp only [size_alloc_if]; omega) _).alloc (by simp only [size_alloc_if]; omega) _
      case round =>
        obtain ⟨j, dv, hj, rfl, hO, hV2, hV1, hbl⟩ := hrel
        obtain ⟨pd, nd, cd, rfl⟩ := own_shape hO
        have VN := (Var1.new w (.int .i64 ((q : Int) + s)) 2).below hbl (Nat.lt_succ_self _)
        have n0 := VN.c0
        have c0 := hV1.c0
        by_cases hlt : j < s + 1
        · have t6 : (q : Int) + j ≤ q + s := by omega
          have t6b : decide ((q : Int) + j ≤ q + s) = true := by simp only [decide_eq_true_eq]; exact t6
          have hl := prDeg_length q j
          have hs : w.heap.size + 1 ≤ wr.heap.size := by have := hbl.size; rw [size_alloc_if] at this; exact this
          have HNA := Lib.hid (own_ne_var1 hO hV1 (by decide))
          have HNB := Lib.hid (own_ne_var hO hV2 (by decide))
          have HO := Lib.hid hO; have H2 := Lib.hid hV2; have H1 := Lib.hid hV1; have HB := Lib.hid hbl; clear hO hV2 hV1 hbl VN
          go_wp2_with (first | (at_builtin; refine append_int (w := wr) rfl _ _ rfl _ _ _ _ HO.out rfl HB.out hs _ rfl (by simp) (by omega) ?_; intro v' w' hown' hbl' _ hk'; obtain ⟨pv, nv, cv, rfl⟩ := own_shape hown'; have V1' := H1.out.same (hk' _ H1.out.lt (fun e => HNA.out e.symm)); have V2' := H2.out.same (hk' _ H2.out.lt (fun e => HNB.out e.symm)); have d0 := V1'.c0; have fr := V1'.free 0; have HO' := Lib.hid hown'; have H1' := Lib.hid V1'; have H2' := Lib.hid V2'; have HB' := Lib.hid hbl'; clear hown' V1' V2' hbl' hk'))
          go_roundw
          case rel =>
            exact ⟨j + 1, .slice pv nv cv, by omega, by go_num, ((HO'.out.cast (prDeg_succ q j).symm).setVar1 H1'.out (by decide) _), H2'.out.setFar _ (by show w.heap.size + 1 ≠ w.heap.size + 1 + 1 + 1; omega) _, H1'.out.set0 _, HB'.out.setCell (by show w.heap.size + 1 ≤ w.heap.size + 1 + 1 + 1; omega) _⟩
          case measure => simp [intOf]; omega
        · obtain rfl : j = s + 1 := by omega
          have t6 : ¬ (q : Int) + ((s + 1 : Nat) : Int) ≤ q + s := by omega
          have t6b : decide ((q : Int) + ((s + 1 : Nat) : Int) ≤ q + s) = false := by simp only [decide_eq_false_iff_not]; exact t6
          have e0 := hV2.c0; have e1 := hV2.c1
          have hfits : modN (prSq q s) (prDeg q (s + 1)).length 20 = prN q s s := by rw [prDeg_length, prNN q s (by omega), prN_stop q s 20 (by omega)]
          have C := moduleOf_c (.slice pd nd cd) (prDeg q (s + 1)) 68 #[.pointer (some ⟨w.heap.size + 1 + 1 + 1, 0, none⟩), .pointer (some ⟨w.heap.size, 0, none⟩)] (prSq q s) wr hO.ints (by rw [prDeg_length]; omega) enters_proj1 (fun n b => by unfold prSq; split <;> first | omega | exact Int.pow_nonneg (by omega))
            (fun w1 hw n b h1 h2 h3 => by
              rw [prDeg_length] at h3
              show Calls _ _ #[_, _, _, _] _ _
              refine (proj1_c q s _ rfl (by omega) (by omega) _ _ _ n b w1 (hO.ints.same hw.block) (hV1.kept hw.block).c0 (VN.kept hw.block).c0 h1 h2 h3).mono ?_
              rintro e w2 ⟨rfl, rfl⟩
              exact ⟨rfl, Below.refl _ _⟩)
          rw [hfits] at C
          have HC := Lib.hid C
          have HO := Lib.hid hO; have H2 := Lib.hid hV2; have H1 := Lib.hid hV1; have HB := Lib.hid hbl; clear hO hV2 hV1 hbl VN C hfits
          go_wp2_with (first | (go_at_call 67; refine HC.out.mono ?_; rintro e w2 ⟨d, a, us, rfl, hM, hb⟩; obtain ⟨pd', nd', cd', rfl⟩ := own_shape hM.deg; obtain ⟨pa, na, ca, rfl⟩ := own_shape hM.act.row; have V2' := H2.out.below hb H2.out.lt; have e0' := V2'.c0; have e1' := V2'.c1; have f0 := V2'.free 0; have f1 := V2'.free 1; have HM := Lib.hid hM; have H4 := Lib.hid V2'; have HB' := Lib.hid hb; clear hM V2' hb))
          have W4 := H4.out.set0 (.slice pd' nd' cd')
          have g0 := W4.c0
          have g1 := (W4.set1 (.slice pa na ca)).c1
          have hB0 : Below w.heap.size w wr := ((Below.refl _ w).alloc (Nat.le_refl _) _).trans (HB.out.mono (by omega))
          exact bodyPost_ret (v := .tuple #[.agg #[.slice pd' nd' cd', .slice pa na ca], .int .i64 0]) (by simp [results, Try.results46, go_sem, g0, g1]) rfl
            ⟨_, _, us, rfl, ((HM.out.setVar H4.out (by decide) (by decide) _).setVar (H4.out.set0 _) (by decide) (by decide) _).base hB0.size, ((hB0.trans (HB'.out.mono hB0.size)).setCell (by show w.heap.size ≤ w.heap.size + 1; omega) _).setCell (by show w.heap.size ≤ w.heap.size + 1; omega) _⟩
    · have t4 : decide (16 < n - m + 1) = true := by simp; omega
      have t5 : 16 < n - m + 1 := by omega
      have e1 : prjC m n = 3 := by simp [prjC, hr, hx]
      have e2 : prjD m n = [] := by rw [prjD, if_neg (fun x => hx x.2.2.2)]
      have e3 : prjA m n = [] := by rw [prjA, if_neg (fun x => hx x.2.2.2)]
      rw [e1, e2, e3]; clear e1 e2 e3
      obtain ⟨hr1, hr2, hr3⟩ := hr
      go_enter Try.func46, Try.ntmps46
      go_wp2_with fail
      exact bodyPost_ret (v := .tuple #[.agg #[.slice none 0 0, .slice none 0 0], .int .i64 3]) (by simp [results, Try.results46, go_sem]) rfl
        (by first | exact ⟨_, _, [], rfl, OwnM.nil _ _, ((Below.refl _ w).alloc (Nat.le_refl _) _).alloc (by simp) _⟩ | exact ⟨_, _, rfl, ⟨[], OwnM.nil _ _⟩, ((Below.refl _ w).alloc (Nat.le_refl _) _).alloc (by simp) _⟩)
  · have e1 : prjC m n = 2 := by simp [prjC, hr]
    have e2 : prjD m n = [] := by rw [prjD, if_neg (fun x => hr ⟨x.1, x.2.1, x.2.2.1⟩)]
    have e3 : prjA m n = [] := by rw [prjA, if_neg (fun x => hr ⟨x.1, x.2.1, x.2.2.1⟩)]
    rw [e1, e2, e3]; clear e1 e2 e3
    by_cases h1 : m < 0
    · have t1' : decide (m < 0) = true := by simp; omega
      clear hr
      go_enter Try.func46, Try.ntmps46
      go_wp2_with fail
      exact bodyPost_ret (v := .tuple #[.agg #[.slice none 0 0, .slice none 0 0], .int .i64 2]) (by simp [results, Try.results46, go_sem]) rfl
        (by first | exact ⟨_, _, [], rfl, OwnM.nil _ _, ((Below.refl _ w).alloc (Nat.le_refl _) _).alloc (by simp) _⟩ | exact ⟨_, _, rfl, ⟨[], OwnM.nil _ _⟩, ((Below.refl _ w).alloc (Nat.le_refl _) _).alloc (by simp) _⟩)
    · have t1' : decide (m < 0) = false := by simp; omega
      by_cases h2 : n < m
      · have t2' : decide (n < m) = true := by simp; omega
        clear hr
        go_enter Try.func46, Try.ntmps46
        go_wp2_with fail
        exact bodyPost_ret (v := .tuple #[.agg #[.slice none 0 0, .slice none 0 0], .int .i64 2]) (by simp [results, Try.results46, go_sem]) rfl
          (by first | exact ⟨_, _, [], rfl, OwnM.nil _ _, ((Below.refl _ w).alloc (Nat.le_refl _) _).alloc (by simp) _⟩ | exact ⟨_, _, rfl, ⟨[], OwnM.nil _ _⟩, ((Below.refl _ w).alloc (Nat.le_refl _) _).alloc (by simp) _⟩)
      · have t2' : decide (n < m) = false := by simp; omega
        have t3 : 20 < n := by omega
        have t3' : decide (20 < n) = true := by simp; omega
        clear hr
        go_enter Try.func46, Try.ntmps46
        go_wp2_with fail
        exact bodyPost_ret (v := .tuple #[.agg #[.slice none 0 0, .slice none 0 0], .int .i64 2]) (by simp [results, Try.results46, go_sem]) rfl
          (by first | exact ⟨_, _, [], rfl, OwnM.nil _ _, ((Below.refl _ w).alloc (Nat.le_refl _) _).alloc (by simp) _⟩ | exact ⟨_, _, rfl, ⟨[], OwnM.nil _ _⟩, ((Below.refl _ w).alloc (Nat.le_refl _) _).alloc (by simp) _⟩)
end Go.Proofs.Ytlakdlnfijkaeaa

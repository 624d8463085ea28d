/- moduleOf: the module with some degrees and a table of squares. -/
import Derived.Test.YtljfpkhgijangaaBaseC
import Derived.Test.YtljfpkhgijangaaBaseM
namespace Go.Proofs.Ytljfpkhgijangaa
open Go.RowKit Go.Sort

/-- Whether the digit c of a mask is 1, as the program asks it. -/
def bitB (v : Int) (c : Nat) : Bool := bits BinOp.and IntKind.i64 (v / 2 ^ c) 1 == 1
/-- The rows for n and b: those for the first k places c. -/
def modC (sq : Nat → Nat → Int) (n b : Nat) : Nat → List (List Int)
  | 0 => []
  | c + 1 => modC sq n b c ++ if bitB (sq n b) c then [[(n : Int), (b : Int), (c : Int)]] else []
def modB (sq : Nat → Nat → Int) (size n : Nat) : Nat → List (List Int)
  | 0 => []
  | b + 1 => modB sq size n b ++ modC sq n b size
/-- The rows for the squares 1 to k. -/
def modN (sq : Nat → Nat → Int) (size : Nat) : Nat → List (List Int)
  | 0 => []
  | k + 1 => modN sq size k ++ modB sq size (k + 1) size
theorem modC_len (sq : Nat → Nat → Int) (n b c : Nat) : (modC sq n b c).length ≤ c ∧ cnt (modC sq n b c) ≤ 3 * c := by
  induction c with
  | zero => simp [modC, cnt]
  | succ c ih => unfold modC; rw [List.length_append, cnt_append]; split <;> simp [cnt] at * <;> omega
theorem modB_len (sq : Nat → Nat → Int) (size n b : Nat) : (modB sq size n b).length ≤ b * size ∧ cnt (modB sq size n b) ≤ 3 * (b * size) := by
  induction b with
  | zero => simp [modB, cnt]
  | succ b ih => unfold modB; rw [List.length_append, cnt_append, Nat.succ_mul]; have := modC_len sq n b size; omega
theorem modN_len (sq : Nat → Nat → Int) (size k : Nat) : (modN sq size k).length ≤ k * (size * size) ∧ cnt (modN sq size k) ≤ 3 * (k * (size * size)) := by
  induction k with
  | zero => simp [modN, cnt]
  | succ k ih => unfold modN; rw [List.length_append, cnt_append, Nat.succ_mul]; have := modB_len sq size (k + 1) size; omega

theorem OwnM.setVar {w : World} {B g t j : Nat} {d a x y : Value} {us : List Value} {ds : List Int} {act : List (List Int)} (h : OwnM w B d a us ds act) (k : Var2 w g x y t) (ne : t ≠ 2) (ne2 : t ≠ 27) (u : Value) : OwnM (w.setCell ⟨g, j, none⟩ u) B d a us ds act :=
  ⟨h.deg.setVar k ne u, h.act.setVar k ne ne2 u, h.apart⟩
theorem OwnM.base {w : World} {B B' : Nat} {d a : Value} {us : List Value} {ds : List Int} {act : List (List Int)} (h : OwnM w B d a us ds act) (k : B' ≤ B) : OwnM w B' d a us ds act :=
  ⟨own_base h.deg k, ⟨own_base h.act.row k, fun i u xs hu hx => own_base (h.act.each i u xs hu hx) k, h.act.apart⟩, h.apart⟩

section
variable {ops : Array Oper} {rest : List Oper} {o : Oper} {a : Act} {Q : Exit → Act → World → Prop}
/-- 'out.Action = append(out.Action, row)', the rows of a module of the call's own; the row has been made since the world wE. -/
theorem append_rowM {w w0 wE : World} (hg : o.guard = none) (s x : Operand)
    (ho : o.op = .call { callee := .builtin .append, args := #[s, x], argTypes := #[36, 36] })
    (B : Nat) (d v u : Value) (us : List Value) (ds : List Int) (xss : List (List Int)) (xs : List Int) (hown : OwnM wE B d v us ds xss) (hs : a.eval s = v) (hu : OwnI w wE.heap.size u xs) (hE : Below wE.heap.size wE w) (hbl : Below B w0 wE) (hB : B ≤ wE.heap.size)
    (b : Nat) (hx : a.eval x = .slice (some ⟨b, 0, none⟩) 1 1) (hb : b = w.heap.size) (hn : xss.length ≤ 4398046511104)
    (hK : ∀ v' w', OwnM w' B d v' (us ++ [u]) ds (xss ++ [xs]) → Below B w0 w' → w.heap.size ≤ w'.heap.size → (∀ b, b < w.heap.size → some b ≠ v.ownBlock → w'.heap[b]? = w.heap[b]?) → wpList Try.prog ops Q rest (a.put o.dst v') w') :
    wpList Try.prog ops Q (o :: rest) a (w.alloc (.cells #[u] 27)) := by
  have hW := hown.act.same hE.block
  obtain ⟨i0, hi, hz0, hz1, hz2⟩ := info_parts info_slI
  refine append_one hg s x _ ho B _ i0 _ 24 Try.underlying36 hi hz0 hz1 hz2 rfl (by omega) v _ _ u hW.row hs (hbl.trans (hE.mono hB)) (Nat.le_trans hB hE.size) b hx hb (own_oneCell hu) hn ?_
  intro v' w' h1 h2 h3 h4
  refine hK v' w' ⟨?_, OwnU.append hown.act hE hB hu h1 h4, fun z hz => ?_⟩ h2 h3 h4
  · have hd := hown.deg.same hE.block
    refine own_kept hd fun k hk => h4 k (World.ownsRow.lt hd k hk).2 ?_
    rcases own_ne_types hd hW.row (by decide) with e | e
    · rw [e] at hk; cases hk
    · rw [← hk]; exact e
  · rcases List.mem_append.1 hz with hz | hz
    · exact hown.apart z hz
    · simp only [List.mem_singleton] at hz; subst hz
      cases hd : d.ownBlock with
      | none => exact .inl rfl
      | some k =>
        right
        intro e
        have h5 := (World.ownsRow.lt hown.deg k hd).2
        have h6 := (World.ownsRow.lt hu k e.symm).1
        omega
end

set_option maxHeartbeats 400000 in
theorem moduleOf_c (v : Value) (ds : List Int) (K : Nat) (caps : Array Value) (sq : Nat → Nat → Int) (w : World) (h : IntS w.heap v ds) (hl : ds.length ≤ 16) (hcf : Enters Try.prog K)
    (hb : ∀ n b, 0 ≤ sq n b)
    (hf : ∀ w1 : World, Below w.heap.size w w1 → ∀ n b : Nat, 1 ≤ n → n ≤ 20 → b < ds.length → Calls Try.prog K (#[.int .i64 n, .int .i64 b] ++ caps) w1 fun e w' => e = .returned (.int .i64 (sq n b)) ∧ Below w1.heap.size w1 w') :
    Calls Try.prog 119 #[v, .func (.func K) #[] caps] w fun e w' => ∃ d a us, e = .returned (.agg #[d, a]) ∧ OwnM w' w.heap.size d a us ds (modN sq ds.length 20) ∧ Below w.heap.size w w' := by
  obtain ⟨ao, c, rfl, hm⟩ := h.len
  have H := Lib.hid h; have HF := Lib.hid hf; have HC := Lib.hid hcf; have HSQ := Lib.hid hb; clear h hf hcf hb
  go_enter Try.func119, Try.ntmps119
  go_wp2_with (first | (go_at_call 146; refine (copyOf_c _ ds _ (H.out.same (alloc_old _ _)) (by omega)).mono ?_; rintro e w1 ⟨d, rfl, hown1, hb1⟩; obtain ⟨pd, nd, cd, rfl⟩ := own_shape hown1))
  have hsz1 := hb1.size
  have hs1 : w.heap.size + 1 ≤ w1.heap.size := by simpa using hsz1
  have V4 : Var2 w1 w.heap.size (.slice none 0 0) (.slice none 0 0) 60 := (Var2.new w _ _ _).below hb1 (by simp)
  have hbw : Below w.heap.size w w1 := ((Below.refl _ w).alloc (Nat.le_refl _) _).trans (hb1.mono (Nat.le_of_lt (by simp)))
  have O1 : OwnI w1 w.heap.size (.slice pd nd cd) ds := own_base hown1 (by simp)
  have HO1 := Lib.hid O1; have HV4 := Lib.hid V4; have HBW := Lib.hid hbw; clear hown1 hb1 hsz1 O1 V4 hbw
  go_wp2_with fail
  go_loopw [6] (fun i wr => ∃ (k : Nat) (av : Value) (us : List Value), k ≤ 20 ∧ i = .int .i64 ((k : Int) + 1) ∧ OwnM wr w.heap.size (.slice pd nd cd) av us ds (modN sq ds.length k) ∧ Var2 wr w.heap.size (.slice none 0 0) (.slice none 0 0) 60 ∧ Var2 wr (w1.heap.size + 1) (.slice pd nd cd) av 60 ∧ Below w.heap.size w wr) (fun i _ => 21 - (intOf i).toNat)
  case atStart =>
    have k1 := alloc_old w1 (.cells #[] 27)
    have k2 := alloc_old (w1.alloc (.cells #[] 27)) (.cells #[.slice pd nd cd, .slice (some ⟨w1.heap.size, 0, none⟩) 0 0] 60)
    refine ⟨0, .slice (some ⟨w1.heap.size, 0, none⟩) 0 0, [], by omega, rfl, ⟨(HO1.out.same k1).same k2, ⟨own_same (World.ownsRow_made w1 #[] 0 (by omega) (Nat.zero_le _) rfl) k2, fun i u xs hu => by simp at hu, fun i j u u' _ hu => by simp at hu⟩, fun u hu => by simp at hu⟩, (HV4.out.kept k1).kept k2, ?_, ?_⟩
    · have := Var2.new (w1.alloc (.cells #[] 27)) (.slice pd nd cd) (.slice (some ⟨w1.heap.size, 0, none⟩) 0 0) 60
      simpa using this
    · exact (HBW.out.alloc (by omega) _).alloc (by simp; omega) _
  case round =>
    obtain ⟨k, av, us, hk, rfl, hM, hV4, hV5, hbl⟩ := hrel
    by_cases hk20 : k < 20
    · have HM := Lib.hid hM; have H4 := Lib.hid hV4; have H5 := Lib.hid hV5; have HB := Lib.hid hbl; clear hM hV4 hV5 hbl
      have t15 : decide ((k : Int) + 1 ≤ 20) = true := by simp; omega
      go_wp2_with fail
      clear t15
      obtain ⟨wo, rfl⟩ : ∃ wo : World, wo = wr := ⟨_, rfl⟩
      go_loopw [20] (fun i wr => ∃ (b : Nat) (av : Value) (us : List Value), b ≤ ds.length ∧ i = .int .i64 b ∧ OwnM wr w.heap.size (.slice pd nd cd) av us ds (modN sq ds.length k ++ modB sq ds.length (k + 1) b) ∧ Var2 wr w.heap.size (.slice none 0 0) (.slice none 0 0) 60 ∧ Var2 wr (w1.heap.size + 1) (.slice pd nd cd) av 60 ∧ Below w.heap.size w wr) (fun i _ => ds.length - (intOf i).toNat)
      case atStart => exact ⟨0, av, us, Nat.zero_le _, rfl, by simpa [modB] using HM.out, H4.out, H5.out, HB.out⟩
      case round =>
        clear HM H4 H5 HB
        obtain ⟨b, av, us, hb, rfl, hM, hV4, hV5, hbl⟩ := hrel
        by_cases hbl2 : b < ds.length
        · have HM := Lib.hid hM; have H4 := Lib.hid hV4; have H5 := Lib.hid hV5; have HB := Lib.hid hbl; clear hM hV4 hV5 hbl
          unfold Enters at HC
          have hcf := HC.out
          go_wp2_with fail
          refine (HF.out wr HB.out (k + 1) b (by omega) (by omega) hbl2).mono ?_
          rintro e w2 ⟨rfl, hb2⟩
          clear hcf
          have hv0 := HSQ.out (k + 1) b
          have HM2 := Lib.hid (HM.out.same hb2.block); have H42 := Lib.hid (H4.out.kept hb2.block); have H52 := Lib.hid (H5.out.kept hb2.block)
          have HB2 := Lib.hid (HB.out.trans (hb2.mono HB.out.size))
          clear HM H4 H5 HB hb2
          go_wp2_with fail
          obtain ⟨wp, rfl⟩ : ∃ wp : World, wp = w2 := ⟨_, rfl⟩
          go_loopw [29] (fun i wr => ∃ (c : Nat) (av : Value) (us : List Value), c ≤ ds.length ∧ i = .int .i64 c ∧ OwnM wr w.heap.size (.slice pd nd cd) av us ds ((modN sq ds.length k ++ modB sq ds.length (k + 1) b) ++ modC sq (k + 1) b c) ∧ Var2 wr w.heap.size (.slice none 0 0) (.slice none 0 0) 60 ∧ Var2 wr (w1.heap.size + 1) (.slice pd nd cd) av 60 ∧ Below w.heap.size w wr) (fun i _ => ds.length - (intOf i).toNat)
          case atStart => exact ⟨0, av, us, Nat.zero_le _, rfl, by simpa [modC] using HM2.out, H42.out, H52.out, HB2.out⟩
          case round =>
            clear HM2 H42 H52 HB2
            obtain ⟨c', av, us, hc, rfl, hM, hV4, hV5, hbl⟩ := hrel
            by_cases hcl : c' < ds.length
            · cases hbit : bitB (sq (k + 1) b) c'
              · have hst : modC sq (k + 1) b (c' + 1) = modC sq (k + 1) b c' := by rw [modC, hbit]; simp
                unfold bitB at hbit
                have HST := Lib.hid hst; have HM := Lib.hid hM; have H4 := Lib.hid hV4; have H5 := Lib.hid hV5; have HB := Lib.hid hbl; clear hst hM hV4 hV5 hbl
                generalize sq (k + 1) b = v at *
                go_wp2_with fail
                go_roundw
                case rel => exact ⟨c' + 1, av, us, by omega, by go_num, by rw [HST.out]; exact HM.out, H4.out, H5.out, HB.out⟩
                case measure => simp [intOf]; omega
              · have hst : modC sq (k + 1) b (c' + 1) = modC sq (k + 1) b c' ++ [[((k + 1 : Nat) : Int), (b : Int), (c' : Int)]] := by rw [modC, hbit]; simp
                unfold bitB at hbit
                have hln : ((modN sq ds.length k ++ modB sq ds.length (k + 1) b) ++ modC sq (k + 1) b c').length ≤ 4398046511104 := by
                  have q1 := (modN_len sq ds.length k).1; have q2 := (modB_len sq ds.length (k + 1) b).1; have q3 := (modC_len sq (k + 1) b c').1
                  have q4 : ds.length * ds.length ≤ 16 * 16 := Nat.mul_le_mul hl hl
                  have q5 : k * (ds.length * ds.length) ≤ 20 * (16 * 16) := Nat.mul_le_mul (by omega) q4
                  have q6 : b * ds.length ≤ 16 * 16 := Nat.mul_le_mul (by omega) hl
                  simp only [List.length_append]; omega
                have hsz := hbl.size
                have c0 := hV5.c0; have c1 := hV5.c1
                have HLN := Lib.hid hln; have HST := Lib.hid hst; have HM := Lib.hid hM; have H4 := Lib.hid hV4; have H5 := Lib.hid hV5; have HB := Lib.hid hbl; clear hst hM hV4 hV5 hbl hln
                have hneA := own_ne_var HM.out.act.row H5.out (by decide)
                have hneB := own_ne_var HM.out.act.row H4.out (by decide)
                have HNA := Lib.hid hneA; have HNB := Lib.hid hneB; clear hneA hneB
                generalize sq (k + 1) b = v at *
                go_wp2_with (first | (at_builtin; refine append_rowM (w := wr.alloc _) (wE := wr) rfl _ _ rfl _ _ _ _ _ _ _ _ HM.out rfl (ownI_lit3 (Nat.le_refl _) _ _ _) ((Below.refl _ _).alloc (Nat.le_refl _) _) HB.out hsz _ rfl (by simp) HLN.out ?_; intro v' w' hown' hbl' _ hk'; obtain ⟨pv, nv, cv, rfl⟩ := own_shape hown'.act.row; have V5' := H5.out.same ((hk' _ (by have := H5.out.lt; simp; omega) (fun e => HNA.out e.symm)).trans (alloc_old _ _ _ H5.out.lt)); have V4' := H4.out.same ((hk' _ (by have := H4.out.lt; simp; omega) (fun e => HNB.out e.symm)).trans (alloc_old _ _ _ H4.out.lt)); have d1 := V5'.c1; have fr := V5'.free 1; have HM' := Lib.hid hown'; have H4' := Lib.hid V4'; have H5' := Lib.hid V5'; have HB' := Lib.hid hbl'; clear hown' V4' V5' hbl' hk'))
                go_roundw
                case rel =>
                  refine ⟨c' + 1, .slice pv nv cv, us ++ [.slice (some ⟨wr.heap.size, 0, none⟩) 3 3], by omega, by go_num, ?_, ?_, H5'.out.set1 _, HB'.out.setCell (by show w.heap.size ≤ w1.heap.size + 1; omega) _⟩
                  · rw [HST.out, ← List.append_assoc]
                    exact (by simpa using HM'.out : OwnM w' w.heap.size (.slice pd nd cd) (.slice pv nv cv) _ ds _).setVar H5'.out (by decide) (by decide) _
                  · exact H4'.out.setFar _ (by show w.heap.size ≠ w1.heap.size + 1; omega) _
                case measure => simp [intOf]; omega
            · obtain rfl : c' = ds.length := by omega
              go_wp2_with fail
              go_roundw
              case rel => exact ⟨b + 1, av, us, by omega, by go_num, by rw [modB, ← List.append_assoc]; exact hM, hV4, hV5, hbl⟩
              case measure => simp [intOf]; omega
        · obtain rfl : b = ds.length := by omega
          go_wp2_with fail
          go_roundw
          case rel => exact ⟨k + 1, av, us, by omega, by go_num, by rw [modN]; exact hM, hV4, hV5, hbl⟩
          case measure => simp [intOf]; omega
    · obtain rfl : k = 20 := by omega
      have c0 := hV5.c0; have c1 := hV5.c1
      have e0 := hV4.c0; have e1 := hV4.c1; have f0 := hV4.free 0; have f1 := hV4.free 1
      obtain ⟨pa, na, ca, rfl⟩ := own_shape hM.act.row
      have HM := Lib.hid hM; have H4 := Lib.hid hV4; have HB := Lib.hid hbl; clear hM hV4 hV5 hbl
      go_wp2_with fail
      have W4 := H4.out.set0 (.slice pd nd cd)
      have g0 := W4.c0
      have g1 := (W4.set1 (.slice pa na ca)).c1
      exact bodyPost_ret (v := .agg #[.slice pd nd cd, .slice pa na ca]) (by simp [results, Try.results119, go_sem, g0, g1]) rfl ⟨_, _, us, rfl, (HM.out.setVar H4.out (by decide) (by decide) _).setVar (H4.out.set0 _) (by decide) (by decide) _, (HB.out.setCell (Nat.le_refl _) _).setCell (Nat.le_refl _) _⟩
end Go.Proofs.Ytljfpkhgijangaa

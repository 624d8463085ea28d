/- l11Sorted: of the reference. -/
import Derived.Test.YtljfpkhgijangaaLOrdX
import Derived.Test.YtljfpkhgijangaaLPut
import Derived.Test.YtljfpkhgijangaaLMil
import Derived.Test.YtljfpkhgijangaaLStep2
namespace Go.Proofs.Ytljfpkhgijangaa
open Go.RowKit Go.Sort Go.Deep

section
variable {P : Program} {ops : Array Oper} {o : Oper} {a : Act} {Q : Exit → Act → World → Prop} {K : Act → World → Prop} {E : Prop}
/-- A call of a Go function of two arguments that makes memory, at a step of a region that draws. -/
theorem step_callR2 {w : World} (hg : o.guard = none) (f : FuncId) (s s2 : Operand) (t t2 : TypeId)
    (ho : o.op = .call { callee := .value (.func f), args := #[s, s2], argTypes := #[t, t2] }) (R : Value → World → Prop)
    (hE : Enters P f) (v1 v2 : Value) (h1 : a.eval s = v1) (h2 : a.eval s2 = v2) (hC : Calls P f #[v1, v2] w fun e w' => ∃ v, e = .returned v ∧ R v w') (hK : ∀ v w', R v w' → K (a.put o.dst v) w') :
    if Region.wanted o (yielded ops a.tmps) = true then Oper.wp P o a w K Q else E := by
  subst h1 h2
  have hw : Region.wanted o (yielded ops a.tmps) = true := by simp [Region.wanted, hg]
  rw [if_pos hw]
  unfold Oper.wp
  have hE' : ∀ args, Sem.run P (callFunc f args) w = .ok (.enter f args) w := fun args => hE args w
  have hf : a.eval (.func f) = .func (.func f) #[] #[] := rfl
  simp [execOp, ho, resolve, invoke, hf, Deferred.ofValue, hE']
  exact Calls.mono hC fun e w' ⟨v, he, hw⟩ => by subst he; exact hK v w' hw
end
theorem enters_l01Put : Enters Try.prog 151 := fun args w => by kernel_rfl
theorem SlAt.otherW {w : World} {e g t j : Nat} {v : Value} {cs : Array Value} {us : List Value} (a : SlAt w.heap e v us) (k : w.heap[g]? = some (.cells cs t (0, 0))) (ne : e ≠ t) (u : Value) : SlAt (w.setCell ⟨g, j, none⟩ u).heap e v us := by
  rcases a with a | ⟨b, off, cap, cur, rfl, hb, r⟩
  · exact .inl a
  · refine .inr ⟨b, off, cap, cur, rfl, ?_, r⟩
    have hne : b ≠ g := by
      intro e1
      subst e1
      rw [k] at hb
      simp only [Option.some.injEq, Obj.cells.injEq] at hb
      exact ne hb.2.1.symm
    rw [Below.heap_setCell _ _ _ _ (by show b ≠ g; exact hne)]; exact hb
theorem IntSS.otherW {w : World} {g t j : Nat} {v : Value} {cs : Array Value} {xss : List (List Int)} (a : IntSS w.heap v xss) (k : w.heap[g]? = some (.cells cs t (0, 0))) (ne : 27 ≠ t) (ne2 : 2 ≠ t) (u : Value) : IntSS (w.setCell ⟨g, j, none⟩ u).heap v xss := by
  obtain ⟨us, h1, h2, h3⟩ := a
  exact ⟨us, h1.otherW k ne u, h2, fun i z xs hz hx => SlAt.otherW (h3 i z xs hz hx) k ne2 u⟩
theorem IntS.otherW {w : World} {g t j : Nat} {v : Value} {cs : Array Value} {xs : List Int} (a : IntS w.heap v xs) (k : w.heap[g]? = some (.cells cs t (0, 0))) (ne2 : 2 ≠ t) (u : Value) : IntS (w.setCell ⟨g, j, none⟩ u).heap v xs := SlAt.otherW a k ne2 u
theorem own_lenI {w : World} {B : Nat} {ra : Option Addr} {rn rc : Nat} {xs : List Int} (h : OwnI w B (.slice ra rn rc) xs) : rn = xs.length := by
  obtain ⟨_, _, hv, _⟩ := h.ints.len
  simp only [Value.slice.injEq] at hv
  exact hv.2.1
theorem intS_ne {w : World} {b g o n c : Nat} {x y : Value} {xs : List Int} (h : IntS w.heap (.slice (some ⟨b, o, none⟩) n c) xs) (V : Var2 w g x y 60) : b ≠ g := by
  intro e
  subst e
  rcases h with ⟨e, -⟩ | ⟨b', off, cap, cur, e, hb, -⟩
  · simp at e
  · simp only [Value.slice.injEq, Option.some.injEq, Addr.mk.injEq, and_true] at e
    obtain ⟨⟨rfl, rfl⟩, -⟩ := e
    rw [show w.heap[b]? = _ from V] at hb
    simp only [Option.some.injEq, Obj.cells.injEq] at hb
    exact absurd hb.2.1 (by decide)
theorem cell_far {W : World} {p q : Addr} (v : Value) (h : q.block ≠ p.block) : (W.setCell p v).cell? q = W.cell? q := by
  rw [World.cell?, World.cell?, Below.heap_setCell _ _ _ _ h]
section
variable {x1 x2 x3 x4 x5 : Value} {g1 g2 g3 g4 g5 : Addr} {W W' : World}
theorem heldC5 (h : W.cell? g1 = some x1 ∧ W.cell? g2 = some x2 ∧ W.cell? g3 = some x3 ∧ W.cell? g4 = some x4 ∧ W.cell? g5 = some x5) (hb : Below W.heap.size W W') : W'.cell? g1 = some x1 ∧ W'.cell? g2 = some x2 ∧ W'.cell? g3 = some x3 ∧ W'.cell? g4 = some x4 ∧ W'.cell? g5 = some x5 :=
  ⟨(hb.cell (World.block_lt_of_cell? _ _ h.1)).trans h.1, (hb.cell (World.block_lt_of_cell? _ _ h.2.1)).trans h.2.1, (hb.cell (World.block_lt_of_cell? _ _ h.2.2.1)).trans h.2.2.1, (hb.cell (World.block_lt_of_cell? _ _ h.2.2.2.1)).trans h.2.2.2.1, (hb.cell (World.block_lt_of_cell? _ _ h.2.2.2.2)).trans h.2.2.2.2⟩
theorem heldC5A (h : W.cell? g1 = some x1 ∧ W.cell? g2 = some x2 ∧ W.cell? g3 = some x3 ∧ W.cell? g4 = some x4 ∧ W.cell? g5 = some x5) (o : Obj) : (W.alloc o).cell? g1 = some x1 ∧ (W.alloc o).cell? g2 = some x2 ∧ (W.alloc o).cell? g3 = some x3 ∧ (W.alloc o).cell? g4 = some x4 ∧ (W.alloc o).cell? g5 = some x5 :=
  ⟨Go.Lib.cell?_alloc_some o h.1, Go.Lib.cell?_alloc_some o h.2.1, Go.Lib.cell?_alloc_some o h.2.2.1, Go.Lib.cell?_alloc_some o h.2.2.2.1, Go.Lib.cell?_alloc_some o h.2.2.2.2⟩
theorem heldC5S {g : Addr} (n1 : g1.block ≠ g.block) (n2 : g2.block ≠ g.block) (n3 : g3.block ≠ g.block) (n4 : g4.block ≠ g.block) (n5 : g5.block ≠ g.block) (h : W.cell? g1 = some x1 ∧ W.cell? g2 = some x2 ∧ W.cell? g3 = some x3 ∧ W.cell? g4 = some x4 ∧ W.cell? g5 = some x5) (v : Value) : (W.setCell g v).cell? g1 = some x1 ∧ (W.setCell g v).cell? g2 = some x2 ∧ (W.setCell g v).cell? g3 = some x3 ∧ (W.setCell g v).cell? g4 = some x4 ∧ (W.setCell g v).cell? g5 = some x5 :=
  ⟨(cell_far v n1).trans h.1, (cell_far v n2).trans h.2.1, (cell_far v n3).trans h.2.2.1, (cell_far v n4).trans h.2.2.2.1, (cell_far v n5).trans h.2.2.2.2⟩
end
def ordV (ds : List Int) (d i : Nat) : List Int := (ordP ds d i).map fun j => ds.getD j 0
theorem ordV_eq {ds : List Int} {d i : Nat} (h : ds.getD i 0 = (d : Int)) : ordV ds d (i + 1) = ordV ds d i ++ [(d : Int)] := by
  unfold ordV; rw [ordP_step, if_pos h, List.map_append, ← h]; rfl
theorem ordV_ne {ds : List Int} {d i : Nat} (h : ¬ ds.getD i 0 = (d : Int)) : ordV ds d (i + 1) = ordV ds d i := by
  unfold ordV; rw [ordP_step, if_neg h]
theorem ordV_next (ds : List Int) (d : Nat) : ordV ds d ds.length = ordV ds (d + 1) 0 := by unfold ordV; rw [ordP_next]
theorem ordV_end (ds : List Int) : ordV ds 21 0 = srtD ds := by unfold ordV srtD; rw [ordP_end]
theorem ordV_len (ds : List Int) (d i : Nat) : (ordV ds d i).length = (ordP ds d i).length := by unfold ordV; rw [List.length_map]
/-- The places written down so far. -/
def PlcOk (ds : List Int) (d i : Nat) (ps : List Int) : Prop := ps.length = ds.length ∧ ∀ c, c < (ordP ds d i).length → ps.getD ((ordP ds d i).getD c 0) 0 = (c : Int)
theorem PlcOk.eq {ds : List Int} {d i : Nat} {ps : List Int} (h : PlcOk ds d i ps) (hi : i < ds.length) (e : ds.getD i 0 = (d : Int)) : PlcOk ds d (i + 1) (ps.set i ((ordV ds d i).length : Int)) :=
  ⟨by rw [List.length_set]; exact h.1, by rw [ordV_len]; exact plc_set e (by rw [h.1]; exact hi) h.2⟩
theorem PlcOk.ne {ds : List Int} {d i : Nat} {ps : List Int} (h : PlcOk ds d i ps) (e : ¬ ds.getD i 0 = (d : Int)) : PlcOk ds d (i + 1) ps := by
  unfold PlcOk; rw [ordP_step, if_neg e]; exact h
theorem PlcOk.next {ds : List Int} {d : Nat} {ps : List Int} (h : PlcOk ds d ds.length ps) : PlcOk ds (d + 1) 0 ps := by unfold PlcOk at *; rw [← ordP_next]; exact h
theorem PlcOk.done {ds : List Int} {ps : List Int} (hs : Stems ds) (h : PlcOk ds 21 0 ps) : ∀ i, i < ds.length → ps.getD i 0 = ((plcO ds i : Nat) : Int) := plc_ok hs (by have := h.2; rwa [ordP_end] at this)
theorem made_int {w : World} {B : Nat} (n : Nat) (hB : B ≤ w.heap.size) (hn : n ≤ 4398046511104) : OwnI (w.alloc (.cells (madeCells #[.int .i64 0] n) 2)) B (.slice (some ⟨w.heap.size, 0, none⟩) n n) (List.replicate n 0) := by
  have := made_own w B 2 n (.int .i64 0) hB hn
  unfold OwnI
  simpa using this
set_option maxRecDepth 100000 in
set_option linter.unusedSimpArgs false in
set_option maxHeartbeats 20000000 in
theorem l11Sorted_c (v a : Value) (ds : List Int) (acts : List (List Int)) (w : World) (h : IntS w.heap v ds) (ha : IntSS w.heap a acts) (hs : Stems ds) (hl : ds.length ≤ 16) (hA : ∀ x ∈ acts, x.length = 3 ∧ (0 ≤ x.getD 1 0 ∧ x.getD 1 0 < ds.length) ∧ 0 ≤ x.getD 2 0 ∧ x.getD 2 0 < ds.length) (hal : acts.length ≤ 1000000) :
    Calls Try.prog 122 #[v, a] w fun e w' => ∃ d r, e = .returned (.agg #[d, r]) ∧ ModS w'.heap d r (srtD ds) (oddL (acts.map (plcR ds))) ∧ Below w.heap.size w w' := by
  obtain ⟨ao, c, rfl, hm⟩ := h.len
  obtain ⟨bo, c', rfl, hm'⟩ := ha.len
  obtain ⟨w0, hw0⟩ : ∃ w0, w0 = w.alloc (.cells #[.slice none 0 0, .slice none 0 0] 60) := ⟨_, rfl⟩
  have hb : Below w.heap.size w w0 := by rw [hw0]; exact (Below.refl _ _).alloc (Nat.le_refl _) _
  have VR : Var2 w0 w.heap.size (.slice none 0 0) (.slice none 0 0) 60 := by rw [hw0]; exact Var2.new _ _ _ _
  have H0 := Lib.hid h; have HA0 := Lib.hid ha; have HB0 := Lib.hid hb; have HVR := Lib.hid VR; have HW := Lib.hid hw0; have HAA := Lib.hid hA; have HS := Lib.hid hs
  have hs0 := hb.size
  clear h ha hb VR hw0 hA
  have hmk := fun w => make_run (P := Try.prog) 27 2 _ 8 info_int64 Try.underlying27 rfl (by omega) ds.length (by omega) .i64 .i64 (ds.length : Int) (ds.length : Int) rfl rfl w
  go_enter Try.func122, Try.ntmps122
  go_wp2_with fail
  rw [← HW.out]
  go_upto_region 1 with fail
  go_cut [5, 6] (fun p s wx => ∃ (W : World) (g b : Nat), W = wx ∧ p = .pointer (some ⟨g, 0, none⟩) ∧ s = .slice (some ⟨b, 0, none⟩) ds.length ds.length ∧ Var2 wx g (.slice none 0 0) (.slice none 0 0) 60 ∧ OwnI wx w0.heap.size s (List.replicate ds.length 0) ∧ Below w0.heap.size w0 wx ∧ w0.heap.size ≤ g)
  case first =>
    go_region_held3 (fun _ => True) (trivial) (fail)
    all_goals
      first | go_meet | (go_wp2_with fail; go_meet)
    all_goals
      first
        | exact ⟨_, w0.heap.size + 1, w0.heap.size, rfl, rfl, rfl, by have := Var2.new (w0.alloc (.cells (madeCells #[.int .i64 0] ds.length) 2)) (.slice none 0 0) (.slice none 0 0) 60; rw [size_alloc_w] at this; exact this,
            (made_int ds.length (Nat.le_refl _) (by omega)).same (alloc_old _ _), (((Below.refl _ _).alloc (Nat.le_refl _) _).alloc (by simp) _).drew, by omega⟩
        | exact ⟨_, w0.heap.size, w0.heap.size + 1, rfl, rfl, rfl, (Var2.new w0 (.slice none 0 0) (.slice none 0 0) 60).kept (alloc_old _ _),
            by have := made_int (w := w0.alloc (.cells #[.slice none 0 0, .slice none 0 0] 60)) (B := w0.heap.size) ds.length (by simp) (by omega); rw [size_alloc_w] at this; exact this, (((Below.refl _ _).alloc (Nat.le_refl _) _).alloc (by simp) _).drew, Nat.le_refl _⟩
  case rest =>
    obtain ⟨W1, g, b, hWe, rfl, rfl, hV, hP, hbl, hge⟩ := hcut
    subst hWe
    have HV := Lib.hid hV; have HP := Lib.hid hP; have HBL := Lib.hid hbl; have HGE := Lib.hid hge
    have hs1 := hbl.size
    have hblt : b < W1.heap.size := (World.ownsRow.lt hP b rfl).2
    have hb0 : w0.heap.size ≤ b := (World.ownsRow.lt hP b rfl).1
    have hglt := hV.lt
    have HGB : Hid (g ≠ b) := fun e => own_ne_var hP hV (by decide) (by rw [e]; rfl)
    clear hV hP hbl hge hmk
    go_wp2_with fail
    go_loopw [7] (fun x wr => ∃ (d : Nat) (dv : Value) (ps : List Int), d ≤ 21 ∧ x = .int .i64 d ∧ OwnI wr W1.heap.size dv (ordV ds d 0) ∧ OwnI wr w0.heap.size (.slice (some ⟨b, 0, none⟩) ds.length ds.length) ps ∧ Hid (PlcOk ds d 0 ps) ∧ Var2 wr g dv (.slice none 0 0) 60 ∧ Below w0.heap.size w0 wr ∧ W1.heap.size ≤ wr.heap.size) (fun x _ => (21 - intOf x).toNat)
    case atStart => exact ⟨0, .slice none 0 0, _, by omega, rfl, OwnI.nil _ _, HP.out, ⟨by simp, fun c hc => by simp [ordP] at hc⟩, HV.out, HBL.out, Nat.le_refl _⟩
    case round =>
      clear HV HP HBL
      obtain ⟨d, dv, ps, hd, rfl, hD, hP, hok, hV, hbl, hwsz⟩ := hrel
      by_cases hd21 : d < 21
      · have HD := Lib.hid hD; have HP := Lib.hid hP; have HV := Lib.hid hV; have HBL := Lib.hid hbl
        clear hD hP hV hbl
        have t20 : decide ((d : Int) ≤ 20) = true := by simp; omega
        go_wp2_with fail
        clear t20
        rename World => WA
        go_loopw [8] (fun y wr => ∃ (i : Nat) (dv : Value) (ps : List Int), i ≤ ds.length ∧ y = .int .i64 i ∧ OwnI wr W1.heap.size dv (ordV ds d i) ∧ OwnI wr w0.heap.size (.slice (some ⟨b, 0, none⟩) ds.length ds.length) ps ∧ Hid (PlcOk ds d i ps) ∧ Var2 wr g dv (.slice none 0 0) 60 ∧ Below w0.heap.size w0 wr ∧ W1.heap.size ≤ wr.heap.size) (fun y _ => ds.length - (intOf y).toNat)
        case atStart => exact ⟨0, dv, ps, Nat.zero_le _, rfl, HD.out, HP.out, hok, HV.out, HBL.out, hwsz⟩
        case round =>
          clear HD HP HV HBL hok
          obtain ⟨i, dv, ps, hi, rfl, hD, hP, hok, hV, hbl, hwsz⟩ := hrel
          obtain ⟨va, vn, vc, rfl⟩ := own_shape hD
          by_cases hlt : i < ds.length
          · obtain ⟨b2, o2, c2, hv2, hc2, -⟩ := H0.out.at i hlt
            simp only [Value.slice.injEq, true_and] at hv2
            obtain ⟨rfl, rfl⟩ := hv2
            have hc3 := (HB0.out.cell (World.block_lt_of_cell? _ _ hc2)).trans hc2
            have hc := (hbl.cell (p := ⟨b2, o2 + i, none⟩) (by have := World.block_lt_of_cell? _ _ hc3; exact this)).trans hc3
            rw [show ds[i] = ds.getD i 0 by simp [hlt]] at hc
            clear hc2 hc3
            by_cases he : ds.getD i 0 = (d : Int)
            · have te := (eqB he).1
              have HVE := Lib.hid (ordV_eq he)
              have HOK := Lib.hid (hok.out.eq hlt he)
              clear he
              generalize ds.getD i 0 = x at hc te
              obtain rfl := own_lenI hD
              have hvl : (ordV ds d i).length ≤ 10000 := by
                have h1 := ordP_le ds d i hi
                rw [ordV_len]
                have : (d + 1) * ds.length ≤ 21 * 16 := Nat.mul_le_mul (by omega) hl
                omega
              have HLN := Lib.hid (show (ordV ds d i).length ≤ 4398046511104 by omega)
              have hplen := hok.out.1
              obtain ⟨g2, cap2, hv, -, hpc, hpf, hps⟩ := own_store hP i (by rw [hplen]; exact hlt)
              simp only [Value.slice.injEq, Option.some.injEq, Addr.mk.injEq, and_true] at hv
              obtain ⟨rfl, -, -⟩ := hv
              replace hpc : wr.cell? ⟨b, i, none⟩ = some (.int .i64 (ps.getD i 0)) := by rw [hpc]; simp [show i < ps.length by omega]
              have hc0 := hV.c0
              obtain ⟨W2, hW2⟩ : ∃ W2, W2 = wr.setCell ⟨b, i, none⟩ (.int .i64 ((ordV ds d i).length : Int)) := ⟨_, rfl⟩
              have hndb : (Value.slice va (ordV ds d i).length vc).ownBlock ≠ some b := fun e => by have := (World.ownsRow.lt hD b e).1; omega
              have hD2 : OwnI W2 W1.heap.size (.slice va (ordV ds d i).length vc) (ordV ds d i) := by rw [hW2]; exact own_setCell_other hD _ hndb _
              have hP2 : OwnI W2 w0.heap.size (.slice (some ⟨b, 0, none⟩) ds.length ds.length) (ps.set i ((ordV ds d i).length : Int)) := by
                have := hps (.int .i64 ((ordV ds d i).length : Int))
                rw [hW2]
                unfold OwnI
                rw [List.length_set, List.map_set]
                exact this
              have hV2 : Var2 W2 g (.slice va (ordV ds d i).length vc) (.slice none 0 0) 60 := by rw [hW2]; exact hV.setFar _ HGB.out _
              have hB2 : Below w0.heap.size w0 W2 := by rw [hW2]; exact hbl.setCell hb0 _
              have hsz2 : W2.heap.size = wr.heap.size := by rw [hW2]; simp
              have HD2 := Lib.hid hD2; have HP2 := Lib.hid hP2; have HV2 := Lib.hid hV2; have HB2 := Lib.hid hB2; have HW2 := Lib.hid hW2
              have HNB := Lib.hid (own_ne_var hD2 hV2 (by decide))
              clear hD hP hok hV hbl hps hD2 hP2 hV2 hB2 hW2 hplen
              go_upto_region 10 with fail
              rw [← HW2.out]
              clear HW2
              have q0 := HV2.out.c0
              have HBR := Lib.hid (Below.refl W1.heap.size W2)
              have hs2 : W1.heap.size ≤ W2.heap.size := by omega
              clear hsz2
              have HND := Lib.hid hndb
              clear hndb
              go_wp2_with (at_builtin; refine append_int (w := W2) rfl _ _ rfl W1.heap.size _ _ (d : Int) HD2.out rfl HBR.out hs2 _ rfl (by simp) HLN.out ?_; intro v' w' hown' hbl' hsz' hk'; obtain ⟨pv, nv, cv, rfl⟩ := own_shape hown'; have V' := HV2.out.same (hk' _ HV2.out.lt (fun e => HNB.out e.symm)); have P' := own_kept HP2.out (fun k hk => hk' k (World.ownsRow.lt HP2.out k hk).2 (fun e => HND.out (e.symm.trans hk.symm))); have d1 := V'.c0; have fr := V'.free 0; have HU' := Lib.hid hown'; have HV' := Lib.hid V'; have HP' := Lib.hid P'; have HB' := Lib.hid (HB2.out.trans (hbl'.mono hs1)); clear hown' V' P' hbl' hk')
              go_roundw
              case rel => exact ⟨i + 1, _, _, by omega, by go_num, by rw [HVE.out]; exact HU'.out.setVar HV'.out (by decide) _, OwnI.setVar HP'.out HV'.out (by decide) _, HOK.out, HV'.out.set0 _, HB'.out.setCell HGE.out _, by simp; omega⟩
              case measure => simp [intOf]; omega
            · have te := (neB he).1
              have HVE := Lib.hid (ordV_ne he)
              have HOK := Lib.hid (hok.out.ne he)
              clear he
              generalize ds.getD i 0 = x at hc te
              have HD := Lib.hid hD; have HP := Lib.hid hP; have HV := Lib.hid hV; have HBL := Lib.hid hbl
              clear hD hP hok hV hbl
              go_wp2_with fail
              go_roundw
              case rel => exact ⟨i + 1, _, ps, by omega, by go_num, by rw [HVE.out]; exact HD.out, HP.out, HOK.out, HV.out, HBL.out, hwsz⟩
              case measure => simp [intOf]; omega
          · obtain rfl : i = ds.length := by omega
            have HD := Lib.hid hD; have HP := Lib.hid hP; have HV := Lib.hid hV; have HBL := Lib.hid hbl
            clear hD hP hV hbl
            go_wp2_with fail
            go_roundw
            case rel => exact ⟨d + 1, _, ps, by omega, by go_num, by rw [← ordV_next]; exact HD.out, HP.out, hok.out.next, HV.out, HBL.out, hwsz⟩
            case measure => simp [intOf]; omega
      · obtain rfl : d = 21 := by omega
        rw [ordV_end] at hD
        rw [show (((21:Nat)):Int) = 21 from rfl]
        have HPL := Lib.hid (hok.out.done HS.out)
        have HPN := Lib.hid hok.out.1
        obtain ⟨va, vn, vc, rfl⟩ := own_shape hD
        have HD := Lib.hid hD.ints; have HP := Lib.hid hP.ints; have HV := Lib.hid hV; have HBL := Lib.hid hbl
        have PU := Lib.hid (fun (v u : Value) (xss : List (List Int)) (xs : List Int) (W : World) (h : IntSS W.heap v xss) (hu : IntS W.heap u xs) (hl : xss.length ≤ 1000000) (h3 : xs.length = 3) => l01Put_c v u xss xs W h hu (by omega) (by omega))
        clear hD hP hV hbl hok
        go_wp2_with fail
        rename World => WA
        go_loopw [9] (fun y wr => ∃ (k : Nat) (r : Value), k ≤ acts.length ∧ y = .int .i64 k ∧ IntS wr.heap (.slice va vn vc) (srtD ds) ∧ IntS wr.heap (.slice (some ⟨b, 0, none⟩) ds.length ds.length) ps ∧ IntSS wr.heap r (oddL ((acts.take k).map (plcR ds))) ∧ Var2 wr g (.slice va vn vc) r 60 ∧ Below w0.heap.size w0 wr) (fun y _ => acts.length - (intOf y).toNat)
        case atStart => exact ⟨0, .slice none 0 0, Nat.zero_le _, rfl, HD.out, HP.out, IntSS.nil _, HV.out, HBL.out⟩
        case round =>
          clear HD HP HV HBL
          obtain ⟨k, r, hk, rfl, hD, hP, hR, hV, hbl⟩ := hrel
          have HD := Lib.hid hD; have HP := Lib.hid hP; have HR := Lib.hid hR; have HV := Lib.hid hV; have HBL := Lib.hid hbl
          by_cases hlt : k < acts.length
          · obtain ⟨b1, o1, c1, u1, hv1, hc1, hu1, -⟩ := HA0.out.at k hlt
            simp only [Value.slice.injEq, true_and] at hv1
            obtain ⟨rfl, rfl⟩ := hv1
            have hc3 := (HB0.out.cell (World.block_lt_of_cell? _ _ hc1)).trans hc1
            have hc := (hbl.cell (p := ⟨b1, o1 + k, none⟩) (by have := World.block_lt_of_cell? _ _ hc3; exact this)).trans hc3
            have hu := (hu1.same HB0.out.block).same hbl.block
            have HX := HAA.out _ (List.getElem_mem hlt)
            have HTK : Hid ((acts.take (k + 1)).map (plcR ds) = (acts.take k).map (plcR ds) ++ [plcR ds acts[k]]) := by
              show _ = _; rw [List.take_succ_eq_append_getElem hlt, List.map_append]; rfl
            have HLR : Hid ((oddL ((acts.take k).map (plcR ds))).length ≤ 1000000) := by
              show _ ≤ _
              have := oddL_length ((acts.take k).map (plcR ds))
              rw [List.length_map, List.length_take] at this
              omega
            clear hc1 hc3 hu1
            generalize acts[k] = x at *
            obtain ⟨p1, q1, r1, rfl⟩ : ∃ p q s, x = [p, q, s] := by
              match x, HX.1 with
              | [p, q, s], _ => exact ⟨p, q, s, rfl⟩
            obtain ⟨-, ⟨hq0, hq1⟩, hr0, hr1⟩ := HX
            simp only [List.getD_cons_zero, List.getD_cons_succ] at hq0 hq1 hr0 hr1
            obtain ⟨q, rfl⟩ := Int.eq_ofNat_of_zero_le hq0
            obtain ⟨s, rfl⟩ := Int.eq_ofNat_of_zero_le hr0
            have hq : q < ds.length := by omega
            have hs2 : s < ds.length := by omega
            obtain ⟨b3, o3, c3, hv3, hx0, -⟩ := hu.at 0 (by simp)
            obtain ⟨b4, o4, c4, hv4, hx1, -⟩ := hu.at 1 (by simp)
            obtain ⟨b5, o5, c5, hv5, hx2, -⟩ := hu.at 2 (by simp)
            subst hv3
            simp only [Value.slice.injEq, Option.some.injEq, Addr.mk.injEq, and_true, true_and] at hv4 hv5
            obtain ⟨⟨rfl, rfl⟩, -⟩ := hv4
            obtain ⟨⟨rfl, rfl⟩, -⟩ := hv5
            simp only [List.getElem_cons_zero, List.getElem_cons_succ, Nat.add_zero] at hx0 hx1 hx2
            obtain ⟨b6, o6, c6, hv6, hy1, -⟩ := hP.at q (by rw [HPN.out]; exact hq)
            obtain ⟨b7, o7, c7, hv7, hy2, -⟩ := hP.at s (by rw [HPN.out]; exact hs2)
            simp only [Value.slice.injEq, Option.some.injEq, Addr.mk.injEq, and_true] at hv6 hv7
            obtain ⟨⟨rfl, rfl⟩, -, -⟩ := hv6
            obtain ⟨⟨rfl, rfl⟩, -, -⟩ := hv7
            have e1 := HPL.out q hq
            have e2 := HPL.out s hs2
            rw [show ps[q]'(by rw [HPN.out]; exact hq) = ps.getD q 0 by simp [show q < ps.length by rw [HPN.out]; exact hq], e1, Nat.zero_add] at hy1
            rw [show ps[s]'(by rw [HPN.out]; exact hs2) = ps.getD s 0 by simp [show s < ps.length by rw [HPN.out]; exact hs2], e2, Nat.zero_add] at hy2
            have HPR : Hid (plcR ds [p1, (q : Int), (s : Int)] = [p1, ((plcO ds q : Nat) : Int), ((plcO ds s : Nat) : Int)]) := by show _ = _; simp [plcR]
            have c0 := hV.c0; have c1' := hV.c1
            obtain ⟨za, zc, hzr, -⟩ := hR.len
            obtain ⟨zn, hzn⟩ : ∃ zn, zn = (oddL ((acts.take k).map (plcR ds))).length := ⟨_, rfl⟩
            rw [← hzn] at hzr
            subst hzr
            clear hzn
            have HU3 := Lib.hid hu
            clear hD hP hR hV hbl e1 e2 hu hq0 hr0
            generalize plcO ds q = pq at *
            generalize plcO ds s = pr at *
            go_wp2_with fail
            have HPC := Lib.hid (PU.out (.slice za zn zc) (.slice (some ⟨wr.heap.size, 0, none⟩) 3 3) _ [p1, (pq : Int), (pr : Int)] (wr.alloc (.cells #[.int .i64 p1, .int .i64 pq, .int .i64 pr] 2)).drew (HR.out.same (alloc_old wr _)) (ownI_lit3 (w := wr) (Nat.zero_le _) _ _ _).ints HLR.out rfl)
            have c2' := Go.Lib.cell?_alloc_some (.cells #[.int .i64 p1, .int .i64 (pq : Int), .int .i64 (pr : Int)] 2) c1'
            have HBA := Lib.hid (((Below.refl wr.heap.size wr).alloc (Nat.le_refl _) (.cells #[.int .i64 p1, .int .i64 pq, .int .i64 pr] 2)).drew)
            clear PU
            have HNE : Hid (b3 ≠ g) := intS_ne (HU3.out) (HV.out)
            have HNP : Hid (b ≠ g) := fun e => HGB.out e.symm
            refine wp_region_held_drew (S := fun W => W.cell? ⟨b3, o3, none⟩ = some (.int .i64 p1) ∧ W.cell? ⟨b3, o3 + 1, none⟩ = some (.int .i64 (q : Int)) ∧ W.cell? ⟨b3, o3 + 2, none⟩ = some (.int .i64 (s : Int)) ∧ W.cell? ⟨b, q, none⟩ = some (.int .i64 (pq : Int)) ∧ W.cell? ⟨b, s, none⟩ = some (.int .i64 (pr : Int))) (by kernel_rfl) ⟨hx0, hx1, hx2, hy1, hy2⟩ (fun hHeld => ?_)
            refine wpAnyH_take (i := 0) (v := ?_) rfl (by kernel_rfl) (by kernel_rfl) (by kernel_rfl) (fun _ _ _ h => h) (Or.inl ⟨by rfl, ?_⟩) (by assumption) ?_
            case refine_2 => (intro w hSw; (try dsimp only at hSw); go_simp; try with_reducible rfl)
            try simp only [Act.put, List.setIfInBounds_toArray, List.set_cons_zero, List.set_cons_succ]
            refine wpAnyH_take (i := 2) (v := ?_) rfl (by kernel_rfl) (by kernel_rfl) (by kernel_rfl) (fun _ _ _ h => h) (Or.inl ⟨by rfl, ?_⟩) (by assumption) ?_
            case refine_2 => (intro w hSw; (try dsimp only at hSw); go_simp; try with_reducible rfl)
            try simp only [Act.put, List.setIfInBounds_toArray, List.set_cons_zero, List.set_cons_succ]
            refine wpAnyH_take (i := 3) (v := ?_) rfl (by kernel_rfl) (by kernel_rfl) (by kernel_rfl) (fun _ _ _ h => h) (Or.inl ⟨by rfl, ?_⟩) (by assumption) ?_
            case refine_2 => (intro w hSw; (try dsimp only at hSw); go_simp; try with_reducible rfl)
            try simp only [Act.put, List.setIfInBounds_toArray, List.set_cons_zero, List.set_cons_succ]
            refine wpAnyH_take (i := 4) (v := ?_) rfl (by kernel_rfl) (by kernel_rfl) (by kernel_rfl) (fun _ _ _ h => h) (Or.inl ⟨by rfl, ?_⟩) (by assumption) ?_
            case refine_2 => (intro w hSw; (try dsimp only at hSw); go_simp; try with_reducible rfl)
            try simp only [Act.put, List.setIfInBounds_toArray, List.set_cons_zero, List.set_cons_succ]
            refine wpAnyH_take (i := 5) (v := ?_) rfl (by kernel_rfl) (by kernel_rfl) (by kernel_rfl) (fun _ _ _ h => h) (Or.inl ⟨by rfl, ?_⟩) (by assumption) ?_
            case refine_2 => (intro w hSw; (try dsimp only at hSw); go_simp; try with_reducible rfl)
            try simp only [Act.put, List.setIfInBounds_toArray, List.set_cons_zero, List.set_cons_succ]
            refine wpAnyH_take (i := 6) (v := ?_) rfl (by kernel_rfl) (by kernel_rfl) (by kernel_rfl) (fun _ _ _ h => h) (Or.inl ⟨by rfl, ?_⟩) (by assumption) ?_
            case refine_2 => (intro w hSw; (try dsimp only at hSw); go_simp; try with_reducible rfl)
            try simp only [Act.put, List.setIfInBounds_toArray, List.set_cons_zero, List.set_cons_succ]
            refine wpAnyH_take (i := 7) (v := ?_) rfl (by kernel_rfl) (by kernel_rfl) (by kernel_rfl) (fun _ _ _ h => h) (Or.inl ⟨by rfl, ?_⟩) (by assumption) ?_
            case refine_2 => (intro w hSw; (try dsimp only at hSw); go_simp; try with_reducible rfl)
            try simp only [Act.put, List.setIfInBounds_toArray, List.set_cons_zero, List.set_cons_succ]
            refine wpAnyH_take (i := 8) (v := ?_) rfl (by kernel_rfl) (by kernel_rfl) (by kernel_rfl) (fun _ _ _ h => h) (Or.inl ⟨by rfl, ?_⟩) (by assumption) ?_
            case refine_2 => (intro w hSw; (try dsimp only at hSw); go_simp; try with_reducible rfl)
            try simp only [Act.put, List.setIfInBounds_toArray, List.set_cons_zero, List.set_cons_succ]
            refine wpAnyH_take (i := 9) (v := ?_) rfl (by kernel_rfl) (by kernel_rfl) (by kernel_rfl) (fun _ _ _ h => h) (Or.inl ⟨by rfl, ?_⟩) (by assumption) ?_
            case refine_2 => (intro w hSw; (try dsimp only at hSw); go_simp; try with_reducible rfl)
            try simp only [Act.put, List.setIfInBounds_toArray, List.set_cons_zero, List.set_cons_succ]
            refine wpAnyH_take (i := 10) (v := ?_) rfl (by kernel_rfl) (by kernel_rfl) (by kernel_rfl) (fun _ _ _ h => h) (Or.inl ⟨by rfl, ?_⟩) (by assumption) ?_
            case refine_2 => (intro w hSw; (try dsimp only at hSw); go_simp; try with_reducible rfl)
            try simp only [Act.put, List.setIfInBounds_toArray, List.set_cons_zero, List.set_cons_succ]
            refine wpAnyH_take (i := 11) (v := ?_) rfl (by kernel_rfl) (by kernel_rfl) (by kernel_rfl) (fun _ _ _ h => h) (Or.inl ⟨by rfl, ?_⟩) (by assumption) ?_
            case refine_2 => (intro w hSw; (try dsimp only at hSw); go_simp; try with_reducible rfl)
            try simp only [Act.put, List.setIfInBounds_toArray, List.set_cons_zero, List.set_cons_succ]
            refine wpAnyH_take (i := 12) (v := ?_) rfl (by kernel_rfl) (by kernel_rfl) (by kernel_rfl) (fun _ _ _ h => h) (Or.inl ⟨by rfl, ?_⟩) (by assumption) ?_
            case refine_2 => (intro w hSw; (try dsimp only at hSw); go_simp; try with_reducible rfl)
            try simp only [Act.put, List.setIfInBounds_toArray, List.set_cons_zero, List.set_cons_succ]
            refine wpAnyH_take (i := 13) (v := ?_) rfl (by kernel_rfl) (by kernel_rfl) (by kernel_rfl) (fun _ _ _ h => h) (Or.inl ⟨by rfl, ?_⟩) (by assumption) ?_
            case refine_2 => (intro w hSw; (try dsimp only at hSw); go_simp; try with_reducible rfl)
            try simp only [Act.put, List.setIfInBounds_toArray, List.set_cons_zero, List.set_cons_succ]
            refine wpAnyH_take (i := 14) (v := ?_) rfl (by kernel_rfl) (by kernel_rfl) (by kernel_rfl) (fun _ _ _ h => h) (Or.inl ⟨by rfl, ?_⟩) (by assumption) ?_
            case refine_2 => (intro w hSw; (try dsimp only at hSw); go_simp; try with_reducible rfl)
            try simp only [Act.put, List.setIfInBounds_toArray, List.set_cons_zero, List.set_cons_succ]
            refine wpAnyH_take (i := 15) (v := ?_) rfl (by kernel_rfl) (by kernel_rfl) (by kernel_rfl) (fun _ _ _ h => h) (Or.inl ⟨by rfl, ?_⟩) (by assumption) ?_
            case refine_2 => (intro w hSw; (try dsimp only at hSw); go_simp; try with_reducible rfl)
            try simp only [Act.put, List.setIfInBounds_toArray, List.set_cons_zero, List.set_cons_succ]
            refine wpAnyH_take (i := 16) (v := ?_) rfl (by kernel_rfl) (by kernel_rfl) (by kernel_rfl) (fun _ _ _ h => h) (Or.inl ⟨by rfl, ?_⟩) (by assumption) ?_
            case refine_2 => (intro w hSw; (try dsimp only at hSw); go_simp; try with_reducible rfl)
            try simp only [Act.put, List.setIfInBounds_toArray, List.set_cons_zero, List.set_cons_succ]
            refine wpAnyH_ready (rs := [1, 17]) (by kernel_rfl) (by simp) ?_
            refine AllReadyH.cons rfl (fun K hK => ?_) (AllReadyH.cons rfl (fun K hK => ?_) AllReadyH.nil)
            case refine_1 =>
              go_simp
              refine hK.out _ _ (hHeld) (fun hHeld => ?_)
              clear hK K
              try simp only [Act.put, List.setIfInBounds_toArray, List.set_cons_zero, List.set_cons_succ]
              refine wpAnyH_ready (rs := [17]) (by kernel_rfl) (by simp) ?_
              refine AllReadyH.cons rfl (fun K hK => ?_) AllReadyH.nil
              go_simp
              refine hK.out _ _ (heldC5A hHeld _) (fun hHeld => ?_)
              clear hK K
              try simp only [Act.put, List.setIfInBounds_toArray, List.set_cons_zero, List.set_cons_succ]
              refine wpAnyH_ready (rs := [18]) (by kernel_rfl) (by simp) ?_
              refine AllReadyH.cons rfl (fun K hK => ?_) AllReadyH.nil
              go_simp
              go_at_call 151
              refine HPC.out.mono ?_
              rintro e w2 ⟨v2, rfl, hR2, hbx⟩
              obtain ⟨ra, rc, rfl, -⟩ := hR2.len
              have hx9 : Below wr.heap.size wr w2 := HBA.out.trans (hbx.mono HBA.out.size)
              have V2 := HV.out.kept hx9.block
              have f1 := V2.free 1
              have d1 := V2.c1
              go_wp2_with fail
              refine hK.out _ _ (heldC5 hHeld hbx) (fun hHeld => ?_)
              clear hK K
              try simp only [Act.put, List.setIfInBounds_toArray, List.set_cons_zero, List.set_cons_succ]
              refine wpAnyH_ready (rs := [19]) (by kernel_rfl) (by simp) ?_
              refine AllReadyH.cons rfl (fun K hK => ?_) AllReadyH.nil
              go_simp
              refine hK.out _ _ (hHeld) (fun hHeld => ?_)
              clear hK K
              try simp only [Act.put, List.setIfInBounds_toArray, List.set_cons_zero, List.set_cons_succ]
              refine wpAnyH_ready (rs := [20]) (by kernel_rfl) (by simp) ?_
              refine AllReadyH.cons rfl (fun K hK => ?_) AllReadyH.nil
              go_simp
              refine hK.out _ _ (heldC5S HNE.out HNE.out HNE.out HNP.out HNP.out hHeld _) (fun hHeld => ?_)
              clear hK K
              try simp only [Act.put, List.setIfInBounds_toArray, List.set_cons_zero, List.set_cons_succ]
              refine wpAnyH_done (by kernel_rfl) ?_ _
              clear hx0 hx1 hx2 hy1 hy2 hc c2' hHeld
              go_wp2_with fail
              go_roundw
              case rel =>
                exact ⟨k + 1, _, by omega, by go_num, (HD.out.same hx9.block).otherW V2 (by decide) _, (HP.out.same hx9.block).otherW V2 (by decide) _, by rw [HTK.out, HPR.out, oddL_snoc]; have hZ := hR2; rw [List.map_take] at hZ ⊢; exact hZ.otherW V2 (by decide) (by decide) _, V2.set1 _, (HBL.out.trans (hx9.mono HBL.out.size)).setCell HGE.out _⟩
              case measure => simp [intOf]; omega
            case refine_2 =>
              go_simp
              refine hK.out _ _ (heldC5A hHeld _) (fun hHeld => ?_)
              clear hK K
              try simp only [Act.put, List.setIfInBounds_toArray, List.set_cons_zero, List.set_cons_succ]
              refine wpAnyH_ready (rs := [1]) (by kernel_rfl) (by simp) ?_
              refine AllReadyH.cons rfl (fun K hK => ?_) AllReadyH.nil
              go_simp
              refine hK.out _ _ (hHeld) (fun hHeld => ?_)
              clear hK K
              try simp only [Act.put, List.setIfInBounds_toArray, List.set_cons_zero, List.set_cons_succ]
              refine wpAnyH_ready (rs := [18]) (by kernel_rfl) (by simp) ?_
              refine AllReadyH.cons rfl (fun K hK => ?_) AllReadyH.nil
              go_simp
              go_at_call 151
              refine HPC.out.mono ?_
              rintro e w2 ⟨v2, rfl, hR2, hbx⟩
              obtain ⟨ra, rc, rfl, -⟩ := hR2.len
              have hx9 : Below wr.heap.size wr w2 := HBA.out.trans (hbx.mono HBA.out.size)
              have V2 := HV.out.kept hx9.block
              have f1 := V2.free 1
              have d1 := V2.c1
              go_wp2_with fail
              refine hK.out _ _ (heldC5 hHeld hbx) (fun hHeld => ?_)
              clear hK K
              try simp only [Act.put, List.setIfInBounds_toArray, List.set_cons_zero, List.set_cons_succ]
              refine wpAnyH_ready (rs := [19]) (by kernel_rfl) (by simp) ?_
              refine AllReadyH.cons rfl (fun K hK => ?_) AllReadyH.nil
              go_simp
              refine hK.out _ _ (hHeld) (fun hHeld => ?_)
              clear hK K
              try simp only [Act.put, List.setIfInBounds_toArray, List.set_cons_zero, List.set_cons_succ]
              refine wpAnyH_ready (rs := [20]) (by kernel_rfl) (by simp) ?_
              refine AllReadyH.cons rfl (fun K hK => ?_) AllReadyH.nil
              go_simp
              refine hK.out _ _ (heldC5S HNE.out HNE.out HNE.out HNP.out HNP.out hHeld _) (fun hHeld => ?_)
              clear hK K
              try simp only [Act.put, List.setIfInBounds_toArray, List.set_cons_zero, List.set_cons_succ]
              refine wpAnyH_done (by kernel_rfl) ?_ _
              clear hx0 hx1 hx2 hy1 hy2 hc c2' hHeld
              go_wp2_with fail
              go_roundw
              case rel =>
                exact ⟨k + 1, _, by omega, by go_num, (HD.out.same hx9.block).otherW V2 (by decide) _, (HP.out.same hx9.block).otherW V2 (by decide) _, by rw [HTK.out, HPR.out, oddL_snoc]; have hZ := hR2; rw [List.map_take] at hZ ⊢; exact hZ.otherW V2 (by decide) (by decide) _, V2.set1 _, (HBL.out.trans (hx9.mono HBL.out.size)).setCell HGE.out _⟩
              case measure => simp [intOf]; omega
          · obtain rfl : k = acts.length := by omega
            have HRV := Lib.hid (HVR.out.kept hbl.block)
            have e0 := HRV.out.c0; have e1 := HRV.out.c1; have f0 := HRV.out.free 0; have f1 := HRV.out.free 1
            have c0 := hV.c0; have c1 := hV.c1
            rw [List.take_length] at HR
            obtain ⟨za, zc, hzr, -⟩ := hR.len
            obtain ⟨zn, hzn⟩ : ∃ zn, zn = (oddL ((acts.take acts.length).map (plcR ds))).length := ⟨_, rfl⟩
            rw [← hzn] at hzr
            subst hzr
            clear hD hP hR hV hbl hzn
            go_wp2_with fail
            have W4 := HRV.out.set0 (.slice va vn vc)
            have g0 := W4.c0
            have g1 := (W4.set1 (.slice za zn zc)).c1
            exact bodyPost_ret (v := .agg #[.slice va vn vc, (.slice za zn zc)]) (by simp [results, Try.results122, go_sem, g0, g1]) rfl
              ⟨_, _, rfl, ⟨(HD.out.otherW HRV.out (by decide) _).otherW W4 (by decide) _, (HR.out.otherW HRV.out (by decide) (by decide) _).otherW W4 (by decide) (by decide) _⟩, ((HB0.out.trans (HBL.out.mono hs0)).setCell (Nat.le_refl _) _).setCell (Nat.le_refl _) _⟩
end Go.Proofs.Ytljfpkhgijangaa

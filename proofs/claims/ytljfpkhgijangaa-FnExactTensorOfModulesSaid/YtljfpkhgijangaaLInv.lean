/- Regions that draw their order, by a condition that is kept: two calls in their order beside three variables that are made. -/
import Derived.Test.YtljfpkhgijangaaLMt2
import Derived.Test.YtljfpkhgijangaaLMilArg
import Derived.Deep.RegionHeld3
namespace Go.Proofs.Ytljfpkhgijangaa
open Go.RowKit Go.Sort Go.Deep

def put5 (a0 : Act) (d1 d2 d3 d4 d5 : Nat) (x1 x2 x3 x4 x5 : Value) : Act := ((((a0.put (some d1) x1).put (some d2) x2).put (some d3) x3).put (some d4) x4).put (some d5) x5
section
variable {P : Program} {ops : Array Oper} {Q : Exit → Act → World → Prop} {md : Region.Mode} {S : World → Prop} {a0 : Act}
theorem wpAnyH_inv5 {listed : Array Bool} {w0 : World} (i1 i2 i3 i4 i5 d1 d2 d3 d4 d5 : Nat) (mk : Bool → Bool → Bool → Bool → Bool → Array Bool)
    (J : Bool → Bool → Bool → Bool → Bool → Value → Value → Value → Value → Value → World → Prop) (k : Nat)
    (hl : mk false false false false false = listed)
    (h0 : ∃ v1 v2 v3 v4 v5, put5 a0 d1 d2 d3 d4 d5 v1 v2 v3 v4 v5 = a0)
    (hr : ∀ b1 b2 b3 b4 b5 : Bool, ((b1 && b2 && b3 && b4 && b5) || (!(Region.ready md ops (mk b1 b2 b3 b4 b5)).isEmpty && (Region.ready md ops (mk b1 b2 b3 b4 b5)).all (fun i => (i == i1 && !b1) || (i == i2 && b1 && !b2) || (i == i3 && !b3) || (i == i4 && !b4) || (i == i5 && !b5)))) = true)
    (m1 : ∀ b2 b3 b4 b5, (mk false b2 b3 b4 b5).setIfInBounds i1 true = mk true b2 b3 b4 b5)
    (m2 : ∀ b1 b3 b4 b5, (mk b1 false b3 b4 b5).setIfInBounds i2 true = mk b1 true b3 b4 b5)
    (m3 : ∀ b1 b2 b4 b5, (mk b1 b2 false b4 b5).setIfInBounds i3 true = mk b1 b2 true b4 b5)
    (m4 : ∀ b1 b2 b3 b5, (mk b1 b2 b3 false b5).setIfInBounds i4 true = mk b1 b2 b3 true b5)
    (m5 : ∀ b1 b2 b3 b4, (mk b1 b2 b3 b4 false).setIfInBounds i5 true = mk b1 b2 b3 b4 true)
    (hS : S w0) (hJ : ∀ x1 x2 x3 x4 x5, J false false false false false x1 x2 x3 x4 x5 w0)
    (s1 : ∀ b2 b3 b4 b5 x1 x2 x3 x4 x5 w, S w → J false b2 b3 b4 b5 x1 x2 x3 x4 x5 w → wpOp P ops Q i1 (fun a' w' => S w' ∧ ∃ x, a' = put5 a0 d1 d2 d3 d4 d5 x x2 x3 x4 x5 ∧ J true b2 b3 b4 b5 x x2 x3 x4 x5 w') (put5 a0 d1 d2 d3 d4 d5 x1 x2 x3 x4 x5) w)
    (s2 : ∀ b3 b4 b5 x1 x2 x3 x4 x5 w, S w → J true false b3 b4 b5 x1 x2 x3 x4 x5 w → wpOp P ops Q i2 (fun a' w' => S w' ∧ ∃ x, a' = put5 a0 d1 d2 d3 d4 d5 x1 x x3 x4 x5 ∧ J true true b3 b4 b5 x1 x x3 x4 x5 w') (put5 a0 d1 d2 d3 d4 d5 x1 x2 x3 x4 x5) w)
    (s3 : ∀ b1 b2 b4 b5 x1 x2 x3 x4 x5 w, S w → J b1 b2 false b4 b5 x1 x2 x3 x4 x5 w → wpOp P ops Q i3 (fun a' w' => S w' ∧ ∃ x, a' = put5 a0 d1 d2 d3 d4 d5 x1 x2 x x4 x5 ∧ J b1 b2 true b4 b5 x1 x2 x x4 x5 w') (put5 a0 d1 d2 d3 d4 d5 x1 x2 x3 x4 x5) w)
    (s4 : ∀ b1 b2 b3 b5 x1 x2 x3 x4 x5 w, S w → J b1 b2 b3 false b5 x1 x2 x3 x4 x5 w → wpOp P ops Q i4 (fun a' w' => S w' ∧ ∃ x, a' = put5 a0 d1 d2 d3 d4 d5 x1 x2 x3 x x5 ∧ J b1 b2 b3 true b5 x1 x2 x3 x x5 w') (put5 a0 d1 d2 d3 d4 d5 x1 x2 x3 x4 x5) w)
    (s5 : ∀ b1 b2 b3 b4 x1 x2 x3 x4 x5 w, S w → J b1 b2 b3 b4 false x1 x2 x3 x4 x5 w → wpOp P ops Q i5 (fun a' w' => S w' ∧ ∃ x, a' = put5 a0 d1 d2 d3 d4 d5 x1 x2 x3 x4 x ∧ J b1 b2 b3 b4 true x1 x2 x3 x4 x w') (put5 a0 d1 d2 d3 d4 d5 x1 x2 x3 x4 x5) w)
    (hend : ∀ x1 x2 x3 x4 x5 w, S w → J true true true true true x1 x2 x3 x4 x5 w → wpAnyH P md ops Q S k (mk true true true true true) (put5 a0 d1 d2 d3 d4 d5 x1 x2 x3 x4 x5) w) :
    wpAnyH P md ops Q S (5 + k) listed a0 w0 := by
  have key : ∀ (n : Nat) b1 b2 b3 b4 b5 x1 x2 x3 x4 x5 w, (!b1).toNat + (!b2).toNat + (!b3).toNat + (!b4).toNat + (!b5).toNat = n → S w → J b1 b2 b3 b4 b5 x1 x2 x3 x4 x5 w → wpAnyH P md ops Q S (n + k) (mk b1 b2 b3 b4 b5) (put5 a0 d1 d2 d3 d4 d5 x1 x2 x3 x4 x5) w := by
    intro n
    induction n with
    | zero =>
      intro b1 b2 b3 b4 b5 x1 x2 x3 x4 x5 w hn hS hJ
      rw [Nat.zero_add]
      cases b1 <;> cases b2 <;> cases b3 <;> cases b4 <;> cases b5 <;> simp at hn
      exact hend _ _ _ _ _ _ hS hJ
    | succ n ih =>
      intro b1 b2 b3 b4 b5 x1 x2 x3 x4 x5 w hn hS hJ
      rw [Nat.succ_add]
      have hq := hr b1 b2 b3 b4 b5
      have hnt : (b1 && b2 && b3 && b4 && b5) = false := by
        cases b1 <;> cases b2 <;> cases b3 <;> cases b4 <;> cases b5 <;> simp at hn ⊢
      rw [hnt, Bool.false_or, Bool.and_eq_true] at hq
      refine ⟨fun h => ?_, fun i hi => ?_⟩
      · have := hq.1; rw [h] at this; simp at this
      · have h1 := List.all_eq_true.1 hq.2 i hi
        simp only [Bool.or_eq_true, Bool.and_eq_true, beq_iff_eq, Bool.not_eq_true'] at h1
        rcases h1 with (((⟨rfl, rfl⟩ | ⟨⟨rfl, rfl⟩, rfl⟩) | ⟨rfl, rfl⟩) | ⟨rfl, rfl⟩) | ⟨rfl, rfl⟩
        · rw [m1]
          refine wpOp_mono (fun a w h => ?_) (s1 _ _ _ _ _ _ _ _ _ _ hS hJ)
          obtain ⟨h1, x, rfl, h2⟩ := h
          exact ⟨h1, ih _ _ _ _ _ _ _ _ _ _ _ (by simp at hn ⊢; omega) h1 h2⟩
        · rw [m2]
          refine wpOp_mono (fun a w h => ?_) (s2 _ _ _ _ _ _ _ _ _ hS hJ)
          obtain ⟨h1, x, rfl, h2⟩ := h
          exact ⟨h1, ih _ _ _ _ _ _ _ _ _ _ _ (by simp at hn ⊢; omega) h1 h2⟩
        · rw [m3]
          refine wpOp_mono (fun a w h => ?_) (s3 _ _ _ _ _ _ _ _ _ _ hS hJ)
          obtain ⟨h1, x, rfl, h2⟩ := h
          exact ⟨h1, ih _ _ _ _ _ _ _ _ _ _ _ (by simp at hn ⊢; omega) h1 h2⟩
        · rw [m4]
          refine wpOp_mono (fun a w h => ?_) (s4 _ _ _ _ _ _ _ _ _ _ hS hJ)
          obtain ⟨h1, x, rfl, h2⟩ := h
          exact ⟨h1, ih _ _ _ _ _ _ _ _ _ _ _ (by simp at hn ⊢; omega) h1 h2⟩
        · rw [m5]
          refine wpOp_mono (fun a w h => ?_) (s5 _ _ _ _ _ _ _ _ _ _ hS hJ)
          obtain ⟨h1, x, rfl, h2⟩ := h
          exact ⟨h1, ih _ _ _ _ _ _ _ _ _ _ _ (by simp at hn ⊢; omega) h1 h2⟩
  obtain ⟨v1, v2, v3, v4, v5, h0⟩ := h0
  have := key 5 false false false false false v1 v2 v3 v4 v5 w0 rfl hS (hJ _ _ _ _ _)
  rw [h0, hl] at this
  exact this
end
theorem TabU.low {w : World} {B B' g : Nat} {d : Value} {us : List Value} {xss : List (List Int)} (h : TabU w B g d us xss) (k : B' ≤ B) : TabU w B' g d us xss :=
  ⟨h.row, Nat.le_trans k h.base, h.len, fun i u xs hu hx => own_base (h.each i u xs hu hx) k, h.apart⟩
theorem TabU.far {w : World} {B g g' t : Nat} {d x : Value} {us : List Value} {xss : List (List Int)} (h : TabU w B g d us xss) (V : Cell1 w g' x t) (ne : 126 ≠ t) (ne2 : 2 ≠ t) (u : Value) : TabU (w.setCell ⟨g', 0, none⟩ u) B g d us xss := by
  have hb : ∀ (b : Nat) (cs : Array Value) (e : Nat), w.heap[b]? = some (.cells cs e (0, 0)) → e ≠ t → b ≠ g' := fun b cs e hb he e2 => by
    subst e2
    rw [show w.heap[b]? = _ from V] at hb
    simp only [Option.some.injEq, Obj.cells.injEq] at hb
    exact he hb.2.1.symm
  refine ⟨by rw [Below.heap_setCell _ _ _ _ (hb _ _ _ h.row ne)]; exact h.row, h.base, h.len, fun i v xs hv hx => ?_, h.apart⟩
  refine own_setCell_other (h.each i v xs hv hx) _ (fun e => ?_) _
  rcases (h.each i v xs hv hx).2 with ⟨rfl, _⟩ | ⟨b, cap, cur, rfl, _, hg, _⟩
  · simp [Value.ownBlock] at e
  · simp only [Value.ownBlock, Option.some.injEq] at e
    exact hb _ _ _ hg ne2 e
theorem Cell1.ne {w : World} {g g' t t' : Nat} {x x' : Value} (h : Cell1 w g x t) (h' : Cell1 w g' x' t') (n : t ≠ t') : g ≠ g' := by
  intro e
  subst e
  have := (show w.heap[g]? = _ from h).symm.trans (show w.heap[g]? = _ from h')
  simp only [Option.some.injEq, Obj.cells.injEq] at this
  exact n this.2.1
/-- A table that was made, at a pointer. -/
def TabP (W : World) (B : Nat) (d : Value) (xss : List (List Int)) (x : Value) : Prop := ∃ g us, x = .pointer (some ⟨g, 0, none⟩) ∧ TabU W B g d us xss
/-- A variable that was made, at a pointer. -/
def VarP (W : World) (B : Nat) (x v : Value) (t : Nat) : Prop := ∃ g, x = .pointer (some ⟨g, 0, none⟩) ∧ Cell1 W g v t ∧ B ≤ g
/-- Two tables and three variables, as far as they are made. -/
structure PrepJ (B : Nat) (d1 : Value) (t1 : List (List Int)) (d2 : Value) (t2 : List (List Int)) (b1 b2 b3 b4 b5 : Bool) (x1 x2 x3 x4 x5 : Value) (W : World) : Prop where
  a1 : b1 = true → TabP W B d1 t1 x1
  a2 : b2 = true → TabP W B d2 t2 x2
  a3 : b3 = true → VarP W B x3 (.pointer none) 117
  a4 : b4 = true → VarP W B x4 (.pointer none) 117
  a5 : b5 = true → VarP W B x5 (.int .i64 0) 3
  ne : b3 = true → b4 = true → x3 ≠ x4
theorem TabP.same {W W' : World} {B : Nat} {d x : Value} {xss : List (List Int)} (h : TabP W B d xss x) (k : ∀ b, b < W.heap.size → W'.heap[b]? = W.heap[b]?) : TabP W' B d xss x := by
  obtain ⟨g, us, e, h⟩ := h
  exact ⟨g, us, e, h.same k⟩
theorem VarP.same {W W' : World} {B t : Nat} {x v : Value} (h : VarP W B x v t) (k : ∀ b, b < W.heap.size → W'.heap[b]? = W.heap[b]?) : VarP W' B x v t := by
  obtain ⟨g, e, h, hb⟩ := h
  exact ⟨g, e, h.kept k, hb⟩
section
variable {B : Nat} {d1 d2 : Value} {t1 t2 : List (List Int)} {b1 b2 b3 b4 b5 : Bool} {x1 x2 x3 x4 x5 : Value} {W W' : World}
theorem PrepJ.same (h : PrepJ B d1 t1 d2 t2 b1 b2 b3 b4 b5 x1 x2 x3 x4 x5 W) (k : ∀ b, b < W.heap.size → W'.heap[b]? = W.heap[b]?) : PrepJ B d1 t1 d2 t2 b1 b2 b3 b4 b5 x1 x2 x3 x4 x5 W' :=
  ⟨fun e => (h.a1 e).same k, fun e => (h.a2 e).same k, fun e => (h.a3 e).same k, fun e => (h.a4 e).same k, fun e => (h.a5 e).same k, h.ne⟩
theorem PrepJ.one (h : PrepJ B d1 t1 d2 t2 false b2 b3 b4 b5 x1 x2 x3 x4 x5 W) (k : ∀ b, b < W.heap.size → W'.heap[b]? = W.heap[b]?) {x : Value} (hx : TabP W' B d1 t1 x) : PrepJ B d1 t1 d2 t2 true b2 b3 b4 b5 x x2 x3 x4 x5 W' :=
  ⟨fun _ => hx, fun e => (h.a2 e).same k, fun e => (h.a3 e).same k, fun e => (h.a4 e).same k, fun e => (h.a5 e).same k, h.ne⟩
theorem PrepJ.two (h : PrepJ B d1 t1 d2 t2 b1 false b3 b4 b5 x1 x2 x3 x4 x5 W) (k : ∀ b, b < W.heap.size → W'.heap[b]? = W.heap[b]?) {x : Value} (hx : TabP W' B d2 t2 x) : PrepJ B d1 t1 d2 t2 b1 true b3 b4 b5 x1 x x3 x4 x5 W' :=
  ⟨fun e => (h.a1 e).same k, fun _ => hx, fun e => (h.a3 e).same k, fun e => (h.a4 e).same k, fun e => (h.a5 e).same k, h.ne⟩
theorem VarP.lt {t : Nat} {x v : Value} (h : VarP W B x v t) : x ≠ .pointer (some ⟨W.heap.size, 0, none⟩) := by
  obtain ⟨g, rfl, h, _⟩ := h
  intro e
  simp only [Value.pointer.injEq, Option.some.injEq, Addr.mk.injEq, and_true] at e
  have := h.lt
  omega
theorem VarP.new (hB : B ≤ W.heap.size) (v : Value) (t : Nat) : VarP (W.alloc (.cells #[v] t)) B (.pointer (some ⟨W.heap.size, 0, none⟩)) v t := ⟨_, rfl, Cell1.new W v t, hB⟩
theorem PrepJ.three (h : PrepJ B d1 t1 d2 t2 b1 b2 false b4 b5 x1 x2 x3 x4 x5 W) (hB : B ≤ W.heap.size) : PrepJ B d1 t1 d2 t2 b1 b2 true b4 b5 x1 x2 (.pointer (some ⟨W.heap.size, 0, none⟩)) x4 x5 (W.alloc (.cells #[.pointer none] 117)) :=
  ⟨fun e => (h.a1 e).same (alloc_old _ _), fun e => (h.a2 e).same (alloc_old _ _), fun _ => VarP.new hB _ _, fun e => (h.a4 e).same (alloc_old _ _), fun e => (h.a5 e).same (alloc_old _ _), fun _ e => fun e2 => (h.a4 e).lt e2.symm⟩
theorem PrepJ.four (h : PrepJ B d1 t1 d2 t2 b1 b2 b3 false b5 x1 x2 x3 x4 x5 W) (hB : B ≤ W.heap.size) : PrepJ B d1 t1 d2 t2 b1 b2 b3 true b5 x1 x2 x3 (.pointer (some ⟨W.heap.size, 0, none⟩)) x5 (W.alloc (.cells #[.pointer none] 117)) :=
  ⟨fun e => (h.a1 e).same (alloc_old _ _), fun e => (h.a2 e).same (alloc_old _ _), fun e => (h.a3 e).same (alloc_old _ _), fun _ => VarP.new hB _ _, fun e => (h.a5 e).same (alloc_old _ _), fun e _ => (h.a3 e).lt⟩
theorem PrepJ.five (h : PrepJ B d1 t1 d2 t2 b1 b2 b3 b4 false x1 x2 x3 x4 x5 W) (hB : B ≤ W.heap.size) : PrepJ B d1 t1 d2 t2 b1 b2 b3 b4 true x1 x2 x3 x4 (.pointer (some ⟨W.heap.size, 0, none⟩)) (W.alloc (.cells #[.int .i64 0] 3)) :=
  ⟨fun e => (h.a1 e).same (alloc_old _ _), fun e => (h.a2 e).same (alloc_old _ _), fun e => (h.a3 e).same (alloc_old _ _), fun e => (h.a4 e).same (alloc_old _ _), fun _ => VarP.new hB _ _, h.ne⟩
theorem PrepJ.start (W : World) : PrepJ B d1 t1 d2 t2 false false false false false x1 x2 x3 x4 x5 W :=
  ⟨fun e => (by cases e), fun e => (by cases e), fun e => (by cases e), fun e => (by cases e), fun e => (by cases e), fun e => (by cases e)⟩
/-- What is behind the stores. -/
theorem PrepJ.stop (h : PrepJ B d1 t1 d2 t2 true true true true true x1 x2 x3 x4 x5 W) (z : Value) : ∃ gs gt gz g1 g2 u1 u2, x3 = .pointer (some ⟨gs, 0, none⟩) ∧ x4 = .pointer (some ⟨gt, 0, none⟩) ∧ x5 = .pointer (some ⟨gz, 0, none⟩) ∧ x1 = .pointer (some ⟨g1, 0, none⟩) ∧ x2 = .pointer (some ⟨g2, 0, none⟩) ∧ B ≤ gs ∧ B ≤ gt ∧ B ≤ gz ∧
    Cell1 W gs (.pointer none) 117 ∧ Cell1 (W.setCell ⟨gs, 0, none⟩ x1) gt (.pointer none) 117 ∧ Cell1 ((W.setCell ⟨gs, 0, none⟩ x1).setCell ⟨gt, 0, none⟩ x2) gz (.int .i64 0) 3 ∧
    Cell1 (((W.setCell ⟨gs, 0, none⟩ x1).setCell ⟨gt, 0, none⟩ x2).setCell ⟨gz, 0, none⟩ z) gs x1 117 ∧ Cell1 (((W.setCell ⟨gs, 0, none⟩ x1).setCell ⟨gt, 0, none⟩ x2).setCell ⟨gz, 0, none⟩ z) gt x2 117 ∧ Cell1 (((W.setCell ⟨gs, 0, none⟩ x1).setCell ⟨gt, 0, none⟩ x2).setCell ⟨gz, 0, none⟩ z) gz z 3 ∧
    TabU (((W.setCell ⟨gs, 0, none⟩ x1).setCell ⟨gt, 0, none⟩ x2).setCell ⟨gz, 0, none⟩ z) B g1 d1 u1 t1 ∧ TabU (((W.setCell ⟨gs, 0, none⟩ x1).setCell ⟨gt, 0, none⟩ x2).setCell ⟨gz, 0, none⟩ z) B g2 d2 u2 t2 := by
  obtain ⟨g1, u1, rfl, h1⟩ := h.a1 rfl
  obtain ⟨g2, u2, rfl, h2⟩ := h.a2 rfl
  obtain ⟨gs, rfl, h3, l3⟩ := h.a3 rfl
  obtain ⟨gt, rfl, h4, l4⟩ := h.a4 rfl
  obtain ⟨gz, rfl, h5, l5⟩ := h.a5 rfl
  have n34 : gs ≠ gt := fun e => h.ne rfl rfl (by rw [e])
  have n35 : gs ≠ gz := h3.ne h5 (by decide)
  have n45 : gt ≠ gz := h4.ne h5 (by decide)
  have q4 := h4.setFar ⟨gs, 0, none⟩ n34.symm (.pointer (some ⟨g1, 0, none⟩))
  have q5 := h5.setFar ⟨gs, 0, none⟩ n35.symm (.pointer (some ⟨g1, 0, none⟩))
  have r5 := q5.setFar ⟨gt, 0, none⟩ n45.symm (.pointer (some ⟨g2, 0, none⟩))
  refine ⟨gs, gt, gz, g1, g2, u1, u2, rfl, rfl, rfl, rfl, rfl, l3, l4, l5, h3, q4, r5, ((h3.set _).setFar _ n34 _).setFar _ n35 _, (q4.set _).setFar _ n45 _, r5.set _, ?_, ?_⟩
  · exact ((h1.far h3 (by decide) (by decide) _).far q4 (by decide) (by decide) _).far r5 (by decide) (by decide) _
  · exact ((h2.far h3 (by decide) (by decide) _).far q4 (by decide) (by decide) _).far r5 (by decide) (by decide) _
end
theorem heldC4S {x1 x2 x3 x4 : Value} {g1 g2 g3 g4 : Addr} {w0 W : World} (k : w0.cell? g1 = some x1 ∧ w0.cell? g2 = some x2 ∧ w0.cell? g3 = some x3 ∧ w0.cell? g4 = some x4) (h : W.cell? g1 = some x1 ∧ W.cell? g2 = some x2 ∧ W.cell? g3 = some x3 ∧ W.cell? g4 = some x4 ∧ Below w0.heap.size w0 W) (g : Nat) (hg : w0.heap.size ≤ g) (v : Value) :
    (W.setCell ⟨g, 0, none⟩ v).cell? g1 = some x1 ∧ (W.setCell ⟨g, 0, none⟩ v).cell? g2 = some x2 ∧ (W.setCell ⟨g, 0, none⟩ v).cell? g3 = some x3 ∧ (W.setCell ⟨g, 0, none⟩ v).cell? g4 = some x4 ∧ Below w0.heap.size w0 (W.setCell ⟨g, 0, none⟩ v) := by
  have far : ∀ (q : Addr) (x : Value), w0.cell? q = some x → W.cell? q = some x → (W.setCell ⟨g, 0, none⟩ v).cell? q = some x := fun q x h1 h2 => by
    have hl := World.block_lt_of_cell? _ _ h1
    rw [World.cell?, Below.heap_setCell _ _ _ _ (show q.block ≠ g by omega), ← World.cell?]
    exact h2
  exact ⟨far _ _ k.1 h.1, far _ _ k.2.1 h.2.1, far _ _ k.2.2.1 h.2.2.1, far _ _ k.2.2.2 h.2.2.2.1, h.2.2.2.2.setCell hg _⟩
end Go.Proofs.Ytljfpkhgijangaa

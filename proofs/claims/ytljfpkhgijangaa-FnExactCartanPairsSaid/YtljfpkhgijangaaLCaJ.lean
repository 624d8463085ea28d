/- Regions that draw their order, by a condition that is kept: six operations (two copies, two literals, two appends). -/
import Derived.Test.YtljfpkhgijangaaLMilArg
import Derived.Test.YtljfpkhgijangaaLStep
import Derived.Test.YtljfpkhgijangaaLSss
import Derived.Deep.RegionHeld3
namespace Go.Proofs.Ytljfpkhgijangaa
open Go.RowKit Go.Sort Go.Deep

def putinv6 (a0 : Act) (d1 d2 d3 d4 d5 d6 : Nat) (x1 x2 x3 x4 x5 x6 : Value) : Act := (((((a0.put (some d1) x1).put (some d2) x2).put (some d3) x3).put (some d4) x4).put (some d5) x5).put (some d6) x6
section
variable {P : Program} {ops : Array Oper} {Q : Exit → Act → World → Prop} {md : Region.Mode} {S : World → Prop} {a0 : Act}
theorem wpAnyH_inv6 {listed : Array Bool} {w0 : World} (i1 i2 i3 i4 i5 i6 d1 d2 d3 d4 d5 d6 : Nat) (mk : Bool → Bool → Bool → Bool → Bool → Bool →  Array Bool)
    (J : Bool → Bool → Bool → Bool → Bool → Bool → Value → Value → Value → Value → Value → Value →  World → Prop) (k : Nat)
    (hl : mk false false false false false false = listed)
    (h0 : ∃ v1 v2 v3 v4 v5 v6, putinv6 a0 d1 d2 d3 d4 d5 d6 v1 v2 v3 v4 v5 v6 = a0)
    (R : Bool → Bool → Bool → Bool → Bool → Bool →  Bool) (hR : ∀ b1 b2 b3 b4 b5 b6 x1 x2 x3 x4 x5 x6 w, J b1 b2 b3 b4 b5 b6 x1 x2 x3 x4 x5 x6 w → R b1 b2 b3 b4 b5 b6 = true)
    (hr : ∀ b1 b2 b3 b4 b5 b6 : Bool, ((!(R b1 b2 b3 b4 b5 b6)) || (b1 && b2 && b3 && b4 && b5 && b6) || (!(Region.ready md ops (mk b1 b2 b3 b4 b5 b6)).isEmpty && (Region.ready md ops (mk b1 b2 b3 b4 b5 b6)).all (fun i => (i == i1 && !b1) || (i == i2 && !b2) || (i == i3 && !b3 && b1 && b2) || (i == i4 && !b4 && b3) || (i == i5 && !b5) || (i == i6 && !b6 && b4 && b5)))) = true)
    (m1 : ∀ b2 b3 b4 b5 b6, (mk false b2 b3 b4 b5 b6).setIfInBounds i1 true = mk true b2 b3 b4 b5 b6)
    (m2 : ∀ b1 b3 b4 b5 b6, (mk b1 false b3 b4 b5 b6).setIfInBounds i2 true = mk b1 true b3 b4 b5 b6)
    (m3 : ∀ b1 b2 b4 b5 b6, (mk b1 b2 false b4 b5 b6).setIfInBounds i3 true = mk b1 b2 true b4 b5 b6)
    (m4 : ∀ b1 b2 b3 b5 b6, (mk b1 b2 b3 false b5 b6).setIfInBounds i4 true = mk b1 b2 b3 true b5 b6)
    (m5 : ∀ b1 b2 b3 b4 b6, (mk b1 b2 b3 b4 false b6).setIfInBounds i5 true = mk b1 b2 b3 b4 true b6)
    (m6 : ∀ b1 b2 b3 b4 b5, (mk b1 b2 b3 b4 b5 false).setIfInBounds i6 true = mk b1 b2 b3 b4 b5 true)
    (hS : S w0) (hJ : ∀ x1 x2 x3 x4 x5 x6, J false false false false false false x1 x2 x3 x4 x5 x6 w0)
    (s1 : ∀ b2 b3 b4 b5 b6 x1 x2 x3 x4 x5 x6 w, S w → J false b2 b3 b4 b5 b6 x1 x2 x3 x4 x5 x6 w → wpOp P ops Q i1 (fun a' w' => S w' ∧ ∃ x, a' = putinv6 a0 d1 d2 d3 d4 d5 d6 x x2 x3 x4 x5 x6 ∧ J true b2 b3 b4 b5 b6 x x2 x3 x4 x5 x6 w') (putinv6 a0 d1 d2 d3 d4 d5 d6 x1 x2 x3 x4 x5 x6) w)
    (s2 : ∀ b1 b3 b4 b5 b6 x1 x2 x3 x4 x5 x6 w, S w → J b1 false b3 b4 b5 b6 x1 x2 x3 x4 x5 x6 w → wpOp P ops Q i2 (fun a' w' => S w' ∧ ∃ x, a' = putinv6 a0 d1 d2 d3 d4 d5 d6 x1 x x3 x4 x5 x6 ∧ J b1 true b3 b4 b5 b6 x1 x x3 x4 x5 x6 w') (putinv6 a0 d1 d2 d3 d4 d5 d6 x1 x2 x3 x4 x5 x6) w)
    (s3 : ∀ b1 b2 b4 b5 b6 x1 x2 x3 x4 x5 x6 w, (b1 && b2) = true → S w → J b1 b2 false b4 b5 b6 x1 x2 x3 x4 x5 x6 w → wpOp P ops Q i3 (fun a' w' => S w' ∧ ∃ x, a' = putinv6 a0 d1 d2 d3 d4 d5 d6 x1 x2 x x4 x5 x6 ∧ J b1 b2 true b4 b5 b6 x1 x2 x x4 x5 x6 w') (putinv6 a0 d1 d2 d3 d4 d5 d6 x1 x2 x3 x4 x5 x6) w)
    (s4 : ∀ b1 b2 b3 b5 b6 x1 x2 x3 x4 x5 x6 w, (b3) = true → S w → J b1 b2 b3 false b5 b6 x1 x2 x3 x4 x5 x6 w → wpOp P ops Q i4 (fun a' w' => S w' ∧ ∃ x, a' = putinv6 a0 d1 d2 d3 d4 d5 d6 x1 x2 x3 x x5 x6 ∧ J b1 b2 b3 true b5 b6 x1 x2 x3 x x5 x6 w') (putinv6 a0 d1 d2 d3 d4 d5 d6 x1 x2 x3 x4 x5 x6) w)
    (s5 : ∀ b1 b2 b3 b4 b6 x1 x2 x3 x4 x5 x6 w, S w → J b1 b2 b3 b4 false b6 x1 x2 x3 x4 x5 x6 w → wpOp P ops Q i5 (fun a' w' => S w' ∧ ∃ x, a' = putinv6 a0 d1 d2 d3 d4 d5 d6 x1 x2 x3 x4 x x6 ∧ J b1 b2 b3 b4 true b6 x1 x2 x3 x4 x x6 w') (putinv6 a0 d1 d2 d3 d4 d5 d6 x1 x2 x3 x4 x5 x6) w)
    (s6 : ∀ b1 b2 b3 b4 b5 x1 x2 x3 x4 x5 x6 w, (b4 && b5) = true → S w → J b1 b2 b3 b4 b5 false x1 x2 x3 x4 x5 x6 w → wpOp P ops Q i6 (fun a' w' => S w' ∧ ∃ x, a' = putinv6 a0 d1 d2 d3 d4 d5 d6 x1 x2 x3 x4 x5 x ∧ J b1 b2 b3 b4 b5 true x1 x2 x3 x4 x5 x w') (putinv6 a0 d1 d2 d3 d4 d5 d6 x1 x2 x3 x4 x5 x6) w)
    (hend : ∀ x1 x2 x3 x4 x5 x6 w, S w → J true true true true true true x1 x2 x3 x4 x5 x6 w → wpAnyH P md ops Q S k (mk true true true true true true) (putinv6 a0 d1 d2 d3 d4 d5 d6 x1 x2 x3 x4 x5 x6) w) :
    wpAnyH P md ops Q S (6 + k) listed a0 w0 := by
  have key : ∀ (n : Nat) b1 b2 b3 b4 b5 b6 x1 x2 x3 x4 x5 x6 w, (!b1).toNat + (!b2).toNat + (!b3).toNat + (!b4).toNat + (!b5).toNat + (!b6).toNat = n → S w → J b1 b2 b3 b4 b5 b6 x1 x2 x3 x4 x5 x6 w → wpAnyH P md ops Q S (n + k) (mk b1 b2 b3 b4 b5 b6) (putinv6 a0 d1 d2 d3 d4 d5 d6 x1 x2 x3 x4 x5 x6) w := by
    intro n
    induction n with
    | zero =>
      intro b1 b2 b3 b4 b5 b6 x1 x2 x3 x4 x5 x6 w hn hS hJ
      rw [Nat.zero_add]
      cases b1 <;> cases b2 <;> cases b3 <;> cases b4 <;> cases b5 <;> cases b6 <;> simp at hn
      exact hend _ _ _ _ _ _ _ hS hJ
    | succ n ih =>
      intro b1 b2 b3 b4 b5 b6 x1 x2 x3 x4 x5 x6 w hn hS hJ
      rw [Nat.succ_add]
      have hq := hr b1 b2 b3 b4 b5 b6
      have hnt : (b1 && b2 && b3 && b4 && b5 && b6) = false := by
        cases b1 <;> cases b2 <;> cases b3 <;> cases b4 <;> cases b5 <;> cases b6 <;> simp at hn ⊢
      rw [hnt, hR _ _ _ _ _ _ _ _ _ _ _ _ _ hJ, Bool.not_true, Bool.false_or, Bool.false_or, Bool.and_eq_true] at hq
      refine ⟨fun h => ?_, fun i hi => ?_⟩
      · have := hq.1; rw [h] at this; simp at this
      · have h1 := List.all_eq_true.1 hq.2 i hi
        simp only [Bool.or_eq_true] at h1
        rcases h1 with ((((h1 | h1) | h1) | h1) | h1) | h1
        · simp only [Bool.and_eq_true, beq_iff_eq, Bool.not_eq_true'] at h1
          obtain ⟨rfl, rfl⟩ := h1
          rw [m1]
          refine wpOp_mono (fun a w h => ?_) (s1 _ _ _ _ _ _ _ _ _ _ _ _ hS hJ)
          obtain ⟨h1, x, rfl, h2⟩ := h
          exact ⟨h1, ih _ _ _ _ _ _ _ _ _ _ _ _ _ (by simp at hn ⊢; omega) h1 h2⟩
        · simp only [Bool.and_eq_true, beq_iff_eq, Bool.not_eq_true'] at h1
          obtain ⟨rfl, rfl⟩ := h1
          rw [m2]
          refine wpOp_mono (fun a w h => ?_) (s2 _ _ _ _ _ _ _ _ _ _ _ _ hS hJ)
          obtain ⟨h1, x, rfl, h2⟩ := h
          exact ⟨h1, ih _ _ _ _ _ _ _ _ _ _ _ _ _ (by simp at hn ⊢; omega) h1 h2⟩
        · have hc : (b1 && b2) = true := by
            revert h1; cases b1 <;> cases b2 <;> cases b3 <;> cases b4 <;> cases b5 <;> cases b6 <;> simp
          have hb : i = i3 ∧ b3 = false := by
            revert h1; cases b1 <;> cases b2 <;> cases b3 <;> cases b4 <;> cases b5 <;> cases b6 <;> simp
          obtain ⟨rfl, rfl⟩ := hb
          rw [m3]
          refine wpOp_mono (fun a w h => ?_) (s3 _ _ _ _ _ _ _ _ _ _ _ _ hc hS hJ)
          obtain ⟨h1, x, rfl, h2⟩ := h
          exact ⟨h1, ih _ _ _ _ _ _ _ _ _ _ _ _ _ (by simp at hn ⊢; omega) h1 h2⟩
        · have hc : (b3) = true := by
            revert h1; cases b1 <;> cases b2 <;> cases b3 <;> cases b4 <;> cases b5 <;> cases b6 <;> simp
          have hb : i = i4 ∧ b4 = false := by
            revert h1; cases b1 <;> cases b2 <;> cases b3 <;> cases b4 <;> cases b5 <;> cases b6 <;> simp
          obtain ⟨rfl, rfl⟩ := hb
          rw [m4]
          refine wpOp_mono (fun a w h => ?_) (s4 _ _ _ _ _ _ _ _ _ _ _ _ hc hS hJ)
          obtain ⟨h1, x, rfl, h2⟩ := h
          exact ⟨h1, ih _ _ _ _ _ _ _ _ _ _ _ _ _ (by simp at hn ⊢; omega) h1 h2⟩
        · simp only [Bool.and_eq_true, beq_iff_eq, Bool.not_eq_true'] at h1
          obtain ⟨rfl, rfl⟩ := h1
          rw [m5]
          refine wpOp_mono (fun a w h => ?_) (s5 _ _ _ _ _ _ _ _ _ _ _ _ hS hJ)
          obtain ⟨h1, x, rfl, h2⟩ := h
          exact ⟨h1, ih _ _ _ _ _ _ _ _ _ _ _ _ _ (by simp at hn ⊢; omega) h1 h2⟩
        · have hc : (b4 && b5) = true := by
            revert h1; cases b1 <;> cases b2 <;> cases b3 <;> cases b4 <;> cases b5 <;> cases b6 <;> simp
          have hb : i = i6 ∧ b6 = false := by
            revert h1; cases b1 <;> cases b2 <;> cases b3 <;> cases b4 <;> cases b5 <;> cases b6 <;> simp
          obtain ⟨rfl, rfl⟩ := hb
          rw [m6]
          refine wpOp_mono (fun a w h => ?_) (s6 _ _ _ _ _ _ _ _ _ _ _ _ hc hS hJ)
          obtain ⟨h1, x, rfl, h2⟩ := h
          exact ⟨h1, ih _ _ _ _ _ _ _ _ _ _ _ _ _ (by simp at hn ⊢; omega) h1 h2⟩
  obtain ⟨v1, v2, v3, v4, v5, v6, h0⟩ := h0
  have := key 6 false false false false false false v1 v2 v3 v4 v5 v6 w0 rfl hS (hJ _ _ _ _ _ _)
  rw [h0, hl] at this
  exact this
end
/-- Two lists that are copied and get a number each, as far as it is done. -/
structure SplJ (B : Nat) (p0 p1 : List Int) (x z : Int) (b1 b2 b3 b4 b5 b6 : Bool) (x1 x2 x3 x4 x5 x6 : Value) (W : World) : Prop where
  o3 : b3 = true → b1 = true ∧ b2 = true
  o4 : b4 = true → b3 = true
  o6 : b6 = true → b4 = true ∧ b5 = true
  h1 : b1 = true → b3 = false → OwnI W B x1 p0
  h2 : b2 = true → b3 = false → ∃ g, x2 = .slice (some ⟨g, 0, none⟩) 1 1 ∧ W.heap[g]? = some (.cells #[.int .i64 x] 2 (0, 0)) ∧ (b1 = true → x1.ownBlock ≠ some g)
  h3 : b3 = true → OwnI W B x3 (p0 ++ [x])
  h4 : b4 = true → b6 = false → ∃ B4, OwnI W B4 x4 p1 ∧ B ≤ B4 ∧ B4 ≤ W.heap.size ∧ ∀ g, x3.ownBlock = some g → g < B4
  h5 : b5 = true → b6 = false → ∃ g, x5 = .slice (some ⟨g, 0, none⟩) 1 1 ∧ W.heap[g]? = some (.cells #[.int .i64 z] 2 (0, 0)) ∧ (b1 = true → b3 = false → x1.ownBlock ≠ some g) ∧ (b4 = true → x4.ownBlock ≠ some g)
  h6 : b6 = true → OwnI W B x6 (p1 ++ [z]) ∧ ∀ g, x3.ownBlock = some g → x6.ownBlock ≠ some g
section
variable {B : Nat} {p0 p1 : List Int} {x z : Int} {b1 b2 b3 b4 b5 b6 : Bool} {x1 x2 x3 x4 x5 x6 : Value} {W W' : World}
theorem some_lt {W : World} {g : Nat} {o : Obj} (h : W.heap[g]? = some o) : g < W.heap.size := (Array.getElem?_eq_some_iff.1 h).1
theorem SplJ.reach (h : SplJ B p0 p1 x z b1 b2 b3 b4 b5 b6 x1 x2 x3 x4 x5 x6 W) : ((!b3 || (b1 && b2)) && (!b4 || b3) && (!b6 || (b4 && b5))) = true := by
  have h3 := h.o3; have h4 := h.o4; have h6 := h.o6
  clear h
  revert h3 h4 h6
  cases b1 <;> cases b2 <;> cases b3 <;> cases b4 <;> cases b5 <;> cases b6 <;> simp
theorem SplJ.start (W : World) : SplJ B p0 p1 x z false false false false false false x1 x2 x3 x4 x5 x6 W :=
  ⟨fun e => (by cases e), fun e => (by cases e), fun e => (by cases e), fun e => (by cases e), fun e => (by cases e), fun e => (by cases e), fun e => (by cases e), fun e => (by cases e), fun e => (by cases e)⟩
theorem SplJ.one (h : SplJ B p0 p1 x z false b2 b3 b4 b5 b6 x1 x2 x3 x4 x5 x6 W) (hB : B ≤ W.heap.size) {v : Value} (hv : OwnI W' W.heap.size v p0) (hb : Below W.heap.size W W') : SplJ B p0 p1 x z true b2 b3 b4 b5 b6 v x2 x3 x4 x5 x6 W' := by
  have e3 : b3 = false := by cases b3; rfl; exact absurd (h.o3 rfl).1 (by decide)
  subst e3
  have e4 : b4 = false := by cases b4; rfl; exact absurd (h.o4 rfl) (by decide)
  subst e4
  have e6 : b6 = false := by cases b6; rfl; exact absurd (h.o6 rfl).1 (by decide)
  subst e6
  have far : ∀ g, g < W.heap.size → v.ownBlock ≠ some g := fun g hg e => by have := (World.ownsRow.lt hv g e).1; omega
  refine ⟨fun e => (by cases e), fun e => (by cases e), fun e => (by cases e), fun _ _ => own_base hv hB, fun e e' => ?_, fun e => (by cases e), fun e => (by cases e), fun e e' => ?_, fun e => (by cases e)⟩
  · obtain ⟨g, h1, h2, _⟩ := h.h2 e e'
    exact ⟨g, h1, (hb.block g (some_lt h2)).trans h2, fun _ => far g (some_lt h2)⟩
  · obtain ⟨g, h1, h2, _⟩ := h.h5 e e'
    exact ⟨g, h1, (hb.block g (some_lt h2)).trans h2, fun _ _ => far g (some_lt h2), fun e => (by cases e)⟩
theorem SplJ.two (h : SplJ B p0 p1 x z b1 false b3 b4 b5 b6 x1 x2 x3 x4 x5 x6 W) : SplJ B p0 p1 x z b1 true b3 b4 b5 b6 x1 (.slice (some ⟨W.heap.size, 0, none⟩) 1 1) x3 x4 x5 x6 (W.alloc (.cells #[.int .i64 x] 2)) := by
  have e3 : b3 = false := by cases b3; rfl; exact absurd (h.o3 rfl).2 (by decide)
  subst e3
  have e4 : b4 = false := by cases b4; rfl; exact absurd (h.o4 rfl) (by decide)
  subst e4
  have e6 : b6 = false := by cases b6; rfl; exact absurd (h.o6 rfl).1 (by decide)
  subst e6
  refine ⟨fun e => (by cases e), fun e => (by cases e), fun e => (by cases e), fun e e' => own_same (h.h1 e e') (alloc_old _ _), fun _ _ => ⟨_, rfl, heap_alloc_new _ _, fun e1 e2 => ?_⟩, fun e => (by cases e), fun e => (by cases e), fun e e' => ?_, fun e => (by cases e)⟩
  · have := (World.ownsRow.lt (h.h1 e1 rfl) _ e2).2; omega
  · obtain ⟨g, h1, h2, h3, h4⟩ := h.h5 e e'
    exact ⟨g, h1, (alloc_old _ _ g (some_lt h2)).trans h2, h3, h4⟩
theorem SplJ.three (h : SplJ B p0 p1 x z true true false b4 b5 b6 x1 x2 x3 x4 x5 x6 W) {v : Value} (hv : OwnI W' B v (p0 ++ [x])) (hk : ∀ g, g < W.heap.size → some g ≠ x1.ownBlock → W'.heap[g]? = W.heap[g]?) : SplJ B p0 p1 x z true true true b4 b5 b6 x1 x2 v x4 x5 x6 W' := by
  have e4 : b4 = false := by cases b4; rfl; exact absurd (h.o4 rfl) (by decide)
  subst e4
  have e6 : b6 = false := by cases b6; rfl; exact absurd (h.o6 rfl).1 (by decide)
  subst e6
  refine ⟨fun _ => ⟨rfl, rfl⟩, fun e => (by cases e), fun e => (by cases e), fun _ e => (by cases e), fun _ e => (by cases e), fun _ => hv, fun e => (by cases e), fun e e' => ?_, fun e => (by cases e)⟩
  obtain ⟨g, h1, h2, h3, h4⟩ := h.h5 e e'
  exact ⟨g, h1, (hk g (some_lt h2) (fun e => h3 rfl rfl e.symm)).trans h2, fun _ e => (by cases e), fun e => (by cases e)⟩
theorem SplJ.four (h : SplJ B p0 p1 x z b1 b2 true false b5 b6 x1 x2 x3 x4 x5 x6 W) (hB : B ≤ W.heap.size) {v : Value} (hv : OwnI W' W.heap.size v p1) (hb : Below W.heap.size W W') : SplJ B p0 p1 x z b1 b2 true true b5 b6 x1 x2 x3 v x5 x6 W' := by
  have e6 : b6 = false := by cases b6; rfl; exact absurd (h.o6 rfl).1 (by decide)
  subst e6
  have far : ∀ g, g < W.heap.size → v.ownBlock ≠ some g := fun g hg e => by have := (World.ownsRow.lt hv g e).1; omega
  refine ⟨h.o3, fun _ => rfl, fun e => (by cases e), fun _ e => (by cases e), fun _ e => (by cases e), fun e => own_same (h.h3 e) hb.block, fun _ _ => ⟨_, hv, hB, hb.size, fun g e => (World.ownsRow.lt (h.h3 rfl) g e).2⟩, fun e e' => ?_, fun e => (by cases e)⟩
  obtain ⟨g, h1, h2, h3, h4⟩ := h.h5 e e'
  exact ⟨g, h1, (hb.block g (some_lt h2)).trans h2, fun _ e => (by cases e), fun _ => far g (some_lt h2)⟩
theorem SplJ.five (h : SplJ B p0 p1 x z b1 b2 b3 b4 false b6 x1 x2 x3 x4 x5 x6 W) : SplJ B p0 p1 x z b1 b2 b3 b4 true b6 x1 x2 x3 x4 (.slice (some ⟨W.heap.size, 0, none⟩) 1 1) x6 (W.alloc (.cells #[.int .i64 z] 2)) := by
  have e6 : b6 = false := by cases b6; rfl; exact absurd (h.o6 rfl).2 (by decide)
  subst e6
  refine ⟨h.o3, h.o4, fun e => (by cases e), fun e e' => own_same (h.h1 e e') (alloc_old _ _), fun e e' => ?_, fun e => own_same (h.h3 e) (alloc_old _ _), fun e e' => ?_, fun _ _ => ⟨_, rfl, heap_alloc_new _ _, fun e1 e1' e2 => ?_, fun e1 e2 => ?_⟩, fun e => (by cases e)⟩
  · obtain ⟨g, h1, h2, h3⟩ := h.h2 e e'
    exact ⟨g, h1, (alloc_old _ _ g (some_lt h2)).trans h2, h3⟩
  · obtain ⟨B4, h1, h2, h3, h4⟩ := h.h4 e e'
    exact ⟨B4, own_same h1 (alloc_old _ _), h2, by simp; omega, h4⟩
  · have := (World.ownsRow.lt (h.h1 e1 e1') _ e2).2; omega
  · obtain ⟨B4, h1, _⟩ := h.h4 e1 rfl
    have := (World.ownsRow.lt h1 _ e2).2; omega
theorem SplJ.six (h : SplJ B p0 p1 x z true true true true true false x1 x2 x3 x4 x5 x6 W) {B4 : Nat} (hB4 : B ≤ B4) (h3 : ∀ g, x3.ownBlock = some g → g < B4) {v : Value} (hv : OwnI W' B4 v (p1 ++ [z])) (hb : Below B4 W W') : SplJ B p0 p1 x z true true true true true true x1 x2 x3 x4 x5 v W' :=
  ⟨fun _ => ⟨rfl, rfl⟩, fun _ => rfl, fun _ => ⟨rfl, rfl⟩, fun _ e => (by cases e), fun _ e => (by cases e), fun e => own_kept (h.h3 e) (fun g e => hb.block g (h3 g e)), fun _ e => (by cases e), fun _ e => (by cases e),
    fun _ => ⟨own_base hv hB4, fun g e e2 => by have := h3 g e; have := (World.ownsRow.lt hv g e2).1; omega⟩⟩
/-- The pair of what was made. -/
theorem SplJ.pair (h : SplJ B p0 p1 x z true true true true true true x1 x2 x3 x4 x5 x6 W) (hB : B ≤ W.heap.size) : OwnU (W.alloc (.cells #[x3, x6] 27)) B (.slice (some ⟨W.heap.size, 0, none⟩) 2 2) [x3, x6] [p0 ++ [x], p1 ++ [z]] := by
  refine ⟨World.ownsRow_lit (e := 27) (size := 1) W #[x3, x6] 2 hB (by unfold maxLen; omega) rfl, fun i u xs hu hx => ?_, fun i j u u' hij hu hu' => ?_⟩
  · match i, hu, hx with
    | 0, hu, hx => simp at hu hx; subst hu; subst hx; exact own_same (h.h3 rfl) (alloc_old _ _)
    | 1, hu, hx => simp at hu hx; subst hu; subst hx; exact own_same (h.h6 rfl).1 (alloc_old _ _)
  · match i, j, hu, hu' with
    | 0, 1, hu, hu' =>
      simp at hu hu'; subst hu; subst hu'
      cases hb : x3.ownBlock with
      | none => exact .inl rfl
      | some g => exact .inr fun e => (h.h6 rfl).2 g hb e.symm
    | 0, 0, _, _ => omega
    | 1, 0, _, _ => omega
    | 1, 1, _, _ => omega
    | _ + 2, _, hu, _ => simp at hu
    | _, j + 2, _, hu' => simp at hu'
end
end Go.Proofs.Ytljfpkhgijangaa

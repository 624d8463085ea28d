/- Products of pairs: of the program. -/
import Derived.Test.YtmnkccjddahcjaaGreatLPrO
import Derived.Test.YtmnkccjddahcjaaGreatLJoin
import Derived.Test.YtmnkccjddahcjaaGreatLMulD
import Derived.Test.YtmnkccjddahcjaaGreatLStep2
import Derived.Test.YtmnkccjddahcjaaGreatLGen
import Derived.Deep.DeepCutAuto
namespace Go.Proofs.YtmnkccjddahcjaaGreat
open Go.RowKit Go.Sort

/-- A pair of lists of numbers of at least 0 that are not great. -/
def PrS (b : Int) (l : Nat) (q : List (List Int)) : Prop := ∃ x y, q = [x, y] ∧ (Sm b x ∧ x.length ≤ l) ∧ Sm b y ∧ y.length ≤ l
theorem PrS.pr {b : Int} {l : Nat} {q : List (List Int)} (h : PrS b l q) : IsPr q := by
  obtain ⟨x, y, rfl, h1, h2⟩ := h
  exact ⟨x, y, rfl, fun z hz => (h1.1 z hz).1⟩
theorem PrS.mono {b c : Int} {l m : Nat} {q : List (List Int)} (h : PrS b l q) (hb : b ≤ c) (hl : l ≤ m) : PrS c m q := by
  obtain ⟨x, y, rfl, ⟨h1, h2⟩, h3, h4⟩ := h
  exact ⟨x, y, rfl, ⟨fun z hz => ⟨(h1 z hz).1, Int.le_trans (h1 z hz).2 hb⟩, by omega⟩, fun z hz => ⟨(h3 z hz).1, Int.le_trans (h3 z hz).2 hb⟩, by omega⟩
def pjoin (p q : List (List Int)) : List (List Int) := [joinL (p.getD 0 []) (q.getD 0 []), joinL (p.getD 1 []) (q.getD 1 [])]
def prodP (A B : List (List (List Int))) : List (List (List Int)) := A.flatMap fun p => B.map fun q => pjoin p q
theorem prodP_take (A B : List (List (List Int))) (i : Nat) (h : i < A.length) : prodP (A.take (i + 1)) B = prodP (A.take i) B ++ B.map (pjoin A[i]) := by
  unfold prodP
  rw [List.take_succ_eq_append_getElem h, List.flatMap_append]
  simp
theorem prodP_length (A B : List (List (List Int))) : (prodP A B).length = A.length * B.length := by
  induction A with
  | nil => simp [prodP]
  | cons p A ih =>
    show (B.map (pjoin p) ++ prodP A B).length = _
    rw [List.length_append, ih, List.length_map, List.length_cons, Nat.add_mul]; omega
theorem pjoin_pr {b c : Int} {l m : Nat} {p q : List (List Int)} (hp : PrS b l p) (hq : PrS c m q) : IsPr (pjoin p q) := by
  obtain ⟨x, y, rfl, h1, h2⟩ := hp
  obtain ⟨z, t, rfl, h3, h4⟩ := hq
  refine ⟨_, _, rfl, fun n hn => ?_⟩
  unfold joinL at hn
  obtain ⟨i, hi, rfl⟩ := List.mem_map.1 hn
  have a1 : 0 ≤ x.getD i 0 := by
    by_cases hi : i < x.length
    · rw [show x.getD i 0 = x[i] by simp [hi]]; exact (h1.1 _ (List.getElem_mem hi)).1
    · rw [show x.getD i 0 = 0 by simp [hi]]; omega
  have a2 : 0 ≤ z.getD i 0 := by
    by_cases hi : i < z.length
    · rw [show z.getD i 0 = z[i] by simp [hi]]; exact (h3.1 _ (List.getElem_mem hi)).1
    · rw [show z.getD i 0 = 0 by simp [hi]]; omega
  show 0 ≤ x.getD i 0 + z.getD i 0
  omega
theorem prodP_pr {b c : Int} {l m : Nat} {A B : List (List (List Int))} (hA : ∀ p ∈ A, PrS b l p) (hB : ∀ q ∈ B, PrS c m q) : ∀ x ∈ prodP A B, IsPr x := fun x hx => by
  obtain ⟨p, hp, hx⟩ := List.mem_flatMap.1 hx
  obtain ⟨q, hq, rfl⟩ := List.mem_map.1 hx
  exact pjoin_pr (hA p hp) (hB q hq)
theorem IntSS.two {w : World} {v : Value} {x y : List Int} (a : IntSS w.heap v [x, y]) :
    ∃ g off cap xa xc ya yc, v = .slice (some ⟨g, off, none⟩) 2 cap ∧ w.cell? ⟨g, off, none⟩ = some (.slice xa x.length xc) ∧ w.cell? ⟨g, off + 1, none⟩ = some (.slice ya y.length yc) ∧ IntS w.heap (.slice xa x.length xc) x ∧ IntS w.heap (.slice ya y.length yc) y := by
  obtain ⟨b, off, cap, u, hv, hc, hu, -⟩ := a.at 0 (by simp)
  obtain ⟨b2, off2, cap2, u2, hv2, hc2, hu2, -⟩ := a.at 1 (by simp)
  subst hv
  simp only [Value.slice.injEq, Option.some.injEq, Addr.mk.injEq, true_and, and_true] at hv2
  obtain ⟨⟨rfl, rfl⟩, rfl⟩ := hv2
  have e1 : ([x, y] : List (List Int))[0] = x := rfl
  have e2 : ([x, y] : List (List Int))[1] = y := rfl
  rw [e1] at hu; rw [e2] at hu2
  obtain ⟨xa, xc, rfl, -⟩ := hu.len
  obtain ⟨ya, yc, rfl, -⟩ := hu2.len
  exact ⟨b, off, cap, xa, xc, ya, yc, rfl, hc, hc2, hu, hu2⟩
theorem two_row {W : World} {u v : Value} {x y : List Int} (h : IntS W.heap u x) (k : IntS W.heap v y) : IntSS (W.alloc (.cells #[u, v] 56)).heap (.slice (some ⟨W.heap.size, 0, none⟩) 2 2) [x, y] := by
  refine ⟨[u, v], .inr ⟨W.heap.size, 0, 2, #[u, v], rfl, heap_alloc_new W _, by simp, by unfold maxLen; omega, by simp, by simp⟩, rfl, fun i z zs hz hzs => ?_⟩
  match i, hz, hzs with
  | 0, hz, hzs =>
    simp at hz hzs
    subst hz; subst hzs; exact h.same (alloc_old W _)
  | 1, hz, hzs =>
    simp at hz hzs
    subst hz; subst hzs; exact k.same (alloc_old W _)
theorem pair_in {W : World} {u v : Value} {o : Obj} {x y : List Int} (h : IntS W.heap u x) (k : IntS W.heap v y) : IntSS ((W.alloc (.cells #[u, v] 56)).alloc o).heap (.slice (some ⟨W.heap.size, 0, none⟩) 2 2) [x, y] :=
  (two_row h k).same (alloc_old _ _)
theorem below_calls {wr W2 W3 : World} {o o' : Obj} (h0 : Below wr.drew.heap.size wr.drew W2) (h1 : Below W2.heap.size W2 W3) : Below wr.heap.size wr ((W3.alloc o).alloc o') := by
  have hz : wr.heap.size ≤ W2.heap.size := h0.size
  have hb : Below wr.heap.size wr W3 := ((Below.refl wr.heap.size wr).drew.trans h0).trans (h1.mono hz)
  exact (hb.alloc hb.size _).alloc (Nat.le_trans hb.size (by simp)) _
theorem heap_alloc2 (W : World) (o o' : Obj) : ((W.alloc o).alloc o').heap[W.heap.size + 1]? = some o' := by
  have := heap_alloc_new (W.alloc o) o'
  rwa [show (W.alloc o).heap.size = W.heap.size + 1 by simp] at this
theorem heldC4T {x1 x2 x3 x4 : Value} {g1 g2 g3 g4 : Addr} {w0 W W' : World} {B : Nat} (h : W.cell? g1 = some x1 ∧ W.cell? g2 = some x2 ∧ W.cell? g3 = some x3 ∧ W.cell? g4 = some x4 ∧ Below B w0 W) (hb : Below W.heap.size W W') (hB : B ≤ W.heap.size) : W'.cell? g1 = some x1 ∧ W'.cell? g2 = some x2 ∧ W'.cell? g3 = some x3 ∧ W'.cell? g4 = some x4 ∧ Below B w0 W' :=
  ⟨(hb.cell (World.block_lt_of_cell? _ _ h.1)).trans h.1, (hb.cell (World.block_lt_of_cell? _ _ h.2.1)).trans h.2.1, (hb.cell (World.block_lt_of_cell? _ _ h.2.2.1)).trans h.2.2.1, (hb.cell (World.block_lt_of_cell? _ _ h.2.2.2.1)).trans h.2.2.2.1, h.2.2.2.2.trans (hb.mono hB)⟩
theorem heldC4U {x1 x2 x3 x4 : Value} {g1 g2 g3 g4 : Addr} {w0 W W' : World} {B : Nat} (h : W.cell? g1 = some x1 ∧ W.cell? g2 = some x2 ∧ W.cell? g3 = some x3 ∧ W.cell? g4 = some x4 ∧ Below B w0 W) (hb : Below W.heap.size W W') (hB : B ≤ w0.heap.size) : W'.cell? g1 = some x1 ∧ W'.cell? g2 = some x2 ∧ W'.cell? g3 = some x3 ∧ W'.cell? g4 = some x4 ∧ Below B w0 W' :=
  heldC4T h hb (Nat.le_trans hB h.2.2.2.2.size)
theorem heldC4Y {x1 x2 x3 x4 : Value} {g1 g2 g3 g4 : Addr} {w0 W : World} {B : Nat} (h : W.cell? g1 = some x1 ∧ W.cell? g2 = some x2 ∧ W.cell? g3 = some x3 ∧ W.cell? g4 = some x4 ∧ Below B w0 W) : Below B w0 W := h.2.2.2.2
section
variable {ops : Array Oper} {rest : List Oper} {o : Oper} {a : Act} {Q : Exit → Act → World → Prop} {K : Act → World → Prop} {E : Prop}
theorem RefSS.append {w w' wE : World} {B : Nat} {v v' u : Value} {us : List Value} {xsss : List (List (List Int))} {xss : List (List Int)} (hR : RefSS wE B wE.heap v us xsss) (hE : Below wE.heap.size wE w) (hu : IntSS w.heap u xss)
    (h1 : w'.ownsRow B 22 1 v' (xsss.length + 1) (us ++ [u])) (h4 : ∀ b, b < w.heap.size → some b ≠ v.ownBlock → w'.heap[b]? = w.heap[b]?) : RefSS w' B w'.heap v' (us ++ [u]) (xsss ++ [xss]) := by
  have hk := KeepT.grown (own_same hR.row hE.block) h4
  refine ⟨by simpa using h1, fun i y ys hy hz => ?_⟩
  have hl := hR.len
  by_cases hi : i < us.length
  · rw [List.getElem?_append_left hi] at hy
    rw [List.getElem?_append_left (by omega)] at hz
    exact ((hR.each i y ys hy hz).same hE.block).keepT (by decide) (by decide) hk
  · rw [List.getElem?_append_right (by omega)] at hy hz
    rw [← hl] at hz
    obtain ⟨m, hm⟩ : ∃ m, i - us.length = m := ⟨_, rfl⟩
    rw [hm] at hy hz
    match m, hy, hz with
    | 0, hy, hz =>
      simp at hy hz
      subst hy; subst hz; exact hu.keepT (by decide) (by decide) hk
/-- 'append(out, x)' at a step of a region that draws. -/
theorem step_append_refSS {w w0 wE : World} (hg : o.guard = none) (s x : Operand)
    (ho : o.op = .call { callee := .builtin .append, args := #[s, x], argTypes := #[42, 42] })
    (B : Nat) (v u : Value) (us : List Value) (xsss : List (List (List Int))) (xss : List (List Int)) (hR : RefSS wE B wE.heap v us xsss) (hs : a.eval s = v) (hu : IntSS w.heap u xss) (hE : Below wE.heap.size wE w) (hbl : Below B w0 wE) (hB : B ≤ wE.heap.size)
    (b : Nat) (hx : a.eval x = .slice (some ⟨b, 0, none⟩) 1 1) (hb : w.heap[b]? = some (.cells #[u] 22 (0, 0))) (hn : xsss.length < 4398046511104)
    (hK : ∀ v' us' w', RefSS w' B w'.heap v' us' (xsss ++ [xss]) → Below B w0 w' → w.heap.size ≤ w'.heap.size → (∀ b, b < w.heap.size → some b ≠ v.ownBlock → w'.heap[b]? = w.heap[b]?) → K (a.put o.dst v') w') :
    if Region.wanted o (yielded ops a.tmps) = true then Oper.wp Tryz.prog o a w K Q else E := by
  obtain ⟨i0, hi, hz0, hz1, hz2⟩ := info_parts info_slSS
  refine step_append_all hg s x _ ho B _ i0 _ 24 Tryz.underlying42 hi hz0 hz1 hz2 rfl (by omega) v _ _ _ [u] (own_same hR.row hE.block) hs (slAt_one hb) hx (hbl.trans (hE.mono hB)) (Nat.le_trans hB hE.size) (fun z hz => ?_) (by simp; omega) ?_
  · rw [List.mem_singleton] at hz; rw [hz]; exact intSS_oneCell hu
  · intro v' w' h1 h2 h3 h4
    exact hK v' _ w' (hR.append hE hu (by simpa using h1) h4) h2 h3 h4
end
set_option maxRecDepth 100000 in
set_option maxHeartbeats 1000000 in
theorem multiplyPairs_c (v u : Value) (A C : List (List (List Int))) (w : World) (h : IntSSS w.heap v A) (hu : IntSSS w.heap u C) (ha : ∀ p ∈ A, PrS 1000000000000000 4398046511104 p) (hc : ∀ p ∈ C, PrS 1000000000000000 4398046511104 p) (hl : A.length * C.length ≤ 4398046511104) :
    Calls Tryz.prog 232 #[v, u] w fun e w' => ∃ r us, e = .returned r ∧ RefSS w' w.heap.size w'.heap r us (oddP (prodP A C)) ∧ Below w.heap.size w w' := by
  have OP := Lib.hid (fun (v : Value) (us : List Value) (B : Nat) (W : World) (hR : RefSS W B W.heap v us (prodP A C)) (hB : B ≤ W.heap.size) => oddPairs_c v us (prodP A C) B W hR hB (by rw [prodP_length]; exact hl) (prodP_pr ha hc))
  obtain ⟨ao, c, rfl, hla⟩ := h.len
  obtain ⟨bo, d, rfl, hlb⟩ := hu.len
  have H := Lib.hid h; have HU := Lib.hid hu
  have HA := Lib.hid ha; have HC := Lib.hid hc; have HL := Lib.hid hl
  clear h hu ha hc hl
  go_enter Tryz.func232, Tryz.ntmps232
  go_wp2_with fail
  go_loopw [5, 13] (fun o i wr => ∃ (x : Nat) (us : List Value), x ≤ A.length ∧ i = .int .i64 x ∧ RefSS wr w.heap.size wr.heap o us (prodP (A.take x) C) ∧ Below w.heap.size w wr) (fun _ i _ => A.length - (intOf i).toNat)
  case atStart => exact ⟨0, [], Nat.zero_le _, rfl, refSS_empty _ (Nat.le_refl _), (Below.refl _ _).alloc (Nat.le_refl _) _⟩
  case round =>
    obtain ⟨x, us, hx, rfl, hU, hbl⟩ := hrel
    obtain ⟨va, vn, vc, rfl⟩ := own_shape hU.row
    have HO := Lib.hid hU; have HBL := Lib.hid hbl
    by_cases hxl : x < A.length
    · obtain ⟨b1, o1, c1, u1, hv1, hc1, hu1, -⟩ := H.out.at x hxl
      simp only [Value.slice.injEq, true_and] at hv1
      obtain ⟨rfl, rfl⟩ := hv1
      have hcx := (hbl.cell (World.block_lt_of_cell? _ _ hc1)).trans hc1
      have HSX := Lib.hid (prodP_take A C x hxl)
      have HLX : Hid (∀ y, y < C.length → (prodP (A.take x) C ++ (C.take y).map (pjoin A[x])).length < 4398046511104) := fun y hy => by
        show _ < _
        rw [List.length_append, prodP_length, List.length_map, List.length_take, List.length_take, Nat.min_eq_left hx, Nat.min_eq_left (by omega)]
        have h1 : (x + 1) * C.length ≤ A.length * C.length := Nat.mul_le_mul_right _ (by omega)
        rw [Nat.add_mul] at h1
        have := HL.out; omega
      obtain ⟨p0, p1, hpe, hp0, hp1⟩ := HA.out _ (List.getElem_mem hxl)
      rw [hpe] at hu1
      obtain ⟨g1, f1, d1, xa, xc, ya, yc, rfl, k1, k2, hi1, hi2⟩ := hu1.two
      have HK1 := Lib.hid k1; have HK2 := Lib.hid k2
      have HI1 := Lib.hid hi1; have HI2 := Lib.hid hi2
      have HP0 := Lib.hid hp0; have HP1 := Lib.hid hp1
      have hxi : (x : Int) < A.length := by omega
      rw [hpe] at HSX HLX
      clear hc1 hu1 hU hbl k1 k2 hi1 hi2 hp0 hp1 hpe
      go_wp2_with fail
      go_loopw [5, 19] (fun o j wk => ∃ (y : Nat) (us : List Value), y ≤ C.length ∧ j = .int .i64 y ∧ RefSS wk w.heap.size wk.heap o us (prodP (A.take x) C ++ (C.take y).map (pjoin [p0, p1])) ∧ Below w.heap.size w wk) (fun _ j _ => C.length - (intOf j).toNat)
      case atStart => exact ⟨0, us, Nat.zero_le _, rfl, by simpa using HO.out, HBL.out⟩
      case round =>
        obtain ⟨y, us2, hy, rfl, hU2, hbl2⟩ := hrel
        obtain ⟨ta, tn, tc, rfl⟩ := own_shape hU2.row
        have HO2 := Lib.hid hU2; have HBL2 := Lib.hid hbl2
        by_cases hyl : y < C.length
        · obtain ⟨b2, o2, c2, u2, hv2, hc2, hu2, -⟩ := HU.out.at y hyl
          simp only [Value.slice.injEq, true_and] at hv2
          obtain ⟨rfl, rfl⟩ := hv2
          have hcy := (hbl2.cell (World.block_lt_of_cell? _ _ hc2)).trans hc2
          have HLY := Lib.hid (HLX.out y hyl)
          have HS2 : Hid (prodP (A.take x) C ++ (C.take (y + 1)).map (pjoin [p0, p1]) = (prodP (A.take x) C ++ (C.take y).map (pjoin [p0, p1])) ++ [pjoin [p0, p1] C[y]]) := by
            show _ = _
            rw [List.take_succ_eq_append_getElem hyl, List.map_append, List.append_assoc]; rfl
          obtain ⟨q0, q1, hqe, hq0, hq1⟩ := HC.out _ (List.getElem_mem hyl)
          rw [hqe] at hu2 HS2
          obtain ⟨g2, f2, d2, za, zc, sa, sc, rfl, k3, k4, hi3, hi4⟩ := hu2.two
          have HI3 := Lib.hid hi3; have HI4 := Lib.hid hi4
          have HQ0 := Lib.hid hq0; have HQ1 := Lib.hid hq1
          have m1 := (hbl2.cell (World.block_lt_of_cell? _ _ HK1.out)).trans HK1.out
          have m2 := (hbl2.cell (World.block_lt_of_cell? _ _ HK2.out)).trans HK2.out
          have m3 := (hbl2.cell (World.block_lt_of_cell? _ _ k3)).trans k3
          have m4 := (hbl2.cell (World.block_lt_of_cell? _ _ k4)).trans k4
          have l1 := World.block_lt_of_cell? _ _ HK1.out
          have l2 := World.block_lt_of_cell? _ _ k3
          simp only at l1 l2
          have hsz := hbl2.size
          have hyi : (y : Int) < C.length := by omega
          have AD0 := Lib.hid (fun (W : World) (h : Below w.heap.size wr W) => added_c (.slice xa p0.length xc) (.slice za q0.length zc) p0 q0 W (HI1.out.same (hbl2.trans h).block) (HI3.out.same (hbl2.trans h).block) HP0.out.1 HQ0.out.1 HP0.out.2 HQ0.out.2)
          have AD1 := Lib.hid (fun (W : World) (h : Below w.heap.size wr W) => added_c (.slice ya p1.length yc) (.slice sa q1.length sc) p1 q1 W (HI2.out.same (hbl2.trans h).block) (HI4.out.same (hbl2.trans h).block) HP1.out.1 HQ1.out.1 HP1.out.2 HQ1.out.2)
          clear hU2 hbl2 hc2 hu2 k3 k4 hi3 hi4 hq0 hq1 hqe
          generalize prodP (A.take x) C ++ (C.take y).map (pjoin [p0, p1]) = os at *
          go_wp2_with fail
          go_region_held3 (fun W => W.cell? ⟨g1, f1, none⟩ = some (.slice xa p0.length xc) ∧ W.cell? ⟨g1, f1 + 1, none⟩ = some (.slice ya p1.length yc) ∧ W.cell? ⟨g2, f2, none⟩ = some (.slice za q0.length zc) ∧ W.cell? ⟨g2, f2 + 1, none⟩ = some (.slice sa q1.length sc) ∧ Below w.heap.size wr W)
            (first | exact ⟨m1, m2, m3, m4, (Below.refl _ _).drew⟩ | exact heldC4U (by assumption) hx0 hsz | exact heldC4U (by assumption) hx1 hsz | exact heldC4U (by assumption) ((Below.refl _ _).alloc (Nat.le_refl _) _) hsz | exact ⟨(hb6.cell l1).trans m1, (hb6.cell l1).trans m2, (hb6.cell l2).trans m3, (hb6.cell l2).trans m4, hb6⟩ | fail)
            (first | (go_at_call 203; (with_reducible refine (AD0.out _ (heldC4Y (by assumption))).mono ?_); rintro e W2 ⟨r0, rfl, hs0, hx0⟩; obtain ⟨ra, rn, rc, rfl⟩ := own_shape hs0) | (go_at_call 203; (with_reducible refine (AD1.out _ (heldC4Y (by assumption))).mono ?_); rintro e W3 ⟨r1, rfl, hs1, hx1⟩; obtain ⟨rb, rm, rd, rfl⟩ := own_shape hs1) | (refine step_append_refSS (w0 := wr) (wE := wr) (by rfl) _ _ (by rfl) w.heap.size _ (.slice (some ⟨W3.heap.size, 0, none⟩) 2 2) us2 _ [joinL p0 q0, joinL p1 q1] HO2.out (by rfl) (pair_in (hs0.ints.same hx1.block) hs1.ints) (below_calls hx0 hx1) (Below.refl _ wr) hsz (W3.heap.size + 1) (by rfl) (heap_alloc2 _ _ _) HLY.out ?_; intro v6 us6 w6 hU6 hb6 hs6 hk6; obtain ⟨qa, qn, qc, rfl⟩ := own_shape hU6.row) | fail)
          all_goals
            have HU6 := Lib.hid hU6
            have HB6 := Lib.hid (HBL2.out.trans hb6)
            clear hU6 hb6 hs6 hk6 hx0 hx1 hs0 hs1 m1 m2 m3 m4
            go_wp2_with fail
            go_roundw
            case rel => exact ⟨y + 1, _, by omega, by go_num, by rw [HS2.out]; exact HU6.out, HB6.out⟩
            case measure => simp [intOf]; omega
        · obtain rfl : y = C.length := by omega
          rw [List.take_length, ← HSX.out] at HO2
          clear hU2 hbl2
          go_wp2_with fail
          go_roundw
          case rel => exact ⟨x + 1, us2, by omega, by go_num, HO2.out, HBL2.out⟩
          case measure => simp [intOf]; omega
    · obtain rfl : x = A.length := by omega
      rw [List.take_length] at hU
      have hsz := hbl.size
      have OP1 := Lib.hid (OP.out _ _ _ wr hU hsz)
      clear hU HO
      go_wp2_with (go_at_call 185; refine OP1.out.mono ?_; rintro e w2 ⟨r, us3, rfl, hR3, hb3, hk3⟩; obtain ⟨qa, qn, qc, rfl⟩ := own_shape hR3.row)
      go_ret
      exact ⟨_, _, rfl, ⟨own_base hR3.row hsz, hR3.each⟩, HBL.out.trans hb3⟩
end Go.Proofs.YtmnkccjddahcjaaGreat

/- Draws: the reference's source of numbers. -/
import Derived.Test.YtljfpkhgijangaaBase
import Derived.Test.YtljfpkhgijangaaFn
import Derived.Test.YtljfpkhgijangaaLib2
import Derived.Test.YtljfpkhgijangaaLib3
namespace Go.Proofs.Ytljfpkhgijangaa
open Go.RowKit Go.Sort

theorem wf_u8 {n : Int} (h : (Lit.int .u8 n).wf = true) : 0 ≤ n ∧ n < 256 := by
  simp [Lit.wf] at h
  have h1 : IntKind.u8.min = 0 := by decide
  have h2 : IntKind.u8.max = 255 := by decide
  omega
/-- A slice of n bytes that is read. -/
def ByteS (w : World) (v : Value) (n : Nat) : Prop := ∃ ao c, v = .slice ao n c ∧ n ≤ 9223372036854775807 ∧ ∀ i, i < n → ∃ b off x, ao = some ⟨b, off, none⟩ ∧ w.cell? ⟨b, off + i, none⟩ = some (.int .u8 ((x : Nat) : Int)) ∧ x < 256
theorem ByteS.same {w w' : World} {v : Value} {n : Nat} (a : ByteS w v n) (k : ∀ b, b < w.heap.size → w'.heap[b]? = w.heap[b]?) : ByteS w' v n := by
  obtain ⟨ao, c, h1, h2, h3⟩ := a
  refine ⟨ao, c, h1, h2, fun i hi => ?_⟩
  obtain ⟨b, off, x, e, hc, hx⟩ := h3 i hi
  exact ⟨b, off, x, e, (World.cell?_of_block (k b (World.block_lt_of_cell? _ _ hc))).trans hc, hx⟩
theorem ByteS.len {w : World} {v : Value} {n : Nat} (a : ByteS w v n) : ∃ ao c, v = .slice ao n c ∧ n ≤ 9223372036854775807 := by
  obtain ⟨ao, c, h1, h2, _⟩ := a
  exact ⟨ao, c, h1, h2⟩
theorem ByteS.at {w : World} {v : Value} {n : Nat} (a : ByteS w v n) (i : Nat) (hi : i < n) :
    ∃ b off c x, v = .slice (some ⟨b, off, none⟩) n c ∧ w.cell? ⟨b, off + i, none⟩ = some (.int .u8 ((x : Nat) : Int)) ∧ x < 256 := by
  obtain ⟨ao, c, h1, h2, h3⟩ := a
  obtain ⟨b, off, x, rfl, hc, hx⟩ := h3 i hi
  exact ⟨b, off, c, x, h1, hc, hx⟩
theorem byteS_of {w : World} {a : Option Addr} {len cap : Nat} {zs : List Int} (h : IsRow .u8 w a len cap zs) : ByteS w (.slice a len cap) len := by
  rcases h with ⟨rfl, rfl, rfl, rfl⟩ | ⟨x, rfl, h1, h2, h3, h4, h5⟩
  · exact ⟨none, 0, rfl, by omega, fun i hi => by omega⟩
  · refine ⟨some x, cap, rfl, by unfold maxLen at h2; omega, fun i hi => ?_⟩
    have h6 := h4 i (by omega)
    obtain ⟨b, off, spot⟩ := x
    cases spot with
    | some s =>
      have h7 := h4 0 (by omega)
      rw [show (⟨b, off, some s⟩ : Addr).add 0 = ⟨b, off, some s⟩ by simp [Addr.add], cell_spot] at h7; cases h7
    | none =>
      rw [Addr.add_lit] at h6
      have h8 := h5 _ (show zs.getD i 0 ∈ zs by rw [show zs.getD i 0 = zs[i]'(by omega) by simp [show i < zs.length by omega]]; exact List.getElem_mem _)
      have h9 : 0 ≤ zs.getD i 0 ∧ zs.getD i 0 < 256 := wf_u8 h8
      refine ⟨b, off, (zs.getD i 0).toNat, rfl, ?_, by omega⟩
      rw [h6, show (((zs.getD i 0).toNat : Nat) : Int) = zs.getD i 0 by omega]
/-- A source of numbers in block g, made since the world w0. -/
structure Src (w0 w : World) (g : Nat) : Prop where
  cells : ∃ (code : Value) (n p : Nat) (hash : Int), w.heap[g]? = some (.cells #[code, .int .i64 p, .int .u64 hash] 137 (0, 0)) ∧ ByteS w0 code n ∧ n ≤ 4096 ∧ p ≤ n
  ge : w0.heap.size ≤ g
  below : Below w0.heap.size w0 w
theorem Src.lt {w0 w : World} {g : Nat} (h : Src w0 w g) : g < w.heap.size := by
  obtain ⟨code, n, p, hash, h1, _⟩ := h.cells
  exact (Array.getElem?_eq_some_iff.1 h1).1
theorem Src.step {w0 w w' : World} {g : Nat} (h : Src w0 w g) (k : Below w.heap.size w w') : Src w0 w' g := by
  obtain ⟨code, n, p, hash, h1, h2⟩ := h.cells
  exact ⟨⟨code, n, p, hash, (k.block g h.lt).trans h1, h2⟩, h.ge, h.below.trans (k.mono h.below.size)⟩
theorem and24 (y : Int) : 0 ≤ bits .and .u64 y 16777215 ∧ bits .and .u64 y 16777215 ≤ 16777215 := by
  have h : (BitVec.ofInt 64 y &&& BitVec.ofInt 64 16777215).toNat ≤ 16777215 := by
    rw [BitVec.toNat_and]
    exact Nat.le_trans Nat.and_le_right (by decide)
  have e : bits .and .u64 y 16777215 = IntKind.u64.wrap ((BitVec.ofInt 64 y &&& BitVec.ofInt 64 16777215).toNat : Int) := rfl
  rw [e, IntKind.wrap_u64]
  omega
theorem l01Next_zero (g : Nat) (n : Int) (w : World) (hn : n < 1) :
    Calls Try.prog 74 #[.pointer (some ⟨g, 0, none⟩), .int .i64 n] w fun e w' => e = .returned (.int .i64 0) ∧ w = w' := by
  go_enter Try.func74, Try.ntmps74
  go_wp2_with fail
  go_ret
  exact ⟨rfl, rfl⟩
/-- A variable of three cells. -/
def Var3 (w : World) (g : Nat) (x y z : Value) (t : Nat) : Prop := w.heap[g]? = some (.cells #[x, y, z] t (0, 0))
section
variable {w w' : World} {g t : Nat} {x y z : Value}
theorem Var3.c0 (h : Var3 w g x y z t) : w.cell? ⟨g, 0, none⟩ = some x := by rw [World.cell?]; simp only [show w.heap[g]? = _ from h]; rfl
theorem Var3.c1 (h : Var3 w g x y z t) : w.cell? ⟨g, 1, none⟩ = some y := by rw [World.cell?]; simp only [show w.heap[g]? = _ from h]; rfl
theorem Var3.c2 (h : Var3 w g x y z t) : w.cell? ⟨g, 2, none⟩ = some z := by rw [World.cell?]; simp only [show w.heap[g]? = _ from h]; rfl
theorem Var3.free (h : Var3 w g x y z t) (j : Nat) : w.frozen? ⟨g, j, none⟩ = false := by rw [World.frozen?]; simp only [show w.heap[g]? = _ from h]; simp
theorem Var3.lt (h : Var3 w g x y z t) : g < w.heap.size := (Array.getElem?_eq_some_iff.1 h).1
theorem Var3.set1 (h : Var3 w g x y z t) (u : Value) : Var3 (w.setCell ⟨g, 1, none⟩ u) g x u z t := heap_setCell_same w g 1 _ t u h
theorem Var3.set2 (h : Var3 w g x y z t) (u : Value) : Var3 (w.setCell ⟨g, 2, none⟩ u) g x y u t := heap_setCell_same w g 2 _ t u h
theorem Var3.drewN (n : Nat) (h : Var3 w g x y z t) : Var3 (w.drewN n) g x y z t := h
end
theorem grown_drewN {w w' : World} {r : Option Nat} (n : Nat) (h : w.grownBy w' r) : w.grownBy (w'.drewN n) r := ⟨h.os, h.tape, h.output, h.size, h.block⟩
theorem Src.mk3 {w0 w w' : World} {g p n : Nat} {code : Value} {hash : Int} (hbl : Below w0.heap.size w0 w) (hge : w0.heap.size ≤ g) (hg : w.grownBy w' (some g)) (k : Var3 w' g code (.int .i64 p) (.int .u64 hash) 137) (hco : ByteS w0 code n) (hn : n ≤ 4096) (hp : p ≤ n) : Src w0 w' g :=
  ⟨⟨code, n, p, hash, k, hco, hn, hp⟩, hge, hbl.grown hg hbl.size fun b hb => by cases hb; exact hge⟩
theorem wrap64_small {X : Int} (h : 0 ≤ X ∧ X ≤ 16777215) : wrap64 X = X := by unfold wrap64; omega
set_option maxRecDepth 100000 in
theorem l01Next_pos (g : Nat) (n : Int) (w0 w : World) (h : Src w0 w g) (hn : 1 ≤ n) (hn2 : n ≤ 9223372036854775807) :
    Calls Try.prog 74 #[.pointer (some ⟨g, 0, none⟩), .int .i64 n] w fun e w' => ∃ r : Int, e = .returned (.int .i64 r) ∧ (0 ≤ r ∧ r < n) ∧ Src w0 w' g ∧ w.grownBy w' (some g) := by
  obtain ⟨⟨code, m, p, hash, hc, hco, hm, hp⟩, hge, hbl⟩ := h
  have HC := Lib.hid hc; have HCO := Lib.hid hco; have HB := Lib.hid hbl
  obtain ⟨ao, c, rfl, -⟩ := hco.len
  have c0 : w.cell? ⟨g, 0, none⟩ = some (.slice ao m c) := by rw [World.cell?]; simp only [hc]; rfl
  have c1 : w.cell? ⟨g, 1, none⟩ = some (.int .i64 p) := by rw [World.cell?]; simp only [hc]; rfl
  have c2 : w.cell? ⟨g, 2, none⟩ = some (.int .u64 hash) := by rw [World.cell?]; simp only [hc]; rfl
  have f1 : w.frozen? ⟨g, 1, none⟩ = false := by simp [World.frozen?, hc]
  have f2 : w.frozen? ⟨g, 2, none⟩ = false := by simp [World.frozen?, hc]
  clear hc hco hbl
  by_cases hpm : p < m
  · have hpi : (p : Int) < m := by omega
    have hp0 : (0 : Int) ≤ p := by omega
    obtain ⟨b1, o1, c1', x, hv1, hcx, hx⟩ := HCO.out.at p hpm
    simp only [Value.slice.injEq, true_and] at hv1
    obtain ⟨rfl, rfl⟩ := hv1
    have hlt := World.block_lt_of_cell? _ _ hcx
    simp only at hlt
    have hcy := (HB.out.cell hlt).trans hcx
    have hlw := World.block_lt_of_cell? _ _ hcy
    simp only at hlw
    clear hcx
    have hn0 : decide (n < 1) = false := decide_eq_false (by omega)
    go_enter Try.func74, Try.ntmps74
    go_wp2_with fail
    have k1 := (show Var3 w g _ _ _ _ from HC.out).set2 (.int .u64 (IntKind.u64.wrap (IntKind.u64.wrap (hash * 6364136223846793005) + 1442695040888963407)))
    have g1 := grownBy_setCell w ⟨g, 2, none⟩ (.int .u64 (IntKind.u64.wrap (IntKind.u64.wrap (hash * 6364136223846793005) + 1442695040888963407)))
    clear c0 c1 c2 f1 f2 HC
    generalize IntKind.u64.wrap (IntKind.u64.wrap (hash * 6364136223846793005) + 1442695040888963407) = hs at *
    have hX := and24 (hs / 8589934592)
    generalize bits BinOp.and IntKind.u64 (hs / 8589934592) 16777215 = X at *
    rw [wrap64_small hX]
    obtain ⟨hX0, hX1⟩ := hX
    generalize w.setCell ⟨g, 2, none⟩ (.int .u64 hs) = w1 at *
    have c0 := k1.c0; have c1 := k1.c1; have f1 := k1.free 1
    have K1 := Lib.hid k1; have G1 := Lib.hid g1
    clear k1
    have hcz := (World.cell?_of_block (g1.block b1 hlw (by intro e; simp only [Option.some.injEq] at e; omega))).trans hcy
    clear hcy g1
    go_quiet (fail)
    go_wp2_with fail
    go_quiet (fail)
    go_wp2_with fail
    go_ret
    exact ⟨_, rfl, ⟨Int.emod_nonneg _ (by omega), Int.emod_lt_of_pos _ (by omega)⟩, Src.mk3 HB.out hge (grownBy_trans (grown_drewN _ G1.out) (grownBy_setCell _ ⟨g, 1, none⟩ _)) (p := p + 1) ((K1.out.drewN _).set1 _) HCO.out hm (by omega), grownBy_trans (grown_drewN _ G1.out) (grownBy_setCell _ ⟨g, 1, none⟩ _)⟩
  · have hpi : ¬ (p : Int) < m := by omega
    have u1 : decide ((p : Int) < (m : Int)) = false := decide_eq_false hpi
    have u2 : decide (p < m) = false := decide_eq_false hpm
    have hn0 : decide (n < 1) = false := decide_eq_false (by omega)
    go_enter Try.func74, Try.ntmps74
    go_wp2_with fail
    have k1 := (show Var3 w g _ _ _ _ from HC.out).set2 (.int .u64 (IntKind.u64.wrap (IntKind.u64.wrap (hash * 6364136223846793005) + 1442695040888963407)))
    have g1 := grownBy_setCell w ⟨g, 2, none⟩ (.int .u64 (IntKind.u64.wrap (IntKind.u64.wrap (hash * 6364136223846793005) + 1442695040888963407)))
    clear c0 c1 c2 f1 f2 HC
    generalize IntKind.u64.wrap (IntKind.u64.wrap (hash * 6364136223846793005) + 1442695040888963407) = hs at *
    have hX := and24 (hs / 8589934592)
    generalize bits BinOp.and IntKind.u64 (hs / 8589934592) 16777215 = X at *
    rw [wrap64_small hX]
    obtain ⟨hX0, hX1⟩ := hX
    generalize w.setCell ⟨g, 2, none⟩ (.int .u64 hs) = w1 at *
    have c0 := k1.c0; have c1 := k1.c1; have f1 := k1.free 1
    have K1 := Lib.hid k1; have G1 := Lib.hid g1
    clear k1
    clear g1
    go_quiet (fail)
    go_wp2_with fail
    go_ret
    exact ⟨_, rfl, ⟨Int.emod_nonneg _ (by omega), Int.emod_lt_of_pos _ (by omega)⟩, Src.mk3 HB.out hge (grown_drewN _ G1.out) (K1.out.drewN _) HCO.out hm hp, grown_drewN _ G1.out⟩
theorem l01Next_c (g : Nat) (n : Int) (w0 w : World) (h : Src w0 w g) (hn2 : n ≤ 9223372036854775807) :
    Calls Try.prog 74 #[.pointer (some ⟨g, 0, none⟩), .int .i64 n] w fun e w' => ∃ r : Int, e = .returned (.int .i64 r) ∧ (0 ≤ r ∧ (r < n ∨ r = 0)) ∧ Src w0 w' g ∧ w.grownBy w' (some g) := by
  by_cases hn : n < 1
  · exact (l01Next_zero g n w hn).mono fun e w' ⟨he, hw⟩ => by
      subst hw
      exact ⟨0, he, ⟨by omega, .inr rfl⟩, h, World.grownBy.refl _ _⟩
  · exact (l01Next_pos g n w0 w h (by omega) hn2).mono fun e w' ⟨r, he, ⟨h1, h2⟩, h3, h4⟩ => ⟨r, he, ⟨h1, .inl h2⟩, h3, h4⟩
theorem lit_ints (w : World) (xs : List Int) (hl : xs.length ≤ 1000) : IntS (w.alloc (.cells (xs.map (Value.int .i64)).toArray 2)).heap (.slice (some ⟨w.heap.size, 0, none⟩) xs.length xs.length) xs :=
  slAt_of_own (base := w.heap.size) (n := xs.length) (World.ownsRow_lit (e := 2) (size := 1) w (xs.map (Value.int .i64)).toArray xs.length (Nat.le_refl _) (by unfold maxLen; omega) (by simp))
set_option maxRecDepth 100000 in
/-- One of some numbers. -/
theorem l01Pick_c (g : Nat) (v : Value) (xs : List Int) (w0 w : World) (h : Src w0 w g) (hv : IntS w.heap v xs) (hl : 0 < xs.length) (hfar : v.ownBlock ≠ some g) :
    Calls Try.prog 78 #[.pointer (some ⟨g, 0, none⟩), v] w fun e w' => ∃ r : Int, e = .returned (.int .i64 r) ∧ r ∈ xs ∧ Src w0 w' g ∧ w.grownBy w' (some g) := by
  obtain ⟨ao, c, rfl, hm⟩ := hv.len
  have NX := Lib.hid (l01Next_pos g (xs.length : Int) w0 w h (by omega) (by omega))
  have HV := Lib.hid hv; have HF := Lib.hid hfar
  clear h hv hfar
  go_enter Try.func78, Try.ntmps78
  go_wp2_with fail
  refine NX.out.mono ?_
  rintro e w2 ⟨r, rfl, ⟨hr0, hr1⟩, hs2, hg2⟩
  obtain ⟨j, rfl⟩ : ∃ j : Nat, r = j := ⟨r.toNat, by omega⟩
  have hj : j < xs.length := by omega
  obtain ⟨b1, o1, c1, hv1, hc1, -⟩ := HV.out.at j hj
  simp only [Value.slice.injEq, true_and] at hv1
  obtain ⟨rfl, rfl⟩ := hv1
  have hcx := (World.cell?_of_block (hg2.block b1 (World.block_lt_of_cell? _ _ hc1) (by intro e; exact HF.out e))).trans hc1
  have HS2 := Lib.hid hs2; have HG2 := Lib.hid hg2; clear hs2 hg2 hc1
  go_wp2_with fail
  go_ret
  exact ⟨_, rfl, List.getElem_mem hj, HS2.out, HG2.out⟩
set_option maxRecDepth 100000 in
theorem l01Near_c (g : Nat) (n : Int) (w0 w : World) (h : Src w0 w g) (hn : 0 ≤ n) (hn2 : n ≤ 1000000000000000) :
    Calls Try.prog 84 #[.pointer (some ⟨g, 0, none⟩), .int .i64 n] w fun e w' => ∃ r : Int, e = .returned (.int .i64 r) ∧ (0 ≤ r ∧ r ≤ n ∨ r = -1 ∨ r = n + 1 ∨ r = 1125899906842624 ∨ r = -4611686018427387904) ∧ Src w0 w' g ∧ w.grownBy w' (some g) := by
  have N1 := Lib.hid (l01Next_pos g 14 w0 w h (by omega) (by omega))
  have N2 := Lib.hid (fun (W : World) (h : Src w0 W g) => l01Next_pos g (n + 1) w0 W h (by omega) (by omega))
  clear h
  go_enter Try.func84, Try.ntmps84
  go_wp2_with (first | (go_at_call 74; first | ((with_reducible refine N1.out.mono ?_); rintro e w2 ⟨r2, rfl, ⟨hr0, hr1⟩, hs2, hg2⟩; have HS2 := Lib.hid hs2; have HG2 := Lib.hid hg2; clear hs2 hg2) | ((with_reducible refine (N2.out _ HS2.out).mono ?_); rintro e w3 ⟨r3, rfl, ⟨hr2, hr3⟩, hs3, hg3⟩; have HS3 := Lib.hid hs3; have HG3 := Lib.hid hg3; clear hs3 hg3)) | (go_at_call 78; refine (l01Pick_c g _ [-1, n + 1, 1125899906842624, -4611686018427387904] w0 _ (HS2.out.step ((Below.refl _ _).alloc (Nat.le_refl _) _)) (lit_ints w2 [-1, n + 1, 1125899906842624, -4611686018427387904] (by simp)) (by simp) (by have := HS2.out.lt; intro e; simp [Value.ownBlock] at e; omega)).mono ?_; rintro e w4 ⟨r4, rfl, hr4, hs4, hg4⟩; have HR4 := Lib.hid hr4; have HS4 := Lib.hid hs4; have HG4 := Lib.hid hg4; clear hr4 hs4 hg4))
  · go_ret
    refine ⟨_, rfl, ?_, HS4.out, grownBy_trans HG2.out (grownBy_trans (World.grownBy_alloc w2 _ _) HG4.out)⟩
    have := HR4.out
    simp at this
    omega
  · go_ret
    exact ⟨_, rfl, by omega, HS3.out, grownBy_trans HG2.out HG3.out⟩
end Go.Proofs.Ytljfpkhgijangaa

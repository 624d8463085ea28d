/- Draws: a source, and the helpers of the statements that draw. -/
import Derived.Test.YtljfpkhgijangaaLSrc
import Derived.Test.YtljfpkhgijangaaL10
import Derived.Test.YtljfpkhgijangaaBase2
namespace Go.Proofs.Ytljfpkhgijangaa
open Go.RowKit Go.Sort

theorem below_grownBy {B : Nat} {w a b : World} {r : Option Nat} (h : Below B w a) (hg : a.grownBy b r) (hB : B ≤ a.heap.size) (hr : ∀ k, r = some k → B ≤ k) : Below B w b := h.grown hg hB hr
theorem Src.of_new {w w' : World} {g m p : Nat} {code : Value} {hash : Int} (k : Var3 w' g code (.int .i64 p) (.int .u64 hash) 137) (hco : ByteS w code m) (hm : m ≤ 4096) (hp : p ≤ m) (hge : w.heap.size ≤ g) (hb : Below w.heap.size w w') : Src w w' g :=
  ⟨⟨code, m, p, hash, k, hco, hm, hp⟩, hge, hb⟩
theorem Var3.new (w : World) (x y z : Value) (t : Nat) : Var3 (w.alloc (.cells #[x, y, z] t)) w.heap.size x y z t := heap_alloc_new w _
set_option maxRecDepth 100000 in
theorem l01From_c (v : Value) (m : Nat) (w : World) (h : ByteS w v m) (hm : m ≤ 4096) :
    Calls Try.prog 72 #[v] w fun e w' => ∃ g, e = .returned (.pointer (some ⟨g, 0, none⟩)) ∧ Src w w' g := by
  obtain ⟨ao, c, rfl, -⟩ := h.len
  have H := Lib.hid h
  clear h
  go_enter Try.func72, Try.ntmps72
  go_wp2_with fail
  go_loopw [4] (fun i wr => ∃ (k : Nat) (hash : Int), k ≤ m ∧ i = .int .i64 k ∧ Var3 wr w.heap.size (.slice ao m c) (.int .i64 0) (.int .u64 hash) 137 ∧ Below w.heap.size w wr) (fun i _ => m - (intOf i).toNat)
  case atStart => exact ⟨0, _, Nat.zero_le _, rfl, Var3.new _ _ _ _ _, (Below.refl _ _).alloc (Nat.le_refl _) _⟩
  case round =>
    obtain ⟨k, hash, hk, rfl, hV, hbl⟩ := hrel
    have HV := Lib.hid hV; have HB := Lib.hid hbl
    have c2 := hV.c2; have f2 := hV.free 2
    by_cases hkm : k < m
    · have hk0 : (0 : Int) ≤ k := by omega
      have hki : (k : Int) < m := by omega
      have hk4 : (k : Int) < 4096 := by omega
      obtain ⟨b1, o1, c1, x, hv1, hcx, hx⟩ := H.out.at k hkm
      simp only [Value.slice.injEq, true_and] at hv1
      obtain ⟨rfl, rfl⟩ := hv1
      have hcy := (hbl.cell (World.block_lt_of_cell? _ _ hcx)).trans hcx
      clear hcx hV hbl
      go_wp2_with fail
      go_region
      go_wp2_with fail
      go_roundw
      case rel => exact ⟨k + 1, _, by omega, by go_num, HV.out.set2 _, (HB.out.setCell (Nat.le_refl _) _).drew⟩
      case measure => simp [intOf]; omega
    · obtain rfl : k = m := by omega
      have u1 : decide ((k : Int) < k) = false := decide_eq_false (by omega)
      clear hV hbl
      go_wp2_with fail
      go_ret
      exact ⟨_, rfl, Src.of_new (p := 0) HV.out H.out hm (Nat.zero_le _) (Nat.le_refl _) HB.out⟩
theorem big_c (v : Value) (m : Nat) (w : World) (h : ByteS w v m) :
    Calls Try.prog 10 #[v] w fun e w' => e = .returned (.bool (decide (4096 < m))) ∧ w = w' := by
  obtain ⟨ao, c, rfl, -⟩ := h.len
  clear h
  by_cases hm : 4096 < m
  · have u : decide ((4096 : Int) < m) = true := decide_eq_true (by omega)
    rw [show decide (4096 < m) = true from decide_eq_true hm]
    go_enter Try.func10, Try.ntmps10
    go_wp2_with fail
    go_ret
    exact ⟨by simp, rfl⟩
  · have u : decide ((4096 : Int) < m) = false := decide_eq_false (by omega)
    rw [show decide (4096 < m) = false from decide_eq_false hm]
    go_enter Try.func10, Try.ntmps10
    go_wp2_with fail
    go_ret
    exact ⟨by simp, rfl⟩
theorem likeInts_same (v1 v2 : Value) (xs : List Int) (w : World) (h1 : IntS w.heap v1 xs) (h2 : IntS w.heap v2 xs) :
    Calls Try.prog 21 #[v1, v2] w fun e w' => e = .returned (.bool true) ∧ ∃ n, w' = w.drewN n := by
  obtain ⟨a1, c1, rfl, m1⟩ := h1.len
  obtain ⟨a2, c2, rfl, m2⟩ := h2.len
  have H1 := Lib.hid h1; clear h1
  have H2 := Lib.hid h2; clear h2
  have hb := (eqB (a := (xs.length : Int)) (b := xs.length) rfl).2
  go_enter Try.func21, Try.ntmps21
  go_wp2
  clear hb
  go_loopw [5] (fun i wr => ∃ k n : Nat, k ≤ xs.length ∧ i = .int .i64 k ∧ wr = w.drewN n) (fun i _ => xs.length - (intOf i).toNat)
  case atStart => exact ⟨0, 0, Nat.zero_le _, rfl, rfl⟩
  case round =>
    obtain ⟨k, n, hk, rfl, rfl⟩ := hrel
    by_cases hlt : k < xs.length
    · obtain ⟨b1, o1, c1', hv1, hc1, _⟩ := (H1.out).at k hlt
      obtain ⟨b2, o2, c2', hv2, hc2, _⟩ := (H2.out).at k hlt
      simp only [Value.slice.injEq, true_and] at hv1 hv2
      obtain ⟨rfl, rfl⟩ := hv1
      obtain ⟨rfl, rfl⟩ := hv2
      have hb := (eqB (a := xs[k]) (b := xs[k]) rfl).2
      go_wp2_with fail
      go_quiet (fail)
      go_wp2_with fail
      go_roundw
      case rel => exact ⟨k + 1, _, by omega, by go_num, rfl⟩
      case measure => simp [intOf]; omega
    · go_wp2
      go_ret
      exact ⟨rfl, _, rfl⟩
theorem bnd_one {r x n : Int} (e : x = IntKind.i64.wrap (1 + r)) (h0 : 0 ≤ r) (h1 : r < n) (hn : n ≤ 1000) : 0 ≤ x ∧ x ≤ 1001 := by
  rw [e, IntWalk.i64_in _ (by omega)]; omega
theorem sh9 : ∀ k : Nat, k < 9 → (0 ≤ IntKind.i64.wrap (2 ^ k) ∧ IntKind.i64.wrap (2 ^ k) ≤ 1001) ∧ 0 ≤ IntKind.i64.wrap (IntKind.i64.wrap (2 ^ k) - 1) ∧ IntKind.i64.wrap (IntKind.i64.wrap (2 ^ k) - 1) ≤ 1001 := by decide +kernel
theorem bnd_pow {r x : Int} (e : x = IntKind.i64.wrap (2 ^ r.toNat)) (h0 : 0 ≤ r) (h1 : r < 9) : 0 ≤ x ∧ x ≤ 1001 := by rw [e]; exact (sh9 r.toNat (by omega)).1
theorem bnd_pow1 {r x : Int} (e : x = IntKind.i64.wrap (IntKind.i64.wrap (2 ^ r.toNat) - 1)) (h0 : 0 ≤ r) (h1 : r < 9) : 0 ≤ x ∧ x ≤ 1001 := by rw [e]; exact (sh9 r.toNat (by omega)).2
/-- One of some numbers that have just been laid. -/
theorem pick_lit (g : Nat) (w0 W : World) (xs : List Int) (hs : Src w0 W g) (hl : 0 < xs.length) (hl2 : xs.length ≤ 1000) :
    Calls Try.prog 78 #[.pointer (some ⟨g, 0, none⟩), .slice (some ⟨W.heap.size, 0, none⟩) xs.length xs.length] (W.alloc (.cells (xs.map (Value.int .i64)).toArray 2)) fun e w' => ∃ r : Int, e = .returned (.int .i64 r) ∧ r ∈ xs ∧ Src w0 w' g ∧ W.grownBy w' (some g) :=
  (l01Pick_c g _ xs w0 _ (hs.step ((Below.refl _ _).alloc (Nat.le_refl _) _)) (lit_ints W xs hl2) hl (by have := hs.lt; intro e; simp [Value.ownBlock] at e; omega)).mono fun e w' ⟨r, h1, h2, h3, h4⟩ => ⟨r, h1, h2, h3, grownBy_trans (World.grownBy_alloc W _ _) h4⟩
theorem OwnI.past {w w' : World} {g B : Nat} {v : Value} {xs : List Int} (h : OwnI w B v xs) (hg : w.grownBy w' (some g)) (hgB : g < B) : OwnI w' B v xs :=
  own_kept h fun b hb => hg.block b (World.ownsRow.lt h b hb).2 (by intro e; have := (World.ownsRow.lt h b hb).1; simp only [Option.some.injEq] at e; omega)
theorem Src.step2 {w0 w w' : World} {g B : Nat} (h : Src w0 w g) (k : Below B w w') (hg : g < B) (hB : w0.heap.size ≤ B) : Src w0 w' g := by
  obtain ⟨code, n, p, hash, h1, h2⟩ := h.cells
  exact ⟨⟨code, n, p, hash, (k.block g hg).trans h1, h2⟩, h.ge, h.below.trans (k.mono hB)⟩
theorem grown_below {w a b : World} {r : Option Nat} (h : w.grownBy a r) (k : Below w.heap.size a b) : w.grownBy b r :=
  ⟨k.os.trans h.os, k.tape.trans h.tape, k.output.trans h.output, Nat.le_trans h.size k.size, fun i hi hr => (k.block i hi).trans (h.block i hi hr)⟩
end Go.Proofs.Ytljfpkhgijangaa

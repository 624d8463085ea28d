/- Draws: a source, and the helpers of the statements that draw. -/
import Derived.Test.YtmnkccjddahcjaaLSrc
import Derived.Test.YtmnkccjddahcjaaL10
import Derived.Test.YtmnkccjddahcjaaBase2
namespace Go.Proofs.Ytmnkccjddahcjaa
open Go.RowKit Go.Sort

theorem below_grownBy {B : Nat} {w a b : World} {r : Option Nat} (h : Below B w a) (hg : a.grownBy b r) (hB : B ≤ a.heap.size) (hr : ∀ k, r = some k → B ≤ k) : Below B w b := h.grown hg hB hr
theorem Src.of_new {w w' : World} {g m p : Nat} {code : Value} {hash : Int} (k : Var3 w' g code (.int .i64 p) (.int .u64 hash) 105) (hco : ByteS w code m) (hm : m ≤ 4096) (hp : p ≤ m) (hge : w.heap.size ≤ g) (hb : Below w.heap.size w w') : Src w w' g :=
  ⟨⟨code, m, p, hash, k, hco, hm, hp⟩, hge, hb⟩
theorem Var3.new (w : World) (x y z : Value) (t : Nat) : Var3 (w.alloc (.cells #[x, y, z] t)) w.heap.size x y z t := heap_alloc_new w _
set_option maxRecDepth 100000 in
theorem l01From_c (v : Value) (m : Nat) (w : World) (h : ByteS w v m) (hm : m ≤ 4096) :
    Calls Try.prog 78 #[v] w fun e w' => ∃ g, e = .returned (.pointer (some ⟨g, 0, none⟩)) ∧ Src w w' g := by
  obtain ⟨ao, c, rfl, -⟩ := h.len
  have H := Lib.hid h
  clear h
  go_enter Try.func78, Try.ntmps78
  go_wp2_with fail
  go_loopw [4] (fun i wr => ∃ (k : Nat) (hash : Int), k ≤ m ∧ i = .int .i64 k ∧ Var3 wr w.heap.size (.slice ao m c) (.int .i64 0) (.int .u64 hash) 105 ∧ Below w.heap.size w wr) (fun i _ => m - (intOf i).toNat)
  case atStart => exact ⟨0, _, Nat.zero_le _, rfl, Var3.new _ _ _ _ _, (Below.refl _ _).alloc (Nat.le_refl _) _⟩
  case round =>
    obtain ⟨k, hash, hk, rfl, hV, hbl⟩ := hrel
    have HV := Lib.hid hV; have HB := Lib.hid hbl
    have c2 := hV.c2; have f2 := hV.free 2
    by_cases hkm : k < m
    · have hk0 : (0 : Int) ≤ k := by omega
      have hki : (k : Int) < m := by omega
      have hk4 : (k : Int) < 4096 := by omega
      obtain ⟨b1, o1, c1, x, hv1, hcx, hx⟩ := H.out.at k hkm
      simp only [Value.slice.injEq, true_and] at hv1
      obtain ⟨rfl, rfl⟩ := hv1
      have hcy := (hbl.cell (World.block_lt_of_cell? _ _ hcx)).trans hcx
      clear hcx hV hbl
      go_wp2_with fail
      go_region
      go_wp2_with fail
      go_roundw
      case rel => exact ⟨k + 1, _, by omega, by go_num, HV.out.set2 _, (HB.out.setCell (Nat.le_refl _) _).drew⟩
      case measure => simp [intOf]; omega
    · obtain rfl : k = m := by omega
      have u1 : decide ((k : Int) < k) = false := decide_eq_false (by omega)
      clear hV hbl
      go_wp2_with fail
      go_ret
      exact ⟨_, rfl, Src.of_new (p := 0) HV.out H.out hm (Nat.zero_le _) (Nat.le_refl _) HB.out⟩
theorem big_c (v : Value) (m : Nat) (w : World) (h : ByteS w v m) :
    Calls Try.prog 22 #[v] w fun e w' => e = .returned (.bool (decide (4096 < m))) ∧ w = w' := by
  obtain ⟨ao, c, rfl, -⟩ := h.len
  clear h
  by_cases hm : 4096 < m
  · have u : decide ((4096 : Int) < m) = true := decide_eq_true (by omega)
    rw [show decide (4096 < m) = true from decide_eq_true hm]
    go_enter Try.func22, Try.ntmps22
    go_wp2_with fail
    go_ret
    exact ⟨by simp, rfl⟩
  · have u : decide ((4096 : Int) < m) = false := decide_eq_false (by omega)
    rw [show decide (4096 < m) = false from decide_eq_false hm]
    go_enter Try.func22, Try.ntmps22
    go_wp2_with fail
    go_ret
    exact ⟨by simp, rfl⟩
theorem likeInts_same (v1 v2 : Value) (xs : List Int) (w : World) (h1 : IntS w.heap v1 xs) (h2 : IntS w.heap v2 xs) :
    Calls Try.prog 33 #[v1, v2] w fun e w' => e = .returned (.bool true) ∧ ∃ n, w' = w.drewN n := by
  obtain ⟨a1, c1, rfl, m1⟩ := h1.len
  obtain ⟨a2, c2, rfl, m2⟩ := h2.len
  have H1 := Lib.hid h1; clear h1
  have H2 := Lib.hid h2; clear h2
  have hb := (eqB (a := (xs.length : Int)) (b := xs.length) rfl).2
  go_enter Try.func33, Try.ntmps33
  go_wp2
  clear hb
  go_loopw [5] (fun i wr => ∃ k n : Nat, k ≤ xs.length ∧ i = .int .i64 k ∧ wr = w.drewN n) (fun i _ => xs.length - (intOf i).toNat)
  case atStart => exact ⟨0, 0, Nat.zero_le _, rfl, rfl⟩
  case round =>
    obtain ⟨k, n, hk, rfl, rfl⟩ := hrel
    by_cases hlt : k < xs.length
    · obtain ⟨b1, o1, c1', hv1, hc1, _⟩ := (H1.out).at k hlt
      obtain ⟨b2, o2, c2', hv2, hc2, _⟩ := (H2.out).at k hlt
      simp only [Value.slice.injEq, true_and] at hv1 hv2
      obtain ⟨rfl, rfl⟩ := hv1
      obtain ⟨rfl, rfl⟩ := hv2
      have hb := (eqB (a := xs[k]) (b := xs[k]) rfl).2
      go_wp2_with fail
      go_quiet (fail)
      go_wp2_with fail
      go_roundw
      case rel => exact ⟨k + 1, _, by omega, by go_num, rfl⟩
      case measure => simp [intOf]; omega
    · go_wp2
      go_ret
      exact ⟨rfl, _, rfl⟩
theorem bnd_one {r x n : Int} (e : x = IntKind.i64.wrap (1 + r)) (h0 : 0 ≤ r) (h1 : r < n) (hn : n ≤ 1000) : 0 ≤ x ∧ x ≤ 1001 := by
  rw [e, IntWalk.i64_in _ (by omega)]; omega
theorem sh9 : ∀ k : Nat, k < 9 → (0 ≤ IntKind.i64.wrap (2 ^ k) ∧ IntKind.i64.wrap (2 ^ k) ≤ 1001) ∧ 0 ≤ IntKind.i64.wrap (IntKind.i64.wrap (2 ^ k) - 1) ∧ IntKind.i64.wrap (IntKind.i64.wrap (2 ^ k) - 1) ≤ 1001 := by decide +kernel
theorem bnd_pow {r x : Int} (e : x = IntKind.i64.wrap (2 ^ r.toNat)) (h0 : 0 ≤ r) (h1 : r < 9) : 0 ≤ x ∧ x ≤ 1001 := by rw [e]; exact (sh9 r.toNat (by omega)).1
theorem bnd_pow1 {r x : Int} (e : x = IntKind.i64.wrap (IntKind.i64.wrap (2 ^ r.toNat) - 1)) (h0 : 0 ≤ r) (h1 : r < 9) : 0 ≤ x ∧ x ≤ 1001 := by rw [e]; exact (sh9 r.toNat (by omega)).2
/-- One of some numbers that have just been laid. -/
theorem pick_lit (g : Nat) (w0 W : World) (xs : List Int) (hs : Src w0 W g) (hl : 0 < xs.length) (hl2 : xs.length ≤ 1000) :
    Calls Try.prog 84 #[.pointer (some ⟨g, 0, none⟩), .slice (some ⟨W.heap.size, 0, none⟩) xs.length xs.length] (W.alloc (.cells (xs.map (Value.int .i64)).toArray 2)) fun e w' => ∃ r : Int, e = .returned (.int .i64 r) ∧ r ∈ xs ∧ Src w0 w' g ∧ W.grownBy w' (some g) :=
  (l01Pick_c g _ xs w0 _ (hs.step ((Below.refl _ _).alloc (Nat.le_refl _) _)) (lit_ints W xs hl2) hl (by have := hs.lt; intro e; simp [Value.ownBlock] at e; omega)).mono fun e w' ⟨r, h1, h2, h3, h4⟩ => ⟨r, h1, h2, h3, grownBy_trans (World.grownBy_alloc W _ _) h4⟩
set_option maxRecDepth 100000 in
theorem l10Draw_c (v : Value) (m : Nat) (w : World) (h : ByteS w v m) (hm : m ≤ 4096) :
    Calls Try.prog 108 #[v] w fun e w' => ∃ n : Int, e = .returned (.int .i64 n) ∧ (0 ≤ n ∧ n ≤ 1001) ∧ Below w.heap.size w w' := by
  have FR := Lib.hid (l01From_c v m w h hm)
  obtain ⟨ao, c, rfl, -⟩ := h.len
  clear h
  have NX := Lib.hid (fun (g : Nat) (n : Int) (W : World) (h : Src w W g) (h1 : 1 ≤ n) (h2 : n ≤ 9223372036854775807) => l01Next_pos g n w W h h1 h2)
  go_enter Try.func108, Try.ntmps108
  go_wp2_with (go_at_call 78; refine FR.out.mono ?_; rintro e w1 ⟨g, rfl, hs0⟩)
  go_region_held3 (fun W => Src w W g)
    (first | exact hs0.step ((Below.refl _ _).drew) | exact hs | exact hs0.step (Below.refl _ _) | exact (Src.step (by assumption) ((Below.refl _ _).alloc (Nat.le_refl _) _)) | fail)
    (first | (go_at_call 80; (with_reducible refine (NX.out g 20 _ (by assumption) (by omega) (by omega)).mono ?_); rintro e W1 ⟨r1, rfl, ⟨h10, h11⟩, hs, -⟩) | (go_at_call 80; (with_reducible refine (NX.out g 80 _ (by assumption) (by omega) (by omega)).mono ?_); rintro e W2 ⟨r2, rfl, ⟨h20, h21⟩, hs, -⟩) | (go_at_call 80; (with_reducible refine (NX.out g 9 _ (by assumption) (by omega) (by omega)).mono ?_); rintro e W3 ⟨r3, rfl, ⟨h30, h31⟩, hs, -⟩) | (go_at_call 80; (with_reducible refine (NX.out g 1000 _ (by assumption) (by omega) (by omega)).mono ?_); rintro e W5 ⟨r5, rfl, ⟨h50, h51⟩, hs, -⟩) | (go_at_call 84; refine (pick_lit g w W5 [_, _, _, _, _, 0, 1001] (by assumption) (by simp) (by simp)).mono ?_; rintro e W9 ⟨r9, rfl, hr9, hs, -⟩) | fail)
  all_goals
    simp only [List.mem_cons, List.not_mem_nil, or_false] at hr9
    have HR9 : Hid (0 ≤ r9 ∧ r9 ≤ 1001) := by
      show _ ∧ _
      rcases hr9 with h | h | h | h | h | h | h
      · exact bnd_one h (by assumption) (by assumption) (by omega)
      · exact bnd_one h (by assumption) (by assumption) (by omega)
      · exact bnd_pow h (by assumption) (by assumption)
      · exact bnd_pow1 h (by assumption) (by assumption)
      · exact bnd_one h (by assumption) (by assumption) (by omega)
      · omega
      · omega
    clear hr9
    go_wp2_with fail
    go_ret
    exact ⟨_, rfl, HR9.out, Src.below (by assumption)⟩
theorem drawWhitneyClasses_c (v : Value) (m : Nat) (w : World) (h : ByteS w v m) (hm : m ≤ 4096) :
    Calls Try.prog 47 #[v] w fun e w' => ∃ n : Int, e = .returned (.int .i64 n) ∧ (0 ≤ n ∧ n ≤ 1001) ∧ Below w.heap.size w w' := by
  have FR := Lib.hid (l10Draw_c v m w h hm)
  obtain ⟨ao, c, rfl, -⟩ := h.len
  clear h
  go_enter Try.func47, Try.ntmps47
  go_wp2_with (go_at_call 108; refine FR.out.mono ?_; rintro e w1 ⟨n, rfl, hn, hb⟩)
  go_ret
  exact ⟨_, rfl, hn, hb⟩
theorem drawIsBoundary_c (v : Value) (m : Nat) (w : World) (h : ByteS w v m) (hm : m ≤ 4096) :
    Calls Try.prog 59 #[v] w fun e w' => ∃ n : Int, e = .returned (.int .i64 n) ∧ (-1 ≤ n ∧ n ≤ 41) ∧ Below w.heap.size w w' := by
  have FR := Lib.hid (l01From_c v m w h hm)
  obtain ⟨ao, c, rfl, -⟩ := h.len
  clear h
  have NX := Lib.hid (fun (g : Nat) (W : World) (h : Src w W g) => l01Next_pos g 43 w W h (by omega) (by omega))
  go_enter Try.func59, Try.ntmps59
  go_wp2_with (first | (go_at_call 78; refine FR.out.mono ?_; rintro e w1 ⟨g, rfl, hs0⟩) | (go_at_call 80; refine (NX.out g _ hs0).mono ?_; rintro e w2 ⟨r, rfl, ⟨h0, h1⟩, hs, -⟩))
  go_ret
  exact ⟨_, rfl, by omega, hs.below⟩
theorem OwnI.past {w w' : World} {g B : Nat} {v : Value} {xs : List Int} (h : OwnI w B v xs) (hg : w.grownBy w' (some g)) (hgB : g < B) : OwnI w' B v xs :=
  own_kept h fun b hb => hg.block b (World.ownsRow.lt h b hb).2 (by intro e; have := (World.ownsRow.lt h b hb).1; simp only [Option.some.injEq] at e; omega)
theorem Src.step2 {w0 w w' : World} {g B : Nat} (h : Src w0 w g) (k : Below B w w') (hg : g < B) (hB : w0.heap.size ≤ B) : Src w0 w' g := by
  obtain ⟨code, n, p, hash, h1, h2⟩ := h.cells
  exact ⟨⟨code, n, p, hash, (k.block g hg).trans h1, h2⟩, h.ge, h.below.trans (k.mono hB)⟩
theorem grown_below {w a b : World} {r : Option Nat} (h : w.grownBy a r) (k : Below w.heap.size a b) : w.grownBy b r :=
  ⟨k.os.trans h.os, k.tape.trans h.tape, k.output.trans h.output, Nat.le_trans h.size k.size, fun i hi hr => (k.block i hi).trans (h.block i hi hr)⟩
set_option maxRecDepth 100000 in
theorem drawWhitneyNumber_c (v : Value) (m : Nat) (w : World) (h : ByteS w v m) (hm : m ≤ 4096) :
    Calls Try.prog 56 #[v] w fun e w' => ∃ (n : Int) (r : Value) (xs : List Int), e = .returned (.tuple #[.int .i64 n, r]) ∧ IntS w'.heap r xs ∧ xs.length ≤ 101 ∧ (0 ≤ n ∧ n ≤ 1001) ∧ Below w.heap.size w w' := by
  have FR := Lib.hid (l01From_c v m w h hm)
  have DR := Lib.hid (fun (W : World) (hb : Below w.heap.size w W) => l10Draw_c v m W (h.same hb.block) hm)
  obtain ⟨ao, c, rfl, -⟩ := h.len
  clear h
  have NX := Lib.hid (fun (g : Nat) (n : Int) (W : World) (h : Src w W g) (h1 : 1 ≤ n) (h2 : n ≤ 9223372036854775807) => l01Next_pos g n w W h h1 h2)
  go_enter Try.func56, Try.ntmps56
  go_wp2_with (first | (go_at_call 78; refine FR.out.mono ?_; rintro e w1 ⟨g, rfl, hs0⟩; have HS0 := Lib.hid hs0; clear hs0) | (go_at_call 108; refine (DR.out _ HS0.out.below).mono ?_; rintro e w2 ⟨n, rfl, ⟨hn0, hn1⟩, hb2⟩; have HS2 := Lib.hid (HS0.out.step hb2); have hsz2 := hb2.size; clear hb2))
  have HGL := Lib.hid HS2.out.lt
  have HL0 := Lib.hid (ownI_empty (w := w2) (B := w2.heap.size) (Nat.le_refl _))
  go_loopw [6, 7] (fun l q wr => ∃ (xs : List Int) (rest : Int), xs.length ≤ 100 ∧ q = .int .i64 rest ∧ (0 ≤ rest ∧ rest ≤ 1001) ∧ OwnI wr w2.heap.size l xs ∧ Src w wr g ∧ w2.grownBy wr (some g)) (fun _ q _ => (intOf q).toNat)
  case atStart => exact ⟨[], n, by simp, rfl, ⟨hn0, hn1⟩, HL0.out, HS2.out.step ((Below.refl _ _).alloc (Nat.le_refl _) _), World.grownBy_alloc _ _ _⟩
  case round =>
    obtain ⟨xs, rest, hx, rfl, ⟨hr0, hr1⟩, hO, hS, hG⟩ := hrel
    obtain ⟨ya, yc, rfl, -⟩ := hO.ints.len
    have HO := Lib.hid hO; have HS := Lib.hid hS; have HG := Lib.hid hG
    have hszr := hG.size
    clear hO hS hG
    by_cases hgo : 0 < rest ∧ xs.length < 100
    · obtain ⟨hg0, hg1⟩ := hgo
      have hg2 : (xs.length : Int) < 100 := by omega
      go_wp2_with (go_at_call 84; refine (pick_lit g w wr [2, 8, 1000] HS.out (by simp) (by simp)).mono ?_; rintro e w3 ⟨r3, rfl, hr3, hs3, hg3⟩; have HS3 := Lib.hid hs3; have HG3 := Lib.hid hg3; have hr30 : 1 ≤ r3 ∧ r3 ≤ 1000 := (by simp at hr3; omega); obtain ⟨hr31, hr32⟩ := hr30; clear hs3 hg3 hr3)
      all_goals
        have HO3 := Lib.hid (HO.out.past HG3.out HGL.out)
        have hsz3 := HG3.out.size
        go_wp2_with (first | (go_at_call 80; refine (NX.out g _ _ HS3.out (by omega) (by omega)).mono ?_; rintro e w4 ⟨r4, rfl, ⟨h40, h41⟩, hs4, hg4⟩; have HS4 := Lib.hid hs4; have HO4 := Lib.hid (HO3.out.past hg4 HGL.out); have HG4 := Lib.hid (grownBy_trans HG.out (grownBy_trans HG3.out hg4)); have hsz4 := hg4.size; clear hs4 hg4) | (at_builtin; refine append_int rfl _ _ rfl w2.heap.size _ _ _ HO4.out rfl (Below.refl _ _) (Nat.le_trans hszr (Nat.le_trans hsz3 hsz4)) _ rfl (by simp) (by omega) ?_; intro v8 w8 hO8 hb8 _ _; obtain ⟨za, zn, zc, rfl⟩ := own_shape hO8))
        go_roundw
        case rel => exact ⟨xs ++ [1 + r4], _, by simp; omega, rfl, ⟨by omega, by omega⟩, hO8, HS4.out.step2 hb8 HGL.out HS2.out.below.size, grown_below HG4.out hb8⟩
        case measure => simp [intOf]; omega
    · by_cases h0 : 0 < rest
      · have h100 : ¬ (xs.length : Int) < 100 := by omega
        have u1 : decide ((xs.length : Int) < 100) = false := decide_eq_false h100
        have u2 : decide (xs.length < 100) = false := decide_eq_false (by omega)
        clear hgo
        go_wp2_with (first | (go_at_call 80; refine (NX.out g 12 _ HS.out (by omega) (by omega)).mono ?_; rintro e w7 ⟨r7, rfl, ⟨h70, h71⟩, hs7, hg7⟩; have HS7 := Lib.hid hs7; have HO7 := Lib.hid (HO.out.past hg7 HGL.out); have hsz7 := hg7.size; clear hs7 hg7) | (at_builtin; refine append_int rfl _ _ rfl w2.heap.size _ _ _ HO7.out rfl (Below.refl _ _) (Nat.le_trans hszr hsz7) _ rfl (by simp) (by omega) ?_; intro v8 w8 hO8 hb8 _ _; obtain ⟨za, zn, zc, rfl⟩ := own_shape hO8))
        · go_ret2
          exact ⟨_, _, xs ++ [1], rfl, hO8.ints, by simp; omega, ⟨hn0, hn1⟩, HS7.out.below.trans (hb8.mono (Nat.le_trans HS2.out.below.size (Nat.le_refl _)))⟩
        · go_ret2
          exact ⟨_, _, _, rfl, HO7.out.ints, by omega, ⟨hn0, hn1⟩, HS7.out.below⟩
      · have u1 : decide (0 < rest) = false := decide_eq_false h0
        clear hgo
        go_wp2_with (first | (go_at_call 80; refine (NX.out g 12 _ HS.out (by omega) (by omega)).mono ?_; rintro e w7 ⟨r7, rfl, ⟨h70, h71⟩, hs7, hg7⟩; have HS7 := Lib.hid hs7; have HO7 := Lib.hid (HO.out.past hg7 HGL.out); have hsz7 := hg7.size; clear hs7 hg7) | (at_builtin; refine append_int rfl _ _ rfl w2.heap.size _ _ _ HO7.out rfl (Below.refl _ _) (Nat.le_trans hszr hsz7) _ rfl (by simp) (by omega) ?_; intro v8 w8 hO8 hb8 _ _; obtain ⟨za, zn, zc, rfl⟩ := own_shape hO8))
        · go_ret2
          exact ⟨_, _, xs ++ [1], rfl, hO8.ints, by simp; omega, ⟨hn0, hn1⟩, HS7.out.below.trans (hb8.mono (Nat.le_trans HS2.out.below.size (Nat.le_refl _)))⟩
        · go_ret2
          exact ⟨_, _, _, rfl, HO7.out.ints, by omega, ⟨hn0, hn1⟩, HS7.out.below⟩
end Go.Proofs.Ytmnkccjddahcjaa

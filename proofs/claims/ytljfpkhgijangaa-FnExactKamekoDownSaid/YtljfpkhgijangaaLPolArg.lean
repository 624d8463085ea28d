/- Polynomials as arguments of the statements: sizes, copies, comparisons, marks. -/
import Derived.Test.YtljfpkhgijangaaLMilArg
import Derived.Test.YtljfpkhgijangaaLHeld2
import Derived.Test.YtljfpkhgijangaaBaseM
import Derived.Test.YtljfpkhgijangaaLMil
namespace Go.Proofs.Ytljfpkhgijangaa
open Go.RowKit Go.Sort

theorem szPoly_c {n : Int} (a : Option Addr) (len cap : Nat) (xss : List (List Int)) (left : Nat) (w : World) (h : IsRows w a len xss) (h1 : left ≤ 1048576) :
    Calls Try.prog 65 #[.agg #[.int .i64 n, .slice a len cap], .int .i64 left] w fun e w' => e = .returned (.int .i64 (szR xss left)) ∧ Below w.heap.size w w' := by
  have hb : Below w.heap.size w (w.alloc (.cells #[.int .i64 n, .slice a len cap] 80)) := (Below.refl _ _).alloc (Nat.le_refl _) _
  have V := two_new w (.int .i64 n) (.slice a len cap) 80
  have S := Lib.hid (szInt64SS_c a len cap xss left _ (h.same hb.block hb.size) h1)
  have k1 := V.1; have k2 := V.2
  have HB := Lib.hid hb; clear hb h V
  by_cases hs : szR xss left < 0
  · have e : szR xss left = -1 := by unfold szR at *; split at hs <;> omega
    rw [e] at S ⊢
    clear e hs
    go_enter Try.func65, Try.ntmps65
    go_wp2_with (go_at_call 103; refine S.out.mono ?_; rintro e w1 ⟨rfl, rfl⟩)
    go_ret
    exact ⟨rfl, HB.out⟩
  · generalize szR xss left = s at *
    have t1 : decide (s < 0) = false := by simpa using hs
    go_enter Try.func65, Try.ntmps65
    go_wp2_with (go_at_call 103; refine S.out.mono ?_; rintro e w1 ⟨rfl, rfl⟩)
    go_ret
    exact ⟨rfl, HB.out⟩
theorem toPoly_c {n : Int} (a : Option Addr) (len cap : Nat) (xss : List (List Int)) (w : World) (h : IsRows w a len xss) (h1 : xss.length + cnt xss ≤ 1048576) :
    Calls Try.prog 67 #[.agg #[.int .i64 n, .slice a len cap]] w fun e w' => ∃ v, e = .returned (.agg #[.int .i64 n, v]) ∧ OwnII w' w.heap.size v xss ∧ Below w.heap.size w w' := by
  obtain ⟨w3, hw3⟩ : ∃ w3, w3 = ((w.alloc (.cells #[.int .i64 n, .slice a len cap] 80)).alloc (.cells #[.int .i64 0, .slice none 0 0] 82)).alloc (.cells #[.int .i64 n, .slice none 0 0] 82) := ⟨_, rfl⟩
  have hb : Below w.heap.size w w3 := by rw [hw3]; exact (((Below.refl _ _).alloc (Nat.le_refl _) _).alloc (by simp) _).alloc (by simp; omega) _
  have hsz : w3.heap.size = w.heap.size + 3 := by rw [hw3]; simp
  have V0 : Var2 w3 w.heap.size (.int .i64 n) (.slice a len cap) 80 := by rw [hw3]; exact ((Var2.new w _ _ _).kept (alloc_old _ _)).kept (alloc_old _ _)
  have V1 : Var2 w3 (w.heap.size + 1) (.int .i64 0) (.slice none 0 0) 82 := by
    rw [hw3]
    have := (Var2.new (w.alloc (.cells #[.int .i64 n, .slice a len cap] 80)) (.int .i64 0) (.slice none 0 0) 82).kept (alloc_old _ (.cells #[.int .i64 n, .slice none 0 0] 82))
    rw [size_alloc_w] at this
    exact this
  have V2 : Var2 w3 (w.heap.size + 1 + 1) (.int .i64 n) (.slice none 0 0) 82 := by
    rw [hw3]
    have := Var2.new ((w.alloc (.cells #[.int .i64 n, .slice a len cap] 80)).alloc (.cells #[.int .i64 0, .slice none 0 0] 82)) (.int .i64 n) (.slice none 0 0) 82
    rw [size_alloc_w, size_alloc_w] at this
    exact this
  have T2 := Lib.hid (toInt64SS_c a len cap xss w3 (h.same hb.block hb.size) h1)
  have HB5 := Lib.hid hb; have HSZ := Lib.hid hsz; have A0 := Lib.hid V0; have A1 := Lib.hid V1; have A2 := Lib.hid V2
  clear hb hsz V0 V1 V2 h h1
  have HW5 := Lib.hid hw3
  clear hw3
  go_enter Try.func67, Try.ntmps67
  go_wp2_with fail
  rw [← HW5.out]
  clear HW5
  refine T2.out.mono ?_
  rintro e w6 ⟨v, rfl, ⟨us, hU⟩, hb6⟩
  obtain ⟨va, vn, vc, rfl⟩ := own_shape hU.row
  have V0 := A0.out.kept hb6.block
  have V1 := A1.out.kept hb6.block
  have V2 := A2.out.kept hb6.block
  have f1 := V2.free 1; have e1 := V2.c1; have e0 := V2.c0
  have p0 := V1.c0; have p1 := V1.c1; have pf0 := V1.free 0; have pf1 := V1.free 1
  have HU := Lib.hid hU; have HB6 := Lib.hid hb6; have K1 := Lib.hid V1; have K2 := Lib.hid V2
  have hsz5 : w.heap.size + 2 < w3.heap.size := A2.out.lt
  clear hU hb6 V0 V1 V2
  go_wp2_with fail
  have B6 := HB5.out.trans (HB6.out.mono HB5.out.size)
  have W1 := K1.out.setFar ⟨w.heap.size + 1 + 1, 1, none⟩ (by show w.heap.size + 1 ≠ w.heap.size + 1 + 1; omega) (.slice va vn vc)
  have W2 := W1.set0 (.int .i64 n)
  have W3 := W2.set1 (.slice va vn vc)
  have r0 := W3.c0; have r1 := W3.c1
  have hlt : ∀ b, w.heap.size ≤ b → b < w.heap.size + 3 → (Value.slice va vn vc).ownBlock ≠ some b ∧ ∀ u ∈ us, u.ownBlock ≠ some b := fun b h1 h2 => by
    have hs3 := HSZ.out
    refine ⟨fun e => ?_, fun u hu e => ?_⟩
    · have := (World.ownsRow.lt HU.out.row b e).1; omega
    · obtain ⟨i, hi, rfl⟩ := List.getElem_of_mem hu
      have hl := HU.out.len
      have := (World.ownsRow.lt (HU.out.each i _ _ (List.getElem?_eq_getElem hi) (List.getElem?_eq_getElem (show i < xss.length by omega))) b e).1
      omega
  have hl2 := hlt (w.heap.size + 1 + 1) (by omega) (by omega)
  have hl1 := hlt (w.heap.size + 1) (by omega) (by omega)
  exact bodyPost_ret (v := .agg #[.int .i64 n, .slice va vn vc]) (by simp [results, Try.results67, go_sem, r0, r1]) rfl
    ⟨_, rfl, OwnII.base ⟨us, ((HU.out.setFar ⟨w.heap.size + 1 + 1, 1, none⟩ hl2.1 hl2.2 _).setFar ⟨w.heap.size + 1, 0, none⟩ hl1.1 hl1.2 _).setFar ⟨w.heap.size + 1, 1, none⟩ hl1.1 hl1.2 _⟩ HB5.out.size,
      ((B6.setCell (by show w.heap.size ≤ w.heap.size + 1 + 1; omega) _).setCell (by show w.heap.size ≤ w.heap.size + 1; omega) _).setCell (by show w.heap.size ≤ w.heap.size + 1; omega) _⟩
theorem eqPoly_same {n : Int} (v1 v2 : Value) (xss : List (List Int)) (w : World) (h1 : IntSS w.heap v1 xss) (h2 : IntSS w.heap v2 xss) :
    Calls Try.prog 69 #[.agg #[.int .i64 n, v1], .agg #[.int .i64 n, v2]] w fun e w' => e = .returned (.bool true) ∧ Below w.heap.size w w' := by
  have hb : Below w.heap.size w ((w.alloc (.cells #[.int .i64 n, v1] 82)).alloc (.cells #[.int .i64 n, v2] 82)) := ((Below.refl _ _).alloc (Nat.le_refl _) _).alloc (by simp) _
  have C := Lib.hid (eqInt64SS_same v1 v2 xss _ (h1.same hb.block) (h2.same hb.block))
  obtain ⟨a1, c1, rfl, m1⟩ := h1.len
  obtain ⟨a2, c2, rfl, m2⟩ := h2.len
  have HB := Lib.hid hb; clear hb h1 h2
  have t1 : (n != n) = false := by simp
  go_enter Try.func69, Try.ntmps69
  go_wp2_with (go_at_call 110; refine C.out.mono ?_; rintro e w1 ⟨rfl, n, rfl⟩)
  go_ret
  exact ⟨rfl, below_drewN _ HB.out⟩
theorem markPoly_c {n : Int} (v : Value) (us : List Value) (xss : List (List Int)) (k : Int) (B : Nat) (w : World) (h : OwnU w B v us xss) (hB : B ≤ w.heap.size) (hk : 0 ≤ k) (hx : k + cnt xss ≤ 4611686018427387904) :
    Calls Try.prog 70 #[.agg #[.int .i64 n, v], .int .i64 k] w fun e w' => e = .returned (.int .i64 (k + cnt xss)) ∧ OwnU w' B v us (marksS k xss) ∧ Below B w w' ∧ (∀ b, b < w.heap.size → (∀ u, u ∈ us → u.ownBlock ≠ some b) → w'.heap[b]? = w.heap[b]?) := by
  have hb : Below B w (w.alloc (.cells #[.int .i64 n, v] 82)) := (Below.refl _ _).alloc hB _
  have C := Lib.hid (markInt64SS_c v us xss k B _ (h.same (alloc_old w (.cells #[.int .i64 n, v] 82))) (by simp; omega) hk hx)
  obtain ⟨a1, c1, rfl, m1⟩ := h.ints.len
  have HB := Lib.hid hb; clear hb h
  go_enter Try.func70, Try.ntmps70
  go_wp2_with (go_at_call 111; refine C.out.mono ?_; rintro e w1 ⟨rfl, h1, z1, b1, k1⟩; have K1 := Lib.hid k1; clear k1)
  go_ret
  exact ⟨rfl, h1, HB.out.trans b1, fun b hb hne => (K1.out b (by simp; omega) hne).trans (alloc_old _ _ _ hb)⟩
theorem heldPoly_c {n : Int} (v : Value) (xss : List (List Int)) (k : Int) (w : World) (h : IntSS w.heap v (marksS k xss)) (hk : 0 ≤ k) (hx : k + cnt xss ≤ 4611686018427387904) :
    Calls Try.prog 71 #[.agg #[.int .i64 n, v], .int .i64 k] w fun e w' => e = .returned (.int .i64 (k + cnt xss)) ∧ Below w.heap.size w w' := by
  have hb : Below w.heap.size w (w.alloc (.cells #[.int .i64 n, v] 82)) := (Below.refl _ _).alloc (Nat.le_refl _) _
  have C := Lib.hid (heldInt64SS_c v xss k _ (h.same hb.block) hk hx)
  obtain ⟨a1, c1, rfl, m1⟩ := h.len
  have HB := Lib.hid hb; clear hb h
  have t1 : decide (k + (cnt xss : Int) < 0) = false := by simp; omega
  go_enter Try.func71, Try.ntmps71
  go_wp2_with (go_at_call 112; refine C.out.mono ?_; rintro e w1 ⟨rfl, rfl⟩)
  go_ret
  exact ⟨rfl, HB.out⟩
end Go.Proofs.Ytljfpkhgijangaa

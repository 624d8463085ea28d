/- Elements and dual elements as arguments of the statements: sizes, copies, comparisons, marks. -/
import Derived.Test.YtalbbjhonkcbgaaGreatLArg
namespace Go.Proofs.YtalbbjhonkcbgaaGreat
open Go.RowKit Go.Sort

theorem szMilnor_c (a : Option Addr) (len cap : Nat) (xss : List (List Int)) (left : Nat) (w : World) (h : IsRows w a len xss) (h1 : left ≤ 1048576) :
    Calls Tryz.prog 5 #[.agg #[.slice a len cap], .int .i64 left] w fun e w' => e = .returned (.int .i64 (szR xss left)) ∧ Below w.heap.size w w' := by
  have hb : Below w.heap.size w (w.alloc (.cells #[.slice a len cap] 27)) := (Below.refl _ _).alloc (Nat.le_refl _) _
  have S := Lib.hid (szInt64SS_c a len cap xss left _ (h.same hb.block hb.size) h1)
  have HB := Lib.hid hb; clear hb h
  by_cases hs : szR xss left < 0
  · have e : szR xss left = -1 := by unfold szR at *; split at hs <;> omega
    rw [e] at S ⊢
    clear e hs
    go_enter Tryz.func5, Tryz.ntmps5
    go_wp2_with (go_at_call 19; refine S.out.mono ?_; rintro e w1 ⟨rfl, rfl⟩)
    go_ret
    exact ⟨rfl, HB.out⟩
  · generalize szR xss left = s at *
    have t1 : decide (s < 0) = false := by simpa using hs
    go_enter Tryz.func5, Tryz.ntmps5
    go_wp2_with (go_at_call 19; refine S.out.mono ?_; rintro e w1 ⟨rfl, rfl⟩)
    go_ret
    exact ⟨rfl, HB.out⟩
/-- A variable of one cell. -/
def Cell1 (w : World) (g : Nat) (x : Value) (t : Nat) : Prop := w.heap[g]? = some (.cells #[x] t (0, 0))
theorem Cell1.new (w : World) (x : Value) (t : Nat) : Cell1 (w.alloc (.cells #[x] t)) w.heap.size x t := heap_alloc_new w _
theorem Cell1.c0 {w : World} {g : Nat} {x : Value} {t : Nat} (h : Cell1 w g x t) : w.cell? ⟨g, 0, none⟩ = some x := by rw [World.cell?]; simp only [show w.heap[g]? = _ from h]; rfl
theorem Cell1.free {w : World} {g : Nat} {x : Value} {t : Nat} (h : Cell1 w g x t) (j : Nat) : w.frozen? ⟨g, j, none⟩ = false := by rw [World.frozen?]; simp only [show w.heap[g]? = _ from h]; simp
theorem Cell1.lt {w : World} {g : Nat} {x : Value} {t : Nat} (h : Cell1 w g x t) : g < w.heap.size := (Array.getElem?_eq_some_iff.1 h).1
theorem Cell1.same {w w' : World} {g : Nat} {x : Value} {t : Nat} (h : Cell1 w g x t) (k : w'.heap[g]? = w.heap[g]?) : Cell1 w' g x t := k.trans h
theorem Cell1.kept {w w' : World} {g : Nat} {x : Value} {t : Nat} (h : Cell1 w g x t) (k : ∀ b, b < w.heap.size → w'.heap[b]? = w.heap[b]?) : Cell1 w' g x t := h.same (k g h.lt)
theorem Cell1.set {w : World} {g : Nat} {x : Value} {t : Nat} (h : Cell1 w g x t) (u : Value) : Cell1 (w.setCell ⟨g, 0, none⟩ u) g u t := heap_setCell_same w g 0 _ t u h
theorem Cell1.setFar {w : World} {g : Nat} {x : Value} {t : Nat} (h : Cell1 w g x t) (p : Addr) (hp : g ≠ p.block) (u : Value) : Cell1 (w.setCell p u) g x t := h.same (Below.heap_setCell _ _ _ _ hp)
theorem toMilnor_c (a : Option Addr) (len cap : Nat) (xss : List (List Int)) (w : World) (h : IsRows w a len xss) (h1 : xss.length + cnt xss ≤ 1048576) :
    Calls Tryz.prog 8 #[.agg #[.slice a len cap]] w fun e w' => ∃ v, e = .returned (.agg #[v]) ∧ OwnII w' w.heap.size v xss ∧ Below w.heap.size w w' := by
  have hb : Below w.heap.size w (((w.alloc (.cells #[.slice a len cap] 27)).alloc (.cells #[.slice none 0 0] 34)).alloc (.cells #[.slice none 0 0] 34)) := (((Below.refl _ _).alloc (Nat.le_refl _) _).alloc (by simp) _).alloc (by simp; omega) _
  have C := Lib.hid (toInt64SS_c a len cap xss _ (h.same hb.block hb.size) h1)
  have HB := Lib.hid hb; clear hb h h1
  go_enter Tryz.func8, Tryz.ntmps8
  go_wp2_with fail
  refine C.out.mono ?_
  rintro e w1 ⟨v, rfl, ⟨us, hU⟩, hb1⟩
  obtain ⟨va, vn, vc, rfl⟩ := own_shape hU.row
  have k2 : Cell1 w1 (w.heap.size + 1 + 1) (.slice none 0 0) 34 := Cell1.same (w := ((w.alloc (.cells #[.slice a len cap] 27)).alloc (.cells #[.slice none 0 0] 34)).alloc (.cells #[.slice none 0 0] 34)) (by unfold Cell1; rw [show w.heap.size + 1 + 1 = ((w.alloc (.cells #[.slice a len cap] 27)).alloc (.cells #[.slice none 0 0] 34)).heap.size by simp]; exact heap_alloc_new _ _) (hb1.block _ (by simp))
  have k1 : Cell1 w1 (w.heap.size + 1) (.slice none 0 0) 34 := Cell1.same (w := ((w.alloc (.cells #[.slice a len cap] 27)).alloc (.cells #[.slice none 0 0] 34)).alloc (.cells #[.slice none 0 0] 34)) (by unfold Cell1; rw [alloc_old _ _ _ (by simp), show w.heap.size + 1 = (w.alloc (.cells #[.slice a len cap] 27)).heap.size by simp]; exact heap_alloc_new _ _) (hb1.block _ (by simp))
  have f2 := k2.free 0
  have f1 := k1.free 0
  have c2 := k2.c0
  have c1 := k1.c0
  have HU := Lib.hid hU; have HB1 := Lib.hid hb1; have K1 := Lib.hid k1; clear hU hb1 k1 k2
  go_wp2_with fail
  have hlt : ∀ b, w.heap.size ≤ b → b < w.heap.size + 3 → (Value.slice va vn vc).ownBlock ≠ some b ∧ ∀ u ∈ us, u.ownBlock ≠ some b := fun b h1 h2 => by
    refine ⟨fun e => ?_, fun u hu e => ?_⟩
    · have := (World.ownsRow.lt HU.out.row b e).1; simp at this; omega
    · obtain ⟨i, hi, rfl⟩ := List.getElem_of_mem hu
      have hl := HU.out.len
      have := (World.ownsRow.lt (HU.out.each i _ _ (List.getElem?_eq_getElem hi) (List.getElem?_eq_getElem (show i < xss.length by omega))) b e).1
      simp at this; omega
  have hl2 := hlt (w.heap.size + 1 + 1) (by omega) (by omega)
  have hl1 := hlt (w.heap.size + 1) (by omega) (by omega)
  have cf := ((K1.out.setFar ⟨w.heap.size + 1 + 1, 0, none⟩ (by simp) (.slice va vn vc)).set (.slice va vn vc)).c0
  exact bodyPost_ret (v := .agg #[.slice va vn vc]) (by simp [results, Tryz.results8, go_sem, cf]) rfl
    ⟨_, rfl, OwnII.base ⟨us, (HU.out.setFar ⟨w.heap.size + 1 + 1, 0, none⟩ hl2.1 hl2.2 _).setFar ⟨w.heap.size + 1, 0, none⟩ hl1.1 hl1.2 _⟩ (by simp; omega),
      ((HB.out.trans (HB1.out.mono HB.out.size)).setCell (by simp; omega) _).setCell (by simp) _⟩
theorem eqMilnor_same (v1 v2 : Value) (xss : List (List Int)) (w : World) (h1 : IntSS w.heap v1 xss) (h2 : IntSS w.heap v2 xss) :
    Calls Tryz.prog 13 #[.agg #[v1], .agg #[v2]] w fun e w' => e = .returned (.bool true) ∧ Below w.heap.size w w' := by
  have hb : Below w.heap.size w ((w.alloc (.cells #[v1] 34)).alloc (.cells #[v2] 34)) := ((Below.refl _ _).alloc (Nat.le_refl _) _).alloc (by simp) _
  have C := Lib.hid (eqInt64SS_same v1 v2 xss _ (h1.same hb.block) (h2.same hb.block))
  obtain ⟨a1, c1, rfl, m1⟩ := h1.len
  obtain ⟨a2, c2, rfl, m2⟩ := h2.len
  have HB := Lib.hid hb; clear hb h1 h2
  go_enter Tryz.func13, Tryz.ntmps13
  go_wp2_with (go_at_call 28; refine C.out.mono ?_; rintro e w1 ⟨rfl, n, rfl⟩)
  go_ret
  exact ⟨rfl, below_drewN n HB.out⟩
theorem markMilnor_c (v : Value) (us : List Value) (xss : List (List Int)) (k : Int) (B : Nat) (w : World) (h : OwnU w B v us xss) (hB : B ≤ w.heap.size) (hk : 0 ≤ k) (hx : k + cnt xss ≤ 4611686018427387904) :
    Calls Tryz.prog 15 #[.agg #[v], .int .i64 k] w fun e w' => e = .returned (.int .i64 (k + cnt xss)) ∧ OwnU w' B v us (marksS k xss) ∧ Below B w w' ∧ (∀ b, b < w.heap.size → (∀ u, u ∈ us → u.ownBlock ≠ some b) → w'.heap[b]? = w.heap[b]?) := by
  have hb : Below B w (w.alloc (.cells #[v] 34)) := (Below.refl _ _).alloc hB _
  have C := Lib.hid (markInt64SS_c v us xss k B _ (h.same (alloc_old w (.cells #[v] 34))) (by simp; omega) hk hx)
  obtain ⟨a1, c1, rfl, m1⟩ := h.ints.len
  have HB := Lib.hid hb; clear hb h
  go_enter Tryz.func15, Tryz.ntmps15
  go_wp2_with (go_at_call 29; refine C.out.mono ?_; rintro e w1 ⟨rfl, h1, z1, b1, k1⟩; have K1 := Lib.hid k1; clear k1)
  go_ret
  exact ⟨rfl, h1, HB.out.trans b1, fun b hb hne => (K1.out b (by simp; omega) hne).trans (alloc_old _ _ _ hb)⟩
end Go.Proofs.YtalbbjhonkcbgaaGreat

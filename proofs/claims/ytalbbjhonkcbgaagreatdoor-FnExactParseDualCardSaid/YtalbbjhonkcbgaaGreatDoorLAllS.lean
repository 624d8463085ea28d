/- slices.IndexFunc, slices.ContainsFunc and 'all' at [][]int64. -/
import Derived.Test.YtalbbjhonkcbgaaGreatDoorBase2
import Derived.Test.YtalbbjhonkcbgaaGreatDoorFn
import Derived.Test.YtalbbjhonkcbgaaGreatDoorLib3
namespace Go.Proofs.YtalbbjhonkcbgaaGreatDoor
open Go.RowKit Go.Sort

theorem indexFuncSS_c (v : Value) (xss : List (List Int)) (K : Nat) (caps : Array Value) (p : List Int → Bool) (w : World) (h : IntSS w.heap v xss) (hcf : Enters Tryz.prog K)
    (hf : ∀ w1 : World, Below w.heap.size w w1 → ∀ u xs, xs ∈ xss → IntS w1.heap u xs → Calls Tryz.prog K (#[u] ++ caps) w1 fun e w' => e = .returned (.bool (p xs)) ∧ Below w1.heap.size w1 w') :
    Calls Tryz.prog 118 #[v, .func (.func K) #[] caps] w fun e w' => (∃ j : Nat, j ≤ xss.length ∧ (∀ k, k < j → p (xss.getD k []) = false) ∧ (j < xss.length → p (xss.getD j []) = true) ∧ e = .returned (.int .i64 (if j < xss.length then (j : Int) else -1))) ∧ Below w.heap.size w w' := by
  obtain ⟨ao, c, rfl, hm⟩ := h.len
  have H := Lib.hid h; clear h
  have HF := Lib.hid hf; clear hf
  unfold Enters at hcf
  go_enter Tryz.func118, Tryz.ntmps118
  go_wp2_with fail
  go_loopw [8] (fun i wr => ∃ j : Nat, j ≤ xss.length ∧ i = .int .i64 j ∧ Below w.heap.size w wr ∧ ∀ k, k < j → p (xss.getD k []) = false) (fun i _ => xss.length - (intOf i).toNat)
  case atStart => exact ⟨0, Nat.zero_le _, rfl, Below.refl _ _, by simp⟩
  case round =>
    obtain ⟨j, hj, rfl, hbl, hpre⟩ := hrel
    have HP := Lib.hid hpre; have HB := Lib.hid hbl; clear hpre
    by_cases hlt : j < xss.length
    · obtain ⟨b, off, cap, u, hv, hc, hu, -⟩ := (H.out.same hbl.block).at j hlt
      simp only [Value.slice.injEq, true_and] at hv
      obtain ⟨rfl, rfl⟩ := hv
      obtain ⟨ra, rc, rfl, hrl⟩ := hu.len
      have HX := Lib.hid (show xss.getD j [] = xss[j] by simp [hlt])
      have HM := Lib.hid (List.getElem_mem hlt)
      have HU := Lib.hid hu
      clear hbl hu
      cases hp : p xss[j]
      · have HPJ := Lib.hid hp; clear hp
        go_wp2_with fail
        refine (HF.out wr HB.out _ _ HM.out HU.out).mono ?_
        rw [HPJ.out]
        rintro e w' ⟨rfl, hb2⟩
        go_wp2_with fail
        go_roundw
        case rel =>
          refine ⟨j + 1, by omega, by go_num, HB.out.trans (hb2.mono HB.out.size), fun k hk => ?_⟩
          by_cases e : k = j
          · subst e; rw [HX.out]; exact HPJ.out
          · exact HP.out k (by omega)
        case measure => simp [intOf]; omega
      · have HPJ := Lib.hid hp; clear hp
        go_wp2_with fail
        refine (HF.out wr HB.out _ _ HM.out HU.out).mono ?_
        rw [HPJ.out]
        rintro e w' ⟨rfl, hb2⟩
        go_wp2_with fail
        go_ret
        exact ⟨⟨j, by omega, HP.out, fun _ => by rw [HX.out]; exact HPJ.out, by rw [if_pos hlt]; rfl⟩, HB.out.trans (hb2.mono HB.out.size)⟩
    · obtain rfl : j = xss.length := by omega
      clear hbl
      go_wp2_with fail
      go_ret
      exact ⟨⟨xss.length, Nat.le_refl _, HP.out, fun h => absurd h (Nat.lt_irrefl _), by rw [if_neg (Nat.lt_irrefl _)]; rfl⟩, HB.out⟩
theorem containsFuncSS_c (v : Value) (xss : List (List Int)) (K : Nat) (caps : Array Value) (p : List Int → Bool) (w : World) (h : IntSS w.heap v xss) (hcf : Enters Tryz.prog K)
    (hf : ∀ w1 : World, Below w.heap.size w w1 → ∀ u xs, xs ∈ xss → IntS w1.heap u xs → Calls Tryz.prog K (#[u] ++ caps) w1 fun e w' => e = .returned (.bool (p xs)) ∧ Below w1.heap.size w1 w') :
    Calls Tryz.prog 91 #[v, .func (.func K) #[] caps] w fun e w' => e = .returned (.bool (xss.any p)) ∧ Below w.heap.size w w' := by
  have C : Calls Tryz.prog 118 #[v, .func (.func K) #[] caps] w fun e w' => (∃ r : Int, e = .returned (.int .i64 r) ∧ (decide (0 ≤ r) = xss.any p) ∧ -1 ≤ r) ∧ Below w.heap.size w w' := by
    refine (indexFuncSS_c v xss K caps p w h hcf hf).mono ?_
    rintro e w' ⟨⟨j, hj, h1, h2, rfl⟩, hb⟩
    refine ⟨⟨_, rfl, ?_, by split <;> omega⟩, hb⟩
    by_cases hlt : j < xss.length
    · rw [if_pos hlt]
      have : xss.any p = true := List.any_eq_true.2 ⟨xss[j], List.getElem_mem hlt, by simpa [hlt] using h2 hlt⟩
      rw [this]; simp
    · rw [if_neg hlt]
      have : xss.any p = false := by
        rw [List.any_eq_false]
        intro x hx
        obtain ⟨k, hk, rfl⟩ := List.getElem_of_mem hx
        have := h1 k (by omega)
        simpa [hk] using this
      rw [this]; simp
  obtain ⟨ao, c, rfl, hm⟩ := h.len
  have HC := Lib.hid C; clear h hcf hf C
  go_enter Tryz.func91, Tryz.ntmps91
  go_wp2_with fail
  refine HC.out.mono ?_
  rintro e w' ⟨⟨r, rfl, hr, h1⟩, hb⟩
  have HR := Lib.hid hr; clear hr
  go_wp2_with fail
  go_ret
  exact ⟨by rw [← HR.out]; rfl, hb⟩
theorem enters_allSS1 : Enters Tryz.prog 92 := fun args w => by kernel_rfl
theorem any_not_allSS (l : List (List Int)) (p : List Int → Bool) : (!(l.any fun x => !p x)) = l.all p := by
  induction l with
  | nil => rfl
  | cons x l ih => simp only [List.any_cons, List.all_cons, Bool.not_or, Bool.not_not, ih]
theorem allSS_c (v : Value) (xss : List (List Int)) (K : Nat) (caps : Array Value) (p : List Int → Bool) (w : World) (h : IntSS w.heap v xss) (hcf : Enters Tryz.prog K)
    (hf : ∀ w1 : World, Below w.heap.size w w1 → ∀ u xs, xs ∈ xss → IntS w1.heap u xs → Calls Tryz.prog K (#[u] ++ caps) w1 fun e w' => e = .returned (.bool (p xs)) ∧ Below w1.heap.size w1 w') :
    Calls Tryz.prog 61 #[v, .func (.func K) #[] caps] w fun e w' => e = .returned (.bool (xss.all p)) ∧ Below w.heap.size w w' := by
  have h' : IntSS (w.alloc (.cells #[.func (.func K) #[] caps] 74)).heap v xss := h.same (alloc_old _ _)
  have hb0 : Below w.heap.size w (w.alloc (.cells #[.func (.func K) #[] caps] 74)) := (Below.refl _ _).alloc (Nat.le_refl _) _
  have key : ∀ w1 : World, Below (w.alloc (.cells #[.func (.func K) #[] caps] 74)).heap.size (w.alloc (.cells #[.func (.func K) #[] caps] 74)) w1 → ∀ u xs, xs ∈ xss → IntS w1.heap u xs →
      Calls Tryz.prog 92 (#[u] ++ #[.pointer (some ⟨w.heap.size, 0, none⟩)]) w1 fun e w' => e = .returned (.bool (!p xs)) ∧ Below w1.heap.size w1 w' := by
    intro w1 hb1 u xs hx hu
    have hc : w1.cell? ⟨w.heap.size, 0, none⟩ = some (.func (.func K) #[] caps) := by
      rw [World.cell?_of_block (hb1.block _ (by simp))]
      rw [World.cell?]; simp only [heap_alloc_new]; rfl
    have HF := Lib.hid (hf w1 (hb0.trans (hb1.mono (by simp))) u xs hx hu)
    unfold Enters at hcf
    obtain ⟨ra, rc, rfl, hrl⟩ := hu.len
    clear hf hu hb1 hb0 h' h hx
    show Calls _ _ #[.slice ra xs.length rc, .pointer (some ⟨w.heap.size, 0, none⟩)] _ _
    go_enter Tryz.func92, Tryz.ntmps92
    go_wp2_with fail
    refine HF.out.mono ?_
    rintro e w' ⟨rfl, hb⟩
    go_wp2_with fail
    go_ret
    exact ⟨rfl, hb⟩
  have HC := Lib.hid (containsFuncSS_c v xss _ #[.pointer (some ⟨w.heap.size, 0, none⟩)] (fun x => !p x) _ h' enters_allSS1 key)
  obtain ⟨ao, c, rfl, hm⟩ := h.len
  have HB0 := Lib.hid hb0
  clear key h' h hf hcf hb0
  go_enter Tryz.func61, Tryz.ntmps61
  go_wp2_with fail
  refine HC.out.mono ?_
  rintro e w' ⟨rfl, hb⟩
  have HB := Lib.hid hb; clear hb
  go_wp2_with fail
  go_ret
  exact ⟨by rw [← any_not_allSS]; rfl, HB0.out.trans (HB.out.mono (by simp))⟩
end Go.Proofs.YtalbbjhonkcbgaaGreatDoor

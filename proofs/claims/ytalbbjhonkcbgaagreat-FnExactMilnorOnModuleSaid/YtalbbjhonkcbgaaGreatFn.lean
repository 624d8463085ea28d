/- Contracts of 'all', of the library's ContainsFunc and IndexFunc at slices of int64, of sums and of the copies that the statements make. -/
import Derived.Test.YtalbbjhonkcbgaaGreatBase
namespace Go.Proofs.YtalbbjhonkcbgaaGreat
open Go.RowKit

theorem any_not_all (xs : List Int) (p : Int → Bool) : (xs.any fun x => !p x) = !xs.all p := by
  induction xs with
  | nil => rfl
  | cons x r ih => simp only [List.any_cons, List.all_cons, ih]; cases p x <;> rfl
theorem cell_spot (w : World) (b o s : Nat) : w.cell? ⟨b, o, some s⟩ = none := by unfold World.cell?; split <;> simp

theorem toInt64S_c (a : Option Addr) (len cap : Nat) (zs : List Int) (w : World) (h : IsRow .i64 w a len cap zs) (hl : len ≤ 1048576) :
    Calls Tryz.prog 9 #[.slice a len cap] w fun e w' => ∃ v, e = .returned v ∧ OwnI w' w.heap.size v (zs.take len) ∧ Below w.heap.size w w' := by
  have hzl : (zs.take len).length = len := by
    rcases h with ⟨_, rfl, _, rfl⟩ | ⟨x, _, h1, _, h2, _⟩
    · rfl
    · simp; omega
  have hcell : ∀ k, k < len → ∃ b off, a = some ⟨b, off, none⟩ ∧ b < w.heap.size ∧ w.cell? ⟨b, off + k, none⟩ = some (.int .i64 ((zs.take len).getD k 0)) := by
    intro k hk
    rcases h with ⟨_, rfl, _, _⟩ | ⟨x, rfl, h1, _, h2, h3, _⟩
    · omega
    · have h4 := h3 k (by omega)
      obtain ⟨b, off, spot⟩ := x
      cases spot with
      | some s =>
        have h5 := h3 0 (by omega)
        rw [show (⟨b, off, some s⟩ : Addr).add 0 = ⟨b, off, some s⟩ by simp [Addr.add], cell_spot] at h5; cases h5
      | none =>
        rw [Addr.add_lit] at h4
        refine ⟨b, off, rfl, World.block_lt_of_cell? w _ h4, ?_⟩
        rw [h4]; simp [hk]
  have HC := Lib.hid hcell; have HZ := Lib.hid hzl; clear hcell hzl h
  have hmk := fun w => make_run (P := Tryz.prog) 22 2 _ 8 info_int64 Tryz.underlying22 rfl (by omega) len (by omega) .i64 .i64 (len : Int) (len : Int) rfl rfl w
  go_enter Tryz.func9, Tryz.ntmps9
  go_wp2_with fail
  clear hmk
  go_loopw [4] (fun i wr => ∃ j : Nat, j ≤ len ∧ i = .int .i64 j ∧ wr.ownsRow w.heap.size 2 1 (.slice (some ⟨w.heap.size, 0, none⟩) len len) len (((zs.take len).take j ++ List.replicate (len - j) 0).map (Value.int .i64)) ∧ Below w.heap.size w wr) (fun i _ => len - (intOf i).toNat)
  case atStart =>
    refine ⟨0, Nat.zero_le _, rfl, ?_, (Below.refl _ _).alloc (Nat.le_refl _) _⟩
    have := made_own w w.heap.size 2 len (.int .i64 0) (Nat.le_refl _) (by omega)
    simpa using this
  case round =>
    obtain ⟨j, hj, rfl, hown, hbl⟩ := hrel
    by_cases hlt : j < len
    · obtain ⟨b, off, rfl, hb, hc⟩ := HC.out j hlt
      have hc' : wr.cell? ⟨b, off + j, none⟩ = some (.int .i64 ((zs.take len).getD j 0)) := by rw [hbl.cell (p := ⟨b, off + j, none⟩) hb]; exact hc
      have hst := own_int_set hown j ((zs.take len).getD j 0)
      have hlist : ((zs.take len).take j ++ List.replicate (len - j) 0).set j ((zs.take len).getD j 0) = (zs.take len).take (j + 1) ++ List.replicate (len - (j + 1)) 0 := by
        have hz := HZ.out
        generalize zs.take len = l at *
        rw [List.set_append_right _ _ (by simp; omega), show len - j = (len - (j + 1)) + 1 by omega, List.replicate_succ]
        have e : l.take (j + 1) = l.take j ++ [l.getD j 0] := by rw [List.take_succ_eq_append_getElem (by omega)]; simp [show j < l.length by omega]
        rw [show j - (l.take j).length = 0 by simp; omega, List.set_cons_zero, e, List.append_assoc]
        rfl
      rw [hlist] at hst
      have hc2 := own_int_at hown j hlt
      have hf := hown.frozenAt j
      have hbl' := hbl.setCell (p := ⟨w.heap.size, j, none⟩) (Nat.le_refl _) (.int .i64 ((zs.take len).getD j 0))
      generalize (zs.take len).getD j 0 = x at *
      have G := Lib.hid (And.intro hst hbl'); clear hst hbl' hlist hown hbl hc
      go_wp2_with fail
      go_roundw
      case rel => exact ⟨j + 1, by omega, by go_num, G.out.1, G.out.2⟩
      case measure => simp [intOf]; omega
    · obtain rfl : j = len := by omega
      go_wp2_with fail
      go_ret
      refine ⟨_, rfl, ?_, hbl⟩
      unfold OwnI
      have hz := HZ.out
      rw [hz]
      rw [Nat.sub_self, List.replicate_zero, List.append_nil, List.take_of_length_le (by omega)] at hown
      exact hown
theorem sum_c (v : Value) (xs : List Int) (w : World) (h : IntS w.heap v xs) :
    Calls Tryz.prog 68 #[v] w fun e w' => e = .returned (.int .i64 (xs.foldl (fun s x => wrap64 (s + x)) 0)) ∧ w = w' := by
  obtain ⟨ao, c, rfl, hm⟩ := h.len
  have H := Lib.hid h; clear h
  go_enter Tryz.func68, Tryz.ntmps68
  go_wp2_with fail
  go_loop [3, 8] (fun s i => ∃ j : Nat, j ≤ xs.length ∧ i = .int .i64 j ∧ s = .int .i64 ((xs.take j).foldl (fun s x => wrap64 (s + x)) 0)) (fun _ i => xs.length - (intOf i).toNat)
  case atStart => exact ⟨0, Nat.zero_le _, rfl, rfl⟩
  case round =>
    obtain ⟨j, hj, rfl, rfl⟩ := hrel
    by_cases hlt : j < xs.length
    · obtain ⟨b, off, cap, hv, hc, -⟩ := (H.out).at j hlt
      simp only [Value.slice.injEq, true_and] at hv
      obtain ⟨rfl, rfl⟩ := hv
      have hst : (xs.take (j + 1)).foldl (fun s x => wrap64 (s + x)) 0 = wrap64 ((xs.take j).foldl (fun s x => wrap64 (s + x)) 0 + xs[j]) := by
        rw [List.take_succ_eq_append_getElem hlt, List.foldl_append]; rfl
      generalize (xs.take j).foldl (fun s x => wrap64 (s + x)) 0 = s at *
      have HST := Lib.hid hst; clear hst
      go_wp2_with fail
      go_round
      case rel => exact ⟨j + 1, by omega, by go_num, by rw [HST.out]⟩
      case measure => simp [intOf]; omega
    · obtain rfl : j = xs.length := by omega
      go_wp2_with fail
      go_ret
      exact ⟨by simp, rfl⟩
theorem indexFunc_c (v : Value) (xs : List Int) (K : Nat) (caps : Array Value) (p : Int → Bool) (w : World) (h : IntS w.heap v xs) (hcf : Enters Tryz.prog K)
    (hf : ∀ n x, x ∈ xs → Calls Tryz.prog K (#[.int .i64 x] ++ caps) (w.drewN n) fun e w' => e = .returned (.bool (p x)) ∧ ∃ m, w' = w.drewN m) :
    Calls Tryz.prog 126 #[v, .func (.func K) #[] caps] w fun e w' => (∃ r : Int, e = .returned (.int .i64 r) ∧ (decide (0 ≤ r) = xs.any p) ∧ -1 ≤ r) ∧ ∃ m, w' = w.drewN m := by
  obtain ⟨ao, c, rfl, hm⟩ := h.len
  have H := Lib.hid h; clear h
  have HF := Lib.hid hf; clear hf
  unfold Enters at hcf
  go_enter Tryz.func126, Tryz.ntmps126
  go_wp2_with fail
  go_loopw [8] (fun i wr => ∃ j n : Nat, j ≤ xs.length ∧ i = .int .i64 j ∧ wr = w.drewN n ∧ ∀ k, k < j → p (xs.getD k 0) = false) (fun i _ => xs.length - (intOf i).toNat)
  case atStart => exact ⟨0, 0, Nat.zero_le _, rfl, rfl, by simp⟩
  case round =>
    obtain ⟨j, n, hj, rfl, rfl, hpre⟩ := hrel
    have HP := Lib.hid hpre; clear hpre
    by_cases hlt : j < xs.length
    · obtain ⟨b, off, cap, hv, hc, -⟩ := (H.out).at j hlt
      simp only [Value.slice.injEq, true_and] at hv
      obtain ⟨rfl, rfl⟩ := hv
      have HX := Lib.hid (show xs.getD j 0 = xs[j] by simp [hlt])
      have HM := Lib.hid (List.getElem_mem hlt)
      cases hp : p xs[j]
      · have HPJ := Lib.hid hp; clear hp
        go_wp2_with fail
        refine (HF.out n _ HM.out).mono ?_
        rw [HPJ.out]
        rintro e w' ⟨rfl, m, rfl⟩
        go_wp2_with fail
        go_roundw
        case rel =>
          refine ⟨j + 1, _, by omega, by go_num, rfl, fun k hk => ?_⟩
          by_cases e : k = j
          · subst e; rw [HX.out]; exact HPJ.out
          · exact HP.out k (by omega)
        case measure => simp [intOf]; omega
      · have HPJ := Lib.hid hp; clear hp
        go_wp2_with fail
        refine (HF.out n _ HM.out).mono ?_
        rw [HPJ.out]
        rintro e w' ⟨rfl, m, rfl⟩
        go_wp2_with fail
        go_ret
        refine ⟨⟨j, rfl, ?_, by omega⟩, _, rfl⟩
        have : xs.any p = true := List.any_eq_true.2 ⟨_, HM.out, HPJ.out⟩
        rw [this]; simp
    · obtain rfl : j = xs.length := by omega
      go_wp2_with fail
      go_ret
      refine ⟨⟨-1, rfl, ?_, by omega⟩, _, rfl⟩
      have : xs.any p = false := by
        rw [List.any_eq_false]
        intro x hx
        obtain ⟨k, hk, rfl⟩ := List.getElem_of_mem hx
        have := HP.out k hk
        simpa [hk] using this
      rw [this]; simp
theorem containsFunc_c (v : Value) (xs : List Int) (K : Nat) (caps : Array Value) (p : Int → Bool) (w : World) (h : IntS w.heap v xs) (hcf : Enters Tryz.prog K)
    (hf : ∀ n x, x ∈ xs → Calls Tryz.prog K (#[.int .i64 x] ++ caps) (w.drewN n) fun e w' => e = .returned (.bool (p x)) ∧ ∃ m, w' = w.drewN m) :
    Calls Tryz.prog 106 #[v, .func (.func K) #[] caps] w fun e w' => e = .returned (.bool (xs.any p)) ∧ ∃ m, w' = w.drewN m := by
  have HC := Lib.hid (indexFunc_c v xs K caps p w h hcf hf); clear h hcf hf
  go_enter Tryz.func106, Tryz.ntmps106
  go_wp2_with fail
  refine HC.out.mono ?_
  rintro e w' ⟨⟨r, rfl, hr, h1⟩, m, rfl⟩
  have HR := Lib.hid hr; clear hr
  go_wp2_with fail
  go_ret
  exact ⟨by rw [← HR.out]; rfl, _, rfl⟩
theorem enters_all1 : Enters Tryz.prog 107 := fun args w => by kernel_rfl
theorem all_c (v : Value) (xs : List Int) (K : Nat) (caps : Array Value) (p : Int → Bool) (w : World) (h : IntS w.heap v xs) (hcf : Enters Tryz.prog K)
    (hf : ∀ w1 : World, (∀ b, b < w.heap.size → w1.heap[b]? = w.heap[b]?) → ∀ x, x ∈ xs → Calls Tryz.prog K (#[.int .i64 x] ++ caps) w1 fun e w' => e = .returned (.bool (p x)) ∧ ∃ m, w' = w1.drewN m) :
    Calls Tryz.prog 88 #[v, .func (.func K) #[] caps] w fun e w' => e = .returned (.bool (xs.all p)) ∧ Below w.heap.size w w' := by
  have h' : IntS (w.alloc (.cells #[.func (.func K) #[] caps] 87)).heap v xs := h.same (alloc_old _ _)
  have key : ∀ n x, x ∈ xs → Calls Tryz.prog 107 (#[.int .i64 x] ++ #[.pointer (some ⟨w.heap.size, 0, none⟩)]) ((w.alloc (.cells #[.func (.func K) #[] caps] 87)).drewN n) fun e w' => e = .returned (.bool (!p x)) ∧ ∃ m, w' = (w.alloc (.cells #[.func (.func K) #[] caps] 87)).drewN m := by
    intro n x hx
    have HF := Lib.hid (hf ((w.alloc (.cells #[.func (.func K) #[] caps] 87)).drewN n) (fun b hb => alloc_old w _ b hb) x hx); clear hf
    unfold Enters at hcf
    show Calls _ _ #[.int .i64 x, .pointer (some ⟨w.heap.size, 0, none⟩)] _ _
    go_enter Tryz.func107, Tryz.ntmps107
    go_wp2_with fail
    refine HF.out.mono ?_
    rintro e w' ⟨rfl, m, rfl⟩
    go_wp2_with fail
    go_ret
    exact ⟨rfl, _, by first | rfl | exact World.drewN_drewN ..⟩
  have HC := Lib.hid (containsFunc_c v xs _ #[.pointer (some ⟨w.heap.size, 0, none⟩)] (fun x => !p x) _ h' enters_all1 key)
  clear key h' h hf hcf
  go_enter Tryz.func88, Tryz.ntmps88
  go_wp2_with fail
  refine HC.out.mono ?_
  rintro e w' ⟨rfl, m, rfl⟩
  go_wp2_with fail
  go_ret
  exact ⟨by simp [any_not_all], below_drewN _ ((Below.refl _ _).alloc (Nat.le_refl _) _)⟩
end Go.Proofs.YtalbbjhonkcbgaaGreat

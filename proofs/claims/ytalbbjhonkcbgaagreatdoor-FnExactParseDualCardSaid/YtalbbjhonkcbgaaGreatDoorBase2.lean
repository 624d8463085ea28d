/- Contracts of the statements' helpers at slices of slices, and the law on append of a row. -/
import Derived.Test.YtalbbjhonkcbgaaGreatDoorBase
import Derived.Test.YtalbbjhonkcbgaaGreatDoorLib2
namespace Go.Proofs.YtalbbjhonkcbgaaGreatDoor
open Go.RowKit
theorem info_slI : (Tryz.prog.info? 30).map (fun i => (i.zero, i.size, i.bytes)) = some (some (.slice none 0 0), 1, 24) := by kernel_rfl

section
variable {ops : Array Oper} {rest : List Oper} {o : Oper} {a : Act} {Q : Exit → Act → World → Prop}
/-- 'append(out, row)': out the call's own down to the rows at an earlier world wE; the row has been made since. -/
theorem append_row {w w0 wE : World} (hg : o.guard = none) (s x : Operand)
    (ho : o.op = .call { callee := .builtin .append, args := #[s, x], argTypes := #[22, 22] })
    (B : Nat) (v u : Value) (xss : List (List Int)) (xs : List Int) (hown : OwnII wE B v xss) (hs : a.eval s = v) (hu : OwnI w wE.heap.size u xs) (hE : Below wE.heap.size wE w) (hbl : Below B w0 wE) (hB : B ≤ wE.heap.size)
    (b : Nat) (hx : a.eval x = .slice (some ⟨b, 0, none⟩) 1 1) (hb : b = w.heap.size) (hn : xss.length ≤ 4398046511104)
    (hK : ∀ v' w', OwnII w' B v' (xss ++ [xs]) → Below B w0 w' → w.heap.size ≤ w'.heap.size → (∀ b, b < w.heap.size → some b ≠ v.ownBlock → w'.heap[b]? = w.heap[b]?) → wpList Tryz.prog ops Q rest (a.put o.dst v') w') :
    wpList Tryz.prog ops Q (o :: rest) a (w.alloc (.cells #[u] 30)) := by
  obtain ⟨us, hU⟩ := hown
  have hW := hU.same hE.block
  obtain ⟨i0, hi, hz0, hz1, hz2⟩ := info_parts info_slI
  refine append_one hg s x _ ho B _ i0 _ 24 Tryz.underlying22 hi hz0 hz1 hz2 rfl (by omega) v _ _ u hW.row hs (hbl.trans (hE.mono hB)) (Nat.le_trans hB hE.size) _ hx hb (own_oneCell hu) hn ?_
  intro v' w' h1 h2 h3 h4
  exact hK v' w' ⟨_, OwnU.append hU hE hB hu h1 h4⟩ h2 h3 h4
end

theorem eqInt64SS_same (v1 v2 : Value) (xss : List (List Int)) (w : World) (h1 : IntSS w.heap v1 xss) (h2 : IntSS w.heap v2 xss) :
    Calls Tryz.prog 22 #[v1, v2] w fun e w' => e = .returned (.bool true) ∧ ∃ n, w' = w.drewN n := by
  obtain ⟨a1, c1, rfl, m1⟩ := h1.len
  obtain ⟨a2, c2, rfl, m2⟩ := h2.len
  have H1 := Lib.hid h1; clear h1
  have H2 := Lib.hid h2; clear h2
  have hb := (eqB (a := (xss.length : Int)) (b := xss.length) rfl).2
  go_enter Tryz.func22, Tryz.ntmps22
  go_wp2
  clear hb
  go_loopw [5] (fun i wr => ∃ k n : Nat, k ≤ xss.length ∧ i = .int .i64 k ∧ wr = w.drewN n) (fun i _ => xss.length - (intOf i).toNat)
  case atStart => exact ⟨0, 0, Nat.zero_le _, rfl, rfl⟩
  case round =>
    obtain ⟨k, n, hk, rfl, rfl⟩ := hrel
    by_cases hlt : k < xss.length
    · obtain ⟨b1, o1, c1', r1, hv1, hc1, hr1, _⟩ := (H1.out).at k hlt
      obtain ⟨b2, o2, c2', r2, hv2, hc2, hr2, _⟩ := (H2.out).at k hlt
      simp only [Value.slice.injEq, true_and] at hv1 hv2
      obtain ⟨rfl, rfl⟩ := hv1
      obtain ⟨rfl, rfl⟩ := hv2
      have HR1 := Lib.hid hr1; have HR2 := Lib.hid hr2; clear hr1 hr2
      go_wp2_with fail
      go_quiet ((go_at_call 32; exact quiet_behind (eqInt64S_same _ _ _ _ (by exact HR1.out) (by exact HR2.out))))
      go_wp2_with fail
      go_roundw
      case rel => exact ⟨k + 1, _, by omega, by go_num, rfl⟩
      case measure => simp [intOf]; omega
    · go_wp2
      go_ret
      exact ⟨rfl, _, rfl⟩
theorem markInt64SS_c (v : Value) (us : List Value) (xss : List (List Int)) (k : Int) (B : Nat) (w : World) (h : OwnU w B v us xss) (hsB : B ≤ w.heap.size) (hk : 0 ≤ k) (hx : k + cnt xss ≤ 4611686018427387904) :
    Calls Tryz.prog 23 #[v, .int .i64 k] w fun e w' => e = .returned (.int .i64 (k + cnt xss)) ∧ OwnU w' B v us (marksS k xss) ∧ w.heap.size ≤ w'.heap.size ∧ Below B w w' ∧ (∀ b, b < w.heap.size → (∀ u, u ∈ us → u.ownBlock ≠ some b) → w'.heap[b]? = w.heap[b]?) := by
  obtain ⟨ao, c, rfl, hm⟩ := h.ints.len
  have hl := h.len
  have HSB := Lib.hid hsB; clear hsB
  have HL := Lib.hid hl; have H := Lib.hid h; clear h hl
  go_enter Tryz.func23, Tryz.ntmps23
  go_wp2
  go_loopw [1, 5] (fun s i wr => ∃ j : Nat, j ≤ xss.length ∧ i = .int .i64 j ∧ s = .int .i64 (k + cnt (xss.take j)) ∧ OwnU wr B (.slice ao xss.length c) us (markedS k xss j) ∧ w.heap.size ≤ wr.heap.size ∧ Below B w wr ∧ (∀ b, b < w.heap.size → (∀ u, u ∈ us → u.ownBlock ≠ some b) → wr.heap[b]? = w.heap[b]?)) (fun _ i _ => xss.length - (intOf i).toNat)
  case atStart => exact ⟨0, Nat.zero_le _, rfl, by simp [cnt], by simpa [markedS] using H.out, Nat.le_refl _, Below.refl _ _, fun _ _ _ => rfl⟩
  case round =>
    obtain ⟨j, hj, rfl, rfl, hown, hsz, hbl, hkb⟩ := hrel
    by_cases hlt : j < xss.length
    · have hm1 : (markedS k xss j)[j]? = some xss[j] := by rw [markedS_at _ _ _ _ hlt, if_neg (by omega)]; simp [hlt]
      have hju : j < us.length := by have := HL.out; omega
      have hO := hown.each j us[j] _ (List.getElem?_eq_getElem hju) hm1
      obtain ⟨b, off, cap, cur, hv, hb, _, _, _, h5⟩ := SlAt.at (slAt_of_own hown.row) j hju
      simp only [Value.slice.injEq] at hv
      obtain ⟨rfl, -, rfl⟩ := hv
      have hc : wr.cell? ⟨b, off + j, none⟩ = some us[j] := by rw [World.cell?]; simp only [hb]; simpa [hju] using h5
      have hcnt := cnt_take_succ xss j hlt
      have hle := cnt_take_le xss (j + 1)
      have hx2 : (k + cnt (xss.take j)) + xss[j].length ≤ 4611686018427387904 := by omega
      have HO := Lib.hid hown; have HO2 := Lib.hid hO; have HK := Lib.hid hkb; have HBL := Lib.hid hbl; have HC := Lib.hid hcnt
      clear hown hO hkb hbl hb h5 hcnt hle hm1
      go_wp2_with fail
      refine (markInt64S_c us[j] xss[j] (k + cnt (xss.take j)) B wr HO2.out (by omega) hx2).mono ?_
      rintro e w1 ⟨rfl, ho1, hg1⟩
      go_wp2_with fail
      go_roundw
      case rel =>
        refine ⟨j + 1, by omega, by go_num, by rw [HC.out]; simp only [Int.natCast_add, Int.add_assoc], ?_, Nat.le_trans hsz hg1.size, HBL.out.grown hg1 (Nat.le_trans (by exact HSB.out) hsz) (fun x hx => (World.ownsRow.lt HO2.out x hx).1), ?_⟩
        · rw [← markedS_set k xss j hlt]
          exact HO.out.set (List.getElem?_eq_getElem hju) hg1 ho1
        · intro x hx hne
          rw [hg1.block x (by omega) (fun z => hne _ (List.getElem_mem hju) z.symm)]
          exact HK.out x hx hne
      case measure => simp [intOf]; omega
    · obtain rfl : j = xss.length := by omega
      go_wp2_with fail
      go_ret
      rw [markedS_all] at hown
      exact ⟨by simp, hown, hsz, hbl, hkb⟩
theorem heldInt64SS_c (v : Value) (xss : List (List Int)) (k : Int) (w : World) (h : IntSS w.heap v (marksS k xss)) (hk : 0 ≤ k) (hx : k + cnt xss ≤ 4611686018427387904) :
    Calls Tryz.prog 24 #[v, .int .i64 k] w fun e w' => e = .returned (.int .i64 (k + cnt xss)) ∧ w = w' := by
  obtain ⟨ao, c, rfl, hm⟩ := h.len
  rw [marksS_length] at hm ⊢
  have H := Lib.hid h; clear h
  go_enter Tryz.func24, Tryz.ntmps24
  go_wp2
  go_loop [1, 5] (fun s i => ∃ j : Nat, j ≤ xss.length ∧ i = .int .i64 j ∧ s = .int .i64 (k + cnt (xss.take j))) (fun _ i => xss.length - (intOf i).toNat)
  case atStart => exact ⟨0, Nat.zero_le _, rfl, by simp [cnt]⟩
  case round =>
    obtain ⟨j, hj, rfl, rfl⟩ := hrel
    by_cases hlt : j < xss.length
    · obtain ⟨b, off, cap, r, hv, hc, hr, _⟩ := (H.out).at j (by rw [marksS_length]; exact hlt)
      simp only [Value.slice.injEq, marksS_length, true_and] at hv
      obtain ⟨rfl, rfl⟩ := hv
      have e : (marksS k xss)[j]'(by rw [marksS_length]; exact hlt) = marks (k + cnt (xss.take j)) xss[j].length := by
        have := marksS_at xss k j hlt
        rw [List.getElem?_eq_getElem (by rw [marksS_length]; exact hlt)] at this
        exact Option.some.inj this
      rw [e] at hr
      clear e
      have hcnt := cnt_take_succ xss j hlt
      have hle := cnt_take_le xss (j + 1)
      have hx2 : (k + cnt (xss.take j)) + xss[j].length ≤ 4611686018427387904 := by omega
      have HR := Lib.hid hr; have HC := Lib.hid hcnt
      clear hr hcnt hle
      go_wp2_with fail
      refine (heldInt64S_c r xss[j].length (k + cnt (xss.take j)) w HR.out (by omega) hx2).mono ?_
      rintro e w1 ⟨rfl, rfl⟩
      go_wp2_with fail
      go_round
      case rel => exact ⟨j + 1, by omega, by go_num, by rw [HC.out]; simp only [Int.natCast_add, Int.add_assoc]⟩
      case measure => simp [intOf]; omega
    · obtain rfl : j = xss.length := by omega
      go_wp2_with fail
      go_ret
      exact ⟨by simp, rfl⟩
end Go.Proofs.YtalbbjhonkcbgaaGreatDoor

/- Contracts of the statements' helpers at slices of slices, and the law on append of a row. -/
import Derived.Test.YtljfpkhgijangaaDoorBase
import Derived.Test.YtljfpkhgijangaaDoorLib2
namespace Go.Proofs.YtljfpkhgijangaaDoor
open Go.RowKit
theorem info_slI : (Tryd.prog.info? 39).map (fun i => (i.zero, i.size, i.bytes)) = some (some (.slice none 0 0), 1, 24) := by kernel_rfl

section
variable {ops : Array Oper} {rest : List Oper} {o : Oper} {a : Act} {Q : Exit → Act → World → Prop}
/-- 'append(out, row)': out the call's own down to the rows at an earlier world wE; the row has been made since. -/
theorem append_row {w w0 wE : World} (hg : o.guard = none) (s x : Operand)
    (ho : o.op = .call { callee := .builtin .append, args := #[s, x], argTypes := #[22, 22] })
    (B : Nat) (v u : Value) (xss : List (List Int)) (xs : List Int) (hown : OwnII wE B v xss) (hs : a.eval s = v) (hu : OwnI w wE.heap.size u xs) (hE : Below wE.heap.size wE w) (hbl : Below B w0 wE) (hB : B ≤ wE.heap.size)
    (b : Nat) (hx : a.eval x = .slice (some ⟨b, 0, none⟩) 1 1) (hb : b = w.heap.size) (hn : xss.length ≤ 4398046511104)
    (hK : ∀ v' w', OwnII w' B v' (xss ++ [xs]) → Below B w0 w' → w.heap.size ≤ w'.heap.size → (∀ b, b < w.heap.size → some b ≠ v.ownBlock → w'.heap[b]? = w.heap[b]?) → wpList Tryd.prog ops Q rest (a.put o.dst v') w') :
    wpList Tryd.prog ops Q (o :: rest) a (w.alloc (.cells #[u] 39)) := by
  obtain ⟨us, hU⟩ := hown
  have hW := hU.same hE.block
  obtain ⟨i0, hi, hz0, hz1, hz2⟩ := info_parts info_slI
  refine append_one hg s x _ ho B _ i0 _ 24 Tryd.underlying22 hi hz0 hz1 hz2 rfl (by omega) v _ _ u hW.row hs (hbl.trans (hE.mono hB)) (Nat.le_trans hB hE.size) _ hx hb (own_oneCell hu) hn ?_
  intro v' w' h1 h2 h3 h4
  exact hK v' w' ⟨_, OwnU.append hU hE hB hu h1 h4⟩ h2 h3 h4
end

theorem eqInt64SS_same (v1 v2 : Value) (xss : List (List Int)) (w : World) (h1 : IntSS w.heap v1 xss) (h2 : IntSS w.heap v2 xss) :
    Calls Tryd.prog 28 #[v1, v2] w fun e w' => e = .returned (.bool true) ∧ ∃ n, w' = w.drewN n := by
  obtain ⟨a1, c1, rfl, m1⟩ := h1.len
  obtain ⟨a2, c2, rfl, m2⟩ := h2.len
  have H1 := Lib.hid h1; clear h1
  have H2 := Lib.hid h2; clear h2
  have hb := (eqB (a := (xss.length : Int)) (b := xss.length) rfl).2
  go_enter Tryd.func28, Tryd.ntmps28
  go_wp2
  clear hb
  go_loopw [5] (fun i wr => ∃ k n : Nat, k ≤ xss.length ∧ i = .int .i64 k ∧ wr = w.drewN n) (fun i _ => xss.length - (intOf i).toNat)
  case atStart => exact ⟨0, 0, Nat.zero_le _, rfl, rfl⟩
  case round =>
    obtain ⟨k, n, hk, rfl, rfl⟩ := hrel
    by_cases hlt : k < xss.length
    · obtain ⟨b1, o1, c1', r1, hv1, hc1, hr1, _⟩ := (H1.out).at k hlt
      obtain ⟨b2, o2, c2', r2, hv2, hc2, hr2, _⟩ := (H2.out).at k hlt
      simp only [Value.slice.injEq, true_and] at hv1 hv2
      obtain ⟨rfl, rfl⟩ := hv1
      obtain ⟨rfl, rfl⟩ := hv2
      have HR1 := Lib.hid hr1; have HR2 := Lib.hid hr2; clear hr1 hr2
      go_wp2_with fail
      go_quiet ((go_at_call 39; exact quiet_behind (eqInt64S_same _ _ _ _ (by exact HR1.out) (by exact HR2.out))))
      go_wp2_with fail
      go_roundw
      case rel => exact ⟨k + 1, _, by omega, by go_num, rfl⟩
      case measure => simp [intOf]; omega
    · go_wp2
      go_ret
      exact ⟨rfl, _, rfl⟩
end Go.Proofs.YtljfpkhgijangaaDoor

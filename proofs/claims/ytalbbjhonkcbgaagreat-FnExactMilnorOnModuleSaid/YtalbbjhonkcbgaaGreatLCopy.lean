/- Copies of lists of lists: copyLists of the program, l01Own2 of the reference. -/
import Derived.Test.YtalbbjhonkcbgaaGreatBaseC
import Derived.Test.YtalbbjhonkcbgaaGreatBase4
namespace Go.Proofs.YtalbbjhonkcbgaaGreat
open Go.RowKit Go.Sort

theorem l01Own2_c (v : Value) (xss : List (List Int)) (w : World) (h : IntSS w.heap v xss) (hl : xss.length ≤ 4398046511104) (hr : ∀ x ∈ xss, x.length ≤ 4398046511104) :
    Calls Tryz.prog 135 #[v] w fun e w' => ∃ r us, e = .returned r ∧ OwnU w' w.heap.size r us xss ∧ Below w.heap.size w w' := by
  obtain ⟨ao, c, rfl, hm⟩ := h.len
  have H := Lib.hid h; have HR := Lib.hid hr; clear h hr
  go_enter Tryz.func135, Tryz.ntmps135
  go_wp2_with fail
  go_loopw [3, 4] (fun o i wr => ∃ (k : Nat) (us : List Value), k ≤ xss.length ∧ i = .int .i64 k ∧ OwnU wr w.heap.size o us (xss.take k) ∧ Below w.heap.size w wr) (fun _ i _ => xss.length - (intOf i).toNat)
  case atStart => exact ⟨0, [], Nat.zero_le _, rfl, ⟨World.ownsRow_made w #[] 0 (Nat.le_refl _) (Nat.zero_le _) rfl, fun i u xs hu => by simp at hu, fun i j u u' _ hu => by simp at hu⟩, (Below.refl _ _).alloc (Nat.le_refl _) _⟩
  case round =>
    obtain ⟨k, us, hk, rfl, hU, hbl⟩ := hrel
    obtain ⟨va, vn, vc, rfl⟩ := own_shape hU.row
    have HU := Lib.hid hU; have HB := Lib.hid hbl; have hsz := hbl.size
    by_cases hlt : k < xss.length
    · obtain ⟨b1, o1, c1, u, hv1, hc1, hu, -⟩ := H.out.at k hlt
      simp only [Value.slice.injEq, true_and] at hv1
      obtain ⟨rfl, rfl⟩ := hv1
      have hc := (hbl.cell (World.block_lt_of_cell? _ _ hc1)).trans hc1
      clear hc1
      have HV := Lib.hid (hu.same hbl.block)
      have HRL := Lib.hid (HR.out _ (List.getElem_mem hlt))
      have HS := Lib.hid (List.take_succ_eq_append_getElem hlt)
      obtain ⟨ua, uc, rfl, -⟩ := hu.len
      have HLN : Hid ((xss.take k).length ≤ 4398046511104) := by show _ ≤ _; rw [List.length_take]; omega
      clear hu hU hbl
      generalize xss[k] = x at *
      go_wp2_with (first | (go_at_call 85; refine (l01Own_c _ _ _ (by exact HV.out) HRL.out).mono ?_; rintro e w2 ⟨rv, rfl, hR2, hb2⟩; obtain ⟨ra, rn, rc, rfl⟩ := own_shape hR2) | (at_builtin; refine append_rowU rfl _ _ rfl w.heap.size _ _ us _ _ HU.out rfl hR2 hb2 HB.out hsz _ rfl rfl HLN.out ?_; intro v3 w3 hU3 hb3 _ _ _ _; obtain ⟨sa, sn, sc, rfl⟩ := own_shape hU3.row))
      go_roundw
      case rel => exact ⟨k + 1, _, by omega, by go_num, by rw [HS.out]; exact hU3, hb3⟩
      case measure => simp [intOf]; omega
    · obtain rfl : k = xss.length := by omega
      rw [List.take_length] at HU
      go_wp2_with fail
      go_ret
      exact ⟨_, _, rfl, HU.out, HB.out⟩
end Go.Proofs.YtalbbjhonkcbgaaGreat

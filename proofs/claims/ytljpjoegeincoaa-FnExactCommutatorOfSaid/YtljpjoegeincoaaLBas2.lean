/- The product of elements: of the program. -/
import Derived.Test.YtljpjoegeincoaaLBas
namespace Go.Proofs.Ytljpjoegeincoaa
open Go.RowKit Go.Sort

theorem prods_prefix (a b : List (List Int)) (i y : Nat) (hi : i < a.length) (hy : y < b.length) : (prodsL (a.take i) b).length + ((b.take y).flatMap (basL a[i])).length + (basL a[i] b[y]).length ≤ (prodsL a b).length := by
  have e1 : prodsL a b = prodsL (a.take (i + 1)) b ++ prodsL (a.drop (i + 1)) b := by
    unfold prodsL; rw [← List.flatMap_append, List.take_append_drop]
  have e2 : b.flatMap (basL a[i]) = (b.take (y + 1)).flatMap (basL a[i]) ++ (b.drop (y + 1)).flatMap (basL a[i]) := by
    rw [← List.flatMap_append, List.take_append_drop]
  have e3 : (b.take (y + 1)).flatMap (basL a[i]) = (b.take y).flatMap (basL a[i]) ++ basL a[i] b[y] := by
    rw [List.take_succ_eq_append_getElem hy, List.flatMap_append]; simp
  rw [e1, prodsL_take a b i hi, e2, e3]
  simp only [List.length_append]
  omega
theorem RefR.keep {w w' : World} {B : Nat} {v : Value} {us : List Value} {xss : List (List Int)} (a : RefR w' B w.heap v us xss) (k : KeepI w w') : RefR w' B w'.heap v us xss := ⟨a.row, fun i u xs hu hx => (a.each i u xs hu hx).keep k⟩
set_option maxRecDepth 100000 in
set_option maxHeartbeats 1000000 in
theorem multiplied_of (SO : SortOk) (v u : Value) (a b : List (List Int)) (w : World) (h : IntSS w.heap v a) (hu : IntSS w.heap u b) (ha : SmS 1000000000000 20 a) (hb : SmS 1000000000000 20 b) (hl : (prodsL a b).length < 4398046511104) (hrl : ∀ x ∈ prodsL a b, x.length ≤ 4398046511104) :
    Calls Try.prog 80 #[v, u] w fun e w' => ∃ r us, e = .returned r ∧ OwnU w' w.heap.size r us (oddL (prodsL a b)) ∧ Below w.heap.size w w' := by
  have O := Lib.hid (fun (v : Value) (W : World) (h : IntSS W.heap v (prodsL a b)) => oddOnes_of SO v (prodsL a b) W h (by omega) hrl)
  obtain ⟨ao, c, rfl, hla⟩ := h.len
  obtain ⟨bo, d, rfl, hlb⟩ := hu.len
  have H := Lib.hid h; have HU := Lib.hid hu
  have HA := Lib.hid ha; have HB := Lib.hid hb; have HL := Lib.hid hl
  clear h hu ha hb hl SO
  go_enter Try.func80, Try.ntmps80
  go_wp2_with fail
  go_loopw [5, 13] (fun o i wr => ∃ (x : Nat) (us : List Value), x ≤ a.length ∧ i = .int .i64 x ∧ RefR wr w.heap.size wr.heap o us (prodsL (a.take x) b) ∧ Below w.heap.size w wr) (fun _ i _ => a.length - (intOf i).toNat)
  case atStart => exact ⟨0, [], Nat.zero_le _, rfl, ref_empty _ (Nat.le_refl _), (Below.refl _ _).alloc (Nat.le_refl _) _⟩
  case round =>
    obtain ⟨x, us, hx, rfl, hU, hbl⟩ := hrel
    obtain ⟨va, vn, vc, rfl⟩ := own_shape hU.row
    have HO := Lib.hid hU; have HBL := Lib.hid hbl
    clear hU hbl
    by_cases hxl : x < a.length
    · obtain ⟨b1, o1, c1, u1, hv1, hc1, hu1, -⟩ := H.out.at x hxl
      simp only [Value.slice.injEq, true_and] at hv1
      obtain ⟨rfl, rfl⟩ := hv1
      have hcx := (HBL.out.cell (World.block_lt_of_cell? _ _ hc1)).trans hc1
      have HU1 := Lib.hid hu1
      obtain ⟨ua, uc, rfl, -⟩ := hu1.len
      have HRX := Lib.hid (HA.out _ (List.getElem_mem hxl))
      have HSX := Lib.hid (prodsL_take a b x hxl)
      have HLX : Hid (∀ y (hy : y < b.length), (prodsL (a.take x) b).length + ((b.take y).flatMap (basL a[x])).length + (basL a[x] b[y]).length < 4398046511104) := fun y hy => by
        have := prods_prefix a b x y hxl hy; have := HL.out; omega
      clear hc1 hu1
      generalize a[x] = r at *
      go_wp2_with fail
      go_loopw [5, 19] (fun o j wk => ∃ (y : Nat) (us : List Value), y ≤ b.length ∧ j = .int .i64 y ∧ RefR wk w.heap.size wk.heap o us (prodsL (a.take x) b ++ (b.take y).flatMap (basL r)) ∧ Below w.heap.size w wk) (fun _ j _ => b.length - (intOf j).toNat)
      case atStart => exact ⟨0, us, Nat.zero_le _, rfl, by simpa using HO.out, HBL.out⟩
      case round =>
        obtain ⟨y, us2, hy, rfl, hU2, hbl2⟩ := hrel
        obtain ⟨ta, tn, tc, rfl⟩ := own_shape hU2.row
        have HO2 := Lib.hid hU2; have HBL2 := Lib.hid hbl2
        clear hU2 hbl2
        by_cases hyl : y < b.length
        · obtain ⟨b2, o2, c2, u2, hv2, hc2, hu2, -⟩ := HU.out.at y hyl
          simp only [Value.slice.injEq, true_and] at hv2
          obtain ⟨rfl, rfl⟩ := hv2
          have hcy := (HBL2.out.cell (World.block_lt_of_cell? _ _ hc2)).trans hc2
          have HU2 := Lib.hid hu2
          obtain ⟨ub, ud, rfl, -⟩ := hu2.len
          have HRY := Lib.hid (HB.out _ (List.getElem_mem hyl))
          have HLY := Lib.hid (HLX.out y hyl)
          have HS2 : Hid (prodsL (a.take x) b ++ (b.take (y + 1)).flatMap (basL r) = (prodsL (a.take x) b ++ (b.take y).flatMap (basL r)) ++ basL r b[y]) := by
            show _ = _
            rw [List.take_succ_eq_append_getElem hyl, List.flatMap_append, List.append_assoc]; simp
          clear hc2 hu2
          generalize b[y] = s at *
          go_wp2_with (first | (go_at_call 111; refine (basisProduct_c _ _ r s _ (HU1.out.same HBL2.out.block) (HU2.out.same HBL2.out.block) HRX.out.2 HRY.out.2 HRX.out.1 HRY.out.1 (by have := HLY.out; omega)).mono ?_; rintro e w2 ⟨rv, us3, rfl, hR2, hb2⟩; obtain ⟨ra, rn, rc, rfl⟩ := own_shape hR2.row; have HR4 := Lib.hid ((HO2.out.same hb2.block).grow hb2.block); have HX4 := Lib.hid (hR2.ints.at2 (fun _ _ => rfl)); have HB4 := Lib.hid (HBL2.out.trans (hb2.mono HBL2.out.size)); clear hR2 hb2) | (at_builtin; refine append_refs rfl _ _ rfl w.heap.size w2.heap _ _ us2 _ _ HR4.out rfl HX4.out rfl HB4.out HB4.out.size (by have := HLY.out; rw [List.length_append]; omega) ?_; intro v3 us4 w3 hU3 hb3 hs3 hk3; obtain ⟨sa, sn, sc, rfl⟩ := own_shape hU3.row; have HU3 := Lib.hid (hU3.keep (KeepI.grown HR4.out.row (by decide) hk3))))
          go_roundw
          case rel => exact ⟨y + 1, _, by omega, by go_num, by rw [HS2.out]; exact HU3.out, hb3⟩
          case measure => simp [intOf]; omega
        · obtain rfl : y = b.length := by omega
          rw [List.take_length, ← HSX.out] at HO2
          go_wp2_with fail
          go_roundw
          case rel => exact ⟨x + 1, us2, by omega, by go_num, HO2.out, HBL2.out⟩
          case measure => simp [intOf]; omega
    · obtain rfl : x = a.length := by omega
      rw [List.take_length] at HO
      go_wp2_with (go_at_call 85; refine (O.out _ _ (HO.out.ints (fun _ _ => rfl))).mono ?_; rintro e w2 ⟨r2, us2, rfl, hU2, hb2⟩; obtain ⟨sa, sn, sc, rfl⟩ := own_shape hU2.row)
      go_ret
      exact ⟨_, _, rfl, own_u_base hU2 HBL.out.size, HBL.out.trans (hb2.mono HBL.out.size)⟩
end Go.Proofs.Ytljpjoegeincoaa

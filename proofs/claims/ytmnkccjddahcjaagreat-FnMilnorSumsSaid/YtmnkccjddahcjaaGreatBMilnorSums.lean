/- Texts that lie in one file here: LMsu1 LSrc LSrc2 LMsu2 LMsu3 LPut LDcI LDcS LDcM LDegT LCjg LDr4 LDr4b. -/
import Derived.Test.YtmnkccjddahcjaaGreatLSss
import Derived.Test.YtmnkccjddahcjaaGreatLParI
import Derived.Test.YtmnkccjddahcjaaGreatLParS
import Derived.Test.YtmnkccjddahcjaaGreatLMilArg
import Derived.Test.YtmnkccjddahcjaaGreatLGen
import Derived.Test.YtmnkccjddahcjaaGreatBase
import Derived.Test.YtmnkccjddahcjaaGreatFn
import Derived.Test.YtmnkccjddahcjaaGreatLib2
import Derived.Test.YtmnkccjddahcjaaGreatLib3
import Derived.Test.YtmnkccjddahcjaaGreatL10
import Derived.Test.YtmnkccjddahcjaaGreatBase2
import Derived.Test.YtmnkccjddahcjaaGreatLHeld
import Derived.Test.YtmnkccjddahcjaaGreatLAdd
import Derived.Test.YtmnkccjddahcjaaGreatLMulD2
import Derived.Test.YtmnkccjddahcjaaGreatLRef
import Derived.Test.YtmnkccjddahcjaaGreatLCmp
import Derived.Test.YtmnkccjddahcjaaGreatLDcj
import Derived.Test.YtmnkccjddahcjaaGreatLMulD
import Derived.Test.YtmnkccjddahcjaaGreatLStep2
import Derived.Test.YtmnkccjddahcjaaGreatLPair
import Derived.Test.YtmnkccjddahcjaaGreatLAdd2
namespace Go.Proofs.YtmnkccjddahcjaaGreat
section
open Go.RowKit Go.Sort

theorem info_mil : (Tryz.prog.info? 31).map (fun i => (i.zero, i.size, i.bytes)) = some (some (.agg #[.slice none 0 0]), 1, 24) := by kernel_rfl
/-- A slice of elements that is read. -/
def MilS (h : Array Obj) (v : Value) (rs : List (List (List Int))) : Prop :=
  ∃ us, SlAt h 31 v us ∧ us.length = rs.length ∧ ∀ (i : Nat) u xss, us[i]? = some u → rs[i]? = some xss → IntSS h u xss
theorem MilS.nil (h : Array Obj) : MilS h (.slice none 0 0) [] := ⟨[], .inl ⟨rfl, rfl⟩, rfl, fun i u xs hu => by simp at hu⟩
theorem MilS.same {h h' : Array Obj} {v : Value} {rs : List (List (List Int))} (a : MilS h v rs) (k : ∀ b, b < h.size → h'[b]? = h[b]?) : MilS h' v rs := by
  obtain ⟨us, h1, h2, h3⟩ := a
  exact ⟨us, h1.same k, h2, fun i u xss hu hx => (h3 i u xss hu hx).same k⟩
theorem MilS.len {h : Array Obj} {v : Value} {rs : List (List (List Int))} (a : MilS h v rs) : ∃ ao cap, v = .slice ao rs.length cap ∧ rs.length ≤ 9223372036854775807 := by
  obtain ⟨us, h1, h2, h3⟩ := a
  obtain ⟨ao, cap, hv, h4, h5⟩ := SlAt.len h1
  rw [h2] at hv h4
  exact ⟨ao, cap, hv, by unfold maxLen at *; omega⟩
theorem MilS.at {w : World} {v : Value} {rs : List (List (List Int))} (a : MilS w.heap v rs) (i : Nat) (hi : i < rs.length) :
    ∃ b off cap u, v = .slice (some ⟨b, off, none⟩) rs.length cap ∧ w.cell? ⟨b, off + i, none⟩ = some u ∧ IntSS w.heap u rs[i] := by
  obtain ⟨us, h1, h2, h3⟩ := a
  obtain ⟨b, off, cap, cur, hv, hb, g1, g2, g3, g4⟩ := SlAt.at h1 i (by omega)
  rw [h2] at hv g1
  refine ⟨b, off, cap, us[i]'(by omega), hv, ?_, h3 i _ _ (List.getElem?_eq_getElem (by omega)) (List.getElem?_eq_getElem hi)⟩
  rw [World.cell?]; simp only [hb]
  simpa [show i < us.length by omega] using g4
/-- A row of elements of the call's own. -/
structure MilR (w : World) (B : Nat) (h : Array Obj) (v : Value) (us : List Value) (rs : List (List (List Int))) : Prop where
  row : w.ownsRow B 31 1 v rs.length us
  each : ∀ (i : Nat) u xss, us[i]? = some u → rs[i]? = some xss → IntSS h u xss
theorem MilR.len {w : World} {B : Nat} {h : Array Obj} {v : Value} {us : List Value} {rs : List (List (List Int))} (a : MilR w B h v us rs) : us.length = rs.length := by simpa using a.row.1
theorem MilR.mils {w : World} {B : Nat} {v : Value} {us : List Value} {rs : List (List (List Int))} (a : MilR w B w.heap v us rs) : MilS w.heap v rs :=
  ⟨us, slAt_of_own a.row, by simpa using a.row.1, a.each⟩
theorem MilR.same {w w' : World} {B : Nat} {v : Value} {us : List Value} {rs : List (List (List Int))} (a : MilR w B w.heap v us rs) (k : ∀ b, b < w.heap.size → w'.heap[b]? = w.heap[b]?) : MilR w' B w'.heap v us rs := ⟨own_same a.row k, fun i u xss hu hx => (a.each i u xss hu hx).same k⟩
theorem milR_empty {w : World} {B : Nat} (hB : B ≤ w.heap.size) : MilR (w.alloc (.cells #[] 31)) B (w.alloc (.cells #[] 31)).heap (.slice (some ⟨w.heap.size, 0, none⟩) 0 0) [] [] :=
  ⟨World.ownsRow_made w #[] 0 hB (Nat.zero_le _) rfl, fun i u xs hu => by simp at hu⟩
theorem intSS_lit {w : World} {u : Value} {xs : List Int} (hu : IntS w.heap u xs) : IntSS (w.alloc (.cells #[u] 56)).heap (.slice (some ⟨w.heap.size, 0, none⟩) 1 1) [xs] :=
  ⟨[u], slAt_of_own (World.ownsRow_lit (e := 56) (size := 1) w #[u] 1 (Nat.le_refl _) (by unfold maxLen; omega) rfl), rfl, fun i x ys hx hy => by
    match i, hx, hy with
    | 0, hx, hy =>
      simp at hx hy
      subst hx; subst hy; exact hu.same (alloc_old w _)⟩
section
variable {ops : Array Oper} {rest : List Oper} {o : Oper} {a : Act} {Q : Exit → Act → World → Prop} {K : Act → World → Prop} {E : Prop}
/-- 'append(out, x)', out a row of elements, x a new element of one term. -/
theorem append_mil {w w0 : World} (hg : o.guard = none) (s x : Operand)
    (ho : o.op = .call { callee := .builtin .append, args := #[s, x], argTypes := #[52, 52] })
    (B : Nat) (v u : Value) (us : List Value) (rs : List (List (List Int))) (xs : List Int) (hR : MilR w B w.heap v us rs) (hs : a.eval s = v) (hu : IntS w.heap u xs) (hbl : Below B w0 w) (hB : B ≤ w.heap.size)
    (b c : Nat) (hx : a.eval x = .slice (some ⟨b, 0, none⟩) 1 1) (hb : b = w.heap.size + 1) (hc : c = w.heap.size) (hn : rs.length ≤ 4398046511104)
    (hK : ∀ v' us' w', MilR w' B w'.heap v' us' (rs ++ [[xs]]) → Below B w0 w' → w.heap.size ≤ w'.heap.size → (∀ zs z, IntSS w.heap z zs → IntSS w'.heap z zs) → wpList Tryz.prog ops Q rest (a.put o.dst v') w') :
    wpList Tryz.prog ops Q (o :: rest) a ((w.alloc (.cells #[u] 56)).alloc (.cells #[.slice (some ⟨c, 0, none⟩) 1 1] 31)) := by
  subst hc
  obtain ⟨i0, hi, hz0, hz1, hz2⟩ := info_parts info_mil
  have hR2 := hR.same (alloc_old w (.cells #[u] 56))
  have hu2 := intSS_lit hu
  refine append_one hg s x _ ho B _ i0 _ 24 Tryz.underlying52 hi hz0 hz1 hz2 rfl (by omega) v _ us (.slice (some ⟨w.heap.size, 0, none⟩) 1 1) hR2.row hs (hbl.alloc hB _) (by rw [size_alloc_w]; omega) b hx (by rw [size_alloc_w]; exact hb) (by rfl) hn ?_
  intro v' w' h1 h2 h3 h4
  rw [size_alloc_w] at h3
  have hk := KeepT.grown hR2.row h4
  refine hK v' _ w' ⟨by simpa using h1, fun i y ys hy hz => ?_⟩ h2 (by omega) (fun zs z hz => (hz.same (alloc_old w _)).keepT (by decide) (by decide) hk)
  have hl := hR.len
  by_cases hi : i < us.length
  · rw [List.getElem?_append_left hi] at hy
    rw [List.getElem?_append_left (by omega)] at hz
    exact (hR2.each i y ys hy hz).keepT (by decide) (by decide) hk
  · rw [List.getElem?_append_right (by omega)] at hy hz
    rw [← hl] at hz
    obtain ⟨m, hm⟩ : ∃ m, i - us.length = m := ⟨_, rfl⟩
    rw [hm] at hy hz
    match m, hy, hz with
    | 0, hy, hz =>
      simp at hy hz
      subst hy; subst hz; exact hu2.keepT (by decide) (by decide) hk
end
def mbC (n : Int) : Int := if 0 ≤ n ∧ n ≤ 40 then 0 else 2
def mbL (n : Int) : List (List (List Int)) := if 0 ≤ n ∧ n ≤ 40 then (partL n.toNat).map fun r => [r] else []
theorem partL_len {d : Nat} (hd : d ≤ 40) : (partL d).length ≤ 504 := expD_length (d := (d : Int)) (asc_partL d) (fun x hx => mem_partL hd hx) (by omega)
theorem isDeg_c (n : Int) (w : World) : Calls Tryz.prog 125 #[.int .i64 n] w fun e w' => e = .returned (.bool (decide (0 ≤ n) && decide (n ≤ 40))) ∧ w = w' := by
  go_enter Tryz.func125, Tryz.ntmps125
  go_wp2_with (first | (go_at_call 153; refine (in_c _ _ _ _).mono ?_; rintro e w' ⟨rfl, rfl⟩))
  go_ret
  exact ⟨rfl, rfl⟩
theorem deg_out {n : Int} (h : ¬ (0 ≤ n ∧ n ≤ 40)) : (decide (0 ≤ n) && decide (n ≤ 40)) = false := by simp; omega
theorem deg_in {d : Nat} (h : d ≤ 40) : (decide ((0 : Int) ≤ (d : Nat)) && decide ((d : Int) ≤ 40)) = true := by simp; omega
set_option maxRecDepth 100000 in
theorem implMilnorBasis_of (SO : SortOk2) (n : Int) (w : World) :
    Calls Tryz.prog 33 #[.int .i64 n] w fun e w' => ∃ r, e = .returned (.tuple #[r, .int .i64 (mbC n)]) ∧ MilS w'.heap r (mbL n) ∧ Below w.heap.size w w' := by
  have D := Lib.hid (isDeg_c n)
  by_cases h : 0 ≤ n ∧ n ≤ 40
  · obtain ⟨d, rfl⟩ : ∃ d : Nat, n = d := ⟨n.toNat, by omega⟩
    have hd : d ≤ 40 := by omega
    rw [show mbC (d : Int) = 0 from if_pos h, show mbL (d : Int) = (partL d).map fun r => [r] from if_pos h]
    rw [deg_in hd] at D
    have P := Lib.hid (fun W => partitions_of SO d W hd)
    have hL := partL_len hd
    clear SO h
    generalize partL d = T at *
    go_enter Tryz.func33, Tryz.ntmps33
    go_wp2_with (first | (go_at_call 125; refine (D.out _).mono ?_; rintro e w1 ⟨rfl, rfl⟩) | (go_at_call 126; refine (P.out _).mono ?_; rintro e w2 ⟨r2, us2, rfl, hU2, hb2⟩; obtain ⟨pa, pn, pc, rfl⟩ := own_shape hU2.row))
    have HR1 := Lib.hid ((milR_empty (Nat.le_refl w.heap.size)).same hb2.block)
    have HT := Lib.hid hU2.ints
    obtain rfl : pn = T.length := by
      obtain ⟨_, _, hv, _⟩ := HT.out.len
      simp only [Value.slice.injEq] at hv
      exact hv.2.1
    have HB1 := Lib.hid (((Below.refl w.heap.size w).alloc (Nat.le_refl _) (.cells #[] 31)).trans (hb2.mono (by simp)))
    clear hU2 hb2 D P
    go_wp2_with fail
    go_loopw [4, 14] (fun o i wr => ∃ (k : Nat) (us : List Value), k ≤ T.length ∧ i = .int .i64 k ∧ MilR wr w.heap.size wr.heap o us ((T.take k).map fun r => [r]) ∧ IntSS wr.heap (.slice pa T.length pc) T ∧ Below w.heap.size w wr) (fun _ i _ => T.length - (intOf i).toNat)
    case atStart => exact ⟨0, [], Nat.zero_le _, rfl, HR1.out, HT.out, HB1.out⟩
    case round =>
      obtain ⟨k, us, hk, rfl, hU, hT, hbl⟩ := hrel
      obtain ⟨va, vn, vc, rfl⟩ := own_shape hU.row
      have HU := Lib.hid hU; have HB := Lib.hid hbl; have hsz := hbl.size
      have HT2 := Lib.hid hT
      by_cases hlt : k < T.length
      · obtain ⟨b1, o1, c1, u, hv1, hc1, hu, -⟩ := hT.at k hlt
        simp only [Value.slice.injEq, true_and] at hv1
        obtain ⟨rfl, rfl⟩ := hv1
        have HV := Lib.hid hu
        have HS := Lib.hid (List.take_succ_eq_append_getElem hlt)
        obtain ⟨ua, uc, rfl, -⟩ := hu.len
        have HLN : Hid (((T.take k).map fun r => [r]).length ≤ 4398046511104) := by show _ ≤ _; rw [List.length_map, List.length_take]; omega
        clear hu hU hbl hT
        generalize T[k] = x at *
        go_wp2_with (at_builtin; refine append_mil rfl _ _ rfl w.heap.size _ _ us _ x HU.out rfl (by exact HV.out) HB.out hsz _ _ rfl rfl rfl HLN.out ?_; intro v3 us3 w3 hU3 hb3 _ hk3; obtain ⟨sa, sn, sc, rfl⟩ := own_shape hU3.row)
        go_roundw
        case rel => exact ⟨k + 1, _, by omega, by go_num, by rw [HS.out, List.map_append]; exact hU3, hk3 _ _ HT2.out, hb3⟩
        case measure => simp [intOf]; omega
      · obtain rfl : k = T.length := by omega
        rw [List.take_length] at HU
        go_wp2_with fail
        go_ret2
        exact ⟨_, rfl, HU.out.mils, HB.out⟩
  · rw [show mbC n = 2 from if_neg h, show mbL n = [] from if_neg h]
    rw [deg_out h] at D
    clear SO h
    go_enter Tryz.func33, Tryz.ntmps33
    go_wp2_with (first | (go_at_call 125; refine (D.out _).mono ?_; rintro e w1 ⟨rfl, rfl⟩))
    go_ret2
    exact ⟨_, rfl, MilS.nil _, Below.refl _ _⟩
set_option maxRecDepth 100000 in
theorem specMilnorBasis_c (n : Int) (w : World) :
    Calls Tryz.prog 48 #[.int .i64 n] w fun e w' => ∃ r, e = .returned (.tuple #[r, .int .i64 (mbC n)]) ∧ MilS w'.heap r (mbL n) ∧ Below w.heap.size w w' := by
  have D := Lib.hid (l01In_c n 0 40)
  by_cases h : 0 ≤ n ∧ n ≤ 40
  · obtain ⟨d, rfl⟩ : ∃ d : Nat, n = d := ⟨n.toNat, by omega⟩
    have hd : d ≤ 40 := by omega
    rw [show mbC (d : Int) = 0 from if_pos h, show mbL (d : Int) = (partL d).map fun r => [r] from if_pos h]
    rw [deg_in hd] at D
    have P := Lib.hid (fun W => l04Basis_c d W hd)
    have hL := partL_len hd
    clear h
    generalize partL d = T at *
    go_enter Tryz.func48, Tryz.ntmps48
    go_wp2_with (first | (go_at_call 140; refine (D.out _).mono ?_; rintro e w1 ⟨rfl, rfl⟩) | (go_at_call 141; refine (P.out _).mono ?_; rintro e w2 ⟨r2, us2, rfl, hU2, hb2⟩; obtain ⟨pa, pn, pc, rfl⟩ := own_shape hU2.row))
    have HR1 := Lib.hid (milR_empty hb2.size)
    have HT := Lib.hid (hU2.ints.same (alloc_old w2 (.cells #[] 31)))
    obtain rfl : pn = T.length := by
      obtain ⟨_, _, hv, _⟩ := HT.out.len
      simp only [Value.slice.injEq] at hv
      exact hv.2.1
    have HB1 := Lib.hid (hb2.alloc hb2.size (.cells #[] 31))
    clear hU2 hb2 D P
    go_wp2_with fail
    go_loopw [5, 6] (fun o i wr => ∃ (k : Nat) (us : List Value), k ≤ T.length ∧ i = .int .i64 k ∧ MilR wr w.heap.size wr.heap o us ((T.take k).map fun r => [r]) ∧ IntSS wr.heap (.slice pa T.length pc) T ∧ Below w.heap.size w wr) (fun _ i _ => T.length - (intOf i).toNat)
    case atStart => exact ⟨0, [], Nat.zero_le _, rfl, HR1.out, HT.out, HB1.out⟩
    case round =>
      obtain ⟨k, us, hk, rfl, hU, hT, hbl⟩ := hrel
      obtain ⟨va, vn, vc, rfl⟩ := own_shape hU.row
      have HU := Lib.hid hU; have HB := Lib.hid hbl; have hsz := hbl.size
      have HT2 := Lib.hid hT
      by_cases hlt : k < T.length
      · obtain ⟨b1, o1, c1, u, hv1, hc1, hu, -⟩ := hT.at k hlt
        simp only [Value.slice.injEq, true_and] at hv1
        obtain ⟨rfl, rfl⟩ := hv1
        have HV := Lib.hid hu
        have HS := Lib.hid (List.take_succ_eq_append_getElem hlt)
        obtain ⟨ua, uc, rfl, -⟩ := hu.len
        have HLN : Hid (((T.take k).map fun r => [r]).length ≤ 4398046511104) := by show _ ≤ _; rw [List.length_map, List.length_take]; omega
        clear hu hU hbl hT
        generalize T[k] = x at *
        go_wp2_with (at_builtin; refine append_mil rfl _ _ rfl w.heap.size _ _ us _ x HU.out rfl (by exact HV.out) HB.out hsz _ _ rfl rfl rfl HLN.out ?_; intro v3 us3 w3 hU3 hb3 _ hk3; obtain ⟨sa, sn, sc, rfl⟩ := own_shape hU3.row)
        go_roundw
        case rel => exact ⟨k + 1, _, by omega, by go_num, by rw [HS.out, List.map_append]; exact hU3, hk3 _ _ HT2.out, hb3⟩
        case measure => simp [intOf]; omega
      · obtain rfl : k = T.length := by omega
        rw [List.take_length] at HU
        go_wp2_with fail
        go_ret2
        exact ⟨_, rfl, HU.out.mils, HB.out⟩
  · rw [show mbC n = 2 from if_neg h, show mbL n = [] from if_neg h]
    rw [deg_out h] at D
    clear h
    go_enter Tryz.func48, Tryz.ntmps48
    go_wp2_with (first | (go_at_call 140; refine (D.out _).mono ?_; rintro e w1 ⟨rfl, rfl⟩))
    go_ret2
    exact ⟨_, rfl, MilS.nil _, Below.refl _ _⟩
end
section
open Go.RowKit Go.Sort

theorem wf_u8 {n : Int} (h : (Lit.int .u8 n).wf = true) : 0 ≤ n ∧ n < 256 := by
  simp [Lit.wf] at h
  have h1 : IntKind.u8.min = 0 := by decide
  have h2 : IntKind.u8.max = 255 := by decide
  omega
/-- A slice of n bytes that is read. -/
def ByteS (w : World) (v : Value) (n : Nat) : Prop := ∃ ao c, v = .slice ao n c ∧ n ≤ 9223372036854775807 ∧ ∀ i, i < n → ∃ b off x, ao = some ⟨b, off, none⟩ ∧ w.cell? ⟨b, off + i, none⟩ = some (.int .u8 ((x : Nat) : Int)) ∧ x < 256
theorem ByteS.same {w w' : World} {v : Value} {n : Nat} (a : ByteS w v n) (k : ∀ b, b < w.heap.size → w'.heap[b]? = w.heap[b]?) : ByteS w' v n := by
  obtain ⟨ao, c, h1, h2, h3⟩ := a
  refine ⟨ao, c, h1, h2, fun i hi => ?_⟩
  obtain ⟨b, off, x, e, hc, hx⟩ := h3 i hi
  exact ⟨b, off, x, e, (World.cell?_of_block (k b (World.block_lt_of_cell? _ _ hc))).trans hc, hx⟩
theorem ByteS.len {w : World} {v : Value} {n : Nat} (a : ByteS w v n) : ∃ ao c, v = .slice ao n c ∧ n ≤ 9223372036854775807 := by
  obtain ⟨ao, c, h1, h2, _⟩ := a
  exact ⟨ao, c, h1, h2⟩
theorem ByteS.at {w : World} {v : Value} {n : Nat} (a : ByteS w v n) (i : Nat) (hi : i < n) :
    ∃ b off c x, v = .slice (some ⟨b, off, none⟩) n c ∧ w.cell? ⟨b, off + i, none⟩ = some (.int .u8 ((x : Nat) : Int)) ∧ x < 256 := by
  obtain ⟨ao, c, h1, h2, h3⟩ := a
  obtain ⟨b, off, x, rfl, hc, hx⟩ := h3 i hi
  exact ⟨b, off, c, x, h1, hc, hx⟩
theorem byteS_of {w : World} {a : Option Addr} {len cap : Nat} {zs : List Int} (h : IsRow .u8 w a len cap zs) : ByteS w (.slice a len cap) len := by
  rcases h with ⟨rfl, rfl, rfl, rfl⟩ | ⟨x, rfl, h1, h2, h3, h4, h5⟩
  · exact ⟨none, 0, rfl, by omega, fun i hi => by omega⟩
  · refine ⟨some x, cap, rfl, by unfold maxLen at h2; omega, fun i hi => ?_⟩
    have h6 := h4 i (by omega)
    obtain ⟨b, off, spot⟩ := x
    cases spot with
    | some s =>
      have h7 := h4 0 (by omega)
      rw [show (⟨b, off, some s⟩ : Addr).add 0 = ⟨b, off, some s⟩ by simp [Addr.add], cell_spot] at h7; cases h7
    | none =>
      rw [Addr.add_lit] at h6
      have h8 := h5 _ (show zs.getD i 0 ∈ zs by rw [show zs.getD i 0 = zs[i]'(by omega) by simp [show i < zs.length by omega]]; exact List.getElem_mem _)
      have h9 : 0 ≤ zs.getD i 0 ∧ zs.getD i 0 < 256 := wf_u8 h8
      refine ⟨b, off, (zs.getD i 0).toNat, rfl, ?_, by omega⟩
      rw [h6, show (((zs.getD i 0).toNat : Nat) : Int) = zs.getD i 0 by omega]
/-- A source of numbers in block g, made since the world w0. -/
structure Src (w0 w : World) (g : Nat) : Prop where
  cells : ∃ (code : Value) (n p : Nat) (hash : Int), w.heap[g]? = some (.cells #[code, .int .i64 p, .int .u64 hash] 144 (0, 0)) ∧ ByteS w0 code n ∧ n ≤ 4096 ∧ p ≤ n
  ge : w0.heap.size ≤ g
  below : Below w0.heap.size w0 w
theorem Src.lt {w0 w : World} {g : Nat} (h : Src w0 w g) : g < w.heap.size := by
  obtain ⟨code, n, p, hash, h1, _⟩ := h.cells
  exact (Array.getElem?_eq_some_iff.1 h1).1
theorem Src.step {w0 w w' : World} {g : Nat} (h : Src w0 w g) (k : Below w.heap.size w w') : Src w0 w' g := by
  obtain ⟨code, n, p, hash, h1, h2⟩ := h.cells
  exact ⟨⟨code, n, p, hash, (k.block g h.lt).trans h1, h2⟩, h.ge, h.below.trans (k.mono h.below.size)⟩
theorem and24 (y : Int) : 0 ≤ bits .and .u64 y 16777215 ∧ bits .and .u64 y 16777215 ≤ 16777215 := by
  have h : (BitVec.ofInt 64 y &&& BitVec.ofInt 64 16777215).toNat ≤ 16777215 := by
    rw [BitVec.toNat_and]
    exact Nat.le_trans Nat.and_le_right (by decide)
  have e : bits .and .u64 y 16777215 = IntKind.u64.wrap ((BitVec.ofInt 64 y &&& BitVec.ofInt 64 16777215).toNat : Int) := rfl
  rw [e, IntKind.wrap_u64]
  omega
theorem l01Next_zero (g : Nat) (n : Int) (w : World) (hn : n < 1) :
    Calls Tryz.prog 116 #[.pointer (some ⟨g, 0, none⟩), .int .i64 n] w fun e w' => e = .returned (.int .i64 0) ∧ w = w' := by
  go_enter Tryz.func116, Tryz.ntmps116
  go_wp2_with fail
  go_ret
  exact ⟨rfl, rfl⟩
/-- A variable of three cells. -/
def Var3 (w : World) (g : Nat) (x y z : Value) (t : Nat) : Prop := w.heap[g]? = some (.cells #[x, y, z] t (0, 0))
section
variable {w w' : World} {g t : Nat} {x y z : Value}
theorem Var3.c0 (h : Var3 w g x y z t) : w.cell? ⟨g, 0, none⟩ = some x := by rw [World.cell?]; simp only [show w.heap[g]? = _ from h]; rfl
theorem Var3.c1 (h : Var3 w g x y z t) : w.cell? ⟨g, 1, none⟩ = some y := by rw [World.cell?]; simp only [show w.heap[g]? = _ from h]; rfl
theorem Var3.c2 (h : Var3 w g x y z t) : w.cell? ⟨g, 2, none⟩ = some z := by rw [World.cell?]; simp only [show w.heap[g]? = _ from h]; rfl
theorem Var3.free (h : Var3 w g x y z t) (j : Nat) : w.frozen? ⟨g, j, none⟩ = false := by rw [World.frozen?]; simp only [show w.heap[g]? = _ from h]; simp
theorem Var3.lt (h : Var3 w g x y z t) : g < w.heap.size := (Array.getElem?_eq_some_iff.1 h).1
theorem Var3.set1 (h : Var3 w g x y z t) (u : Value) : Var3 (w.setCell ⟨g, 1, none⟩ u) g x u z t := heap_setCell_same w g 1 _ t u h
theorem Var3.set2 (h : Var3 w g x y z t) (u : Value) : Var3 (w.setCell ⟨g, 2, none⟩ u) g x y u t := heap_setCell_same w g 2 _ t u h
theorem Var3.drewN (n : Nat) (h : Var3 w g x y z t) : Var3 (w.drewN n) g x y z t := h
end
theorem grown_drewN {w w' : World} {r : Option Nat} (n : Nat) (h : w.grownBy w' r) : w.grownBy (w'.drewN n) r := ⟨h.os, h.tape, h.output, h.size, h.block⟩
theorem Src.mk3 {w0 w w' : World} {g p n : Nat} {code : Value} {hash : Int} (hbl : Below w0.heap.size w0 w) (hge : w0.heap.size ≤ g) (hg : w.grownBy w' (some g)) (k : Var3 w' g code (.int .i64 p) (.int .u64 hash) 144) (hco : ByteS w0 code n) (hn : n ≤ 4096) (hp : p ≤ n) : Src w0 w' g :=
  ⟨⟨code, n, p, hash, k, hco, hn, hp⟩, hge, hbl.grown hg hbl.size fun b hb => by cases hb; exact hge⟩
theorem wrap64_small {X : Int} (h : 0 ≤ X ∧ X ≤ 16777215) : wrap64 X = X := by unfold wrap64; omega
set_option maxRecDepth 100000 in
theorem l01Next_pos (g : Nat) (n : Int) (w0 w : World) (h : Src w0 w g) (hn : 1 ≤ n) (hn2 : n ≤ 9223372036854775807) :
    Calls Tryz.prog 116 #[.pointer (some ⟨g, 0, none⟩), .int .i64 n] w fun e w' => ∃ r : Int, e = .returned (.int .i64 r) ∧ (0 ≤ r ∧ r < n) ∧ Src w0 w' g ∧ w.grownBy w' (some g) := by
  obtain ⟨⟨code, m, p, hash, hc, hco, hm, hp⟩, hge, hbl⟩ := h
  have HC := Lib.hid hc; have HCO := Lib.hid hco; have HB := Lib.hid hbl
  obtain ⟨ao, c, rfl, -⟩ := hco.len
  have c0 : w.cell? ⟨g, 0, none⟩ = some (.slice ao m c) := by rw [World.cell?]; simp only [hc]; rfl
  have c1 : w.cell? ⟨g, 1, none⟩ = some (.int .i64 p) := by rw [World.cell?]; simp only [hc]; rfl
  have c2 : w.cell? ⟨g, 2, none⟩ = some (.int .u64 hash) := by rw [World.cell?]; simp only [hc]; rfl
  have f1 : w.frozen? ⟨g, 1, none⟩ = false := by simp [World.frozen?, hc]
  have f2 : w.frozen? ⟨g, 2, none⟩ = false := by simp [World.frozen?, hc]
  clear hc hco hbl
  by_cases hpm : p < m
  · have hpi : (p : Int) < m := by omega
    have hp0 : (0 : Int) ≤ p := by omega
    obtain ⟨b1, o1, c1', x, hv1, hcx, hx⟩ := HCO.out.at p hpm
    simp only [Value.slice.injEq, true_and] at hv1
    obtain ⟨rfl, rfl⟩ := hv1
    have hlt := World.block_lt_of_cell? _ _ hcx
    simp only at hlt
    have hcy := (HB.out.cell hlt).trans hcx
    have hlw := World.block_lt_of_cell? _ _ hcy
    simp only at hlw
    clear hcx
    have hn0 : decide (n < 1) = false := decide_eq_false (by omega)
    go_enter Tryz.func116, Tryz.ntmps116
    go_wp2_with fail
    have k1 := (show Var3 w g _ _ _ _ from HC.out).set2 (.int .u64 (IntKind.u64.wrap (IntKind.u64.wrap (hash * 6364136223846793005) + 1442695040888963407)))
    have g1 := grownBy_setCell w ⟨g, 2, none⟩ (.int .u64 (IntKind.u64.wrap (IntKind.u64.wrap (hash * 6364136223846793005) + 1442695040888963407)))
    clear c0 c1 c2 f1 f2 HC
    generalize IntKind.u64.wrap (IntKind.u64.wrap (hash * 6364136223846793005) + 1442695040888963407) = hs at *
    have hX := and24 (hs / 8589934592)
    generalize bits BinOp.and IntKind.u64 (hs / 8589934592) 16777215 = X at *
    rw [wrap64_small hX]
    obtain ⟨hX0, hX1⟩ := hX
    generalize w.setCell ⟨g, 2, none⟩ (.int .u64 hs) = w1 at *
    have c0 := k1.c0; have c1 := k1.c1; have f1 := k1.free 1
    have K1 := Lib.hid k1; have G1 := Lib.hid g1
    clear k1
    have hcz := (World.cell?_of_block (g1.block b1 hlw (by intro e; simp only [Option.some.injEq] at e; omega))).trans hcy
    clear hcy g1
    go_quiet (fail)
    go_wp2_with fail
    go_quiet (fail)
    go_wp2_with fail
    go_ret
    exact ⟨_, rfl, ⟨Int.emod_nonneg _ (by omega), Int.emod_lt_of_pos _ (by omega)⟩, Src.mk3 HB.out hge (grownBy_trans (grown_drewN _ G1.out) (grownBy_setCell _ ⟨g, 1, none⟩ _)) (p := p + 1) ((K1.out.drewN _).set1 _) HCO.out hm (by omega), grownBy_trans (grown_drewN _ G1.out) (grownBy_setCell _ ⟨g, 1, none⟩ _)⟩
  · have hpi : ¬ (p : Int) < m := by omega
    have u1 : decide ((p : Int) < (m : Int)) = false := decide_eq_false hpi
    have u2 : decide (p < m) = false := decide_eq_false hpm
    have hn0 : decide (n < 1) = false := decide_eq_false (by omega)
    go_enter Tryz.func116, Tryz.ntmps116
    go_wp2_with fail
    have k1 := (show Var3 w g _ _ _ _ from HC.out).set2 (.int .u64 (IntKind.u64.wrap (IntKind.u64.wrap (hash * 6364136223846793005) + 1442695040888963407)))
    have g1 := grownBy_setCell w ⟨g, 2, none⟩ (.int .u64 (IntKind.u64.wrap (IntKind.u64.wrap (hash * 6364136223846793005) + 1442695040888963407)))
    clear c0 c1 c2 f1 f2 HC
    generalize IntKind.u64.wrap (IntKind.u64.wrap (hash * 6364136223846793005) + 1442695040888963407) = hs at *
    have hX := and24 (hs / 8589934592)
    generalize bits BinOp.and IntKind.u64 (hs / 8589934592) 16777215 = X at *
    rw [wrap64_small hX]
    obtain ⟨hX0, hX1⟩ := hX
    generalize w.setCell ⟨g, 2, none⟩ (.int .u64 hs) = w1 at *
    have c0 := k1.c0; have c1 := k1.c1; have f1 := k1.free 1
    have K1 := Lib.hid k1; have G1 := Lib.hid g1
    clear k1
    clear g1
    go_quiet (fail)
    go_wp2_with fail
    go_ret
    exact ⟨_, rfl, ⟨Int.emod_nonneg _ (by omega), Int.emod_lt_of_pos _ (by omega)⟩, Src.mk3 HB.out hge (grown_drewN _ G1.out) (K1.out.drewN _) HCO.out hm hp, grown_drewN _ G1.out⟩
theorem l01Next_c (g : Nat) (n : Int) (w0 w : World) (h : Src w0 w g) (hn2 : n ≤ 9223372036854775807) :
    Calls Tryz.prog 116 #[.pointer (some ⟨g, 0, none⟩), .int .i64 n] w fun e w' => ∃ r : Int, e = .returned (.int .i64 r) ∧ (0 ≤ r ∧ (r < n ∨ r = 0)) ∧ Src w0 w' g ∧ w.grownBy w' (some g) := by
  by_cases hn : n < 1
  · exact (l01Next_zero g n w hn).mono fun e w' ⟨he, hw⟩ => by
      subst hw
      exact ⟨0, he, ⟨by omega, .inr rfl⟩, h, World.grownBy.refl _ _⟩
  · exact (l01Next_pos g n w0 w h (by omega) hn2).mono fun e w' ⟨r, he, ⟨h1, h2⟩, h3, h4⟩ => ⟨r, he, ⟨h1, .inl h2⟩, h3, h4⟩
theorem lit_ints (w : World) (xs : List Int) (hl : xs.length ≤ 1000) : IntS (w.alloc (.cells (xs.map (Value.int .i64)).toArray 2)).heap (.slice (some ⟨w.heap.size, 0, none⟩) xs.length xs.length) xs :=
  slAt_of_own (base := w.heap.size) (n := xs.length) (World.ownsRow_lit (e := 2) (size := 1) w (xs.map (Value.int .i64)).toArray xs.length (Nat.le_refl _) (by unfold maxLen; omega) (by simp))
set_option maxRecDepth 100000 in
/-- One of some numbers. -/
theorem l01Pick_c (g : Nat) (v : Value) (xs : List Int) (w0 w : World) (h : Src w0 w g) (hv : IntS w.heap v xs) (hl : 0 < xs.length) (hfar : v.ownBlock ≠ some g) :
    Calls Tryz.prog 138 #[.pointer (some ⟨g, 0, none⟩), v] w fun e w' => ∃ r : Int, e = .returned (.int .i64 r) ∧ r ∈ xs ∧ Src w0 w' g ∧ w.grownBy w' (some g) := by
  obtain ⟨ao, c, rfl, hm⟩ := hv.len
  have NX := Lib.hid (l01Next_pos g (xs.length : Int) w0 w h (by omega) (by omega))
  have HV := Lib.hid hv; have HF := Lib.hid hfar
  clear h hv hfar
  go_enter Tryz.func138, Tryz.ntmps138
  go_wp2_with fail
  refine NX.out.mono ?_
  rintro e w2 ⟨r, rfl, ⟨hr0, hr1⟩, hs2, hg2⟩
  obtain ⟨j, rfl⟩ : ∃ j : Nat, r = j := ⟨r.toNat, by omega⟩
  have hj : j < xs.length := by omega
  obtain ⟨b1, o1, c1, hv1, hc1, -⟩ := HV.out.at j hj
  simp only [Value.slice.injEq, true_and] at hv1
  obtain ⟨rfl, rfl⟩ := hv1
  have hcx := (World.cell?_of_block (hg2.block b1 (World.block_lt_of_cell? _ _ hc1) (by intro e; exact HF.out e))).trans hc1
  have HS2 := Lib.hid hs2; have HG2 := Lib.hid hg2; clear hs2 hg2 hc1
  go_wp2_with fail
  go_ret
  exact ⟨_, rfl, List.getElem_mem hj, HS2.out, HG2.out⟩
set_option maxRecDepth 100000 in
theorem l01Near_c (g : Nat) (n : Int) (w0 w : World) (h : Src w0 w g) (hn : 0 ≤ n) (hn2 : n ≤ 1000000000000000) :
    Calls Tryz.prog 139 #[.pointer (some ⟨g, 0, none⟩), .int .i64 n] w fun e w' => ∃ r : Int, e = .returned (.int .i64 r) ∧ (0 ≤ r ∧ r ≤ n ∨ r = -1 ∨ r = n + 1 ∨ r = 1125899906842624 ∨ r = -4611686018427387904) ∧ Src w0 w' g ∧ w.grownBy w' (some g) := by
  have N1 := Lib.hid (l01Next_pos g 14 w0 w h (by omega) (by omega))
  have N2 := Lib.hid (fun (W : World) (h : Src w0 W g) => l01Next_pos g (n + 1) w0 W h (by omega) (by omega))
  clear h
  go_enter Tryz.func139, Tryz.ntmps139
  go_wp2_with (first | (go_at_call 116; first | ((with_reducible refine N1.out.mono ?_); rintro e w2 ⟨r2, rfl, ⟨hr0, hr1⟩, hs2, hg2⟩; have HS2 := Lib.hid hs2; have HG2 := Lib.hid hg2; clear hs2 hg2) | ((with_reducible refine (N2.out _ HS2.out).mono ?_); rintro e w3 ⟨r3, rfl, ⟨hr2, hr3⟩, hs3, hg3⟩; have HS3 := Lib.hid hs3; have HG3 := Lib.hid hg3; clear hs3 hg3)) | (go_at_call 138; refine (l01Pick_c g _ [-1, n + 1, 1125899906842624, -4611686018427387904] w0 _ (HS2.out.step ((Below.refl _ _).alloc (Nat.le_refl _) _)) (lit_ints w2 [-1, n + 1, 1125899906842624, -4611686018427387904] (by simp)) (by simp) (by have := HS2.out.lt; intro e; simp [Value.ownBlock] at e; omega)).mono ?_; rintro e w4 ⟨r4, rfl, hr4, hs4, hg4⟩; have HR4 := Lib.hid hr4; have HS4 := Lib.hid hs4; have HG4 := Lib.hid hg4; clear hr4 hs4 hg4))
  · go_ret
    refine ⟨_, rfl, ?_, HS4.out, grownBy_trans HG2.out (grownBy_trans (World.grownBy_alloc w2 _ _) HG4.out)⟩
    have := HR4.out
    simp at this
    omega
  · go_ret
    exact ⟨_, rfl, by omega, HS3.out, grownBy_trans HG2.out HG3.out⟩
end
section
open Go.RowKit Go.Sort

theorem below_grownBy {B : Nat} {w a b : World} {r : Option Nat} (h : Below B w a) (hg : a.grownBy b r) (hB : B ≤ a.heap.size) (hr : ∀ k, r = some k → B ≤ k) : Below B w b := h.grown hg hB hr
theorem Src.of_new {w w' : World} {g m p : Nat} {code : Value} {hash : Int} (k : Var3 w' g code (.int .i64 p) (.int .u64 hash) 144) (hco : ByteS w code m) (hm : m ≤ 4096) (hp : p ≤ m) (hge : w.heap.size ≤ g) (hb : Below w.heap.size w w') : Src w w' g :=
  ⟨⟨code, m, p, hash, k, hco, hm, hp⟩, hge, hb⟩
theorem Var3.new (w : World) (x y z : Value) (t : Nat) : Var3 (w.alloc (.cells #[x, y, z] t)) w.heap.size x y z t := heap_alloc_new w _
set_option maxRecDepth 100000 in
theorem l01From_c (v : Value) (m : Nat) (w : World) (h : ByteS w v m) (hm : m ≤ 4096) :
    Calls Tryz.prog 112 #[v] w fun e w' => ∃ g, e = .returned (.pointer (some ⟨g, 0, none⟩)) ∧ Src w w' g := by
  obtain ⟨ao, c, rfl, -⟩ := h.len
  have H := Lib.hid h
  clear h
  go_enter Tryz.func112, Tryz.ntmps112
  go_wp2_with fail
  go_loopw [4] (fun i wr => ∃ (k : Nat) (hash : Int), k ≤ m ∧ i = .int .i64 k ∧ Var3 wr w.heap.size (.slice ao m c) (.int .i64 0) (.int .u64 hash) 144 ∧ Below w.heap.size w wr) (fun i _ => m - (intOf i).toNat)
  case atStart => exact ⟨0, _, Nat.zero_le _, rfl, Var3.new _ _ _ _ _, (Below.refl _ _).alloc (Nat.le_refl _) _⟩
  case round =>
    obtain ⟨k, hash, hk, rfl, hV, hbl⟩ := hrel
    have HV := Lib.hid hV; have HB := Lib.hid hbl
    have c2 := hV.c2; have f2 := hV.free 2
    by_cases hkm : k < m
    · have hk0 : (0 : Int) ≤ k := by omega
      have hki : (k : Int) < m := by omega
      have hk4 : (k : Int) < 4096 := by omega
      obtain ⟨b1, o1, c1, x, hv1, hcx, hx⟩ := H.out.at k hkm
      simp only [Value.slice.injEq, true_and] at hv1
      obtain ⟨rfl, rfl⟩ := hv1
      have hcy := (hbl.cell (World.block_lt_of_cell? _ _ hcx)).trans hcx
      clear hcx hV hbl
      go_wp2_with fail
      go_region
      go_wp2_with fail
      go_roundw
      case rel => exact ⟨k + 1, _, by omega, by go_num, HV.out.set2 _, (HB.out.setCell (Nat.le_refl _) _).drew⟩
      case measure => simp [intOf]; omega
    · obtain rfl : k = m := by omega
      have u1 : decide ((k : Int) < k) = false := decide_eq_false (by omega)
      clear hV hbl
      go_wp2_with fail
      go_ret
      exact ⟨_, rfl, Src.of_new (p := 0) HV.out H.out hm (Nat.zero_le _) (Nat.le_refl _) HB.out⟩
theorem big_c (v : Value) (m : Nat) (w : World) (h : ByteS w v m) :
    Calls Tryz.prog 20 #[v] w fun e w' => e = .returned (.bool (decide (4096 < m))) ∧ w = w' := by
  obtain ⟨ao, c, rfl, -⟩ := h.len
  clear h
  by_cases hm : 4096 < m
  · have u : decide ((4096 : Int) < m) = true := decide_eq_true (by omega)
    rw [show decide (4096 < m) = true from decide_eq_true hm]
    go_enter Tryz.func20, Tryz.ntmps20
    go_wp2_with fail
    go_ret
    exact ⟨by simp, rfl⟩
  · have u : decide ((4096 : Int) < m) = false := decide_eq_false (by omega)
    rw [show decide (4096 < m) = false from decide_eq_false hm]
    go_enter Tryz.func20, Tryz.ntmps20
    go_wp2_with fail
    go_ret
    exact ⟨by simp, rfl⟩
theorem likeInts_same (v1 v2 : Value) (xs : List Int) (w : World) (h1 : IntS w.heap v1 xs) (h2 : IntS w.heap v2 xs) :
    Calls Tryz.prog 61 #[v1, v2] w fun e w' => e = .returned (.bool true) ∧ ∃ n, w' = w.drewN n := by
  obtain ⟨a1, c1, rfl, m1⟩ := h1.len
  obtain ⟨a2, c2, rfl, m2⟩ := h2.len
  have H1 := Lib.hid h1; clear h1
  have H2 := Lib.hid h2; clear h2
  have hb := (eqB (a := (xs.length : Int)) (b := xs.length) rfl).2
  go_enter Tryz.func61, Tryz.ntmps61
  go_wp2
  clear hb
  go_loopw [5] (fun i wr => ∃ k n : Nat, k ≤ xs.length ∧ i = .int .i64 k ∧ wr = w.drewN n) (fun i _ => xs.length - (intOf i).toNat)
  case atStart => exact ⟨0, 0, Nat.zero_le _, rfl, rfl⟩
  case round =>
    obtain ⟨k, n, hk, rfl, rfl⟩ := hrel
    by_cases hlt : k < xs.length
    · obtain ⟨b1, o1, c1', hv1, hc1, _⟩ := (H1.out).at k hlt
      obtain ⟨b2, o2, c2', hv2, hc2, _⟩ := (H2.out).at k hlt
      simp only [Value.slice.injEq, true_and] at hv1 hv2
      obtain ⟨rfl, rfl⟩ := hv1
      obtain ⟨rfl, rfl⟩ := hv2
      have hb := (eqB (a := xs[k]) (b := xs[k]) rfl).2
      go_wp2_with fail
      go_quiet (fail)
      go_wp2_with fail
      go_roundw
      case rel => exact ⟨k + 1, _, by omega, by go_num, rfl⟩
      case measure => simp [intOf]; omega
    · go_wp2
      go_ret
      exact ⟨rfl, _, rfl⟩
theorem bnd_one {r x n : Int} (e : x = IntKind.i64.wrap (1 + r)) (h0 : 0 ≤ r) (h1 : r < n) (hn : n ≤ 1000) : 0 ≤ x ∧ x ≤ 1001 := by
  rw [e, IntWalk.i64_in _ (by omega)]; omega
theorem sh9 : ∀ k : Nat, k < 9 → (0 ≤ IntKind.i64.wrap (2 ^ k) ∧ IntKind.i64.wrap (2 ^ k) ≤ 1001) ∧ 0 ≤ IntKind.i64.wrap (IntKind.i64.wrap (2 ^ k) - 1) ∧ IntKind.i64.wrap (IntKind.i64.wrap (2 ^ k) - 1) ≤ 1001 := by decide +kernel
theorem bnd_pow {r x : Int} (e : x = IntKind.i64.wrap (2 ^ r.toNat)) (h0 : 0 ≤ r) (h1 : r < 9) : 0 ≤ x ∧ x ≤ 1001 := by rw [e]; exact (sh9 r.toNat (by omega)).1
theorem bnd_pow1 {r x : Int} (e : x = IntKind.i64.wrap (IntKind.i64.wrap (2 ^ r.toNat) - 1)) (h0 : 0 ≤ r) (h1 : r < 9) : 0 ≤ x ∧ x ≤ 1001 := by rw [e]; exact (sh9 r.toNat (by omega)).2
/-- One of some numbers that have just been laid. -/
theorem pick_lit (g : Nat) (w0 W : World) (xs : List Int) (hs : Src w0 W g) (hl : 0 < xs.length) (hl2 : xs.length ≤ 1000) :
    Calls Tryz.prog 138 #[.pointer (some ⟨g, 0, none⟩), .slice (some ⟨W.heap.size, 0, none⟩) xs.length xs.length] (W.alloc (.cells (xs.map (Value.int .i64)).toArray 2)) fun e w' => ∃ r : Int, e = .returned (.int .i64 r) ∧ r ∈ xs ∧ Src w0 w' g ∧ W.grownBy w' (some g) :=
  (l01Pick_c g _ xs w0 _ (hs.step ((Below.refl _ _).alloc (Nat.le_refl _) _)) (lit_ints W xs hl2) hl (by have := hs.lt; intro e; simp [Value.ownBlock] at e; omega)).mono fun e w' ⟨r, h1, h2, h3, h4⟩ => ⟨r, h1, h2, h3, grownBy_trans (World.grownBy_alloc W _ _) h4⟩
theorem OwnI.past {w w' : World} {g B : Nat} {v : Value} {xs : List Int} (h : OwnI w B v xs) (hg : w.grownBy w' (some g)) (hgB : g < B) : OwnI w' B v xs :=
  own_kept h fun b hb => hg.block b (World.ownsRow.lt h b hb).2 (by intro e; have := (World.ownsRow.lt h b hb).1; simp only [Option.some.injEq] at e; omega)
theorem Src.step2 {w0 w w' : World} {g B : Nat} (h : Src w0 w g) (k : Below B w w') (hg : g < B) (hB : w0.heap.size ≤ B) : Src w0 w' g := by
  obtain ⟨code, n, p, hash, h1, h2⟩ := h.cells
  exact ⟨⟨code, n, p, hash, (k.block g hg).trans h1, h2⟩, h.ge, h.below.trans (k.mono hB)⟩
theorem grown_below {w a b : World} {r : Option Nat} (h : w.grownBy a r) (k : Below w.heap.size a b) : w.grownBy b r :=
  ⟨k.os.trans h.os, k.tape.trans h.tape, k.output.trans h.output, Nat.le_trans h.size k.size, fun i hi hr => (k.block i hi).trans (h.block i hi hr)⟩
end
section
open Go.RowKit Go.Sort

set_option maxRecDepth 100000 in
theorem rows5_same (v1 v2 : Value) (xss : List (List Int)) (w : World) (h1 : IntSS w.heap v1 xss) (h2 : IntSS w.heap v2 xss) :
    Calls Tryz.prog 137 #[v1, v2] w fun e w' => e = .returned (.bool true) ∧ ∃ n, w' = w.drewN n := by
  obtain ⟨a1, c1, rfl, m1⟩ := h1.len
  obtain ⟨a2, c2, rfl, m2⟩ := h2.len
  have H1 := Lib.hid h1; clear h1
  have H2 := Lib.hid h2; clear h2
  have hb := (eqB (a := (xss.length : Int)) (b := xss.length) rfl).2
  go_enter Tryz.func137, Tryz.ntmps137
  go_wp2
  clear hb
  go_loopw [5] (fun i wr => ∃ k n : Nat, k ≤ xss.length ∧ i = .int .i64 k ∧ wr = w.drewN n) (fun i _ => xss.length - (intOf i).toNat)
  case atStart => exact ⟨0, 0, Nat.zero_le _, rfl, rfl⟩
  case round =>
    obtain ⟨k, n, hk, rfl, rfl⟩ := hrel
    by_cases hlt : k < xss.length
    · obtain ⟨b1, o1, c1', r1, hv1, hc1, hr1, _⟩ := (H1.out).at k hlt
      obtain ⟨b2, o2, c2', r2, hv2, hc2, hr2, _⟩ := (H2.out).at k hlt
      simp only [Value.slice.injEq, true_and] at hv1 hv2
      obtain ⟨rfl, rfl⟩ := hv1
      obtain ⟨rfl, rfl⟩ := hv2
      have HR1 := Lib.hid hr1; have HR2 := Lib.hid hr2; clear hr1 hr2
      go_wp2_with fail
      go_quiet ((go_at_call 61; exact quiet_behind (likeInts_same _ _ _ _ (by exact HR1.out) (by exact HR2.out))))
      go_wp2_with fail
      go_roundw
      case rel => exact ⟨k + 1, _, by omega, by go_num, rfl⟩
      case measure => simp [intOf]; omega
    · go_wp2
      go_ret
      exact ⟨rfl, _, rfl⟩
set_option maxRecDepth 100000 in
theorem milnor5_same (v1 v2 : Value) (xss : List (List Int)) (w : World) (h1 : IntSS w.heap v1 xss) (h2 : IntSS w.heap v2 xss) :
    Calls Tryz.prog 46 #[.agg #[v1], .agg #[v2]] w fun e w' => e = .returned (.bool true) ∧ Below w.heap.size w w' := by
  have hb : Below w.heap.size w ((w.alloc (.cells #[v1] 31)).alloc (.cells #[v2] 31)) := ((Below.refl _ _).alloc (Nat.le_refl _) _).alloc (by simp) _
  have k0 := (Cell1.new w v1 31).kept (alloc_old _ (.cells #[v2] 31))
  have k1 := Cell1.new (w.alloc (.cells #[v1] 31)) v2 31
  rw [size_alloc_w] at k1
  have C := Lib.hid (rows5_same v1 v2 xss _ (h1.same hb.block) (h2.same hb.block))
  obtain ⟨a1, c1, rfl, m1⟩ := h1.len
  obtain ⟨a2, c2, rfl, m2⟩ := h2.len
  have HB := Lib.hid hb; have q0 := k0.c0; have q1 := k1.c0
  clear h1 h2 hb k0 k1
  go_enter Tryz.func46, Tryz.ntmps46
  go_wp2_with (go_at_call 137; refine C.out.mono ?_; rintro e w1 ⟨rfl, n, rfl⟩)
  go_ret
  exact ⟨rfl, below_drewN _ HB.out⟩
set_option maxRecDepth 100000 in
theorem elements5_same (v1 v2 : Value) (rs : List (List (List Int))) (w : World) (h1 : MilS w.heap v1 rs) (h2 : MilS w.heap v2 rs) :
    Calls Tryz.prog 49 #[v1, v2] w fun e w' => e = .returned (.bool true) ∧ Below w.heap.size w w' := by
  obtain ⟨a1, c1, rfl, m1⟩ := h1.len
  obtain ⟨a2, c2, rfl, m2⟩ := h2.len
  have H1 := Lib.hid h1; clear h1
  have H2 := Lib.hid h2; clear h2
  have hb := (eqB (a := (rs.length : Int)) (b := rs.length) rfl).2
  go_enter Tryz.func49, Tryz.ntmps49
  go_wp2
  clear hb
  go_loopw [5] (fun i wr => ∃ k : Nat, k ≤ rs.length ∧ i = .int .i64 k ∧ Below w.heap.size w wr) (fun i _ => rs.length - (intOf i).toNat)
  case atStart => exact ⟨0, Nat.zero_le _, rfl, Below.refl _ _⟩
  case round =>
    obtain ⟨k, hk, rfl, hbl⟩ := hrel
    have HBL := Lib.hid hbl
    by_cases hlt : k < rs.length
    · obtain ⟨b1, o1, c1', r1, hv1, hc1, hr1⟩ := (H1.out).at k hlt
      obtain ⟨b2, o2, c2', r2, hv2, hc2, hr2⟩ := (H2.out).at k hlt
      simp only [Value.slice.injEq, true_and] at hv1 hv2
      obtain ⟨rfl, rfl⟩ := hv1
      obtain ⟨rfl, rfl⟩ := hv2
      have hd1 := (hbl.cell (World.block_lt_of_cell? _ _ hc1)).trans hc1
      have hd2 := (hbl.cell (World.block_lt_of_cell? _ _ hc2)).trans hc2
      have C := Lib.hid (fun (W : World) (hx : Below wr.heap.size wr W) => milnor5_same r1 r2 rs[k] W ((hr1.same hbl.block).same hx.block) ((hr2.same hbl.block).same hx.block))
      obtain ⟨ra, rc, rfl, -⟩ := hr1.len
      obtain ⟨sa, sc, rfl, -⟩ := hr2.len
      clear hc1 hc2 hr1 hr2 hbl
      go_wp2_with fail
      go_region_held3 (fun W => W.cell? ⟨b1, o1 + k, none⟩ = some (.slice ra rs[k].length rc) ∧ W.cell? ⟨b2, o2 + k, none⟩ = some (.slice sa rs[k].length sc) ∧ Below wr.heap.size wr W)
        (first | exact ⟨hd1, hd2, (Below.refl _ _).drew⟩ | exact heldC2 (by assumption) hx6)
        (first | (go_at_call 46; refine (C.out _ (heldC2X (by assumption))).mono ?_; rintro e W6 ⟨rfl, hx6⟩))
      all_goals
        rename_i hh
        have B6 := Lib.hid (heldC2X hh)
        clear hh hd1 hd2
        go_wp2_with fail
        go_roundw
        case rel => exact ⟨k + 1, by omega, by go_num, HBL.out.trans (B6.out.mono HBL.out.size)⟩
        case measure => simp [intOf]; omega
    · go_wp2
      go_ret
      exact ⟨rfl, HBL.out⟩
end
section
open Go.RowKit Go.Sort

def domC (xss : List (List Int)) : Int := if arT xss = false then 1 else if xss.length = 0 then 5 else 0
def domD (xss : List (List Int)) : Int := if arT xss = false then 0 else if xss.length = 0 then 0 else degT xss
set_option maxRecDepth 100000 in
theorem implDegreeOfMilnor_c (v : Value) (xss : List (List Int)) (w : World) (h : IntSS w.heap v xss) :
    Calls Tryz.prog 50 #[.agg #[v]] w fun e w' => e = .returned (.tuple #[.int .i64 (domD xss), .int .i64 (domC xss)]) ∧ Below w.heap.size w w' := by
  have hb : Below w.heap.size w (w.alloc (.cells #[v] 31)) := (Below.refl _ _).alloc (Nat.le_refl _) _
  have k0 := Cell1.new w v 31
  have C := Lib.hid (isMilnor_c v xss _ (h.same hb.block))
  obtain ⟨ao, c, rfl, hm⟩ := h.len
  have H := Lib.hid h; clear h
  have q0 := k0.c0
  obtain ⟨w0, hw0⟩ : ∃ w0, w0 = w.alloc (.cells #[.slice ao xss.length c] 31) := ⟨_, rfl⟩
  rw [← hw0] at k0 hb C
  have HW := Lib.hid hw0; clear hw0
  have HB0 := Lib.hid hb; have K0 := Lib.hid k0
  clear hb k0
  cases hT : arT xss
  · rw [show domC xss = 1 from if_pos hT, show domD xss = 0 from if_pos hT]
    rw [hT] at C
    clear hT
    go_enter Tryz.func50, Tryz.ntmps50
    go_wp2_with fail
    rw [← HW.out]
    refine C.out.mono ?_
    rintro e w1 ⟨rfl, hb1⟩
    have HB1 := Lib.hid (HB0.out.trans (hb1.mono HB0.out.size))
    clear hb1 HW q0
    go_wp2_with fail
    go_ret2
    exact ⟨rfl, HB1.out⟩
  · have hT' : ¬ arT xss = false := by rw [hT]; simp
    rw [hT] at C
    by_cases h0 : xss.length = 0
    · rw [show domC xss = 5 by unfold domC; rw [if_neg hT', if_pos h0], show domD xss = 0 by unfold domD; rw [if_neg hT', if_pos h0]]
      have t0 := (eqB (show ((xss.length : Nat) : Int) = 0 by omega)).1
      clear hT hT' h0
      go_enter Tryz.func50, Tryz.ntmps50
      go_wp2_with fail
      rw [← HW.out]
      refine C.out.mono ?_
      rintro e w1 ⟨rfl, hb1⟩
      have HB1 := Lib.hid (HB0.out.trans (hb1.mono HB0.out.size))
      have q1 := (K0.out.kept hb1.block).c0
      clear hb1 HW q0
      go_wp2_with fail
      go_ret2
      exact ⟨rfl, HB1.out⟩
    · rw [show domC xss = 0 by unfold domC; rw [if_neg hT', if_neg h0], show domD xss = degT xss by unfold domD; rw [if_neg hT', if_neg h0]]
      have t0 := (neB (show ((xss.length : Nat) : Int) ≠ 0 by omega)).1
      have D := Lib.hid (fun (W : World) (h : IntSS W.heap (.slice ao xss.length c) xss) => degreeOfE_c _ xss W h hT)
      clear hT hT' h0
      generalize degT xss = dg at *
      go_enter Tryz.func50, Tryz.ntmps50
      go_wp2_with fail
      rw [← HW.out]
      refine C.out.mono ?_
      rintro e w1 ⟨rfl, hb1⟩
      have HB1 := Lib.hid (HB0.out.trans (hb1.mono HB0.out.size))
      have q1 := (K0.out.kept hb1.block).c0
      clear hb1 HW q0
      go_wp2_with (go_at_call 122; refine (D.out _ (H.out.same HB1.out.block)).mono ?_; rintro e w2 ⟨rfl, rfl⟩)
      go_ret2
      exact ⟨rfl, HB1.out⟩
set_option maxRecDepth 100000 in
theorem specDegreeOfMilnor_c (v : Value) (xss : List (List Int)) (w : World) (h : IntSS w.heap v xss) :
    Calls Tryz.prog 52 #[.agg #[v]] w fun e w' => e = .returned (.tuple #[.int .i64 (domD xss), .int .i64 (domC xss)]) ∧ Below w.heap.size w w' := by
  have hb : Below w.heap.size w (w.alloc (.cells #[v] 31)) := (Below.refl _ _).alloc (Nat.le_refl _) _
  have k0 := Cell1.new w v 31
  have C := Lib.hid (l04Is_c v xss _ (h.same hb.block))
  obtain ⟨ao, c, rfl, hm⟩ := h.len
  have H := Lib.hid h; clear h
  have q0 := k0.c0
  obtain ⟨w0, hw0⟩ : ∃ w0, w0 = w.alloc (.cells #[.slice ao xss.length c] 31) := ⟨_, rfl⟩
  rw [← hw0] at k0 hb C
  have HW := Lib.hid hw0; clear hw0
  have HB0 := Lib.hid hb; have K0 := Lib.hid k0
  clear hb k0
  cases hT : arT xss
  · rw [show domC xss = 1 from if_pos hT, show domD xss = 0 from if_pos hT]
    rw [hT] at C
    clear hT
    go_enter Tryz.func52, Tryz.ntmps52
    go_wp2_with fail
    rw [← HW.out]
    refine C.out.mono ?_
    rintro e w1 ⟨rfl, hb1⟩
    have HB1 := Lib.hid (HB0.out.trans (hb1.mono HB0.out.size))
    clear hb1 HW q0
    go_wp2_with fail
    go_ret2
    exact ⟨rfl, HB1.out⟩
  · have hT' : ¬ arT xss = false := by rw [hT]; simp
    rw [hT] at C
    by_cases h0 : xss.length = 0
    · rw [show domC xss = 5 by unfold domC; rw [if_neg hT', if_pos h0], show domD xss = 0 by unfold domD; rw [if_neg hT', if_pos h0]]
      have t0 := (eqB (show ((xss.length : Nat) : Int) = 0 by omega)).1
      clear hT hT' h0
      go_enter Tryz.func52, Tryz.ntmps52
      go_wp2_with fail
      rw [← HW.out]
      refine C.out.mono ?_
      rintro e w1 ⟨rfl, hb1⟩
      have HB1 := Lib.hid (HB0.out.trans (hb1.mono HB0.out.size))
      have q1 := (K0.out.kept hb1.block).c0
      clear hb1 HW q0
      go_wp2_with fail
      go_ret2
      exact ⟨rfl, HB1.out⟩
    · rw [show domC xss = 0 by unfold domC; rw [if_neg hT', if_neg h0], show domD xss = degT xss by unfold domD; rw [if_neg hT', if_neg h0]]
      have t0 := (neB (show ((xss.length : Nat) : Int) ≠ 0 by omega)).1
      obtain ⟨b1, o1, c1, u, hv1, hc1, hu, -⟩ := H.out.at 0 (by omega)
      simp only [Value.slice.injEq, true_and] at hv1
      obtain ⟨rfl, rfl⟩ := hv1
      obtain ⟨x0, hx0⟩ : ∃ x0, xss[0]'(by omega) = x0 := ⟨_, rfl⟩
      have hg : xss.getD 0 [] = x0 := by rw [← hx0]; simp [show 0 < xss.length by omega]
      rw [hx0] at hu
      have E1 := arT_first hT (by omega)
      rw [hg] at E1
      have D := Lib.hid (fun (W : World) (h : IntS W.heap u x0) => l01DegreeE_c u _ W h E1)
      have HU := Lib.hid hu
      have HDG : Hid (degT xss = deg x0) := by show _ = _; unfold degT; rw [hg]
      rw [HDG.out]
      have hlp : (0 : Int) < xss.length := by omega
      obtain ⟨ua, uc, rfl, -⟩ := hu.len
      have hc2 := (HB0.out.cell (World.block_lt_of_cell? _ _ hc1)).trans hc1
      simp only [Nat.add_zero] at hc2
      clear hT hT' h0 E1 hu HDG hc1 hg hx0
      generalize deg x0 = dg at *
      go_enter Tryz.func52, Tryz.ntmps52
      go_wp2_with fail
      rw [← HW.out]
      refine C.out.mono ?_
      rintro e w1 ⟨rfl, hb1⟩
      have HB1 := Lib.hid (HB0.out.trans (hb1.mono HB0.out.size))
      have q1 := (K0.out.kept hb1.block).c0
      have hc3 := (hb1.cell (World.block_lt_of_cell? _ _ hc2)).trans hc2
      clear hb1 HW q0 hc2
      go_wp2_with (go_at_call 118; refine (D.out _ (HU.out.same HB1.out.block)).mono ?_; rintro e w2 ⟨rfl, rfl⟩)
      go_ret2
      exact ⟨rfl, HB1.out⟩
end
section
open Go.RowKit Go.Sort

theorem put_split (x : List Int) (l : List (List Int)) (k : Nat) (hk : k ≤ l.length) (h1 : ∀ j, j < k → ltL (l.getD j []) x = true) (h2 : k < l.length → ltL (l.getD k []) x = false) :
    put x l = l.take k ++ (if k < l.length ∧ l.getD k [] = x then l.drop (k + 1) else x :: l.drop k) := by
  induction l generalizing k with
  | nil =>
    obtain rfl : k = 0 := by simpa using hk
    simp [put]
  | cons y r ih =>
    rcases k with _ | k
    · have h3 := h2 (by simp)
      simp only [List.getD_cons_zero] at h3
      rw [put]
      cases h4 : ltL x y
      · have e := ltL_total _ _ h3 h4
        subst e
        simp [ltL_irrefl]
      · have e : y ≠ x := fun e => by subst e; rw [ltL_irrefl] at h4; cases h4
        simp [e]
    · have h3 := h1 0 (by omega)
      simp only [List.getD_cons_zero] at h3
      rw [put, if_neg (by rw [ltL_asymm _ _ h3]; decide), if_pos h3, ih k (by simpa using hk) (fun j hj => by have := h1 (j + 1) (by omega); simpa using this) (fun hh => by have := h2 (by simpa using hh); simpa using this)]
      simp
theorem put_length (x : List Int) (l : List (List Int)) : (put x l).length ≤ l.length + 1 := by
  induction l with
  | nil => simp [put]
  | cons y r ih => rw [put]; split; simp; split; simp; exact ih; simp; omega
set_option maxRecDepth 100000 in
set_option maxHeartbeats 2000000 in
theorem l01PutR_c (v u : Value) (xss : List (List Int)) (xs : List Int) (w : World) (h : IntSS w.heap v xss) (hu : IntS w.heap u xs) (hl : xss.length < 4398046511104) (hx : xs.length ≤ 4398046511104) :
    Calls Tryz.prog 196 #[v, u] w fun e w' => ∃ r, e = .returned r ∧ (∃ us, RefR w' w.heap.size w'.heap r us (put xs xss)) ∧ Below w.heap.size w w' := by
  have OW := Lib.hid (fun (W : World) (hu : IntS W.heap u xs) => l01Own_c u xs W hu hx)
  have LS := Lib.hid (fun (y : Value) (ys : List Int) (W : World) (h1 : IntS W.heap y ys) (h2 : IntS W.heap u xs) => l01Less_c y u ys xs W h1 h2)
  have SM := Lib.hid (fun (y : Value) (ys : List Int) (W : World) (h1 : IntS W.heap y ys) (h2 : IntS W.heap u xs) => l01Same_c y u ys xs W h1 h2)
  obtain ⟨ao, c, hv, hm⟩ := h.len
  subst hv
  obtain ⟨bo, d, hv2, hm2⟩ := hu.len
  subst hv2
  have hcap : xss.length ≤ c := by
    obtain ⟨us, h1, h2, _⟩ := h
    obtain ⟨a', c', hv', h3, _⟩ := SlAt.len h1
    simp only [Value.slice.injEq] at hv'
    omega
  have H := Lib.hid h; have HU := Lib.hid hu; clear h hu
  go_enter Tryz.func196, Tryz.ntmps196
  go_wp2_with fail
  go_loopw [5] (fun i wr => ∃ k n : Nat, k ≤ xss.length ∧ i = .int .i64 k ∧ wr = w.drewN n ∧ ∀ j, j < k → ltL (xss.getD j []) xs = true) (fun i _ => xss.length - (intOf i).toNat)
  case atStart => exact ⟨0, 0, Nat.zero_le _, rfl, rfl, fun j hj => by omega⟩
  case round =>
    obtain ⟨k, n, hk, rfl, rfl, hpre⟩ := hrel
    have HP := Lib.hid hpre; clear hpre
    by_cases hlt : k < xss.length
    · obtain ⟨b1', o1, c1, uk, hv1, hc1, huk, -⟩ := H.out.at k hlt
      simp only [Value.slice.injEq, true_and] at hv1
      obtain ⟨rfl, rfl⟩ := hv1
      obtain ⟨qa, qc, rfl, -⟩ := huk.len
      rw [show xss[k] = xss.getD k [] by simp [hlt]] at huk hc1
      have HUK := Lib.hid huk
      have hki : (k : Int) < xss.length := by omega
      clear huk
      cases hL : ltL (xss.getD k []) xs
      · have L1 := Lib.hid (LS.out (.slice qa (xss.getD k []).length qc) _ (w.drewN n) HUK.out HU.out)
        rw [hL] at L1
        by_cases heq : xss.getD k [] = xs
        · have HS : Hid (put xs xss = xss.take k ++ xss.drop (k + 1)) := by
            show _ = _
            rw [put_split xs xss k hk HP.out (fun _ => hL), if_pos ⟨hlt, heq⟩]
          have M1 := Lib.hid (fun (W : World) (h : IntS W.heap (.slice qa (xss.getD k []).length qc) (xss.getD k [])) (h2 : IntS W.heap (.slice bo xs.length d) xs) => SM.out _ _ W h h2)
          rw [show decide (xss.getD k [] = xs) = true by simpa using heq] at M1
          clear hL heq
          generalize xss.getD k [] = ys at *
          go_wp2_with (first | (go_at_call 181; refine L1.out.mono ?_; rintro e W2 ⟨rfl, n2, rfl⟩) | (go_at_call 180; refine (M1.out _ (by exact HUK.out) (by exact HU.out)).mono ?_; rintro e W3 ⟨rfl, n3, rfl⟩))
          have b0 : (0 : Int) ≤ k := by omega
          have b1 : (k : Int) ≤ c := by omega
          have b2 : (0 : Int) ≤ (k : Int) + 1 := by omega
          have b3 : (k : Int) + 1 ≤ xss.length := by omega
          have b4 : ((k : Int) + 1).toNat = k + 1 := by omega
          have b5 : IntKind.i64.wrap ((k : Int) + 1) = (k : Int) + 1 := IntWalk.i64_in _ (by omega)
          go_region_held3 (fun _ => True) (trivial) (first | (refine step_append_refs (by rfl) _ _ (by rfl) w.heap.size w.heap (.slice (some ⟨w.heap.size, 0, none⟩) 0 0) (.slice (some ⟨b1', o1, none⟩) k c) [] [] (xss.take k) (by exact ref_empty (w := w.drewN (n + n2 + n3 + 1)) _ (by exact Nat.le_refl _)) (by rfl) (by exact ((H.out.at2 (fun _ _ => rfl)).take k hk).same (alloc_old w _)) (by rfl) (by exact (below_drewN _ (Below.refl _ w)).alloc (by simp) _) (by simp) (by simp; omega) ?_; intro v3 us3 w3 hR3 hb3 hs3 hk3; obtain ⟨sa, sn, sc, rfl⟩ := own_shape hR3.row) | (refine step_append_refs (by rfl) _ _ (by rfl) w.heap.size w.heap (.slice sa sn sc) (.slice (dropA (some ⟨b1', o1, none⟩) c (k + 1)) (xss.length - (k + 1)) (c - (k + 1))) us3 _ (xss.drop (k + 1)) hR3 (by rfl) (by exact (H.out.at2 hb3.block).drop (k + 1) (by omega)) (by rfl) hb3 hb3.size (by simp; omega) ?_; intro v4 us4 w4 hR4 hb4 _ _; obtain ⟨ta, tn, tc, rfl⟩ := own_shape hR4.row))
          go_wp2_with fail
          all_goals
            go_ret
            exact ⟨_, rfl, ⟨us4, by rw [HS.out]; exact hR4.grow hb4.block⟩, hb4⟩
        · have HS : Hid (put xs xss = xss.take k ++ xs :: xss.drop k) := by
            show _ = _
            rw [put_split xs xss k hk HP.out (fun _ => hL), if_neg (fun x => heq x.2)]
          have M1 := Lib.hid (fun (W : World) (h : IntS W.heap (.slice qa (xss.getD k []).length qc) (xss.getD k [])) (h2 : IntS W.heap (.slice bo xs.length d) xs) => SM.out _ _ W h h2)
          rw [show decide (xss.getD k [] = xs) = false by simpa using heq] at M1
          have HD : Hid (dropA (some ⟨b1', o1, none⟩) c k = some ⟨b1', o1 + k, none⟩) := by
            show _ = _
            have : c ≠ k := by omega
            simp [dropA, this, Addr.add]
          clear hL heq
          generalize xss.getD k [] = ys at *
          have b0 : (0 : Int) ≤ k := by omega
          have b1 : (k : Int) ≤ c := by omega
          have b6 : (k : Int) ≤ xss.length := by omega
          go_wp2_with (first | (go_at_call 181; refine L1.out.mono ?_; rintro e W2 ⟨rfl, n2, rfl⟩) | (go_at_call 180; refine (M1.out _ (by exact HUK.out) (by exact HU.out)).mono ?_; rintro e W3 ⟨rfl, n3, rfl⟩))
          go_region_held3 (fun _ => True) (trivial) (first | (go_at_call 165; refine (OW.out _ (by exact HU.out)).mono ?_; rintro e w2 ⟨ru, rfl, hru, hb2⟩; obtain ⟨ra, rn, rc, rfl⟩ := own_shape hru; have HB2 := Lib.hid ((below_drewN (n + n2 + n3 + 1) (Below.refl _ w)).trans hb2); have HRU := Lib.hid hru.ints; clear hru hb2) | (refine step_append_refs (by rfl) _ _ (by rfl) w2.heap.size w2.heap (.slice (some ⟨w2.heap.size, 0, none⟩) 1 1) (.slice (some ⟨b1', o1 + k, none⟩) (xss.length - k) (c - k)) [.slice ra rn rc] [xs] (xss.drop k) (by exact ref_one HRU.out (Nat.le_refl _)) (by rfl) (by have := (((H.out.same HB2.out.block).at2 (fun _ _ => rfl)).drop k hk).same (alloc_old _ (.cells #[.slice ra rn rc] 56)); rw [HD.out] at this; exact this) (by rfl) (by exact (Below.refl _ _).alloc (Nat.le_refl _) _) (by simp) (by simp; omega) ?_; intro v3 us3 w3 hR3 hb3 _ _; obtain ⟨sa, sn, sc, rfl⟩ := own_shape hR3.row))
          have HR3 := Lib.hid hR3; have HB3 := Lib.hid hb3; clear hR3 hb3
          go_wp2_with (first | (at_builtin; refine append_refs rfl _ _ rfl w2.heap.size w2.heap (.slice (some ⟨w3.heap.size, 0, none⟩) 0 0) (.slice (some ⟨b1', o1, none⟩) k c) [] [] (xss.take k) (ref_empty _ HB3.out.size) rfl ((((H.out.same HB2.out.block).at2 HB3.out.block).take k hk).same (alloc_old _ _)) rfl (HB3.out.alloc HB3.out.size _) (by have := HB3.out.size; simp; omega) (by simp; omega) ?_; intro v4 us4 w4 hR4 hb4 hs4 hk4; obtain ⟨ta, tn, tc, rfl⟩ := own_shape hR4.row; have HR4 := Lib.hid hR4; have HB4 := Lib.hid hb4; have HR34 := Lib.hid (HR3.out.at2.same (fun b hb => (hk4 b (by simp; omega) (fun e => by simp [Value.ownBlock] at e; omega)).trans (alloc_old _ _ b hb))); clear hR4 hb4 hs4 hk4) | (at_builtin; refine append_refs rfl _ _ rfl w2.heap.size w2.heap (.slice ta tn tc) (.slice sa sn sc) us4 _ ([xs] ++ xss.drop k) HR4.out rfl HR34.out rfl HB4.out HB4.out.size (by simp; omega) ?_; intro v5 us5 w5 hR5 hb5 _ _; obtain ⟨pa, pn, pc, rfl⟩ := own_shape hR5.row))
          go_ret
          exact ⟨_, rfl, ⟨us5, by rw [HS.out]; exact RefR.base (RefR.grow (by simpa using hR5) hb5.block) HB2.out.size⟩, HB2.out.trans (hb5.mono HB2.out.size)⟩
      · have HPS : Hid (∀ j, j < k + 1 → ltL (xss.getD j []) xs = true) := fun j hj => by
          by_cases e : j = k
          · rw [e]; exact hL
          · exact HP.out j (by omega)
        have L1 := Lib.hid (LS.out (.slice qa (xss.getD k []).length qc) _ (w.drewN n) HUK.out HU.out)
        rw [hL] at L1
        clear hL
        generalize xss.getD k [] = ys at *
        go_wp2_with (go_at_call 181; refine L1.out.mono ?_; rintro e W2 ⟨rfl, n2, rfl⟩)
        go_roundw
        case rel => exact ⟨k + 1, _, by omega, by go_num, by first | rfl | (simp only [World.drewN_drewN]; rfl), HPS.out⟩
        case measure => simp [intOf]; omega
    · have HS : Hid (put xs xss = xss.take k ++ xs :: xss.drop k) := by
        show _ = _
        rw [put_split xs xss k hk HP.out (fun h => absurd h hlt), if_neg (fun x => hlt x.1)]
      by_cases hck : c = k
      · obtain rfl : k = c := hck.symm
        have HD : Hid (dropA ao k k = ao) := by show _ = _; rw [dropA, if_pos rfl]
        have b0 : (0 : Int) ≤ k := by omega
        have b6 : (k : Int) ≤ xss.length := by omega
        go_wp2_with fail
        go_region_held3 (fun _ => True) (trivial) (first | (go_at_call 165; refine (OW.out _ (by exact HU.out)).mono ?_; rintro e w2 ⟨ru, rfl, hru, hb2⟩; obtain ⟨ra, rn, rc, rfl⟩ := own_shape hru; have HB2 := Lib.hid ((below_drewN (n + 1) (Below.refl _ w)).trans hb2); have HRU := Lib.hid hru.ints; clear hru hb2) | (refine step_append_refs (by rfl) _ _ (by rfl) w2.heap.size w2.heap (.slice (some ⟨w2.heap.size, 0, none⟩) 1 1) (.slice ao 0 0) [.slice ra rn rc] [xs] (xss.drop k) (by exact ref_one HRU.out (Nat.le_refl _)) (by rfl) (by have := (((H.out.same HB2.out.block).at2 (fun _ _ => rfl)).drop k hk).same (alloc_old _ (.cells #[.slice ra rn rc] 56)); rw [HD.out, Nat.sub_self, show xss.length - k = 0 by omega] at this; exact this) (by rfl) (by exact (Below.refl _ _).alloc (Nat.le_refl _) _) (by simp) (by simp; omega) ?_; intro v3 us3 w3 hR3 hb3 _ _; obtain ⟨sa, sn, sc, rfl⟩ := own_shape hR3.row))
        have HR3 := Lib.hid hR3; have HB3 := Lib.hid hb3; clear hR3 hb3
        go_wp2_with (first | (at_builtin; refine append_refs rfl _ _ rfl w2.heap.size w2.heap (.slice (some ⟨w3.heap.size, 0, none⟩) 0 0) (.slice ao k k) [] [] (xss.take k) (ref_empty _ HB3.out.size) rfl ((((H.out.same HB2.out.block).at2 HB3.out.block).take k hk).same (alloc_old _ _)) rfl (HB3.out.alloc HB3.out.size _) (by have := HB3.out.size; simp; omega) (by simp; omega) ?_; intro v4 us4 w4 hR4 hb4 hs4 hk4; obtain ⟨ta, tn, tc, rfl⟩ := own_shape hR4.row; have HR4 := Lib.hid hR4; have HB4 := Lib.hid hb4; have HR34 := Lib.hid (HR3.out.at2.same (fun b hb => (hk4 b (by simp; omega) (fun e => by simp [Value.ownBlock] at e; omega)).trans (alloc_old _ _ b hb))); clear hR4 hb4 hs4 hk4) | (at_builtin; refine append_refs rfl _ _ rfl w2.heap.size w2.heap (.slice ta tn tc) (.slice sa sn sc) us4 _ ([xs] ++ xss.drop k) HR4.out rfl HR34.out rfl HB4.out HB4.out.size (by simp; omega) ?_; intro v5 us5 w5 hR5 hb5 _ _; obtain ⟨pa, pn, pc, rfl⟩ := own_shape hR5.row))
        go_ret
        exact ⟨_, rfl, ⟨us5, by rw [HS.out]; exact RefR.base (RefR.grow (by simpa using hR5) hb5.block) HB2.out.size⟩, HB2.out.trans (hb5.mono HB2.out.size)⟩
      · have HD : Hid (dropA ao c k = ao.map (·.add k)) := by show _ = _; rw [dropA, if_neg hck]
        have b0 : (0 : Int) ≤ k := by omega
        have b1 : (k : Int) ≤ c := by omega
        have b6 : (k : Int) ≤ xss.length := by omega
        go_wp2_with fail
        go_region_held3 (fun _ => True) (trivial) (first | (go_at_call 165; refine (OW.out _ (by exact HU.out)).mono ?_; rintro e w2 ⟨ru, rfl, hru, hb2⟩; obtain ⟨ra, rn, rc, rfl⟩ := own_shape hru; have HB2 := Lib.hid ((below_drewN (n + 1) (Below.refl _ w)).trans hb2); have HRU := Lib.hid hru.ints; clear hru hb2) | (refine step_append_refs (by rfl) _ _ (by rfl) w2.heap.size w2.heap (.slice (some ⟨w2.heap.size, 0, none⟩) 1 1) (.slice (ao.map (·.add k)) (xss.length - k) (c - k)) [.slice ra rn rc] [xs] (xss.drop k) (by exact ref_one HRU.out (Nat.le_refl _)) (by rfl) (by have := (((H.out.same HB2.out.block).at2 (fun _ _ => rfl)).drop k hk).same (alloc_old _ (.cells #[.slice ra rn rc] 56)); rw [HD.out] at this; exact this) (by rfl) (by exact (Below.refl _ _).alloc (Nat.le_refl _) _) (by simp) (by simp; omega) ?_; intro v3 us3 w3 hR3 hb3 _ _; obtain ⟨sa, sn, sc, rfl⟩ := own_shape hR3.row))
        have HR3 := Lib.hid hR3; have HB3 := Lib.hid hb3; clear hR3 hb3
        go_wp2_with (first | (at_builtin; refine append_refs rfl _ _ rfl w2.heap.size w2.heap (.slice (some ⟨w3.heap.size, 0, none⟩) 0 0) (.slice ao k c) [] [] (xss.take k) (ref_empty _ HB3.out.size) rfl ((((H.out.same HB2.out.block).at2 HB3.out.block).take k hk).same (alloc_old _ _)) rfl (HB3.out.alloc HB3.out.size _) (by have := HB3.out.size; simp; omega) (by simp; omega) ?_; intro v4 us4 w4 hR4 hb4 hs4 hk4; obtain ⟨ta, tn, tc, rfl⟩ := own_shape hR4.row; have HR4 := Lib.hid hR4; have HB4 := Lib.hid hb4; have HR34 := Lib.hid (HR3.out.at2.same (fun b hb => (hk4 b (by simp; omega) (fun e => by simp [Value.ownBlock] at e; omega)).trans (alloc_old _ _ b hb))); clear hR4 hb4 hs4 hk4) | (at_builtin; refine append_refs rfl _ _ rfl w2.heap.size w2.heap (.slice ta tn tc) (.slice sa sn sc) us4 _ ([xs] ++ xss.drop k) HR4.out rfl HR34.out rfl HB4.out HB4.out.size (by simp; omega) ?_; intro v5 us5 w5 hR5 hb5 _ _; obtain ⟨pa, pn, pc, rfl⟩ := own_shape hR5.row))
        go_ret
        exact ⟨_, rfl, ⟨us5, by rw [HS.out]; exact RefR.base (RefR.grow (by simpa using hR5) hb5.block) HB2.out.size⟩, HB2.out.trans (hb5.mono HB2.out.size)⟩
theorem l01Put_c (v u : Value) (xss : List (List Int)) (xs : List Int) (w : World) (h : IntSS w.heap v xss) (hu : IntS w.heap u xs) (hl : xss.length < 4398046511104) (hx : xs.length ≤ 4398046511104) :
    Calls Tryz.prog 196 #[v, u] w fun e w' => ∃ r, e = .returned r ∧ IntSS w'.heap r (put xs xss) ∧ Below w.heap.size w w' :=
  (l01PutR_c v u xss xs w h hu hl hx).mono fun _ _ ⟨r, h1, ⟨_, h2⟩, h3⟩ => ⟨r, h1, h2.ints (fun _ _ => rfl), h3⟩
end
section
open Go.RowKit Go.Sort

theorem ref_keep {w w' : World} {B : Nat} {v : Value} {us : List Value} {xss : List (List Int)} (a : RefR w' B w.heap v us xss) (k : KeepI w w') : RefR w' B w'.heap v us xss := ⟨a.row, fun i u xs hu hx => (a.each i u xs hu hx).keep k⟩
theorem singL_length (n : Nat) (e : Int) : (singL n e).length = n := by
  unfold singL
  split
  · rename_i h; rw [h]; rfl
  · simp; omega
theorem singL_sm (n : Nat) (e : Int) {b : Int} (hb : 0 ≤ b) (h0 : 0 ≤ e) (h1 : e ≤ b) : Sm b (singL n e) := by
  unfold singL
  split
  · intro x hx; cases hx
  · intro x hx
    rw [List.mem_append, List.mem_replicate, List.mem_singleton] at hx
    rcases hx with ⟨-, rfl⟩ | rfl
    · exact ⟨Int.le_refl _, hb⟩
    · exact ⟨h0, h1⟩
theorem singL_set (n : Nat) (e : Int) : (List.replicate (n + 1) (0 : Int)).set n e = singL (n + 1) e := by
  unfold singL
  rw [if_neg (by omega), Nat.add_sub_cancel]
  apply List.ext_getElem?; intro i
  rw [List.getElem?_set]
  by_cases h : n = i
  · subst h; simp
  · rw [if_neg h]
    by_cases h2 : i < n
    · rw [List.getElem?_append_left (by simpa using h2)]; simp [h2, show i < n + 1 by omega]
    · rw [List.getElem?_eq_none (by simp; omega), List.getElem?_eq_none (by simp; omega)]
set_option maxRecDepth 100000 in
theorem single_c (n : Nat) (e : Int) (w : World) (hn : n ≤ 1000) :
    Calls Tryz.prog 231 #[.int .i64 n, .int .i64 e] w fun r w' => ∃ v, r = .returned v ∧ OwnI w' w.heap.size v (singL n e) ∧ Below w.heap.size w w' := by
  cases n with
  | zero =>
    go_enter Tryz.func231, Tryz.ntmps231
    go_wp2_with fail
    go_ret
    exact ⟨_, rfl, ownI_empty (Nat.le_refl _), (Below.refl _ _).alloc (Nat.le_refl _) _⟩
  | succ m =>
    have hmk := fun w => make_run (P := Tryz.prog) 56 2 _ 8 info_int64 Tryz.underlying56 rfl (by omega) (m + 1) (by omega) .i64 .i64 ((m : Int) + 1) ((m : Int) + 1) (by omega) (by omega) w
    have hmo := made_own w w.heap.size 2 (m + 1) (.int .i64 0) (Nat.le_refl _) (by omega)
    have hmo2 : (w.alloc (.cells (madeCells #[.int .i64 0] (m + 1)) 2)).ownsRow w.heap.size 2 1 (.slice (some ⟨w.heap.size, 0, none⟩) (m + 1) (m + 1)) (m + 1) ((List.replicate (m + 1) (0 : Int)).map (Value.int .i64)) := by simpa using hmo
    obtain ⟨W5, hW5⟩ : ∃ W5, W5 = w.alloc (.cells (madeCells #[.int .i64 0] (m + 1)) 2) := ⟨_, rfl⟩
    have hb5 : Below w.heap.size w W5 := by rw [hW5]; exact (Below.refl _ _).alloc (Nat.le_refl _) _
    rw [← hW5] at hmo2
    have q0 := own_int_at hmo2 m (by omega)
    rw [show (List.replicate (m + 1) (0 : Int)).getD m 0 = 0 by simp] at q0
    have f0 := hmo2.frozenAt m
    have hst := own_int_set hmo2 m e
    rw [singL_set] at hst
    have HST : Hid (OwnI (W5.setCell ⟨w.heap.size, m, none⟩ (.int .i64 e)) w.heap.size (.slice (some ⟨w.heap.size, 0, none⟩) (m + 1) (m + 1)) (singL (m + 1) e)) := by
      show OwnI _ _ _ _
      unfold OwnI
      rw [singL_length]; exact hst
    have HB5 := Lib.hid (hb5.setCell (p := ⟨w.heap.size, m, none⟩) (Nat.le_refl _) (.int .i64 e))
    have HW5 := Lib.hid hW5
    clear hmo hmo2 hst hb5 hW5
    have hs1 : (m : Int) + 1 - 1 = m := by omega
    have hi0 : (0 : Int) ≤ m := by omega
    have t0 := (neB (show (m : Int) + 1 ≠ 0 by omega)).1
    rw [show ((m + 1 : Nat) : Int) = (m : Int) + 1 by omega]
    go_enter Tryz.func231, Tryz.ntmps231
    go_upto_region 4 with fail
    rw [← HW5.out]
    clear hmk
    go_wp2_with fail
    go_ret
    exact ⟨_, rfl, HST.out, HB5.out⟩
set_option maxRecDepth 100000 in
set_option maxHeartbeats 1000000 in
theorem raised_c (v : Value) (xss : List (List Int)) (c : Int) (w : World) (h : IntSS w.heap v xss) (hs : SmS 1000000000000 20 xss) (hc0 : 0 ≤ c) (hc : c ≤ 1000) (hl : xss.length ≤ 4398046511104) :
    Calls Tryz.prog 240 #[v, .int .i64 c] w fun e w' => ∃ r us, e = .returned r ∧ OwnU w' w.heap.size r us (raiseL c xss) ∧ Below w.heap.size w w' := by
  obtain ⟨ao, cp, rfl, hm⟩ := h.len
  have H := Lib.hid h; have HS := Lib.hid hs; clear h hs
  go_enter Tryz.func240, Tryz.ntmps240
  go_wp2_with fail
  go_loopw [5, 14] (fun o i wr => ∃ (k : Nat) (us : List Value), k ≤ xss.length ∧ i = .int .i64 k ∧ OwnU wr w.heap.size o us (raiseL c (xss.take k)) ∧ Below w.heap.size w wr) (fun _ i _ => xss.length - (intOf i).toNat)
  case atStart => exact ⟨0, [], Nat.zero_le _, rfl, ⟨World.ownsRow_made w #[] 0 (Nat.le_refl _) (Nat.zero_le _) rfl, fun i u xs hu => by simp at hu, fun i j u u' _ hu => by simp at hu⟩, (Below.refl _ _).alloc (Nat.le_refl _) _⟩
  case round =>
    obtain ⟨k, us, hk, rfl, hU, hbl⟩ := hrel
    obtain ⟨va, vn, vc, rfl⟩ := own_shape hU.row
    have HU := Lib.hid hU; have HBL := Lib.hid hbl
    have hsz := hbl.size
    by_cases hlt : k < xss.length
    · obtain ⟨b1, o1, c1, uk, hv1, hc1, huk, -⟩ := H.out.at k hlt
      simp only [Value.slice.injEq, true_and] at hv1
      obtain ⟨rfl, rfl⟩ := hv1
      have hcx := (hbl.cell (World.block_lt_of_cell? _ _ hc1)).trans hc1
      have HX := Lib.hid (huk.same hbl.block)
      have hrx := HS.out _ (List.getElem_mem hlt)
      have HRX := Lib.hid hrx.1
      have hrl := hrx.2
      have HT : Hid (raiseL c (xss.take (k + 1)) = raiseL c (xss.take k) ++ [scaleL c xss[k]]) := by
        show _ = _
        unfold raiseL; rw [List.take_succ_eq_append_getElem hlt, List.map_append]; rfl
      obtain ⟨qa, qc, rfl, -⟩ := huk.len
      have hll : (raiseL c (xss.take k)).length ≤ 4398046511104 := by simp [raiseL]; omega
      have HLL := Lib.hid hll
      have hki : (k : Int) < xss.length := by omega
      clear hU hbl hc1 huk hrx hll
      generalize xss[k] = r at *
      rename World => WR
      go_wp2_with fail
      go_loopw [8, 21] (fun o i wk => ∃ j : Nat, j ≤ r.length ∧ i = .int .i64 j ∧ OwnI wk WR.heap.size o (scaleL c (r.take j)) ∧ Below WR.heap.size WR wk) (fun _ i _ => r.length - (intOf i).toNat)
      case atStart => exact ⟨0, Nat.zero_le _, rfl, ownI_empty (Nat.le_refl _), (Below.refl _ _).alloc (Nat.le_refl _) _⟩
      case round =>
        obtain ⟨j, hj, rfl, hO, hb2⟩ := hrel
        obtain ⟨ya, yn, yc, rfl⟩ := own_shape hO
        have HO := Lib.hid hO; have HB2 := Lib.hid hb2
        have hsz2 := hb2.size
        by_cases hjl : j < r.length
        · obtain ⟨b2, o2, c2, hv2, hc2, -⟩ := HX.out.at j hjl
          simp only [Value.slice.injEq, true_and] at hv2
          obtain ⟨rfl, rfl⟩ := hv2
          have hcy := (hb2.cell (World.block_lt_of_cell? _ _ hc2)).trans hc2
          obtain ⟨hx0, hx1⟩ := HRX.out _ (List.getElem_mem hjl)
          have HT2 : Hid (scaleL c (r.take (j + 1)) = scaleL c (r.take j) ++ [r[j] * c]) := by
            show _ = _
            unfold scaleL; rw [List.take_succ_eq_append_getElem hjl, List.map_append]; rfl
          have hll : (scaleL c (r.take j)).length ≤ 4398046511104 := by simp [scaleL]; omega
          have HLL2 := Lib.hid hll
          have hji : (j : Int) < r.length := by omega
          clear hO hb2 hc2 hll
          generalize r[j] = x at *
          have hm0 : 0 ≤ x * c := Int.mul_nonneg hx0 hc0
          have hm1 : x * c ≤ 1000000000000000 := Int.le_trans (Int.mul_le_mul hx1 hc hc0 (by omega)) (by omega)
          go_wp2_with (at_builtin; refine append_int rfl _ _ rfl WR.heap.size _ _ _ HO.out rfl HB2.out hsz2 _ rfl (by simp) HLL2.out ?_; intro v' w3 hown' hbl' _ _; obtain ⟨qa2, qn2, qc2, rfl⟩ := own_shape hown')
          go_roundw
          case rel => exact ⟨j + 1, by omega, by go_num, by rw [HT2.out]; exact hown', hbl'⟩
          case measure => simp [intOf]; omega
        · obtain rfl : j = r.length := by omega
          rw [List.take_length] at HO
          clear hO hb2
          go_wp2_with (at_builtin; refine append_rowU rfl _ _ rfl w.heap.size _ _ us _ _ HU.out rfl HO.out HB2.out HBL.out hsz _ rfl rfl HLL.out ?_; intro v4 w4 hU4 hb4 _ _ _ _; obtain ⟨ta, tn, tc, rfl⟩ := own_shape hU4.row)
          go_roundw
          case rel => exact ⟨k + 1, _, by omega, by go_num, by rw [HT.out]; exact hU4, hb4⟩
          case measure => simp [intOf]; omega
    · obtain rfl : k = xss.length := by omega
      rw [List.take_length] at HU
      clear hU hbl
      go_wp2_with fail
      go_ret
      exact ⟨_, us, rfl, HU.out, HBL.out⟩
theorem conjX_len {n : Nat} (h : n < 7) : (conjX n).length ≤ 32 := (conjX_ok n h).2
theorem conjStep_ok : ∀ n : Nat, n < 7 → ∀ k : Nat, k < 8 → (conjStep (conjTab 6) n k).length ≤ 200 := by decide +kernel
theorem conjStep_sm : ∀ n : Nat, n < 7 → ∀ k : Nat, k < 8 → ((conjStep (conjTab 6) n k).all fun r => (decide (r.length ≤ 6))) = true := by decide +kernel
theorem conjX_zero : conjX 0 = [[]] := rfl
theorem conjTab_get {n i : Nat} (h : i ≤ n) (h6 : n ≤ 6) : (conjTab n).getD i [] = (conjTab 6).getD i [] := by rw [conjTab_at n i h, conjTab_at 6 i (by omega)]
/-- A step towards the conjugate of x(n). -/
theorem conjStep_next (n i : Nat) (hi : i ≤ 6) : conjStep (conjTab 6) n (i + 1) = conjStep (conjTab 6) n i ++ joinsL [singL (n - i) (2 ^ i)] (conjX i) := by
  rw [conjStep, conjTab_at 6 i hi]
theorem conjX_step {n : Nat} (hn : n < 6) : conjX (n + 1) = oddL (conjStep (conjTab 6) (n + 1) (n + 1)) := by
  rw [conjX_succ, conjStep_congr (conjTab n) (conjTab 6) (n + 1) (n + 1) fun i hi => conjTab_get (by omega) (by omega)]
theorem oddL_skip (L M : List (List Int)) : oddL (L ++ oddL M) = oddL (L ++ M) := (oddL_append' L M).symm
/-- What the program has gathered. -/
def conjG (n : Nat) : Nat → List (List Int)
  | 0 => []
  | i + 1 => conjG n i ++ oddL (joinsL [singL (n - i) (2 ^ i)] (conjX i))
theorem conjG_odd (n : Nat) : ∀ i : Nat, i ≤ 7 → oddL (conjG n i) = oddL (conjStep (conjTab 6) n i) := by
  intro i
  induction i with
  | zero => intro _; rfl
  | succ i ih =>
    intro hi
    rw [conjG, conjStep_next n i (by omega), oddL_skip, oddL_append, ih (by omega), ← oddL_append]
theorem conjG_ok : ∀ n : Nat, n < 7 → ∀ k : Nat, k < 8 → (conjG n k).length ≤ 200 ∧ ((conjG n k).all fun r => (decide (r.length ≤ 6))) = true := by decide +kernel
set_option maxRecDepth 100000 in
set_option maxHeartbeats 1000000 in
theorem conjugateOf_of (SO : SortOk) : ∀ (f n : Nat), n < f → n < 7 → ∀ w : World, Calls Tryz.prog 239 #[.int .i64 n] w fun e w' => ∃ r us, e = .returned r ∧ OwnU w' w.heap.size r us (conjX n) ∧ Below w.heap.size w w' := by
  intro f
  induction f with
  | zero => intro n hn; omega
  | succ f ih =>
    intro n hnf hn w
    cases n with
    | zero =>
      have hl1 := own_u_lit (B := w.heap.size) (ownI_empty (w := w) (B := w.heap.size) (Nat.le_refl _)) (by simp)
      rw [size_alloc_w] at hl1
      have HL := Lib.hid hl1
      clear hl1 ih
      rw [conjX_zero]
      go_enter Tryz.func239, Tryz.ntmps239
      go_wp2_with fail
      go_ret
      exact ⟨_, _, rfl, HL.out, ((Below.refl _ _).alloc (Nat.le_refl _) _).alloc (by simp) _⟩
    | succ n =>
      have IH := Lib.hid ih
      rw [conjX_step (by omega), ← conjG_odd (n + 1) (n + 1) (by omega)]
      have HO := Lib.hid (fun (v : Value) (W : World) (h : IntSS W.heap v (conjG (n + 1) (n + 1))) => oddOnes_of SO v _ W h (by have := (conjG_ok (n + 1) hn (n + 1) (by omega)).1; omega) (fun x hx => by have := List.all_eq_true.1 (conjG_ok (n + 1) hn (n + 1) (by omega)).2 x hx; simp at this; omega))
      have t0 := (neB (show (n : Int) + 1 ≠ 0 by omega)).1
      rw [show ((n + 1 : Nat) : Int) = (n : Int) + 1 by omega]
      clear ih
      go_enter Tryz.func239, Tryz.ntmps239
      go_wp2_with fail
      go_loopw [3, 11] (fun o i wr => ∃ (k : Nat) (us : List Value), k ≤ n + 1 ∧ i = .int .i64 k ∧ RefR wr w.heap.size wr.heap o us (conjG (n + 1) k) ∧ Below w.heap.size w wr) (fun _ i _ => n + 1 - (intOf i).toNat)
      case atStart => exact ⟨0, [], Nat.zero_le _, rfl, ref_empty _ (Nat.le_refl _), (Below.refl _ _).alloc (Nat.le_refl _) _⟩
      case round =>
        obtain ⟨k, us, hk, rfl, hR, hbl⟩ := hrel
        obtain ⟨va, vn, vc, rfl⟩ := own_shape hR.row
        have HR := Lib.hid hR; have HBL := Lib.hid hbl
        clear hR hbl
        by_cases hkn : k < n + 1
        · have hki : (k : Int) < (n : Int) + 1 := by omega
          have CK := Lib.hid (IH.out k (by omega) (by omega))
          obtain ⟨m, hm⟩ : ∃ m : Nat, n + 1 - k = m := ⟨_, rfl⟩
          have hm2 : (n : Int) + 1 - k = m := by omega
          have hm9 : m ≤ 1000 := by omega
          have hpk : (2 : Int) ^ k ≤ 1000 ∧ 0 ≤ (2 : Int) ^ k := by
            have : ∀ k, k < 8 → (2 : Int) ^ k ≤ 1000 ∧ 0 ≤ (2 : Int) ^ k := by decide
            exact this k (by omega)
          have hpw : wrap64 (2 ^ k) = (2 : Int) ^ k := by unfold wrap64; omega
          have HN : Hid (conjG (n + 1) (k + 1) = conjG (n + 1) k ++ oddL (joinsL [singL m (2 ^ k)] (conjX k))) := by show _ = _; rw [conjG, hm]
          have hcl := (conjG_ok (n + 1) hn k (by omega)).1
          have hxl := conjX_len (n := k) (by omega)
          have hxs := conjX_sm (n := k) (by omega)
          have hol : (oddL (joinsL [singL m (2 ^ k)] (conjX k))).length ≤ 32 := by
            have h1 := oddL_length (joinsL [singL m (2 ^ k)] (conjX k))
            rw [joinsL_length, List.length_singleton] at h1
            omega
          have SG := Lib.hid (fun (e : Int) (W : World) => single_c m e W hm9)
          have MD := Lib.hid (fun (v u : Value) (W : World) (h : IntSS W.heap v [singL m (2 ^ k)]) (hu : IntSS W.heap u (conjX k)) => multiplyDual_of SO v u _ _ W h hu (fun r hr => by
            rw [List.mem_singleton] at hr; subst hr
            exact ⟨singL_sm m _ (by omega) hpk.2 (by omega), by rw [singL_length]; omega⟩) (fun r hr => ⟨fun x hx => by have := (hxs r hr).1 x hx; omega, by have := (hxs r hr).2; omega⟩) (by rw [List.length_singleton]; omega))
          have HLN : Hid ((conjG (n + 1) k).length + (oddL (joinsL [singL m (2 ^ k)] (conjX k))).length ≤ 4398046511104) := by show _ ≤ _; omega
          clear hm hcl hxl hxs hol hkn IH
          obtain ⟨E, hE⟩ : ∃ E : Int, (2 : Int) ^ k = E := ⟨_, rfl⟩
          have hpw2 := hpw.trans hE
          rw [hE] at HN MD HLN
          clear hE hpw hpk
          generalize oddL (joinsL [singL m E] (conjX k)) = px at *
          go_wp2_with (first | (go_at_call 231; refine (SG.out _ _).mono ?_; rintro e w2 ⟨rs, rfl, hs2, hb2⟩; obtain ⟨ra, rn, rc, rfl⟩ := own_shape hs2; have HS2 := Lib.hid (one_row hs2.ints); have HB2 := Lib.hid (hb2.alloc hb2.size (.cells #[.slice ra rn rc] 56)); clear hs2 hb2) | (go_at_call 239; refine (CK.out _).mono ?_; rintro e w3 ⟨r3, us3, rfl, hU3, hb3⟩; obtain ⟨ca, cn, cc, rfl⟩ := own_shape hU3.row; have HS3 := Lib.hid (HS2.out.same hb3.block); have HB3 := Lib.hid (HB2.out.trans (hb3.mono HB2.out.size)); have HU3 := Lib.hid hU3.ints; clear hU3 hb3) | (go_at_call 129; refine (MD.out _ _ _ HS3.out HU3.out).mono ?_; rintro e w4 ⟨r4, us4, rfl, hU4, hb4⟩; obtain ⟨da, dn, dc, rfl⟩ := own_shape hU4.row; have HB4 := Lib.hid (HB3.out.trans (hb4.mono HB3.out.size)); have HR4 := Lib.hid ((HR.out.same HB4.out.block).grow HB4.out.block); have HX4 := Lib.hid (hU4.ints.at2 (fun _ _ => rfl)); have HBX := Lib.hid (HBL.out.trans (HB4.out.mono HBL.out.size)); clear hU4 hb4) | (at_builtin; refine append_refs rfl _ _ rfl w.heap.size w4.heap _ _ us _ _ HR4.out rfl HX4.out rfl HBX.out HBX.out.size HLN.out ?_; intro v5 us5 w5 hU5 hb5 hs5 hk5; obtain ⟨sa, sn, sc, rfl⟩ := own_shape hU5.row; have HU5 := Lib.hid (ref_keep hU5 (KeepI.grown HR4.out.row (by decide) hk5))))
          go_roundw
          case rel => exact ⟨k + 1, _, by omega, by go_num, by rw [HN.out]; exact HU5.out, hb5⟩
          case measure => simp [intOf]; omega
        · obtain rfl : k = n + 1 := by omega
          go_wp2_with (go_at_call 107; refine (HO.out _ _ (HR.out.ints (fun _ _ => rfl))).mono ?_; rintro e w2 ⟨r2, us2, rfl, hU2, hb2⟩; obtain ⟨sa, sn, sc, rfl⟩ := own_shape hU2.row)
          go_ret
          exact ⟨_, _, rfl, own_u_base hU2 HBL.out.size, HBL.out.trans (hb2.mono HBL.out.size)⟩
theorem ExpD.smS {d : Int} {l : List (List Int)} (h : ExpD d l) (hd : d ≤ 40) : SmS 1000000000000000 4398046511104 l := fun r hr => by
  have := h.sm hd r hr
  exact ⟨fun x hx => by have := this.1 x hx; omega, by have := this.2; omega⟩
/-- What a step along the digits of a number of a monomial has. -/
theorem dig_all {r : List Int} (hE : isExp r = true) (hd : deg r ≤ 40) {k : Nat} (hk : k < r.length) : ∃ e : Nat, r.getD k 0 = e ∧ e ≤ 40 ∧ ∀ j : Nat, j ≤ 6 → SmS 1000000000000000 4398046511104 (digL (conjX (k + 1)) e (dconN r k) j) ∧ (digL (conjX (k + 1)) e (dconN r k) j).length ≤ 504 := by
  have hl := exp_len5 hE hd
  obtain ⟨i1, i2⟩ := dcon_ok hE hd k (by omega)
  have hn := ((isExp_sm hE).at (by omega) k).1
  have hw := deg_takeN hE (k + 1) hk
  have hw0 := W_nonneg (f := fun i => r.getD i 0) k fun i _ => ((isExp_sm hE).at (by omega) i).1
  rw [W] at hw
  obtain ⟨e, he⟩ : ∃ e : Nat, r.getD k 0 = e := ⟨(r.getD k 0).toNat, by omega⟩
  simp only [he] at hw
  have hp := pow_pos' k
  have hc : (e : Int) * (2 ^ (k + 1) - 1) = (2 ^ (k + 1) - 1) * (e : Int) := Int.mul_comm _ _
  have h6 : e ≤ 40 := by
    have := Int.mul_le_mul_of_nonneg_left hp (show (0 : Int) ≤ e by omega)
    omega
  rw [hc] at hw
  refine ⟨e, he, h6, fun j _ => ?_⟩
  have hx := dig_ok (e := e) i1 i2 (conjX_exp (n := k + 1) (by omega)) hw0 (by omega) (by omega) j
  have hm : ((2 : Int) ^ (k + 1) - 1) * ((e % 2 ^ j : Nat) : Int) ≤ (2 ^ (k + 1) - 1) * (e : Int) := Int.mul_le_mul_of_nonneg_left (by have := Nat.mod_le e (2 ^ j); omega) (by omega)
  have hb : W (fun i => r.getD i 0) k + (2 ^ (k + 1) - 1) * ((e % 2 ^ j : Nat) : Int) ≤ 40 := by omega
  exact ⟨hx.exp.smS hb, expD_length hx.asc hx.exp hb⟩
theorem and_bit : ∀ e : Nat, e < 41 → ∀ j : Nat, j < 6 → (bits BinOp.and IntKind.i64 (e : Int) ((2 : Int) ^ j) != 0) = e.testBit j := by decide +kernel
theorem dconN_succ (r : List Int) (k e : Nat) (he : r.getD k 0 = e) : dconN r (k + 1) = digL (conjX (k + 1)) e (dconN r k) 6 := by rw [dconN, he, Int.toNat_natCast]
theorem dig_end {e : Nat} {x out : List (List Int)} {j : Nat} (h : e < 2 ^ j) (hj : j ≤ 6) : digL x e out 6 = digL x e out j := by
  have := dig_bits (x := x) (out := out) h (6 - j)
  rwa [show j + (6 - j) = 6 by omega] at this
theorem raise_smS {X : List (List Int)} (h : SmS 1000000000000 6 X) {c : Int} (h0 : 0 ≤ c) (h1 : c ≤ 64) : SmS 1000000000000000 4398046511104 (raiseL c X) := fun z hz => by
  simp only [raiseL, List.mem_map] at hz
  obtain ⟨r, hr, rfl⟩ := hz
  have h2 := h r hr
  refine ⟨fun x hx => ?_, by simp [scaleL]; omega⟩
  simp only [scaleL, List.mem_map] at hx
  obtain ⟨y, hy, rfl⟩ := hx
  have h3 := h2.1 y hy
  exact ⟨Int.mul_nonneg h3.1 h0, Int.le_trans (Int.mul_le_mul h3.2 h1 h0 (by omega)) (by omega)⟩
theorem pow2_le : ∀ j : Nat, j ≤ 6 → (1 : Int) ≤ 2 ^ j ∧ (2 : Int) ^ j ≤ 64 ∧ ((2 : Int) ^ j) * 2 = 2 ^ (j + 1) := by decide
set_option maxRecDepth 100000 in
set_option maxHeartbeats 1000000 in
theorem dualConjugate_of (SO : SortOk) (v : Value) (r : List Int) (w : World) (h : IntS w.heap v r) (hE : isExp r = true) (hd : deg r ≤ 40) :
    Calls Tryz.prog 204 #[v] w fun e w' => ∃ r', ∃ us, e = .returned r' ∧ OwnU w' w.heap.size r' us (dconL r) ∧ Below w.heap.size w w' := by
  have hl5 := exp_len5 hE hd
  have DA := Lib.hid (fun k (hk : k < r.length) => dig_all hE hd hk)
  obtain ⟨ao, c, rfl, hm⟩ := h.len
  have H := Lib.hid h
  have hl1 := own_u_lit (B := w.heap.size) (ownI_empty (w := w) (B := w.heap.size) (Nat.le_refl _)) (by simp)
  rw [size_alloc_w] at hl1
  have HL := Lib.hid hl1
  clear hl1 h hE hd
  unfold dconL
  go_enter Tryz.func204, Tryz.ntmps204
  go_wp2_with fail
  go_loopw [3, 12] (fun o i wr => ∃ (k : Nat) (us : List Value), k ≤ r.length ∧ i = .int .i64 k ∧ OwnU wr w.heap.size o us (dconN r k) ∧ Below w.heap.size w wr) (fun _ i _ => r.length - (intOf i).toNat)
  case atStart => exact ⟨0, _, Nat.zero_le _, rfl, HL.out, ((Below.refl _ _).alloc (Nat.le_refl _) _).alloc (by simp) _⟩
  case round =>
    obtain ⟨k, us, hk, rfl, hU, hbl⟩ := hrel
    obtain ⟨va, vn, vc, rfl⟩ := own_shape hU.row
    have HU := Lib.hid hU; have HBL := Lib.hid hbl
    by_cases hkl : k < r.length
    · obtain ⟨e, he, he40, HJ⟩ := DA.out k hkl
      have HJ := Lib.hid HJ
      obtain ⟨b1, o1, c1, hv1, hc1, -⟩ := H.out.at k hkl
      simp only [Value.slice.injEq, true_and] at hv1
      obtain ⟨rfl, rfl⟩ := hv1
      have hcx := (hbl.cell (World.block_lt_of_cell? _ _ hc1)).trans hc1
      rw [← getD_at', he] at hcx
      have HSU := Lib.hid (dconN_succ r k e he)
      have hki : (k : Int) < r.length := by omega
      have CJ := Lib.hid (fun W => conjugateOf_of SO (k + 2) (k + 1) (by omega) (by omega) W)
      rw [show ((k + 1 : Nat) : Int) = (k : Int) + 1 by omega] at CJ
      have hxl := conjX_len (n := k + 1) (by omega)
      have hxs := Lib.hid (conjX_sm (n := k + 1) (by omega))
      have HXE := Lib.hid (conjX_exp (n := k + 1) (by omega))
      clear hU hbl hc1 he
      generalize conjX (k + 1) = X at *
      generalize dconN r k = D0 at *
      go_wp2_with (go_at_call 239; refine (CJ.out _).mono ?_; rintro e w3 ⟨r3, us3, rfl, hU3, hb3⟩; obtain ⟨ca, cn, cc, rfl⟩ := own_shape hU3.row; have HX3 := Lib.hid hU3.ints; have HB3 := Lib.hid (HBL.out.trans (hb3.mono HBL.out.size)); have HU3 := Lib.hid (HU.out.same hb3.block); have hcx3 := (hb3.cell (World.block_lt_of_cell? _ _ hcx)).trans hcx; clear hU3 hb3)
      go_loopw [3, 7] (fun o p wk => ∃ (j : Nat) (us : List Value), j ≤ 6 ∧ p = .int .i64 ((2 : Int) ^ j) ∧ OwnU wk w.heap.size o us (digL X e D0 j) ∧ Below w3.heap.size w3 wk) (fun _ p _ => 65 - (intOf p).toNat)
      case atStart => exact ⟨0, us, by omega, rfl, HU3.out, Below.refl _ _⟩
      case round =>
        obtain ⟨j, us2, hj, rfl, hO, hb2⟩ := hrel
        obtain ⟨ya, yn, yc, rfl⟩ := own_shape hO.row
        have HO := Lib.hid hO; have HB2 := Lib.hid hb2
        have HBW := Lib.hid (HB3.out.trans (hb2.mono HB3.out.size))
        have HXW := Lib.hid (HX3.out.same hb2.block)
        have hcy := (hb2.cell (World.block_lt_of_cell? _ _ hcx3)).trans hcx3
        obtain ⟨hp1, hp2, hp3⟩ := pow2_le j hj
        obtain ⟨hsm, hlen⟩ := HJ.out j hj
        have HSM := Lib.hid hsm
        clear hO hb2 hsm
        by_cases hle : (2 : Int) ^ j ≤ e
        · have hj6 : j < 6 := by
            rcases Nat.lt_or_ge j 6 with h | h
            · exact h
            · obtain rfl : j = 6 := by omega
              rw [show (2 : Int) ^ 6 = 64 by decide] at hle
              omega
          have hb := and_bit e (by omega) j hj6
          have HD : Hid (digL X e D0 (j + 1) = if e.testBit j then oddL (joinsL (digL X e D0 j) (raiseL (2 ^ j) X)) else digL X e D0 j) := rfl
          have HRS := Lib.hid (raise_smS hxs.out (show (0 : Int) ≤ 2 ^ j by omega) hp2)
          cases hbt : e.testBit j
          · rw [hbt] at hb HD
            obtain ⟨P, hP⟩ : ∃ P : Int, (2 : Int) ^ j = P := ⟨_, rfl⟩
            have HP3 : Hid (P * 2 = (2 : Int) ^ (j + 1)) := by show _ = _; rw [← hP]; exact hp3
            rw [hP] at hp1 hp2 hle hb ⊢
            have u1 : decide (P ≤ (e : Int)) = true := decide_eq_true hle
            have HPP := Lib.hid hP
            clear hP hp3 hbt HRS
            go_wp2_with fail
            go_roundw
            case rel => exact ⟨j + 1, us2, by omega, by rw [HP3.out], by rw [HD.out]; exact HO.out, HB2.out⟩
            case measure => simp [intOf]; omega
          · rw [hbt] at hb HD
            obtain ⟨P, hP⟩ : ∃ P : Int, (2 : Int) ^ j = P := ⟨_, rfl⟩
            have HP3 : Hid (P * 2 = (2 : Int) ^ (j + 1)) := by show _ = _; rw [← hP]; exact hp3
            have RC := Lib.hid (fun (W : World) (h : IntSS W.heap (.slice ca cn cc) X) => raised_c (.slice ca cn cc) X P W h (fun r hr => ⟨(hxs.out r hr).1, by have := (hxs.out r hr).2; omega⟩) (by omega) (by omega) (by omega))
            have MD := Lib.hid (fun (v u : Value) (W : World) (h : IntSS W.heap v (digL X e D0 j)) (hu : IntSS W.heap u (raiseL ((2 : Int) ^ j) X)) => multiplyDual_of SO v u _ _ W h hu HSM.out HRS.out (by
              have h1 : (raiseL ((2 : Int) ^ j) X).length ≤ 32 := by simp [raiseL]; exact hxl
              exact Nat.le_trans (Nat.mul_le_mul hlen h1) (by omega)))
            rw [hP] at hp1 hp2 hle hb MD HD ⊢
            have u1 : decide (P ≤ (e : Int)) = true := decide_eq_true hle
            have HPP := Lib.hid hP
            clear hP hp3 hbt HRS HSM
            go_wp2_with (first | (go_at_call 240; refine (RC.out _ HXW.out).mono ?_; rintro e w5 ⟨r5, us5, rfl, hU5, hb5⟩; obtain ⟨da, dn, dc, rfl⟩ := own_shape hU5.row) | (go_at_call 129; refine (MD.out _ _ _ (HO.out.ints.same hb5.block) hU5.ints).mono ?_; rintro e w6 ⟨r6, us6, rfl, hU6, hb6⟩; obtain ⟨ea, en, ec, rfl⟩ := own_shape hU6.row; have HB6 := Lib.hid (hb5.trans (hb6.mono hb5.size)); have HS6 := Lib.hid hb5.size; have HU6 := Lib.hid hU6; clear hU6 hb6 hU5 hb5))
            go_roundw
            case rel => exact ⟨j + 1, us6, by omega, by rw [HP3.out], by rw [HD.out]; exact own_u_base HU6.out (Nat.le_trans HBW.out.size HS6.out), HB2.out.trans (HB6.out.mono HB2.out.size)⟩
            case measure => simp [intOf]; omega
        · have hlt : e < 2 ^ j := by
            have : ((2 ^ j : Nat) : Int) = (2 : Int) ^ j := by rw [Int.natCast_pow]; rfl
            omega
          have HE := Lib.hid (dig_end (x := X) (out := D0) hlt hj)
          have u1 : decide ((2 : Int) ^ j ≤ (e : Int)) = false := decide_eq_false hle
          obtain ⟨P, hP⟩ : ∃ P : Int, (2 : Int) ^ j = P := ⟨_, rfl⟩
          rw [hP] at hp1 hp2 hle u1 ⊢
          clear hP hp3 hlt hlen
          go_wp2_with fail
          go_roundw
          case rel => exact ⟨k + 1, us2, by omega, by go_num, by rw [HSU.out, HE.out]; exact HO.out, HBW.out⟩
          case measure => simp [intOf]; omega
    · obtain rfl : k = r.length := by omega
      clear hU hbl
      go_wp2_with fail
      go_ret
      exact ⟨_, us, rfl, HU.out, HBL.out⟩
end
section
open Go.RowKit Go.Sort

set_option maxRecDepth 100000 in
theorem l06Power_c (n : Nat) (e : Int) (w : World) (hn : n ≤ 1000) (he : 1 ≤ e) :
    Calls Tryz.prog 168 #[.int .i64 n, .int .i64 e] w fun r w' => ∃ v, r = .returned v ∧ OwnI w' w.heap.size v (singL n e) ∧ Below w.heap.size w w' := by
  have te := (neB (show e ≠ 0 by omega)).1
  cases n with
  | zero =>
    go_enter Tryz.func168, Tryz.ntmps168
    go_wp2_with fail
    go_ret
    exact ⟨_, rfl, ownI_empty (Nat.le_refl _), (Below.refl _ _).alloc (Nat.le_refl _) _⟩
  | succ m =>
    have hmk := fun w => make_run (P := Tryz.prog) 56 2 _ 8 info_int64 Tryz.underlying56 rfl (by omega) (m + 1) (by omega) .i64 .i64 ((m : Int) + 1) ((m : Int) + 1) (by omega) (by omega) w
    have hmo := made_own w w.heap.size 2 (m + 1) (.int .i64 0) (Nat.le_refl _) (by omega)
    have hmo2 : (w.alloc (.cells (madeCells #[.int .i64 0] (m + 1)) 2)).ownsRow w.heap.size 2 1 (.slice (some ⟨w.heap.size, 0, none⟩) (m + 1) (m + 1)) (m + 1) ((List.replicate (m + 1) (0 : Int)).map (Value.int .i64)) := by simpa using hmo
    obtain ⟨W5, hW5⟩ : ∃ W5, W5 = w.alloc (.cells (madeCells #[.int .i64 0] (m + 1)) 2) := ⟨_, rfl⟩
    have hb5 : Below w.heap.size w W5 := by rw [hW5]; exact (Below.refl _ _).alloc (Nat.le_refl _) _
    rw [← hW5] at hmo2
    have q0 := own_int_at hmo2 m (by omega)
    rw [show (List.replicate (m + 1) (0 : Int)).getD m 0 = 0 by simp] at q0
    have f0 := hmo2.frozenAt m
    have hst := own_int_set hmo2 m e
    rw [singL_set] at hst
    have HST : Hid (OwnI (W5.setCell ⟨w.heap.size, m, none⟩ (.int .i64 e)) w.heap.size (.slice (some ⟨w.heap.size, 0, none⟩) (m + 1) (m + 1)) (singL (m + 1) e)) := by
      show OwnI _ _ _ _
      unfold OwnI
      rw [singL_length]; exact hst
    have HB5 := Lib.hid (hb5.setCell (p := ⟨w.heap.size, m, none⟩) (Nat.le_refl _) (.int .i64 e))
    have HW5 := Lib.hid hW5
    clear hmo hmo2 hst hb5 hW5
    have hs1 : (m : Int) + 1 - 1 = m := by omega
    have hi0 : (0 : Int) ≤ m := by omega
    have t0 := (neB (show (m : Int) + 1 ≠ 0 by omega)).1
    rw [show ((m + 1 : Nat) : Int) = (m : Int) + 1 by omega]
    go_enter Tryz.func168, Tryz.ntmps168
    go_upto_region 4 with fail
    rw [← HW5.out]
    clear hmk
    go_wp2_with fail
    go_ret
    exact ⟨_, rfl, HST.out, HB5.out⟩
set_option maxRecDepth 100000 in
theorem l06Scaled_c (v : Value) (r : List Int) (c : Int) (w : World) (h : IntS w.heap v r) (hs : Sm 1000000000000 r) (hc0 : 0 ≤ c) (hc : c ≤ 1000) (hl : r.length ≤ 4398046511104) :
    Calls Tryz.prog 223 #[v, .int .i64 c] w fun e w' => ∃ r', e = .returned r' ∧ OwnI w' w.heap.size r' (scaleL c r) ∧ Below w.heap.size w w' := by
  obtain ⟨ao, cp, rfl, hm⟩ := h.len
  have HX := Lib.hid h; have HRX := Lib.hid hs; clear h hs
  go_enter Tryz.func223, Tryz.ntmps223
  go_wp2_with fail
  go_loopw [5, 6] (fun o i wk => ∃ j : Nat, j ≤ r.length ∧ i = .int .i64 j ∧ OwnI wk w.heap.size o (scaleL c (r.take j)) ∧ Below w.heap.size w wk) (fun _ i _ => r.length - (intOf i).toNat)
  case atStart => exact ⟨0, Nat.zero_le _, rfl, ownI_empty (Nat.le_refl _), (Below.refl _ _).alloc (Nat.le_refl _) _⟩
  case round =>
    obtain ⟨j, hj, rfl, hO, hb2⟩ := hrel
    obtain ⟨ya, yn, yc, rfl⟩ := own_shape hO
    have HO := Lib.hid hO; have HB2 := Lib.hid hb2
    have hsz2 := hb2.size
    by_cases hjl : j < r.length
    · obtain ⟨b2, o2, c2, hv2, hc2, -⟩ := HX.out.at j hjl
      simp only [Value.slice.injEq, true_and] at hv2
      obtain ⟨rfl, rfl⟩ := hv2
      have hcy := (hb2.cell (World.block_lt_of_cell? _ _ hc2)).trans hc2
      obtain ⟨hx0, hx1⟩ := HRX.out _ (List.getElem_mem hjl)
      have HT2 : Hid (scaleL c (r.take (j + 1)) = scaleL c (r.take j) ++ [r[j] * c]) := by
        show _ = _
        unfold scaleL; rw [List.take_succ_eq_append_getElem hjl, List.map_append]; rfl
      have hll : (scaleL c (r.take j)).length ≤ 4398046511104 := by simp [scaleL]; omega
      have HLL2 := Lib.hid hll
      have hji : (j : Int) < r.length := by omega
      clear hO hb2 hc2 hll
      generalize r[j] = x at *
      have hm0 : 0 ≤ x * c := Int.mul_nonneg hx0 hc0
      have hm1 : x * c ≤ 1000000000000000 := Int.le_trans (Int.mul_le_mul hx1 hc hc0 (by omega)) (by omega)
      go_wp2_with (at_builtin; refine append_int rfl _ _ rfl w.heap.size _ _ _ HO.out rfl HB2.out hsz2 _ rfl (by simp) HLL2.out ?_; intro v' w3 hown' hbl' _ _; obtain ⟨qa2, qn2, qc2, rfl⟩ := own_shape hown')
      go_roundw
      case rel => exact ⟨j + 1, by omega, by go_num, by rw [HT2.out]; exact hown', hbl'⟩
      case measure => simp [intOf]; omega
    · obtain rfl : j = r.length := by omega
      rw [List.take_length] at HO
      clear hO hb2
      go_wp2_with fail
      go_ret
      exact ⟨_, rfl, HO.out, HB2.out⟩
/-- The places of the first j binary digits of e that are 1. -/
def digP (e : Nat) : Nat → List Int
  | 0 => []
  | j + 1 => if e.testBit j then digP e j ++ [(j : Int)] else digP e j
theorem digP_len (e : Nat) : ∀ j : Nat, (digP e j).length ≤ j := by
  intro j
  induction j with
  | zero => exact Nat.le_refl _
  | succ j ih =>
    rw [digP]
    split
    · rw [List.length_append, List.length_singleton]; omega
    · omega
theorem digP_end {e j : Nat} (h : e < 2 ^ j) : ∀ k : Nat, digP e (j + k) = digP e j := by
  intro k
  induction k with
  | zero => rfl
  | succ k ih => rw [← Nat.add_assoc, digP, Nat.testBit_lt_two_pow (Nat.lt_of_lt_of_le h (Nat.pow_le_pow_right (by omega) (by omega)))]; exact ih
theorem digP_mem (e : Nat) : ∀ j : Nat, ∀ x ∈ digP e j, ∃ i : Nat, x = i ∧ i < j := by
  intro j
  induction j with
  | zero => intro x hx; cases hx
  | succ j ih =>
    intro x hx
    rw [digP] at hx
    split at hx
    · rcases List.mem_append.1 hx with h | h
      · obtain ⟨i, h1, h2⟩ := ih x h; exact ⟨i, h1, by omega⟩
      · rw [List.mem_singleton] at h; exact ⟨j, h, by omega⟩
    · obtain ⟨i, h1, h2⟩ := ih x hx; exact ⟨i, h1, by omega⟩
set_option maxRecDepth 100000 in
theorem l01Digits_c (e : Nat) (w : World) (he : e < 64) :
    Calls Tryz.prog 222 #[.int .i64 e] w fun r w' => ∃ v, r = .returned v ∧ OwnI w' w.heap.size v (digP e 6) ∧ Below w.heap.size w w' := by
  go_enter Tryz.func222, Tryz.ntmps222
  go_wp2_with fail
  go_loopw [0, 3, 4] (fun n o i wk => ∃ j : Nat, j ≤ 6 ∧ n = .int .i64 ((e / 2 ^ j : Nat) : Int) ∧ i = .int .i64 j ∧ OwnI wk w.heap.size o (digP e j) ∧ Below w.heap.size w wk) (fun n _ _ _ => (intOf n).toNat)
  case atStart => exact ⟨0, by omega, by simp, rfl, ownI_empty (Nat.le_refl _), (Below.refl _ _).alloc (Nat.le_refl _) _⟩
  case round =>
    obtain ⟨j, hj, rfl, rfl, hO, hb2⟩ := hrel
    obtain ⟨ya, yn, yc, rfl⟩ := own_shape hO
    have HO := Lib.hid hO; have HB2 := Lib.hid hb2
    have hsz2 := hb2.size
    have HD : Hid (digP e (j + 1) = if e.testBit j then digP e j ++ [(j : Int)] else digP e j) := rfl
    have hn64 : e / 2 ^ j ≤ 64 := Nat.le_trans (Nat.div_le_self _ _) (by omega)
    have hdd : e / 2 ^ (j + 1) = e / 2 ^ j / 2 := by rw [Nat.pow_succ, Nat.div_div_eq_div_mul]
    have hll : (digP e j).length ≤ 4398046511104 := by have := digP_len e j; omega
    have HLL := Lib.hid hll
    by_cases hz : e / 2 ^ j = 0
    · have hlt : e < 2 ^ j := by
        rcases Nat.lt_or_ge e (2 ^ j) with h | h
        · exact h
        · have := Nat.div_pos h (Nat.two_pow_pos j); omega
      have HE : Hid (digP e 6 = digP e j) := by
        show _ = _
        have := digP_end hlt (6 - j)
        rwa [show j + (6 - j) = 6 by omega] at this
      have u1 : decide ((0 : Int) < ((e / 2 ^ j : Nat) : Int)) = false := decide_eq_false (by omega)
      have u2 : decide (0 < e / 2 ^ j) = false := decide_eq_false (by omega)
      clear hO hb2 hll hdd hlt
      generalize e / 2 ^ j = q at *
      go_wp2_with fail
      go_ret
      exact ⟨_, rfl, by rw [HE.out]; exact HO.out, HB2.out⟩
    · have hj6 : j < 6 := by
        rcases Nat.lt_or_ge j 6 with h | h
        · exact h
        · obtain rfl : j = 6 := by omega
          exact absurd (Nat.div_eq_of_lt (show e < 2 ^ 6 from he)) hz
      have hbt : e.testBit j = decide (e / 2 ^ j % 2 = 1) := by rw [Nat.testBit_eq_decide_div_mod_eq]
      have HDD := Lib.hid hdd
      have hq0 : 0 < e / 2 ^ j := Nat.pos_of_ne_zero hz
      clear hO hb2 hll hdd hz
      obtain ⟨q, hq⟩ : ∃ q, e / 2 ^ j = q := ⟨_, rfl⟩
      rw [hq] at hbt hn64 hq0 HDD ⊢
      clear hq
      have hqi : (0 : Int) < (q : Int) := by omega
      by_cases ho : q % 2 = 1
      · rw [hbt, decide_eq_true ho] at HD
        have u3 := (eqB (show (q : Int) % 2 = 1 by omega)).1
        clear hbt
        go_wp2_with (at_builtin; refine append_int rfl _ _ rfl w.heap.size _ _ _ HO.out rfl HB2.out hsz2 _ rfl (by simp) HLL.out ?_; intro v' w3 hown' hbl' _ _; obtain ⟨qa2, qn2, qc2, rfl⟩ := own_shape hown')
        go_roundw
        case rel => exact ⟨j + 1, by omega, by rw [HDD.out]; simp, by go_num, by rw [HD.out]; exact hown', hbl'⟩
        case measure => simp [intOf]; omega
      · rw [hbt, decide_eq_false ho] at HD
        have u3 := (neB (show (q : Int) % 2 ≠ 1 by omega)).1
        clear hbt
        go_wp2_with fail
        go_roundw
        case rel => exact ⟨j + 1, by omega, by rw [HDD.out]; simp, by go_num, by rw [HD.out]; exact HO.out, HB2.out⟩
        case measure => simp [intOf]; omega
theorem sh_small : ∀ k : Nat, k < 8 → IntKind.i64.wrap (2 ^ min (IntKind.u64.wrap (k : Int)).toNat 64) = (2 : Int) ^ k := by decide +kernel
theorem heldC1' {x1 : Value} {g1 : Addr} {w0 W W' : World} (h : W.cell? g1 = some x1 ∧ Below w0.heap.size w0 W) (hb : Below W.heap.size W W') : W'.cell? g1 = some x1 ∧ Below w0.heap.size w0 W' :=
  ⟨(hb.cell (World.block_lt_of_cell? _ _ h.1)).trans h.1, h.2.trans (hb.mono h.2.size)⟩
theorem heldC1X' {x1 : Value} {g1 : Addr} {w0 W : World} (h : W.cell? g1 = some x1 ∧ Below w0.heap.size w0 W) : Below w0.heap.size w0 W := h.2
theorem odds_mrg (a b : List (List Int)) : mrg (oddL a) (oddL b) = oddL (a ++ b) := by
  rw [mrg_odd (asc_oddL a) (asc_oddL b), ← oddL_append', ← oddL_append]
theorem conjTab_succ {n : Nat} (hn : n < 6) : conjTab (n + 1) = conjTab n ++ [oddL (conjStep (conjTab 6) (n + 1) (n + 1))] := by
  rw [conjTab, conjStep_congr (conjTab n) (conjTab 6) (n + 1) (n + 1) fun i hi => conjTab_get (by omega) (by omega)]
set_option maxRecDepth 100000 in
set_option maxHeartbeats 1000000 in
theorem l06Conjugates_c (w : World) :
    Calls Tryz.prog 206 #[.int .i64 6] w fun e w' => ∃ r us, e = .returned r ∧ OwnRS w' w.heap.size r us (conjTab 6) ∧ Below w.heap.size w w' := by
  have hl0 := ownI_empty (w := w) (B := w.heap.size) (Nat.le_refl _)
  have hl1 := own_u_lit (B := w.heap.size) hl0 (by simp)
  rw [size_alloc_w] at hl1
  have hl3 := ownRS_one (w := (w.alloc (.cells #[] 2)).alloc (.cells #[.slice (some ⟨w.heap.size, 0, none⟩) 0 0] 56)) (B := w.heap.size) hl1 (by simp; omega)
  rw [size_alloc_w, size_alloc_w] at hl3
  have HL := Lib.hid hl3
  clear hl0 hl1 hl3
  go_enter Tryz.func206, Tryz.ntmps206
  go_wp2_with fail
  go_loopw [3, 4] (fun o k wr => ∃ (n : Nat) (us : List Value), n ≤ 6 ∧ k = .int .i64 ((n : Int) + 1) ∧ OwnRS wr w.heap.size o us (conjTab n) ∧ Below w.heap.size w wr) (fun _ k _ => 8 - (intOf k).toNat)
  case atStart => exact ⟨0, _, by omega, rfl, HL.out, (((Below.refl _ _).alloc (Nat.le_refl _) _).alloc (by simp) _).alloc (by simp; omega) _⟩
  case round =>
    obtain ⟨n, us, hn, rfl, hR, hbl⟩ := hrel
    obtain ⟨va, vn, vc, rfl⟩ := own_shape hR.row
    have HR := Lib.hid hR; have HBL := Lib.hid hbl
    have hszr := hbl.size
    by_cases hn6 : n < 6
    · have HTS := Lib.hid (conjTab_succ hn6)
      have HRI := Lib.hid hR.ints
      have hvn : vn = n + 1 := by
        obtain ⟨_, _, hv, _⟩ := HRI.out.len
        simp only [Value.slice.injEq, conjTab_length] at hv
        exact hv.2.1
      subst hvn
      have hni : (n : Int) + 1 ≤ 6 := by omega
      clear hR hbl
      rename World => WR
      go_wp2_with fail
      go_loopw [5, 6] (fun o i wk => ∃ (k : Nat) (us2 : List Value), k ≤ n + 1 ∧ i = .int .i64 k ∧ OwnU wk WR.heap.size o us2 (oddL (conjStep (conjTab 6) (n + 1) k)) ∧ Below WR.heap.size WR wk) (fun _ i _ => n + 1 - (intOf i).toNat)
      case atStart => exact ⟨0, [], Nat.zero_le _, rfl, ⟨World.ownsRow_made WR #[] 0 (Nat.le_refl _) (Nat.zero_le _) rfl, fun i u xs hu => by simp at hu, fun i j u u' _ hu => by simp at hu⟩, (Below.refl _ _).alloc (Nat.le_refl _) _⟩
      case round =>
        obtain ⟨k, us2, hk, rfl, hU, hb2⟩ := hrel
        obtain ⟨ya, yn, yc, rfl⟩ := own_shape hU.row
        have HU := Lib.hid hU; have HB2 := Lib.hid hb2
        have hsz2 := hb2.size
        by_cases hkn : k < n + 1
        · have hki : (k : Int) < (n : Int) + 1 := by omega
          obtain ⟨b1, o1, c1, u1, hv1, hc1, hu1, -⟩ := HRI.out.at k (by rw [conjTab_length]; omega)
          rw [conjTab_length] at hv1
          simp only [Value.slice.injEq, true_and] at hv1
          obtain ⟨rfl, rfl⟩ := hv1
          rw [show (conjTab n)[k]'(by rw [conjTab_length]; omega) = conjX k by rw [← conjTab_at n k (by omega)]; simp [conjTab_length, show k < n + 1 by omega]] at hu1
          have hcx := (hb2.cell (World.block_lt_of_cell? _ _ hc1)).trans hc1
          have HCX := Lib.hid (hu1.same hb2.block)
          obtain ⟨ca, cc, rfl, -⟩ := hu1.len
          obtain ⟨m, hm⟩ : ∃ m : Nat, n + 1 - k = m := ⟨_, rfl⟩
          have hm2 : (n : Int) + 1 - k = m := by omega
          have hm9 : m ≤ 1000 := by omega
          have HN : Hid (conjStep (conjTab 6) (n + 1) (k + 1) = conjStep (conjTab 6) (n + 1) k ++ joinsL [singL m (2 ^ k)] (conjX k)) := by show _ = _; rw [conjStep_next (n + 1) k (by omega), hm]
          have hcl := conjStep_ok (n + 1) (by omega) k (by omega)
          have hcs := conjStep_sm (n + 1) (by omega) k (by omega)
          have hxl := conjX_len (n := k) (by omega)
          have hxs := conjX_sm (n := k) (by omega)
          obtain ⟨hp1, hp2, hp3⟩ := pow2_le k (by omega)
          have hol : (oddL (joinsL [singL m (2 ^ k)] (conjX k))).length ≤ 32 := by
            have h1 := oddL_length (joinsL [singL m (2 ^ k)] (conjX k))
            rw [joinsL_length, List.length_singleton] at h1
            omega
          have hsA : SmS 1000000000000000 4398046511104 [singL m (2 ^ k)] := fun r hr => by
            rw [List.mem_singleton] at hr; subst hr
            exact ⟨singL_sm m _ (by omega) (by omega) (by omega), by rw [singL_length]; omega⟩
          have hsB : SmS 1000000000000000 4398046511104 (conjX k) := fun r hr => ⟨fun x hx => by have := (hxs r hr).1 x hx; omega, by have := (hxs r hr).2; omega⟩
          have hsJ := (hsA.joins hsB (by omega) (by omega)).odd
          have PG := Lib.hid (fun (W : World) => l06Power_c m (2 ^ k) W hm9 (by omega))
          have MD := Lib.hid (fun (v u : Value) (W : World) (h : IntSS W.heap v [singL m (2 ^ k)]) (hu : IntSS W.heap u (conjX k)) => l06Times_c v u _ _ W h hu hsA hsB (by rw [List.length_singleton]; omega))
          have SM := Lib.hid (fun (v u : Value) (W : World) (h : IntSS W.heap v (oddL (conjStep (conjTab 6) (n + 1) k))) (hu : IntSS W.heap u (oddL (joinsL [singL m (2 ^ k)] (conjX k)))) => l01Sum_c v u _ _ W h hu (by have := oddL_length (conjStep (conjTab 6) (n + 1) k); omega) (fun r hr => by have := List.all_eq_true.1 hcs r (mem_oddL_sub hr); simp at this; omega) (fun r hr => (hsJ r hr).2))
          simp only [odds_mrg, ← HN.out] at SM
          have hpw : wrap64 (2 ^ k) = (2 : Int) ^ k := by unfold wrap64; omega
          obtain ⟨E, hE⟩ : ∃ E : Int, (2 : Int) ^ k = E := ⟨_, rfl⟩
          have hpw2 := hpw.trans hE
          rw [hE] at PG MD SM
          have e3 := (sh_small k (by omega)).trans hE
          have e1 : IntKind.i64.wrap ((n : Int) + 1 - k) = m := by rw [hm2]; exact IntWalk.i64_in _ (by omega)
          have e2 : IntKind.i64.wrap (m : Int) = m := IntWalk.i64_in _ (by omega)
          clear hU hb2 hc1 hu1 hm hcl hcs hxl hxs hol hsA hsB hsJ hpw hE hp1 hp2 hp3 hkn
          generalize oddL (joinsL [singL m E] (conjX k)) = px at *
          generalize oddL (conjStep (conjTab 6) (n + 1) k) = py at *
          obtain ⟨pz, hpz⟩ : ∃ pz, oddL (conjStep (conjTab 6) (n + 1) (k + 1)) = pz := ⟨_, rfl⟩
          rw [hpz] at SM
          have HPZ := Lib.hid hpz
          clear hpz
          go_wp2_with fail
          go_region_held3 (fun W => W.cell? ⟨b1, o1 + k, none⟩ = some (.slice ca (conjX k).length cc) ∧ Below wr.heap.size wr W)
            (first | exact ⟨hcx, (Below.refl _ _).drew⟩ | exact heldC1' (by assumption) hx2 | exact heldC1' (by assumption) hx3 | exact heldC1' (by assumption) hx4 | exact heldC1' (by assumption) ((Below.refl _ _).alloc (Nat.le_refl _) _))
            (first | (go_at_call 242; (with_reducible refine (MD.out _ _ _ (by exact one_row hs2.ints) (HCX.out.same (heldC1X' (by assumption)).block)).mono ?_); rintro e W3 ⟨r3, us3, rfl, hU3, hx3⟩; obtain ⟨da, dn, dc, rfl⟩ := own_shape hU3.row) | (go_at_call 101; (with_reducible refine (SM.out _ _ _ (HU.out.ints.same (heldC1X' (by assumption)).block) hU3.ints).mono ?_); rintro e W4 ⟨r4, rfl, ⟨us4, hU4⟩, hx4⟩; obtain ⟨ea, en, ec, rfl⟩ := own_shape hU4.row) | (go_at_call 168; (with_reducible refine (PG.out _).mono ?_); rintro e W2 ⟨r2, rfl, hs2, hx2⟩; obtain ⟨ra, rn, rc, rfl⟩ := own_shape hs2))
          all_goals
            rename_i hh
            have hz2 : wr.heap.size ≤ W2.heap.size := hx2.size
            have hz3 : W2.heap.size + 1 ≤ W3.heap.size := by have := hx3.size; simpa using this
            have HB4 := Lib.hid (HB2.out.trans (hh.2.mono hsz2))
            have HU4 := Lib.hid (own_u_base (B' := WR.heap.size) hU4 (by omega))
            clear hh hx2 hx3 hx4 hU4 hU3 hs2 hcx e1 e2 e3 hpw2 hm2 hz2 hz3
            go_wp2_with fail
            go_roundw
            case rel => exact ⟨k + 1, us4, by omega, by go_num, by rw [HPZ.out]; exact HU4.out, HB4.out⟩
            case measure => simp [intOf]; omega
        · obtain rfl : k = n + 1 := by omega
          have HRW := Lib.hid (HR.out.same hb2.block)
          have HBW := Lib.hid (HBL.out.trans (hb2.mono hszr))
          have hszW := HBW.out.size
          have HUI := Lib.hid (own_u_base (B' := w.heap.size) HU.out hszr)
          clear hU hb2
          go_wp2_with (at_builtin; refine append_ownRS rfl _ _ rfl w.heap.size _ _ us _ _ _ HRW.out rfl HUI.out HBW.out hszW _ rfl rfl (by rw [conjTab_length]; omega) ?_; intro v5 us5 w5 hR5 hb5 _ _; obtain ⟨sa, sn, sc, rfl⟩ := own_shape hR5.row)
          go_roundw
          case rel => exact ⟨n + 1, us5, by omega, by go_num, by rw [HTS.out]; exact hR5, hb5⟩
          case measure => simp [intOf]; omega
    · obtain rfl : n = 6 := by omega
      clear hbl
      go_wp2_with fail
      go_ret
      exact ⟨_, us, rfl, HR.out, HBL.out⟩
end
section
open Go.RowKit Go.Sort

/-- Times the powers of x whose exponents have the places told. -/
def foldD (X D0 : List (List Int)) (ds : List Int) : List (List Int) := ds.foldl (fun out d => oddL (joinsL out (raiseL (2 ^ d.toNat) X))) D0
theorem foldD_digP (X D0 : List (List Int)) (e : Nat) : ∀ j : Nat, foldD X D0 (digP e j) = digL X e D0 j := by
  intro j
  induction j with
  | zero => rfl
  | succ j ih =>
    rw [digP, digL]
    cases e.testBit j
    · exact ih
    · simp only [if_true]
      rw [← ih]
      simp [foldD, List.foldl_append]
theorem digP_take (e : Nat) : ∀ J t : Nat, t ≤ (digP e J).length → ∃ j : Nat, j ≤ J ∧ (digP e J).take t = digP e j := by
  intro J
  induction J with
  | zero => intro t ht; exact ⟨0, Nat.le_refl _, by simp [digP]⟩
  | succ J ih =>
    intro t ht
    rw [digP] at ht ⊢
    cases hb : e.testBit J
    · rw [hb] at ht
      obtain ⟨j, h1, h2⟩ := ih t ht
      exact ⟨j, by omega, by simpa using h2⟩
    · rw [hb] at ht
      simp only [if_true] at ht ⊢
      by_cases h : t ≤ (digP e J).length
      · obtain ⟨j, h1, h2⟩ := ih t h
        exact ⟨j, by omega, by rw [List.take_append_of_le_length h]; exact h2⟩
      · rw [List.length_append, List.length_singleton] at ht
        refine ⟨J + 1, Nat.le_refl _, ?_⟩
        rw [List.take_of_length_le (by simp; omega), digP, hb]; rfl
theorem foldD_take (X D0 : List (List Int)) (ds : List Int) (t : Nat) (h : t < ds.length) : foldD X D0 (ds.take (t + 1)) = oddL (joinsL (foldD X D0 (ds.take t)) (raiseL (2 ^ ds[t].toNat) X)) := by
  unfold foldD
  rw [List.take_succ_eq_append_getElem h, List.foldl_append]; rfl
theorem heldC3T {x1 x2 x3 : Value} {g1 g2 g3 : Addr} {w0 W W' : World} {B : Nat} (h : W.cell? g1 = some x1 ∧ W.cell? g2 = some x2 ∧ W.cell? g3 = some x3 ∧ Below B w0 W) (hb : Below W.heap.size W W') (hB : B ≤ W.heap.size) : W'.cell? g1 = some x1 ∧ W'.cell? g2 = some x2 ∧ W'.cell? g3 = some x3 ∧ Below B w0 W' :=
  ⟨(hb.cell (World.block_lt_of_cell? _ _ h.1)).trans h.1, (hb.cell (World.block_lt_of_cell? _ _ h.2.1)).trans h.2.1, (hb.cell (World.block_lt_of_cell? _ _ h.2.2.1)).trans h.2.2.1, h.2.2.2.trans (hb.mono hB)⟩
theorem raiseL_take (c : Int) (X : List (List Int)) (j : Nat) (h : j < X.length) : raiseL c (X.take (j + 1)) = raiseL c (X.take j) ++ [scaleL c X[j]] := by
  unfold raiseL; rw [List.take_succ_eq_append_getElem h, List.map_append]; rfl
set_option maxRecDepth 100000 in
set_option maxHeartbeats 2000000 in
theorem l06Monomial_c (v u : Value) (r : List Int) (w : World) (h : IntSSS w.heap v (conjTab 6)) (hu : IntS w.heap u r) (hE : isExp r = true) (hd : deg r ≤ 40) :
    Calls Tryz.prog 207 #[v, u] w fun e w' => ∃ r', ∃ us, e = .returned r' ∧ OwnU w' w.heap.size r' us (dconL r) ∧ Below w.heap.size w w' := by
  have hl5 := exp_len5 hE hd
  have DA := Lib.hid (fun k (hk : k < r.length) => dig_all hE hd hk)
  obtain ⟨va, vc, rfl, -⟩ := h.len
  obtain ⟨ao, c, rfl, hm⟩ := hu.len
  have H := Lib.hid h; have HUR := Lib.hid hu
  have hl1 := own_u_lit (B := w.heap.size) (ownI_empty (w := w) (B := w.heap.size) (Nat.le_refl _)) (by simp)
  rw [size_alloc_w] at hl1
  have HL := Lib.hid hl1
  rw [conjTab_length]
  clear hl1 h hu hE hd
  unfold dconL
  go_enter Tryz.func207, Tryz.ntmps207
  go_wp2_with fail
  go_loopw [5, 6] (fun o i wr => ∃ (k : Nat) (us : List Value), k ≤ r.length ∧ i = .int .i64 k ∧ OwnU wr w.heap.size o us (dconN r k) ∧ Below w.heap.size w wr) (fun _ i _ => r.length - (intOf i).toNat)
  case atStart => exact ⟨0, _, Nat.zero_le _, rfl, HL.out, ((Below.refl _ _).alloc (Nat.le_refl _) _).alloc (by simp) _⟩
  case round =>
    obtain ⟨k, us, hk, rfl, hU, hbl⟩ := hrel
    obtain ⟨pa, pn, pc, rfl⟩ := own_shape hU.row
    have HU := Lib.hid hU; have HBL := Lib.hid hbl
    by_cases hkl : k < r.length
    · obtain ⟨e, he, he40, HJ⟩ := DA.out k hkl
      have HJ := Lib.hid HJ
      obtain ⟨b1, o1, c1, hv1, hc1, -⟩ := HUR.out.at k hkl
      simp only [Value.slice.injEq, true_and] at hv1
      obtain ⟨rfl, rfl⟩ := hv1
      have hcx := (hbl.cell (World.block_lt_of_cell? _ _ hc1)).trans hc1
      rw [← getD_at', he] at hcx
      have HSU := Lib.hid (dconN_succ r k e he)
      have hki : (k : Int) < r.length := by omega
      have DG := Lib.hid (fun W => l01Digits_c e W (by omega))
      obtain ⟨b2, o2, c2, u2, hv2, hc2, hu2, -⟩ := H.out.at (k + 1) (by rw [conjTab_length]; omega)
      rw [conjTab_length] at hv2
      simp only [Value.slice.injEq, true_and] at hv2
      obtain ⟨rfl, rfl⟩ := hv2
      rw [show (conjTab 6)[k + 1]'(by rw [conjTab_length]; omega) = conjX (k + 1) by rw [← conjTab_at 6 (k + 1) (by omega)]; simp [conjTab_length, show k + 1 < 7 by omega]] at hu2
      obtain ⟨xa, xc, rfl, -⟩ := hu2.len
      have HX := Lib.hid (hu2.same hbl.block)
      have HCX := Lib.hid ((hbl.cell (World.block_lt_of_cell? _ _ hc2)).trans hc2)
      have hxl := conjX_len (n := k + 1) (by omega)
      have hxs := Lib.hid (conjX_sm (n := k + 1) (by omega))
      have hk7 : (k : Int) + 1 < 7 := by omega
      have hk70 : (0 : Int) ≤ (k : Int) + 1 := by omega
      have hwk : IntKind.i64.wrap ((k : Int) + 1) = (k : Int) + 1 := IntWalk.i64_in _ (by omega)
      have hkt : ((k : Int) + 1).toNat = k + 1 := by omega
      clear hU hbl hc1 he hc2 hu2
      generalize conjX (k + 1) = X at *
      generalize dconN r k = D0 at *
      rename World => WR
      go_wp2_with (go_at_call 222; refine (DG.out _).mono ?_; rintro e w3 ⟨r3, rfl, hO3, hb3⟩; obtain ⟨da, dc, rfl, -⟩ := hO3.ints.len; have HD3 := Lib.hid hO3.ints; have HB3 := Lib.hid hb3; have HB30 := Lib.hid (HBL.out.trans (hb3.mono HBL.out.size)); have HU3 := Lib.hid (HU.out.same hb3.block); have HX3 := Lib.hid (HX.out.same hb3.block); have HCX3 := Lib.hid ((hb3.cell (World.block_lt_of_cell? _ _ HCX.out)).trans HCX.out); clear hO3 hb3)
      go_loopw [5, 8] (fun o i wk => ∃ (t : Nat) (us : List Value), t ≤ (digP e 6).length ∧ i = .int .i64 t ∧ OwnU wk w.heap.size o us (foldD X D0 ((digP e 6).take t)) ∧ Below w3.heap.size w3 wk) (fun _ i _ => (digP e 6).length - (intOf i).toNat)
      case atStart => exact ⟨0, us, Nat.zero_le _, rfl, HU3.out, Below.refl _ _⟩
      case round =>
        obtain ⟨t, us2, ht, rfl, hO, hb2⟩ := hrel
        obtain ⟨ya, yn, yc, rfl⟩ := own_shape hO.row
        have HO := Lib.hid hO; have HB2 := Lib.hid hb2
        have HBW := Lib.hid (HB30.out.trans (hb2.mono HB30.out.size))
        have hd6 := digP_len e 6
        by_cases htl : t < (digP e 6).length
        · obtain ⟨b3, o3, c3, hv3, hc3, -⟩ := HD3.out.at t htl
          simp only [Value.slice.injEq, true_and] at hv3
          obtain ⟨rfl, rfl⟩ := hv3
          have hcd := (hb2.cell (World.block_lt_of_cell? _ _ hc3)).trans hc3
          obtain ⟨i, hi, hi6⟩ := digP_mem e 6 _ (List.getElem_mem htl)
          have hft := foldD_take X D0 (digP e 6) t htl
          rw [hi, Int.toNat_natCast] at hft
          rw [hi] at hcd
          have HFT := Lib.hid hft
          have HXW := Lib.hid (HX3.out.same hb2.block)
          have hcw := (hb2.cell (World.block_lt_of_cell? _ _ HCX3.out)).trans HCX3.out
          obtain ⟨j0, hj0, he0⟩ := digP_take e 6 t (by omega)
          obtain ⟨hsm, hlen⟩ := HJ.out j0 hj0
          rw [← foldD_digP, ← he0] at hsm hlen
          obtain ⟨hp1, hp2, -⟩ := pow2_le i (by omega)
          have HRS := Lib.hid (raise_smS hxs.out (show (0 : Int) ≤ 2 ^ i by omega) hp2)
          have MD := Lib.hid (fun (v u : Value) (W : World) (h : IntSS W.heap v (foldD X D0 ((digP e 6).take t))) (hu : IntSS W.heap u (raiseL ((2 : Int) ^ i) X)) => l06Times_c v u _ _ W h hu hsm HRS.out (by
            have h1 : (raiseL ((2 : Int) ^ i) X).length ≤ 32 := by simp [raiseL]; exact hxl
            exact Nat.le_trans (Nat.mul_le_mul hlen h1) (by omega)))
          rw [← HFT.out] at MD
          have hti : (t : Int) < (digP e 6).length := by omega
          obtain ⟨P, hP⟩ : ∃ P : Int, (2 : Int) ^ i = P := ⟨_, rfl⟩
          have hsh := (sh_small i (by omega)).trans hP
          rw [hP] at hp1 hp2 MD
          have HPP := Lib.hid hP
          clear hO hb2 hc3 hi hft hj0 he0 hsm hlen hP HRS
          rename World => WK
          have hlt1 := World.block_lt_of_cell? _ _ hcw
          have hlt2 := World.block_lt_of_cell? _ _ hcd
          simp only at hlt1 hlt2
          go_wp2_with fail
          go_loopw [9, 10] (fun o i wm => ∃ (j : Nat) (us : List Value), j ≤ X.length ∧ i = .int .i64 j ∧ OwnU wm WK.heap.size o us (raiseL P (X.take j)) ∧ Below WK.heap.size WK wm) (fun _ i _ => X.length - (intOf i).toNat)
          case atStart => exact ⟨0, [], Nat.zero_le _, rfl, ⟨World.ownsRow_made WK #[] 0 (Nat.le_refl _) (Nat.zero_le _) rfl, fun i u xs hu => by simp at hu, fun i j u u' _ hu => by simp at hu⟩, (Below.refl _ _).alloc (Nat.le_refl _) _⟩
          case round =>
            obtain ⟨j, us4, hj, rfl, hQ, hb4⟩ := hrel
            obtain ⟨qa, qn, qc, rfl⟩ := own_shape hQ.row
            have HQ := Lib.hid hQ; have HB4 := Lib.hid hb4
            have hsz4 := hb4.size
            have m1 := (hb4.cell (World.block_lt_of_cell? _ _ hcw)).trans hcw
            have m2 := (hb4.cell (World.block_lt_of_cell? _ _ hcd)).trans hcd
            by_cases hjl : j < X.length
            · obtain ⟨b5, o5, c5, u5, hv5, hc5, hu5, -⟩ := HXW.out.at j hjl
              simp only [Value.slice.injEq, true_and] at hv5
              obtain ⟨rfl, rfl⟩ := hv5
              have m3 := (hb4.cell (World.block_lt_of_cell? _ _ hc5)).trans hc5
              have hlt3 := World.block_lt_of_cell? _ _ hc5
              simp only at hlt3
              have HRW := Lib.hid (hu5.same hb4.block)
              obtain ⟨za, zc, rfl, -⟩ := hu5.len
              have HRT := Lib.hid (raiseL_take P X j hjl)
              have hsx := hxs.out _ (List.getElem_mem hjl)
              have SC := Lib.hid (fun (W : World) (h : IntS W.heap (.slice za X[j].length zc) X[j]) => l06Scaled_c _ X[j] P W h hsx.1 (by omega) (by omega) (by have := hsx.2; omega))
              have hqn : (raiseL P (X.take j)).length < 4398046511104 := by simp [raiseL]; omega
              have HQN := Lib.hid hqn
              have hji : (j : Int) < X.length := by omega
              clear hQ hb4 hc5 hu5 hsx hqn
              generalize X[j] = y at *
              go_wp2_with fail
              go_region_held3 (fun W => W.cell? ⟨b2, o2 + (k + 1), none⟩ = some (.slice (some ⟨b5, o5, none⟩) X.length xc) ∧ W.cell? ⟨b5, o5 + j, none⟩ = some (.slice za y.length zc) ∧ W.cell? ⟨b3, o3 + t, none⟩ = some (.int .i64 i) ∧ Below WK.heap.size wr W)
                (first | exact ⟨m1, m3, m2, (Below.refl _ _).drew⟩ | exact heldC3T (by assumption) hx2 hsz4 | exact heldC3T (by assumption) ((Below.refl _ _).alloc (Nat.le_refl _) _) (Nat.le_trans hsz4 hx2.size) | exact ⟨(hb6.cell hlt1).trans m1, (hb6.cell hlt3).trans m3, (hb6.cell hlt2).trans m2, hb6⟩ | fail)
                (first | (go_at_call 223; refine (SC.out _ (by exact HRW.out)).mono ?_; rintro e W2 ⟨r2, rfl, hs2, hx2⟩; obtain ⟨ra, rn, rc, rfl⟩ := own_shape hs2) | (refine step_append_rowU (w0 := wr) (wE := wr) (by rfl) _ _ (by rfl) WK.heap.size _ (.slice ra rn rc) us4 _ _ HQ.out (by rfl) (by exact OwnI.same hs2 (alloc_old _ _)) (by exact ((Below.refl wr.heap.size wr).drew.trans hx2).alloc hx2.size _) (by exact Below.refl _ wr) (by exact hsz4) W2.heap.size (by rfl) (by exact heap_alloc_new _ _) HQN.out ?_; intro v6 w6 hU6 hb6 hs6 hk6; obtain ⟨sa, sn, sc, rfl⟩ := own_shape hU6.row) | fail)
              have HU6 := Lib.hid hU6
              have HB6 := Lib.hid (HB4.out.trans hb6)
              clear hU6 hb6 hs6 hk6 hx2 hs2 m1 m2 m3
              go_wp2_with fail
              go_roundw
              case rel => exact ⟨j + 1, _, by omega, by go_num, by rw [HRT.out]; exact HU6.out, HB6.out⟩
              case measure => simp [intOf]; omega
            · obtain rfl : j = X.length := by omega
              rw [List.take_length] at HQ
              have HOQ := Lib.hid (HO.out.ints.same hb4.block)
              have HBQ := Lib.hid (HB2.out.trans (hb4.mono HB2.out.size))
              have HBWQ := Lib.hid (HBW.out.trans (hb4.mono HBW.out.size))
              have HQI := Lib.hid HQ.out.ints
              clear hQ hb4 m2
              have MD1 := Lib.hid (fun (W : World) (h : IntSS W.heap (.slice ya yn yc) (foldD X D0 ((digP e 6).take t))) (hu : IntSS W.heap (.slice qa qn qc) (raiseL P X)) => MD.out _ _ W h hu)
              go_wp2_with (go_at_call 242; (with_reducible refine (MD1.out _ HOQ.out HQI.out).mono ?_); rintro e w8 ⟨r8, us8, rfl, hU8, hb8⟩; obtain ⟨ta, tn, tc, rfl⟩ := own_shape hU8.row)
              go_roundw
              case rel => exact ⟨t + 1, us8, by omega, by go_num, own_u_base hU8 HBWQ.out.size, HBQ.out.trans (hb8.mono HBQ.out.size)⟩
              case measure => simp [intOf]; omega
        · obtain rfl : t = (digP e 6).length := by omega
          rw [List.take_length, foldD_digP] at HO
          clear hO hb2
          go_wp2_with fail
          go_roundw
          case rel => exact ⟨k + 1, us2, by omega, by go_num, by rw [HSU.out]; exact HO.out, HBW.out⟩
          case measure => simp [intOf]; omega
    · obtain rfl : k = r.length := by omega
      clear hU hbl
      go_wp2_with fail
      go_ret
      exact ⟨_, us, rfl, HU.out, HBL.out⟩
end
section
open Go.RowKit Go.Sort

theorem degreeOfT_c (v : Value) (xss : List (List Int)) (w : World) (h : IntSS w.heap v xss) (hT : arT xss = true) :
    Calls Tryz.prog 122 #[v] w fun e w' => e = .returned (.int .i64 (degT xss)) ∧ w = w' := by
  refine (degreeOf_c v xss w h).mono fun _ _ ⟨⟨d, he, hd⟩, hw⟩ => ⟨?_, hw⟩
  rw [he, hd]
  by_cases h0 : xss.length = 0
  · obtain rfl : xss = [] := List.eq_nil_of_length_eq_zero h0
    rfl
  · exact (arT_row hT _ (by rw [show xss.getD 0 [] = xss[0]'(by omega) by simp [show 0 < xss.length by omega]]; exact List.getElem_mem _)).1
theorem degT_bound {xss : List (List Int)} (hT : arT xss = true) : 0 ≤ degT xss ∧ degT xss ≤ 40 := by
  by_cases h0 : xss.length = 0
  · obtain rfl : xss = [] := List.eq_nil_of_length_eq_zero h0
    exact ⟨Int.le_refl 0, by decide⟩
  · exact (arT_row hT _ (by rw [show xss.getD 0 [] = xss[0]'(by omega) by simp [show 0 < xss.length by omega]]; exact List.getElem_mem _)).2
end
section
open Go.RowKit Go.Sort

/-- The lists of a basis whose conjugates have the pairing 1 with an element. -/
def cjgL (xss basis : List (List Int)) : List (List Int) := basis.filter fun r => pairL xss (dconL r) == 1
def cjR (xss : List (List Int)) : List (List Int) := if arT xss = true ∧ xss.length ≠ 0 then cjgL xss (partL (degT xss).toNat) else []
def cjC (xss : List (List Int)) : Int := if arT xss then 0 else 1
theorem cjgL_step (xss basis : List (List Int)) (k : Nat) (h : k < basis.length) : cjgL xss (basis.take (k + 1)) = cjgL xss (basis.take k) ++ (if pairL xss (dconL basis[k]) = 1 then [basis[k]] else []) := by
  unfold cjgL
  rw [List.take_succ_eq_append_getElem h, List.filter_append]
  congr 1
  by_cases e : pairL xss (dconL basis[k]) = 1
  · rw [if_pos e]; simp [e]
  · rw [if_neg e]; simp [e]
theorem cjR_cnt (xss : List (List Int)) : cnt (cjR xss) ≤ 5000 := by
  unfold cjR
  split
  · rename_i h
    have hd := degT_in h.1
    obtain ⟨n, hn⟩ : ∃ n : Nat, degT xss = n := ⟨(degT xss).toNat, by omega⟩
    rw [hn, Int.toNat_natCast]
    have hl : (partL n).length ≤ 504 := expD_length (d := (n : Int)) (asc_partL n) (fun x hx => mem_partL (by omega) hx) (by omega)
    have h1 : (cjgL xss (partL n)).length ≤ 504 := Nat.le_trans (List.length_filter_le _ _) hl
    have h2 : cnt (cjgL xss (partL n)) ≤ (cjgL xss (partL n)).length * 5 := cnt_le fun r hr => by
      have := mem_partL (d := n) (by omega) (List.mem_filter.1 hr).1
      exact exp_len5 this.1 (by rw [this.2]; omega)
    omega
  · simp [cnt]
theorem pairL_01 (a b : List (List Int)) : pairL a b = 0 ∨ pairL a b = 1 := by unfold pairL; omega
theorem slAt_eq {h : Array Obj} {e : Nat} {v : Value} {us vs : List Value} (a : SlAt h e v us) (b : SlAt h e v vs) : us = vs := by
  rcases a with ⟨rfl, rfl⟩ | ⟨b1, o1, c1, cur, rfl, hb, h1, h2, h3, h4⟩
  · rcases b with ⟨_, rfl⟩ | ⟨b2, o2, c2, cur2, hv, _⟩
    · rfl
    · simp at hv
  · rcases b with ⟨hv, _⟩ | ⟨b2, o2, c2, cur2, hv, hb2, k1, k2, k3, k4⟩
    · simp at hv
    · simp only [Value.slice.injEq, Option.some.injEq, Addr.mk.injEq, and_true] at hv
      obtain ⟨⟨rfl, rfl⟩, hl, rfl⟩ := hv
      rw [hb] at hb2
      simp only [Option.some.injEq, Obj.cells.injEq] at hb2
      obtain ⟨rfl, -⟩ := hb2
      rw [← h4, ← k4, hl]
theorem ints_eq {h : Array Obj} {v : Value} {xs ys : List Int} (a : IntS h v xs) (b : IntS h v ys) : xs = ys := by
  have := slAt_eq a b
  exact (List.map_inj_right (f := Value.int .i64) (fun x y e => by injection e)).1 this
/-- A row of values, some of those of a list of the call's own. -/
structure SubU (us vs : List Value) (n : Nat) : Prop where
  ok : ∃ ks : List Nat, ks.Pairwise (· < ·) ∧ (∀ k ∈ ks, k < n) ∧ us = ks.map fun k => vs.getD k .nilFunc
theorem SubU.nil (vs : List Value) : SubU [] vs 0 := ⟨[], List.Pairwise.nil, by simp, rfl⟩
theorem SubU.skip {us vs : List Value} {n : Nat} (h : SubU us vs n) : SubU us vs (n + 1) := by
  obtain ⟨ks, h1, h2, h3⟩ := h.ok
  exact ⟨ks, h1, fun k hk => by have := h2 k hk; omega, h3⟩
theorem SubU.add {us vs : List Value} {n : Nat} (h : SubU us vs n) {u : Value} (hu : vs[n]? = some u) : SubU (us ++ [u]) vs (n + 1) := by
  obtain ⟨ks, h1, h2, h3⟩ := h.ok
  refine ⟨ks ++ [n], ?_, fun k hk => ?_, ?_⟩
  · rw [List.pairwise_append]
    exact ⟨h1, List.pairwise_singleton .., fun a ha b hb => by rw [List.mem_singleton] at hb; subst hb; exact h2 a ha⟩
  · rcases List.mem_append.1 hk with h | h
    · have := h2 k h; omega
    · rw [List.mem_singleton] at h; omega
  · rw [h3, List.map_append]; simp [List.getD_eq_getElem?_getD, hu]
/-- A row of references to rows of a list of the call's own: it is the call's own as well. -/
theorem SubU.own {w : World} {B : Nat} {v v' : Value} {us vs : List Value} {xss yss : List (List Int)} {n : Nat} (h : SubU us vs n) (hn : n ≤ vs.length) (ho : OwnU w B v' vs yss) (hr : w.ownsRow B 56 1 v xss.length us)
    (he : ∀ (i : Nat) u xs, us[i]? = some u → xss[i]? = some xs → IntS w.heap u xs) : OwnU w B v us xss := by
  obtain ⟨ks, h1, h2, h3⟩ := h.ok
  have hvl := ho.len
  have hul : us.length = xss.length := by simpa using hr.1
  have hkl : ks.length = us.length := by rw [h3]; simp
  have key : ∀ (i : Nat) u, us[i]? = some u → ∃ k, ks[i]? = some k ∧ vs[k]? = some u := by
    intro i u hu
    have hi : i < ks.length := by
      have := (List.getElem?_eq_some_iff.1 hu).1
      omega
    refine ⟨ks[i], List.getElem?_eq_getElem hi, ?_⟩
    rw [h3, List.getElem?_map, List.getElem?_eq_getElem hi] at hu
    simp only [Option.map_some, Option.some.injEq] at hu
    have := h2 ks[i] (List.getElem_mem hi)
    rw [← hu]; simp [List.getD_eq_getElem?_getD, show ks[i] < vs.length by omega]
  refine ⟨hr, fun i u xs hu hx => ?_, fun i j u u' hij hu hu' => ?_⟩
  · obtain ⟨k, -, hk⟩ := key i u hu
    have hkv := (List.getElem?_eq_some_iff.1 hk).1
    have hown := ho.each k u _ hk (List.getElem?_eq_getElem (show k < yss.length by omega))
    have h4 := he i u xs hu hx
    have e := ints_eq hown.ints h4
    rw [e] at hown; exact hown
  · obtain ⟨k, hk1, hk⟩ := key i u hu
    obtain ⟨k', hk1', hk'⟩ := key j u' hu'
    refine ho.apart k k' u u' ?_ hk hk'
    have hi := (List.getElem?_eq_some_iff.1 hk1); have hj := (List.getElem?_eq_some_iff.1 hk1')
    obtain ⟨hi1, hi2⟩ := hi; obtain ⟨hj1, hj2⟩ := hj
    rw [← hi2, ← hj2]
    exact List.pairwise_iff_getElem.1 h1 i j hi1 hj1 hij
section
variable {ops : Array Oper} {rest : List Oper} {o : Oper} {a : Act} {Q : Exit → Act → World → Prop}
/-- 'append(out, row)', out a row of references: where the grown row lies is told. -/
theorem append_ref1 {w w0 : World} (hg : o.guard = none) (s x : Operand)
    (ho : o.op = .call { callee := .builtin .append, args := #[s, x], argTypes := #[22, 22] })
    (B : Nat) (v u : Value) (us : List Value) (xss : List (List Int)) (xs : List Int) (hR : RefR w B w.heap v us xss) (hs : a.eval s = v) (hu : IntS w.heap u xs) (hbl : Below B w0 w) (hB : B ≤ w.heap.size)
    (b : Nat) (hx : a.eval x = .slice (some ⟨b, 0, none⟩) 1 1) (hb : b = w.heap.size) (hn : xss.length ≤ 4398046511104)
    (hK : ∀ v' w', RefR w' B w'.heap v' (us ++ [u]) (xss ++ [xs]) → Below B w0 w' → w.heap.size ≤ w'.heap.size → (∀ b, b < w.heap.size → some b ≠ v.ownBlock → w'.heap[b]? = w.heap[b]?) → (v'.ownBlock = v.ownBlock ∨ ∃ k, w.heap.size ≤ k ∧ v'.ownBlock = some k) → KeepI w w' → wpList Tryz.prog ops Q rest (a.put o.dst v') w') :
    wpList Tryz.prog ops Q (o :: rest) a (w.alloc (.cells #[u] 56)) := by
  obtain ⟨i0, hi, hz0, hz1, hz2⟩ := info_parts info_slI
  refine append_at hg s x _ ho B _ i0 _ 24 Tryz.underlying22 hi hz0 hz1 hz2 rfl (by omega) v _ us u hR.row hs hbl hB b hx hb (slAt_oneCell hu) hn ?_
  intro v' w' h1 h2 h3 h4 h5
  have hk := KeepI.grown hR.row (by decide) h4
  exact hK v' w' ⟨by simpa using h1, append_each hR.len (fun i y ys hy hz => (hR.each i y ys hy hz).keep hk) (fun i y ys hy hz => by
    match i, hy, hz with
    | 0, hy, hz =>
      simp at hy hz
      subst hy; subst hz; exact hu.keep hk)⟩ h2 h3 h4 h5 hk
end
theorem RefR.intsS {w : World} {B : Nat} {v : Value} {us : List Value} {xss : List (List Int)} (a : RefR w B w.heap v us xss) : IntSS w.heap v xss := a.ints (fun _ _ => rfl)
/-- Where the row of references lies: not among the blocks from lo on that are below hi. -/
def Out (v : Value) (lo hi : Nat) : Prop := ∀ b, v.ownBlock = some b → b < lo ∨ hi ≤ b
theorem Out.step {v v' : Value} {lo hi n : Nat} (h : Out v lo hi) (hn : hi ≤ n) (k : v'.ownBlock = v.ownBlock ∨ ∃ k, n ≤ k ∧ v'.ownBlock = some k) : Out v' lo hi := by
  intro b hb
  rcases k with k | ⟨k, h1, h2⟩
  · exact h b (by rw [← k]; exact hb)
  · rw [h2] at hb; injection hb with e; right; omega
/-- The blocks from lo on that are below hi are as they were. -/
def SameIn (lo hi : Nat) (w w' : World) : Prop := ∀ b, lo ≤ b → b < hi → w'.heap[b]? = w.heap[b]?
theorem SameIn.of {lo hi : Nat} {w w1 w2 : World} (h : SameIn lo hi w w1) (hs : hi ≤ w1.heap.size) (k : Below w1.heap.size w1 w2) : SameIn lo hi w w2 := fun b h1 h2 => (k.block b (by omega)).trans (h b h1 h2)
theorem SameIn.app {lo hi : Nat} {w w1 w2 : World} {v : Value} (h : SameIn lo hi w w1) (hs : hi ≤ w1.heap.size) (ho : Out v lo hi) (k : ∀ b, b < w1.heap.size → some b ≠ v.ownBlock → w2.heap[b]? = w1.heap[b]?) : SameIn lo hi w w2 := fun b h1 h2 =>
  (k b (by omega) (fun e => by have := ho b e.symm; omega)).trans (h b h1 h2)
theorem SameIn.own {lo hi : Nat} {w w' : World} {v : Value} {us : List Value} {xss : List (List Int)} (h : SameIn lo hi w w') (hhi : w.heap.size = hi) (ho : OwnU w lo v us xss) : OwnU w' lo v us xss := ho.far fun b h1 h2 => h b h1 (by omega)
set_option maxRecDepth 100000 in
set_option maxHeartbeats 2000000 in
theorem conjugate_of (SO : SortOk) (SO2 : SortOk2) (v : Value) (xss : List (List Int)) (w : World) (h : IntSS w.heap v xss) (hT : arT xss = true) :
    Calls Tryz.prog 131 #[v] w fun e w' => ∃ r us, e = .returned r ∧ OwnU w' w.heap.size r us (cjR xss) ∧ Below w.heap.size w w' := by
  obtain ⟨ao, c, rfl, hm⟩ := h.len
  have H := Lib.hid h
  have R0 := Lib.hid (ref_empty (w := w) (B := w.heap.size) (w.alloc (.cells #[] 56)).heap (Nat.le_refl _))
  have hb0 : Below w.heap.size w (w.alloc (.cells #[] 56)) := (Below.refl _ _).alloc (Nat.le_refl _) _
  have HB0 := Lib.hid hb0
  by_cases h0 : xss.length = 0
  · have e1 : cjR xss = [] := by unfold cjR; rw [if_neg (fun x => x.2 h0)]
    rw [e1]
    have t1 := (eqB (show (xss.length : Int) = 0 by omega)).1
    clear e1 h hT h0 SO SO2 hb0
    go_enter Tryz.func131, Tryz.ntmps131
    go_wp2_with fail
    go_ret
    exact ⟨_, [], rfl, ⟨World.ownsRow_made w #[] 0 (Nat.le_refl _) (Nat.zero_le _) rfl, fun i u xs hu => by simp at hu, fun i j u u' _ hu => by simp at hu⟩, HB0.out⟩
  · have hd := degT_in hT
    obtain ⟨n, hn⟩ : ∃ n : Nat, degT xss = n := ⟨(degT xss).toNat, by omega⟩
    have e1 : cjR xss = cjgL xss (partL n) := by unfold cjR; rw [if_pos ⟨hT, h0⟩, hn, Int.toNat_natCast]
    rw [e1]
    have t1 := (neB (show (xss.length : Int) ≠ 0 by omega)).1
    have D := Lib.hid (fun (W : World) (h : IntSS W.heap (.slice ao xss.length c) xss) => degreeOfT_c _ xss W h hT)
    rw [hn] at D
    have hn40 : n ≤ 40 := by omega
    have P := Lib.hid (fun W => partitions_of SO2 n W hn40)
    have hlen : (partL n).length ≤ 504 := expD_length (d := (n : Int)) (asc_partL n) (fun x hx => mem_partL hn40 hx) (by omega)
    have HME := Lib.hid (fun x (hx : x ∈ partL n) => mem_partL hn40 hx)
    have hxl := arT_len hT
    clear e1 h hT h0 SO2 hd hn hb0
    generalize partL n = basis at *
    have hs0 : (w.alloc (.cells #[] 56)).heap.size = w.heap.size + 1 := by simp
    obtain ⟨w0, hw0⟩ : ∃ w0, w0 = w.alloc (.cells #[] 56) := ⟨_, rfl⟩
    rw [← hw0] at R0 HB0 hs0
    have HW0 := Lib.hid hw0
    clear hw0
    have HS0 := Lib.hid hs0
    clear hs0
    go_enter Tryz.func131, Tryz.ntmps131
    go_wp2_with (first | (go_at_call 122; rw [← HW0.out]; refine (D.out _ (H.out.same HB0.out.block)).mono ?_; rintro e w2 ⟨rfl, rfl⟩) | (go_at_call 126; refine (P.out _).mono ?_; rintro e w1 ⟨r1, us1, rfl, hU1, hb1⟩; obtain ⟨ba, bc, rfl, -⟩ := hU1.ints.len; rw [HS0.out] at hU1; have HU1 := Lib.hid hU1; have HB1 := Lib.hid hb1; clear hU1 hb1))
    have HBA := Lib.hid (HB0.out.trans (HB1.out.mono HB0.out.size))
    have hw1 : w.heap.size + 1 ≤ w1.heap.size := by have := HB1.out.size; have := HS0.out; omega
    have HR1 := Lib.hid ((R0.out.same HB1.out.block).grow HB1.out.block)
    go_loopw [3, 15] (fun o i wr => ∃ (k : Nat) (us : List Value), k ≤ basis.length ∧ i = .int .i64 k ∧ RefR wr w.heap.size wr.heap o us (cjgL xss (basis.take k)) ∧ SubU us us1 k ∧ Out o (w.heap.size + 1) w1.heap.size ∧ SameIn (w.heap.size + 1) w1.heap.size w1 wr ∧ Below w.heap.size w wr ∧ w1.heap.size ≤ wr.heap.size) (fun _ i _ => basis.length - (intOf i).toNat)
    case atStart => exact ⟨0, [], Nat.zero_le _, rfl, HR1.out, SubU.nil _, fun b hb => by simp [Value.ownBlock] at hb; omega, fun b _ _ => rfl, HBA.out, Nat.le_refl _⟩
    case round =>
      obtain ⟨k, us, hk, rfl, hR, hSU, hOU, hSI, hbl, hws⟩ := hrel
      obtain ⟨pa, pn, pc, rfl⟩ := own_shape hR.row
      have hown := hSI.own rfl HU1.out
      have HR := Lib.hid hR; have HSU := Lib.hid hSU; have HOU := Lib.hid hOU; have HSI := Lib.hid hSI; have HBL := Lib.hid hbl; have HOWN := Lib.hid hown
      have hszb := hbl.size
      have HXW := Lib.hid (H.out.same hbl.block)
      clear hR hSU hOU hSI hbl hown
      by_cases hkl : k < basis.length
      · obtain ⟨b1, o1, c1, uk, hv1, hc1, huk, -⟩ := HOWN.out.ints.at k hkl
        simp only [Value.slice.injEq, true_and] at hv1
        obtain ⟨rfl, rfl⟩ := hv1
        have huc : us1[k]? = some uk := by
          have hrw := HOWN.out.row
          have hll := HOWN.out.len
          obtain ⟨g, cap, hv, -⟩ := own_open hrw (show 0 < basis.length by omega)
          simp only [Value.slice.injEq, Option.some.injEq, Addr.mk.injEq, true_and, and_true] at hv
          obtain ⟨⟨rfl, rfl⟩, rfl⟩ := hv
          have := World.ownsRow.cellAt hrw k (by omega)
          rw [Nat.zero_add] at hc1
          rw [← this, hc1]
        have HUC := Lib.hid huc
        obtain ⟨qa, qc, rfl, -⟩ := huk.len
        have HUK := Lib.hid huk
        have hex := HME.out _ (List.getElem_mem hkl)
        have HST := Lib.hid (cjgL_step xss basis k hkl)
        have hda := (dconL_ok hex.1 (by rw [hex.2]; omega))
        have hdl : (dconL basis[k]).length ≤ 504 := expD_length hda.2 hda.1 (by rw [hex.2]; omega)
        have DC := Lib.hid (fun (W : World) (hu : IntS W.heap (.slice qa basis[k].length qc) basis[k]) => dualConjugate_of SO _ basis[k] W hu hex.1 (by rw [hex.2]; omega))
        have PR := Lib.hid (fun (u : Value) (W : World) (h : IntSS W.heap (.slice ao xss.length c) xss) (hu : IntSS W.heap u (dconL basis[k])) => pairing_c _ u xss (dconL basis[k]) W h hu hda.2 (by omega))
        have hcl : (cjgL xss (basis.take k)).length ≤ 4398046511104 := by
          have := List.length_filter_le (fun r => pairL xss (dconL r) == 1) (basis.take k)
          have h2 : (basis.take k).length ≤ k := List.length_take_le _ _
          unfold cjgL; omega
        have HCL := Lib.hid hcl
        have hki : (k : Int) < basis.length := by omega
        clear huc huk hex hda hdl hcl
        by_cases hp : pairL xss (dconL basis[k]) = 1
        · rw [if_pos hp] at HST
          rw [hp] at PR
          clear hp
          generalize dconL basis[k] = dk at *
          generalize basis[k] = ys at *
          go_wp2_with (first | (go_at_call 204; refine (DC.out _ HUK.out).mono ?_; rintro e w3 ⟨r3, us3, rfl, hU3, hb3⟩; obtain ⟨da, dn, dc, rfl⟩ := own_shape hU3.row; have HD3 := Lib.hid hU3.ints; have HB3 := Lib.hid hb3; have HR3 := Lib.hid ((HR.out.same hb3.block).grow hb3.block); have HU3 := Lib.hid (HUK.out.same hb3.block); have HBX := Lib.hid (HBL.out.trans (hb3.mono HBL.out.size)); clear hU3 hb3) | (go_at_call 120; refine (PR.out _ _ (HXW.out.same HB3.out.block) HD3.out).mono ?_; rintro e w4 ⟨rfl, rfl⟩) | (at_builtin; refine append_ref1 rfl _ _ rfl w.heap.size _ _ us _ _ HR3.out rfl HU3.out HBX.out HBX.out.size _ rfl rfl HCL.out ?_; intro v5 w5 hU5 hb5 hs5 hk5 hw5 _; obtain ⟨sa, sn, sc, rfl⟩ := own_shape hU5.row))
          have hz3 := Nat.le_trans hws HB3.out.size
          have G := Lib.hid (And.intro (HSU.out.add HUC.out) (And.intro (HOU.out.step hz3 hw5) (((HSI.out.of hws HB3.out).app hz3 HOU.out hk5))))
          have HU5 := Lib.hid hU5; have HB5 := Lib.hid hb5
          have hs6 : w1.heap.size ≤ w5.heap.size := Nat.le_trans hz3 hs5
          clear hU5 hb5 hk5 hw5
          go_roundw
          case rel => exact ⟨k + 1, _, by omega, by go_num, by rw [HST.out]; exact HU5.out, G.out.1, G.out.2.1, G.out.2.2, HB5.out, hs6⟩
          case measure => simp [intOf]; omega
        · rw [if_neg hp, List.append_nil] at HST
          have hp0 : pairL xss (dconL basis[k]) = 0 := by have := pairL_01 xss (dconL basis[k]); omega
          rw [hp0] at PR
          clear hp hp0
          generalize dconL basis[k] = dk at *
          generalize basis[k] = ys at *
          go_wp2_with (first | (go_at_call 204; refine (DC.out _ HUK.out).mono ?_; rintro e w3 ⟨r3, us3, rfl, hU3, hb3⟩; obtain ⟨da, dn, dc, rfl⟩ := own_shape hU3.row; have HD3 := Lib.hid hU3.ints; have HB3 := Lib.hid hb3; have HR3 := Lib.hid ((HR.out.same hb3.block).grow hb3.block); have HBX := Lib.hid (HBL.out.trans (hb3.mono HBL.out.size)); clear hU3 hb3) | (go_at_call 120; refine (PR.out _ _ (HXW.out.same HB3.out.block) HD3.out).mono ?_; rintro e w4 ⟨rfl, rfl⟩))
          have hz3 := Nat.le_trans hws HB3.out.size
          have G := Lib.hid (HSI.out.of hws HB3.out)
          go_roundw
          case rel => exact ⟨k + 1, us, by omega, by go_num, by rw [HST.out]; exact HR3.out, HSU.out.skip, HOU.out, G.out, HBX.out, hz3⟩
          case measure => simp [intOf]; omega
      · obtain rfl : k = basis.length := by omega
        rw [List.take_length] at HR
        have HF := Lib.hid (HSU.out.own (by have := HOWN.out.len; omega) (own_u_base (B' := w.heap.size) HOWN.out (by omega)) HR.out.row HR.out.each)
        go_wp2_with fail
        go_ret
        exact ⟨_, us, rfl, HF.out, HBL.out⟩
set_option maxRecDepth 100000 in
set_option maxHeartbeats 2000000 in
theorem l05Conjugate_c (v : Value) (xss : List (List Int)) (w : World) (h : IntSS w.heap v xss) (hT : arT xss = true) :
    Calls Tryz.prog 132 #[v] w fun e w' => ∃ r, e = .returned r ∧ IntSS w'.heap r (cjR xss) ∧ Below w.heap.size w w' := by
  obtain ⟨ao, c, rfl, hm⟩ := h.len
  have H := Lib.hid h
  by_cases h0 : xss.length = 0
  · have e1 : cjR xss = [] := by unfold cjR; rw [if_neg (fun x => x.2 h0)]
    rw [e1]
    have t1 := (eqB (show (xss.length : Int) = 0 by omega)).1
    clear e1 h hT h0
    go_enter Tryz.func132, Tryz.ntmps132
    go_wp2_with fail
    go_ret
    exact ⟨_, rfl, IntSS.nil _, Below.refl _ _⟩
  · have hd := degT_in hT
    obtain ⟨n, hn⟩ : ∃ n : Nat, degT xss = n := ⟨(degT xss).toNat, by omega⟩
    have e1 : cjR xss = cjgL xss (partL n) := by unfold cjR; rw [if_pos ⟨hT, h0⟩, hn, Int.toNat_natCast]
    rw [e1]
    have t1 := (neB (show (xss.length : Int) ≠ 0 by omega)).1
    have hz : (0 : Int) < xss.length := by omega
    obtain ⟨b1, o1, c1, u1, hv1, hc1, hu1, -⟩ := H.out.at 0 (by omega)
    simp only [Value.slice.injEq, true_and] at hv1
    obtain ⟨rfl, rfl⟩ := hv1
    rw [show o1 + 0 = o1 from rfl] at hc1
    rw [show xss[0] = xss.getD 0 [] by simp [show 0 < xss.length by omega]] at hu1
    have F1 := Lib.hid (arT_first' hT)
    have D := Lib.hid (l01DegreeE_c u1 _ w hu1 F1.out)
    rw [show deg (xss.getD 0 []) = n from hn] at D
    obtain ⟨ua, uc, rfl, -⟩ := hu1.len
    have hn40 : n ≤ 40 := by omega
    have AL := Lib.hid (l01All_c n w hn40)
    have CJ := Lib.hid l06Conjugates_c
    have hlen : (partL n).length ≤ 504 := expD_length (d := (n : Int)) (asc_partL n) (fun x hx => mem_partL hn40 hx) (by omega)
    have HME := Lib.hid (fun x (hx : x ∈ partL n) => mem_partL hn40 hx)
    have hxl := arT_len hT
    clear e1 h hT h0 hd hn hu1 F1
    generalize partL n = basis at *
    generalize xss.getD 0 [] = y0 at *
    go_enter Tryz.func132, Tryz.ntmps132
    go_wp2_with (first | (go_at_call 118; refine D.out.mono ?_; rintro e w' ⟨rfl, rfl⟩) | (go_at_call 205; refine AL.out.mono ?_; rintro e w1 ⟨r1, us1, rfl, hU1, hb1⟩; obtain ⟨ba, bc, rfl, -⟩ := hU1.ints.len; have HU1 := Lib.hid hU1; have HB1 := Lib.hid hb1; have hws1 := hb1.size; clear hU1 hb1) | (go_at_call 206; refine (CJ.out _).mono ?_; rintro e w2 ⟨r2, us2, rfl, hS2, hb2⟩; obtain ⟨ja, jc, rfl, -⟩ := hS2.ints.len; have HS2 := Lib.hid hS2; have HB2 := Lib.hid hb2; clear hS2 hb2))
    have hsA : (w1.alloc (.cells #[] 56)).heap.size = w1.heap.size + 1 := by simp
    have hws2 : w1.heap.size + 1 ≤ w2.heap.size := by have := HB2.out.size; omega
    have HBA := Lib.hid (HB1.out.trans ((((Below.refl w1.heap.size w1).alloc (Nat.le_refl _) (.cells #[] 56)).trans (HB2.out.mono (by simp))).mono HB1.out.size))
    have HB12 := Lib.hid (((Below.refl w1.heap.size w1).alloc (Nat.le_refl _) (.cells #[] 56)).trans (HB2.out.mono (by simp)))
    have HR1 := Lib.hid (((ref_empty (w := w1) (B := w1.heap.size) (w1.alloc (.cells #[] 56)).heap (Nat.le_refl _)).same HB2.out.block).grow HB2.out.block)
    rw [hsA] at HS2
    go_loopw [4, 6] (fun o i wr => ∃ (k : Nat) (us : List Value), k ≤ basis.length ∧ i = .int .i64 k ∧ RefR wr w1.heap.size wr.heap o us (cjgL xss (basis.take k)) ∧ Out o (w1.heap.size + 1) w2.heap.size ∧ SameIn (w1.heap.size + 1) w2.heap.size w2 wr ∧ Below w1.heap.size w1 wr ∧ w2.heap.size ≤ wr.heap.size) (fun _ i _ => basis.length - (intOf i).toNat)
    case atStart => exact ⟨0, [], Nat.zero_le _, rfl, HR1.out, fun b hb => by simp [Value.ownBlock] at hb; omega, fun b _ _ => rfl, HB12.out, Nat.le_refl _⟩
    case round =>
      obtain ⟨k, us, hk, rfl, hR, hOU, hSI, hbl, hws⟩ := hrel
      obtain ⟨pa, pn, pc, rfl⟩ := own_shape hR.row
      have HR := Lib.hid hR; have HOU := Lib.hid hOU; have HSI := Lib.hid hSI; have HBL := Lib.hid hbl
      have HBW := Lib.hid (HB1.out.trans (hbl.mono HB1.out.size))
      have HXW := Lib.hid (H.out.same HBW.out.block)
      have HUW := Lib.hid (HU1.out.ints.same hbl.block)
      have HSW := Lib.hid (HS2.out.far fun b h1 h2 => hSI b h1 h2).ints
      clear hR hOU hSI hbl
      by_cases hkl : k < basis.length
      · obtain ⟨b3, o3, c3, uk, hv3, hc3, huk, -⟩ := HUW.out.at k hkl
        simp only [Value.slice.injEq, true_and] at hv3
        obtain ⟨rfl, rfl⟩ := hv3
        obtain ⟨qa, qc, rfl, -⟩ := huk.len
        have HUK := Lib.hid huk
        have hex := HME.out _ (List.getElem_mem hkl)
        have HST := Lib.hid (cjgL_step xss basis k hkl)
        have hda := (dconL_ok hex.1 (by rw [hex.2]; omega))
        have MO := Lib.hid (fun (W : World) (h : IntSSS W.heap (.slice ja (conjTab 6).length jc) (conjTab 6)) (hu : IntS W.heap (.slice qa basis[k].length qc) basis[k]) => l06Monomial_c _ _ basis[k] W h hu hex.1 (by rw [hex.2]; omega))
        have PR := Lib.hid (fun (u : Value) (W : World) (h : IntSS W.heap (.slice (some ⟨b1, o1, none⟩) xss.length c) xss) (hu : IntSS W.heap u (dconL basis[k])) => l06Pairing_c _ u xss (dconL basis[k]) W h hu (by omega))
        have hcl : (cjgL xss (basis.take k)).length ≤ 4398046511104 := by
          have := List.length_filter_le (fun r => pairL xss (dconL r) == 1) (basis.take k)
          have h2 : (basis.take k).length ≤ k := List.length_take_le _ _
          unfold cjgL; omega
        have HCL := Lib.hid hcl
        have hki : (k : Int) < basis.length := by omega
        clear huk hex hda hcl
        by_cases hp : pairL xss (dconL basis[k]) = 1
        · rw [if_pos hp] at HST
          rw [hp] at PR
          clear hp
          generalize dconL basis[k] = dk at *
          generalize basis[k] = ys at *
          go_wp2_with (first | (go_at_call 207; refine (MO.out _ HSW.out HUK.out).mono ?_; rintro e w3 ⟨r3, us3, rfl, hU3, hb3⟩; obtain ⟨da, dn, dc, rfl⟩ := own_shape hU3.row; have HD3 := Lib.hid hU3.ints; have HB3 := Lib.hid hb3; have HR3 := Lib.hid ((HR.out.same hb3.block).grow hb3.block); have HU3 := Lib.hid (HUK.out.same hb3.block); have HBX := Lib.hid (HBL.out.trans (hb3.mono HBL.out.size)); have hc4 := (hb3.cell (World.block_lt_of_cell? _ _ hc3)).trans hc3; clear hU3 hb3) | (go_at_call 121; refine (PR.out _ _ (HXW.out.same HB3.out.block) HD3.out).mono ?_; rintro e w4 ⟨rfl, n4, rfl⟩; have hc5 : (w3.drewN n4).cell? ⟨b3, o3 + k, none⟩ = _ := hc4) | (at_builtin; refine append_ref1 (w := w3.drewN n4) rfl _ _ rfl w1.heap.size _ _ us _ _ (by exact HR3.out.same (fun _ _ => rfl)) rfl (by exact HU3.out) (below_drewN n4 HBX.out) HBX.out.size _ rfl rfl HCL.out ?_; intro v5 w5 hU5 hb5 hs5 hk5 hw5 _; obtain ⟨sa, sn, sc, rfl⟩ := own_shape hU5.row))
          have hz3 := Nat.le_trans hws HB3.out.size
          have G := Lib.hid (And.intro (HOU.out.step hz3 hw5) (((HSI.out.of hws HB3.out).app hz3 HOU.out hk5)))
          have HU5 := Lib.hid hU5; have HB5 := Lib.hid hb5
          have hs6 : w2.heap.size ≤ w5.heap.size := Nat.le_trans hz3 hs5
          clear hU5 hb5 hk5 hw5
          go_roundw
          case rel => exact ⟨k + 1, _, by omega, by go_num, by rw [HST.out]; exact HU5.out, G.out.1, G.out.2, HB5.out, hs6⟩
          case measure => simp [intOf]; omega
        · rw [if_neg hp, List.append_nil] at HST
          have hp0 : pairL xss (dconL basis[k]) = 0 := by have := pairL_01 xss (dconL basis[k]); omega
          rw [hp0] at PR
          clear hp hp0
          generalize dconL basis[k] = dk at *
          generalize basis[k] = ys at *
          go_wp2_with (first | (go_at_call 207; refine (MO.out _ HSW.out HUK.out).mono ?_; rintro e w3 ⟨r3, us3, rfl, hU3, hb3⟩; obtain ⟨da, dn, dc, rfl⟩ := own_shape hU3.row; have HD3 := Lib.hid hU3.ints; have HB3 := Lib.hid hb3; have HR3 := Lib.hid ((HR.out.same hb3.block).grow hb3.block); have HBX := Lib.hid (HBL.out.trans (hb3.mono HBL.out.size)); clear hU3 hb3) | (go_at_call 121; refine (PR.out _ _ (HXW.out.same HB3.out.block) HD3.out).mono ?_; rintro e w4 ⟨rfl, n4, rfl⟩))
          have hz3 := Nat.le_trans hws HB3.out.size
          have G := Lib.hid (HSI.out.of hws HB3.out)
          go_roundw
          case rel => exact ⟨k + 1, us, by omega, by go_num, by rw [HST.out]; exact (HR3.out.same (fun _ _ => rfl)), HOU.out, G.out, below_drewN n4 HBX.out, hz3⟩
          case measure => simp [intOf]; omega
      · obtain rfl : k = basis.length := by omega
        rw [List.take_length] at HR
        go_wp2_with fail
        go_ret
        exact ⟨_, rfl, HR.out.intsS, HBW.out⟩
end
section
open Go.RowKit Go.Sort

theorem SlAt.past {w0 w w' : World} {g e : Nat} {v : Value} {us : List Value} (h : SlAt w.heap e v us) (hs : Src w0 w g) (ne : e ≠ 144) (hg : w.grownBy w' (some g)) : SlAt w'.heap e v us := by
  rcases h with h | ⟨b, off, cap, cur, rfl, hb, r⟩
  · exact .inl h
  · refine .inr ⟨b, off, cap, cur, rfl, ?_, r⟩
    rw [hg.block b (Array.getElem?_eq_some_iff.1 hb).1 ?_]; exact hb
    intro e1
    simp only [Option.some.injEq] at e1
    subst e1
    obtain ⟨_, _, _, _, h1, _⟩ := hs.cells
    rw [hb] at h1
    simp only [Option.some.injEq, Obj.cells.injEq] at h1
    exact ne h1.2.1
theorem IntS.past {w0 w w' : World} {g : Nat} {v : Value} {xs : List Int} (h : IntS w.heap v xs) (hs : Src w0 w g) (hg : w.grownBy w' (some g)) : IntS w'.heap v xs := SlAt.past h hs (by decide) hg
theorem IntSS.past {w0 w w' : World} {g : Nat} {v : Value} {xss : List (List Int)} (h : IntSS w.heap v xss) (hs : Src w0 w g) (hg : w.grownBy w' (some g)) : IntSS w'.heap v xss := by
  obtain ⟨us, h1, h2, h3⟩ := h
  exact ⟨us, h1.past hs (by decide) hg, h2, fun i u xs hu hx => IntS.past (h3 i u xs hu hx) hs hg⟩
theorem Cell1.past {w0 w w' : World} {g b t : Nat} {x : Value} (k : Cell1 w b x t) (hs : Src w0 w g) (ne : t ≠ 144) (hg : w.grownBy w' (some g)) : Cell1 w' b x t := by
  refine k.same (hg.block b k.lt ?_)
  intro e1
  simp only [Option.some.injEq] at e1
  subst e1
  obtain ⟨_, _, _, _, h1, _⟩ := hs.cells
  rw [show w.heap[b]? = _ from k] at h1
  simp only [Option.some.injEq, Obj.cells.injEq] at h1
  exact ne h1.2.1
theorem grownBy_below {w w' : World} {r : Option Nat} (h : Below w.heap.size w w') : w.grownBy w' r := ⟨h.os, h.tape, h.output, h.size, fun i hi _ => h.block i hi⟩
/-- A cell of a variable that is younger than the source is set. -/
theorem Src.setVar {w0 w : World} {g b t j : Nat} {x u : Value} (h : Src w0 w g) (k : Cell1 w b x t) (ne : t ≠ 144) (hb : w0.heap.size ≤ b) : Src w0 (w.setCell ⟨b, j, none⟩ u) g := by
  obtain ⟨code, n, p, hash, h1, h2⟩ := h.cells
  refine ⟨⟨code, n, p, hash, ?_, h2⟩, h.ge, h.below.setCell hb _⟩
  rw [Below.heap_setCell _ _ _ _ ?_]; exact h1
  intro e
  simp only at e
  subst e
  rw [show w.heap[g]? = _ from k] at h1
  simp only [Option.some.injEq, Obj.cells.injEq] at h1
  exact ne h1.2.1
theorem SlAt.setVar {w : World} {e b t j : Nat} {x u v : Value} {us : List Value} (h : SlAt w.heap e v us) (k : Cell1 w b x t) (ne : e ≠ t) : SlAt (w.setCell ⟨b, j, none⟩ u).heap e v us := by
  rcases h with h | ⟨c, off, cap, cur, rfl, hb, r⟩
  · exact .inl h
  · refine .inr ⟨c, off, cap, cur, rfl, ?_, r⟩
    rw [Below.heap_setCell _ _ _ _ ?_]; exact hb
    intro e1
    simp only at e1
    subst e1
    rw [show w.heap[c]? = _ from k] at hb
    simp only [Option.some.injEq, Obj.cells.injEq] at hb
    exact ne hb.2.1.symm
theorem IntSS.setVar {w : World} {b t j : Nat} {x u v : Value} {xss : List (List Int)} (h : IntSS w.heap v xss) (k : Cell1 w b x t) (n1 : 56 ≠ t) (n2 : 2 ≠ t) : IntSS (w.setCell ⟨b, j, none⟩ u).heap v xss := by
  obtain ⟨us, h1, h2, h3⟩ := h
  exact ⟨us, h1.setVar k n1, h2, fun i y xs hy hx => SlAt.setVar (h3 i y xs hy hx) k n2⟩
theorem own_past {w0 w w' : World} {B g e n : Nat} {v : Value} {us : List Value} (h : w.ownsRow B e 1 v n us) (hs : Src w0 w g) (ne : e ≠ 144) (hg : w.grownBy w' (some g)) : w'.ownsRow B e 1 v n us := by
  refine ⟨h.1, ?_⟩
  rcases h.2 with h2 | ⟨b, cap, cur, hv, hb, hgb, r⟩
  · exact .inl h2
  · refine .inr ⟨b, cap, cur, hv, hb, ?_, r⟩
    rw [hg.block b (Array.getElem?_eq_some_iff.1 hgb).1 ?_]; exact hgb
    intro e1
    simp only [Option.some.injEq] at e1
    subst e1
    obtain ⟨_, _, _, _, h1, _⟩ := hs.cells
    rw [hgb] at h1
    simp only [Option.some.injEq, Obj.cells.injEq] at h1
    exact ne h1.2.1
theorem own_setVar {w : World} {B e b t j n : Nat} {x u v : Value} {us : List Value} (h : w.ownsRow B e 1 v n us) (k : Cell1 w b x t) (ne : e ≠ t) : (w.setCell ⟨b, j, none⟩ u).ownsRow B e 1 v n us := by
  refine ⟨h.1, ?_⟩
  rcases h.2 with h2 | ⟨c, cap, cur, hv, hb, hgb, r⟩
  · exact .inl h2
  · refine .inr ⟨c, cap, cur, hv, hb, ?_, r⟩
    rw [Below.heap_setCell _ _ _ _ ?_]; exact hgb
    intro e1
    simp only at e1
    subst e1
    rw [show w.heap[c]? = _ from k] at hgb
    simp only [Option.some.injEq, Obj.cells.injEq] at hgb
    exact ne hgb.2.1.symm
theorem RefR.past {w0 w w' : World} {B g : Nat} {v : Value} {us : List Value} {xss : List (List Int)} (h : RefR w B w.heap v us xss) (hs : Src w0 w g) (hg : w.grownBy w' (some g)) : RefR w' B w'.heap v us xss :=
  ⟨own_past h.row hs (by decide) hg, fun i u xs hu hx => (h.each i u xs hu hx).past hs hg⟩
theorem RefR.setVar {w : World} {B b t j : Nat} {x u v : Value} {us : List Value} {xss : List (List Int)} (h : RefR w B w.heap v us xss) (k : Cell1 w b x t) (n1 : 56 ≠ t) (n2 : 2 ≠ t) : RefR (w.setCell ⟨b, j, none⟩ u) B (w.setCell ⟨b, j, none⟩ u).heap v us xss :=
  ⟨own_setVar h.row k n1, fun i y xs hy hx => SlAt.setVar (h.each i y xs hy hx) k n2⟩
theorem RefR.nil (w : World) (B : Nat) : RefR w B w.heap (.slice none 0 0) [] [] := ⟨World.ownsRow_nil _ _ _ _, fun i u xs hu => by simp at hu⟩
theorem RefR.keepD {w w' : World} {B : Nat} {v : Value} {us : List Value} {xss : List (List Int)} (h : RefR w B w.heap v us xss) (k : ∀ b, b < w.heap.size → w'.heap[b]? = w.heap[b]?) : RefR w' B w'.heap v us xss := (h.same k).grow k
/-- What a draw of an element gives: its row is the draw's own; only the source has changed. -/
def DrewM (m : Nat) (w0 w : World) (g : Nat) (w' : World) (r : Value) : Prop := (∃ us xss, RefR w' w.heap.size w'.heap r us xss ∧ xss.length ≤ m) ∧ Src w0 w' g ∧ w.grownBy w' (some g)
theorem grown_setVar {w W : World} {b j : Nat} {u : Value} {r : Option Nat} (h : w.grownBy W r) (hb : w.heap.size ≤ b) : w.grownBy (W.setCell ⟨b, j, none⟩ u) r :=
  ⟨h.os, h.tape, h.output, by simpa [World.setCell] using h.size, fun i hi hr => (Below.heap_setCell _ _ _ _ (by intro e; simp only at e; omega)).trans (h.block i hi hr)⟩
theorem partL_pos {d : Nat} (hd : d ≤ 40) : 0 < (partL d).length := by
  have hm : (if d = 0 then [] else [(d : Int)]) ∈ partL d := by
    refine partL_all hd ?_ ?_
    · split
      · decide
      · refine isExp_of (fun x hx => ?_) (by simp) (by simp [deg, degA]; omega) ?_
        · rw [List.mem_singleton] at hx; omega
        · simp [lastOk]; omega
    · split
      · rename_i h; subst h; rfl
      · simp [deg, degA]
  exact List.length_pos_of_mem hm
theorem grown_below2 {w a b : World} {r : Option Nat} (h : w.grownBy a r) (k : Below a.heap.size a b) : w.grownBy b r :=
  ⟨k.os.trans h.os, k.tape.trans h.tape, k.output.trans h.output, Nat.le_trans h.size k.size, fun i hi hr => (k.block i (Nat.lt_of_lt_of_le hi h.size)).trans (h.block i hi hr)⟩
section
variable {w0 w W W' wr : World} {g b t : Nat} {a : Addr} {x y : Value}
theorem heldV_src {p : Prop} {q : Prop} (h : p ∧ Src w0 W g ∧ q) : Src w0 W g := h.2.1
theorem heldW_src (h : W.cell? a = some x ∧ Cell1 W b y t ∧ Src w0 W g ∧ wr.grownBy W (some g)) : Src w0 W g := h.2.2.1
theorem heldW_grown (h : W.cell? a = some x ∧ Cell1 W b y t ∧ Src w0 W g ∧ wr.grownBy W (some g)) : wr.grownBy W (some g) := h.2.2.2
theorem heldW_cell (h : W.cell? a = some x ∧ Cell1 W b y t ∧ Src w0 W g ∧ wr.grownBy W (some g)) : Cell1 W b y t := h.2.1
theorem heldW_next (h : W.cell? ⟨b, 0, none⟩ = some y ∧ Cell1 W b y t ∧ Src w0 W g ∧ wr.grownBy W (some g)) (hs : Src w0 W' g) (hg : W.grownBy W' (some g)) (ne : t ≠ 144) : W'.cell? ⟨b, 0, none⟩ = some y ∧ Cell1 W' b y t ∧ Src w0 W' g ∧ wr.grownBy W' (some g) :=
  ⟨(h.2.1.past h.2.2.1 ne hg).c0, h.2.1.past h.2.2.1 ne hg, hs, grownBy_trans h.2.2.2 hg⟩
theorem heldW_below (h : W.cell? ⟨b, 0, none⟩ = some y ∧ Cell1 W b y t ∧ Src w0 W g ∧ wr.grownBy W (some g)) (hb : Below W.heap.size W W') : W'.cell? ⟨b, 0, none⟩ = some y ∧ Cell1 W' b y t ∧ Src w0 W' g ∧ wr.grownBy W' (some g) :=
  ⟨(h.2.1.kept hb.block).c0, h.2.1.kept hb.block, h.2.2.1.step hb, grown_below2 h.2.2.2 hb⟩
end
set_option maxRecDepth 100000 in
set_option maxHeartbeats 1000000 in
theorem l04With_c (g d : Nat) (w0 w : World) (hs : Src w0 w g) (hd : d ≤ 40) :
    Calls Tryz.prog 117 #[.pointer (some ⟨g, 0, none⟩), .int .i64 d] w fun e w' => ∃ r, e = .returned (.agg #[r]) ∧ DrewM 10 w0 w g w' r := by
  have k4 := Cell1.new w (.slice none 0 0) 31
  have HS := Lib.hid (hs.step ((Below.refl _ _).alloc (Nat.le_refl _) (.cells #[.slice none 0 0] 31)))
  have BS := Lib.hid (fun W => l04Basis_c d W hd)
  have hlen : (partL d).length ≤ 504 := expD_length (d := (d : Int)) (asc_partL d) (fun x hx => mem_partL hd hx) (by omega)
  have hx5 : Hid (∀ x ∈ partL d, x.length ≤ 5) := fun x hx => by
    have := mem_partL hd hx
    exact exp_len5 this.1 (by omega)
  have hpos := partL_pos hd
  have HLT := Lib.hid hs.lt
  have HWB := Lib.hid hs.below.size
  clear hs
  obtain ⟨W1, hW1⟩ : ∃ W1, W1 = w.alloc (.cells #[.slice none 0 0] 31) := ⟨_, rfl⟩
  have hb1 : Below w.heap.size w W1 := by rw [hW1]; exact (Below.refl _ _).alloc (Nat.le_refl _) _
  rw [← hW1] at k4 HS
  have K4 := Lib.hid k4; have HB1 := Lib.hid hb1; have HW1 := Lib.hid hW1
  clear k4 hb1 hW1
  go_enter Tryz.func117, Tryz.ntmps117
  go_wp2_with fail
  rw [← HW1.out]
  refine (BS.out _).mono ?_
  rintro e w2 ⟨r2, us2, rfl, hU2, hb2⟩
  obtain ⟨ta, tc, rfl, -⟩ := hU2.ints.len
  have HL2 := Lib.hid hU2.ints
  have HS2 := Lib.hid (HS.out.step hb2)
  have HG2 := Lib.hid (grownBy_below (r := some g) (HB1.out.trans (hb2.mono HB1.out.size)))
  have K42 := Lib.hid (K4.out.kept hb2.block)
  have hb3 : Below w2.heap.size w2 (w2.alloc (.cells #[.slice none 0 0] 31)) := (Below.refl _ _).alloc (Nat.le_refl _) _
  have HS3 := Lib.hid (HS2.out.step hb3)
  have N5 := Lib.hid (l01Next_pos g 5 w0 _ HS3.out (by omega) (by omega))
  have K63 := Lib.hid (Cell1.new w2 (.slice none 0 0) 31)
  have K43 := Lib.hid (K42.out.kept hb3.block)
  have HL3 := Lib.hid (HL2.out.same hb3.block)
  have HG3 := Lib.hid (grownBy_trans HG2.out (grownBy_below (r := some g) hb3))
  have HZ2 := Lib.hid (Nat.le_trans HB1.out.size hb2.size)
  have HNE : Hid (w.heap.size ≠ w2.heap.size) := by show _ ≠ _; have := K42.out.lt; omega
  clear hU2 hb2 hb3 HW1
  obtain ⟨W3, hW3⟩ : ∃ W3, W3 = w2.alloc (.cells #[.slice none 0 0] 31) := ⟨_, rfl⟩
  rw [← hW3] at HS3 N5 K63 K43 HL3 HG3
  have HW3 := Lib.hid hW3
  clear hW3
  go_wp2_with fail
  rw [← HW3.out]
  clear HW3
  refine N5.out.mono ?_
  rintro e w4 ⟨r4, rfl, ⟨hr40, hr41⟩, hs4, hg4⟩
  have HS4 := Lib.hid hs4
  have K44 := Lib.hid (K43.out.past HS3.out (by decide) hg4)
  have K64 := Lib.hid (K63.out.past HS3.out (by decide) hg4)
  have HL4 := Lib.hid (HL3.out.past HS3.out hg4)
  have HG4 := Lib.hid (grownBy_trans HG3.out hg4)
  clear hs4 hg4 N5
  go_wp2_with (go_at_call 138; refine (pick_lit g w0 w4 [1, 1, 2, 3, r4] HS4.out (by simp) (by simp)).mono ?_; rintro e w5 ⟨r5, rfl, hr5, hs5, hg5⟩; have hr50 : 0 ≤ r5 ∧ r5 ≤ 5 := (by simp at hr5; omega); have HS5 := Lib.hid hs5; have K45 := Lib.hid (K44.out.past HS4.out (by decide) hg5); have K65 := Lib.hid (K64.out.past HS4.out (by decide) hg5); have HL5 := Lib.hid (HL4.out.past HS4.out hg5); have HG5 := Lib.hid (grownBy_trans HG4.out hg5); clear hs5 hg5 hr5)
  obtain ⟨hr50, hr51⟩ := hr50
  go_loopw [7] (fun i wr => ∃ (k : Int) (o : Value) (us : List Value) (xss : List (List Int)), i = .int .i64 k ∧ (0 ≤ k ∧ k ≤ 5) ∧ xss.length + k.toNat ≤ 5 ∧ Cell1 wr w.heap.size (.slice none 0 0) 31 ∧ Cell1 wr w2.heap.size o 31 ∧ RefR wr w.heap.size wr.heap o us xss ∧ IntSS wr.heap (.slice ta (partL d).length tc) (partL d) ∧ Src w0 wr g ∧ w.grownBy wr (some g)) (fun i _ => (intOf i).toNat)
  case atStart => exact ⟨r5, _, [], [], rfl, ⟨hr50, hr51⟩, by simp; omega, K45.out, K65.out, RefR.nil _ _, HL5.out, HS5.out, HG5.out⟩
  case round =>
    obtain ⟨k, o, us, xss, rfl, ⟨hk0, hk5⟩, hxl, h4, h6, ho, hL, hS, hG⟩ := hrel
    obtain ⟨oa, oc, rfl, -⟩ := ho.intsS.len
    have K4r := Lib.hid h4; have K6r := Lib.hid h6; have HO := Lib.hid ho; have HLr := Lib.hid hL; have HSr := Lib.hid hS; have HGr := Lib.hid hG
    have q6 := h6.c0; have f6 := h6.free 0
    clear h4 h6 ho hL hS hG
    by_cases hk : 0 < k
    · have NX := Lib.hid (fun (W : World) (h : Src w0 W g) => l01Next_pos g ((partL d).length : Int) w0 W h (by omega) (by omega))
      have PT := Lib.hid (fun (u : Value) (xs : List Int) (W : World) (h : IntSS W.heap (.slice oa xss.length oc) xss) (hu : IntS W.heap u xs) (hx : xs.length ≤ 4398046511104) => l01PutR_c _ u xss xs W h hu (by omega) hx)
      go_wp2_with fail
      go_region_with (first | (go_at_call 116; refine (NX.out _ (HSr.out.step ((Below.refl _ _).drew))).mono ?_; rintro e W6 ⟨r6, rfl, ⟨hr60, hr61⟩, hs6, hg6⟩; have hgr : wr.grownBy W6 (some g) := ⟨hg6.os, hg6.tape, hg6.output, hg6.size, hg6.block⟩; have K66 := K6r.out.past HSr.out (by decide) hgr; have q66 := K66.c0; obtain ⟨j, rfl⟩ : ∃ j : Nat, r6 = j := ⟨r6.toNat, by omega⟩; have hj : j < (partL d).length := (by omega); obtain ⟨b1, o1, c1, u1, hv1, hc1, hu1, -⟩ := (HLr.out.past HSr.out hgr).at j hj; simp only [Value.slice.injEq, true_and] at hv1; obtain ⟨rfl, rfl⟩ := hv1; obtain ⟨xa, xc, rfl, -⟩ := hu1.len) | (go_at_call 196; refine (PT.out _ _ _ (HO.out.intsS.past HSr.out hgr) hu1 (by have := hx5.out _ (List.getElem_mem hj); omega)).mono ?_; rintro e W7 ⟨r7, rfl, ⟨us7, hP7⟩, hb7⟩; obtain ⟨pa, pc, rfl, -⟩ := hP7.intsS.len; have K67 := K66.kept hb7.block; have q7 := K67.c0; have f7 := K67.free 0) | fail)
      all_goals
        have hP7 := hP7.base (B' := w.heap.size) (Nat.le_trans HGr.out.size hgr.size)
        have hpl := put_length (partL d)[j] xss
        have HG7 := Lib.hid (grown_setVar (j := 0) (u := .slice pa (put (partL d)[j] xss).length pc) (grown_below2 (grownBy_trans HGr.out hgr) hb7) HZ2.out)
        have HS7 := Lib.hid ((hs6.step hb7).setVar (j := 0) (u := .slice pa (put (partL d)[j] xss).length pc) K67 (by decide) (Nat.le_trans HWB.out HZ2.out))
        have K77 := Lib.hid (K67.set (.slice pa (put (partL d)[j] xss).length pc))
        have K47 := Lib.hid (((K4r.out.past HSr.out (by decide) hgr).kept hb7.block).setFar ⟨w2.heap.size, 0, none⟩ (by show w.heap.size ≠ w2.heap.size; exact HNE.out) (.slice pa (put (partL d)[j] xss).length pc))
        have HL7 := Lib.hid (((HLr.out.past HSr.out hgr).same hb7.block).setVar (j := 0) (u := .slice pa (put (partL d)[j] xss).length pc) K67 (by decide) (by decide))
        have HQ7 := Lib.hid (hP7.setVar (j := 0) (u := .slice pa (put (partL d)[j] xss).length pc) K67 (by decide) (by decide))
        clear hP7 hb7 hs6 hgr hg6 K66 q66 K67 q7 f7 hc1 hu1 q6 f6
        generalize put (partL d)[j] xss = ys at *
        go_wp2_with fail
        go_roundw
        case rel => exact ⟨k - 1, _, us7, ys, rfl, ⟨by omega, by omega⟩, by omega, K47.out, K77.out, HQ7.out, HL7.out, HS7.out, HG7.out⟩
        case measure => simp [intOf]; omega
    · obtain rfl : k = 0 := by omega
      have q4 := K4r.out.c0; have f4 := K4r.out.free 0
      have HNE1 := HNE.out
      go_wp2_with fail
      have g0 := (K4r.out.set (.slice oa xss.length oc)).c0
      exact bodyPost_ret (v := .agg #[.slice oa xss.length oc]) (by simp [results, Tryz.results117, go_sem, g0]) rfl
        ⟨_, rfl, ⟨us, xss, HO.out.setVar K4r.out (by decide) (by decide), by omega⟩, HSr.out.setVar K4r.out (by decide) HWB.out, grown_setVar HGr.out (Nat.le_refl _)⟩
end
section
open Go.RowKit Go.Sort

theorem DrewM.up {m : Nat} {w0 w a b : World} {g : Nat} {r : Value} (h : DrewM m w0 a g b r) (hg : w.grownBy a (some g)) : DrewM m w0 w g b r := by
  obtain ⟨⟨us, xss, h1, h2⟩, h3, h4⟩ := h
  exact ⟨⟨us, xss, h1.base hg.size, h2⟩, h3, grownBy_trans hg h4⟩
theorem DrewM.store {m : Nat} {w0 w b : World} {g c j t : Nat} {r x u : Value} (h : DrewM m w0 w g b r) (k : Cell1 b c x t) (hc : w.heap.size ≤ c) (hw : w0.heap.size ≤ w.heap.size) (n1 : 56 ≠ t) (n2 : 2 ≠ t) (n3 : t ≠ 144) : DrewM m w0 w g (b.setCell ⟨c, j, none⟩ u) r := by
  obtain ⟨⟨us, xss, h1, h2⟩, h3, h4⟩ := h
  exact ⟨⟨us, xss, h1.setVar k n1 n2, h2⟩, h3.setVar k n3 (Nat.le_trans hw hc), grown_setVar h4 hc⟩
theorem DrewM.le {m n : Nat} {w0 w w' : World} {g : Nat} {r : Value} (h : DrewM m w0 w g w' r) (k : m ≤ n) : DrewM n w0 w g w' r := by
  obtain ⟨⟨us, xss, h1, h2⟩, h3⟩ := h
  exact ⟨⟨us, xss, h1, by omega⟩, h3⟩
theorem DrewM.src {m : Nat} {w0 w w' : World} {g : Nat} {r : Value} (h : DrewM m w0 w g w' r) : Src w0 w' g := h.2.1
theorem DrewM.grown {m : Nat} {w0 w w' : World} {g : Nat} {r : Value} (h : DrewM m w0 w g w' r) : w.grownBy w' (some g) := h.2.2
theorem DrewM.shape {m : Nat} {w0 w w' : World} {g : Nat} {r : Value} (h : DrewM m w0 w g w' r) : ∃ a n c, r = .slice a n c := by
  obtain ⟨⟨us, xss, h1, _⟩, _⟩ := h
  exact own_shape h1.row
theorem DrewM.step {m : Nat} {w0 w a b : World} {g : Nat} {r : Value} (h : DrewM m w0 w g a r) (k : Below a.heap.size a b) : DrewM m w0 w g b r := by
  obtain ⟨⟨us, xss, h1, h2⟩, h3, h4⟩ := h
  exact ⟨⟨us, xss, h1.keepD k.block, h2⟩, h3.step k, grown_below2 h4 k⟩
theorem DrewM.past {m : Nat} {w0 w a b : World} {g : Nat} {r : Value} (h : DrewM m w0 w g a r) (hs : Src w0 b g) (k : a.grownBy b (some g)) : DrewM m w0 w g b r := by
  obtain ⟨⟨us, xss, h1, h2⟩, h3, h4⟩ := h
  exact ⟨⟨us, xss, h1.past h3 k, h2⟩, hs, grownBy_trans h4 k⟩
theorem Cell1.app {a b : World} {c t B n : Nat} {x v : Value} {us : List Value} (k : Cell1 a c x t) (hr : a.ownsRow B 56 1 v n us) (h4 : ∀ i, i < a.heap.size → some i ≠ v.ownBlock → b.heap[i]? = a.heap[i]?) (ne : t ≠ 56) : Cell1 b c x t := KeepT.grown hr h4 c _ t (0, 0) ne k
theorem DrewM.app {m : Nat} {w0 w a b : World} {g : Nat} {v v' : Value} {us us' : List Value} {xss xss' : List (List Int)} (h3 : Src w0 a g) (hg : w.grownBy a (some g)) (hw : w0.heap.size ≤ w.heap.size) (hR : RefR a w.heap.size a.heap v us xss) (h4 : ∀ i, i < a.heap.size → some i ≠ v.ownBlock → b.heap[i]? = a.heap[i]?) (hb : Below w.heap.size a b)
    (hR' : RefR b w.heap.size b.heap v' us' xss') (hl : xss'.length ≤ m) : DrewM m w0 w g b v' := by
  refine ⟨⟨us', xss', hR', hl⟩, ?_, grown_below hg hb⟩
  obtain ⟨code, n, p, hash, h1, h2⟩ := h3.cells
  exact ⟨⟨code, n, p, hash, KeepT.grown hR.row h4 g _ _ (0, 0) (by decide) h1, h2⟩, h3.ge, h3.below.trans (hb.mono hw)⟩
set_option maxRecDepth 100000 in
theorem l04Draw_c (g : Nat) (w0 w : World) (hs : Src w0 w g) :
    Calls Tryz.prog 195 #[.pointer (some ⟨g, 0, none⟩)] w fun e w' => ∃ r, e = .returned (.agg #[r]) ∧ DrewM 10 w0 w g w' r := by
  have k2 := Cell1.new w (.slice none 0 0) 31
  have hb1 : Below w.heap.size w (w.alloc (.cells #[.slice none 0 0] 31)) := (Below.refl _ _).alloc (Nat.le_refl _) _
  have HS1 := Lib.hid (hs.step hb1)
  have HG1 := Lib.hid (grownBy_below (r := some g) hb1)
  have K1 := Lib.hid k2
  have HW0 := Lib.hid hs.below.size
  clear k2 hb1 hs
  obtain ⟨w1, hw1⟩ : ∃ w1, w1 = w.alloc (.cells #[.slice none 0 0] 31) := ⟨_, rfl⟩
  rw [← hw1] at HS1 HG1 K1
  have HW1 := Lib.hid hw1
  clear hw1
  have NX := Lib.hid (fun (n : Int) (W : World) (h : Src w0 W g) (h1 : 1 ≤ n) (h2 : n ≤ 9223372036854775807) => l01Next_pos g n w0 W h h1 h2)
  go_enter Tryz.func195, Tryz.ntmps195
  go_wp2_with fail
  rw [← HW1.out]
  clear HW1
  refine (NX.out 8 _ HS1.out (by omega) (by omega)).mono ?_
  rintro e w2 ⟨r2, rfl, ⟨h20, h21⟩, hs2, hg2⟩
  have K2 := Lib.hid (K1.out.past HS1.out (by decide) hg2)
  have HS2 := Lib.hid hs2
  have HG2 := Lib.hid (grownBy_trans HG1.out hg2)
  clear hs2 hg2
  go_wp2_with fail
  refine (NX.out 16 _ HS2.out (by omega) (by omega)).mono ?_
  rintro e w3 ⟨r3, rfl, ⟨h30, h31⟩, hs3, hg3⟩
  have K3 := Lib.hid (K2.out.past HS2.out (by decide) hg3)
  have HS3 := Lib.hid hs3
  have HG3 := Lib.hid (grownBy_trans HG2.out hg3)
  clear hs3 hg3
  go_wp2_with fail
  refine (NX.out 41 _ HS3.out (by omega) (by omega)).mono ?_
  rintro e w4 ⟨r4, rfl, ⟨h40, h41⟩, hs4, hg4⟩
  have K4 := Lib.hid (K3.out.past HS3.out (by decide) hg4)
  have HS4 := Lib.hid hs4
  have HG4 := Lib.hid (grownBy_trans HG3.out hg4)
  clear hs4 hg4
  go_wp2_with fail
  refine (pick_lit g w0 w4 [r2, r3, r4] HS4.out (by simp) (by simp)).mono ?_
  rintro e w5 ⟨r5, rfl, hr5, hs5, hg5⟩
  obtain ⟨d, rfl⟩ : ∃ d : Nat, r5 = d := ⟨r5.toNat, by simp at hr5; omega⟩
  have hd : d ≤ 40 := by simp at hr5; omega
  have K5 := Lib.hid (K4.out.past HS4.out (by decide) hg5)
  have HS5 := Lib.hid hs5
  have HG5 := Lib.hid (grownBy_trans HG4.out hg5)
  clear hs5 hg5 hr5
  go_wp2_with fail
  refine (l04With_c g d w0 _ HS5.out hd).mono ?_
  rintro e w6 ⟨r6, rfl, hD⟩
  have K6 := Lib.hid (K5.out.past HS5.out (by decide) hD.grown)
  have HD := Lib.hid (hD.up HG5.out)
  obtain ⟨ra, rn, rc, rfl⟩ := hD.shape
  have q6 := K6.out.c0; have f6 := K6.out.free 0
  clear hD
  go_wp2_with fail
  have g0 := (K6.out.set (.slice ra rn rc)).c0
  exact bodyPost_ret (v := .agg #[.slice ra rn rc]) (by simp [results, Tryz.results195, go_sem, g0]) rfl
    ⟨_, rfl, HD.out.store K6.out (Nat.le_refl _) HW0.out (by decide) (by decide) (by decide)⟩
set_option maxRecDepth 100000 in
set_option maxHeartbeats 1000000 in
theorem l04Spoil_c (g : Nat) (w0 w : World) (hs : Src w0 w g) :
    Calls Tryz.prog 115 #[.pointer (some ⟨g, 0, none⟩)] w fun e w' => ∃ r, e = .returned (.agg #[r]) ∧ DrewM 20 w0 w g w' r := by
  have k2 := Cell1.new w (.slice none 0 0) 31
  have hb1 : Below w.heap.size w (w.alloc (.cells #[.slice none 0 0] 31)) := (Below.refl _ _).alloc (Nat.le_refl _) _
  have HS1 := Lib.hid (hs.step hb1)
  have HG1 := Lib.hid (grownBy_below (r := some g) hb1)
  have K1 := Lib.hid k2
  have HW0 := Lib.hid hs.below.size
  clear k2 hb1 hs
  obtain ⟨w1, hw1⟩ : ∃ w1, w1 = w.alloc (.cells #[.slice none 0 0] 31) := ⟨_, rfl⟩
  rw [← hw1] at HS1 HG1 K1
  have HW1 := Lib.hid hw1
  clear hw1
  go_enter Tryz.func115, Tryz.ntmps115
  go_wp2_with fail
  rw [← HW1.out]
  clear HW1
  refine (l04Draw_c g w0 _ HS1.out).mono ?_
  rintro e w2 ⟨r2, rfl, hD⟩
  obtain ⟨ra, rn, rc, rfl⟩ := hD.shape
  have hb3 : Below w2.heap.size w2 (w2.alloc (.cells #[.slice ra rn rc] 31)) := (Below.refl _ _).alloc (Nat.le_refl _) _
  have K2 := Lib.hid ((K1.out.past HS1.out (by decide) hD.grown).kept hb3.block)
  have A2 := Lib.hid (Cell1.new w2 (.slice ra rn rc) 31)
  have HD := Lib.hid ((hD.up HG1.out).step hb3)
  have HZ := Lib.hid (Nat.lt_of_lt_of_le K1.out.lt hD.grown.size)
  clear hD hb3
  obtain ⟨w3, hw3⟩ : ∃ w3, w3 = w2.alloc (.cells #[.slice ra rn rc] 31) := ⟨_, rfl⟩
  rw [← hw3] at K2 A2 HD
  have HW3 := Lib.hid hw3
  clear hw3
  go_wp2_with fail
  rw [← HW3.out]
  clear HW3
  refine (l01Next_pos g 30 w0 _ HD.out.src (by omega) (by omega)).mono ?_
  rintro e w4 ⟨r4, rfl, ⟨h40, h41⟩, hs4, hg4⟩
  have K4 := Lib.hid (K2.out.past HD.out.src (by decide) hg4)
  have A4 := Lib.hid (A2.out.past HD.out.src (by decide) hg4)
  have HD4 := Lib.hid (HD.out.past hs4 hg4)
  clear hs4 hg4 HD
  obtain ⟨⟨us, xss, hR, hxl⟩, hS4, hG4⟩ := HD4.out
  have HR := Lib.hid hR; have HS4 := Lib.hid hS4; have HG4 := Lib.hid hG4
  have hsz4 := hG4.size
  clear hR hS4 hG4
  have hne : w.heap.size ≠ w2.heap.size := by have := HZ.out; omega
  have hne2 : w2.heap.size ≠ w.heap.size := by have := HZ.out; omega
  by_cases e0 : r4 = 0
  · subst e0
    have hba : Below w4.heap.size w4 (w4.alloc (.cells #[.int .i64 1] 2)) := (Below.refl _ _).alloc (Nat.le_refl _) _
    have RX := Lib.hid (HR.out.keepD hba.block)
    have AX := Lib.hid (A4.out.kept hba.block)
    have KX := Lib.hid (K4.out.kept hba.block)
    have SX := Lib.hid (HS4.out.step hba)
    have GX := Lib.hid (grown_below2 HG4.out hba)
    have LI := Lib.hid (lit_ints w4 [1] (by simp))
    have q3 := A4.out.c0
    clear hba
    go_wp2_with (at_builtin; refine append_ref1 rfl _ _ rfl w.heap.size _ (.slice (some ⟨w4.heap.size, 0, none⟩) 1 1) us _ [1] RX.out rfl (by exact LI.out) (Below.refl _ _) GX.out.size _ rfl (by simp) (by omega) ?_; intro v5 w5 hR5 hb5 _ h45 _ _; obtain ⟨pa, pn, pc, rfl⟩ := own_shape hR5.row; have K55 := AX.out.app RX.out.row h45 (by decide); have q5 := K55.c0; have f5 := K55.free 0; have K56 := KX.out.app RX.out.row h45 (by decide); have q6 := K56.c0; have f6 := K56.free 0)
    have K5 := Lib.hid ((KX.out.app RX.out.row h45 (by decide)).setFar ⟨w2.heap.size, 0, none⟩ hne (.slice pa pn pc))
    have AS := AX.out.app RX.out.row h45 (by decide)
    have D5 := Lib.hid (DrewM.store (j := 0) (u := .slice pa pn pc) (DrewM.app (m := 20) SX.out GX.out HW0.out RX.out h45 hb5 hR5 (by first | (simp; omega) | simp)) AS (Nat.le_of_lt HZ.out) HW0.out (by decide) (by decide) (by decide))
    have g0 := (K5.out.set (.slice pa pn pc)).c0
    exact bodyPost_ret (v := .agg #[.slice pa pn pc]) (by simp [results, Tryz.results115, go_sem, g0]) rfl
      ⟨_, rfl, D5.out.store K5.out (Nat.le_refl _) HW0.out (by decide) (by decide) (by decide)⟩
  by_cases e1 : r4 = 1
  · subst e1
    have hba : Below w4.heap.size w4 ((w4.alloc (.cells #[] 56)).alloc (.cells #[.int .i64 1, .int .i64 0] 2)) := ((Below.refl _ _).alloc (Nat.le_refl _) _).alloc (by simp) _
    have RX := Lib.hid ((ref_empty (w := w4) (B := w.heap.size) w4.heap hsz4).same (alloc_old _ (.cells #[.int .i64 1, .int .i64 0] 2)) |>.grow hba.block)
    have AX := Lib.hid (A4.out.kept hba.block)
    have KX := Lib.hid (K4.out.kept hba.block)
    have SX := Lib.hid (HS4.out.step hba)
    have GX := Lib.hid (grown_below2 HG4.out hba)
    have LI := Lib.hid (lit_ints (w4.alloc (.cells #[] 56)) [1, 0] (by simp))
    clear hba
    go_wp2_with (at_builtin; refine append_ref1 rfl _ _ rfl w.heap.size _ (.slice (some ⟨w4.heap.size + 1, 0, none⟩) 2 2) [] _ [1, 0] RX.out rfl (by have := LI.out; simpa using this) (Below.refl _ _) GX.out.size _ rfl (by simp) (by simp) ?_; intro v5 w5 hR5 hb5 _ h45 _ _; obtain ⟨pa, pn, pc, rfl⟩ := own_shape hR5.row; have K55 := AX.out.app RX.out.row h45 (by decide); have q5 := K55.c0; have f5 := K55.free 0; have K56 := KX.out.app RX.out.row h45 (by decide); have q6 := K56.c0; have f6 := K56.free 0)
    have K5 := Lib.hid ((KX.out.app RX.out.row h45 (by decide)).setFar ⟨w2.heap.size, 0, none⟩ hne (.slice pa pn pc))
    have AS := AX.out.app RX.out.row h45 (by decide)
    have D5 := Lib.hid (DrewM.store (j := 0) (u := .slice pa pn pc) (DrewM.app (m := 20) SX.out GX.out HW0.out RX.out h45 hb5 hR5 (by first | (simp; omega) | simp)) AS (Nat.le_of_lt HZ.out) HW0.out (by decide) (by decide) (by decide))
    have g0 := (K5.out.set (.slice pa pn pc)).c0
    exact bodyPost_ret (v := .agg #[.slice pa pn pc]) (by simp [results, Tryz.results115, go_sem, g0]) rfl
      ⟨_, rfl, D5.out.store K5.out (Nat.le_refl _) HW0.out (by decide) (by decide) (by decide)⟩
  by_cases e2 : r4 = 2
  · subst e2
    have hb3 : Below w4.heap.size w4 (w4.alloc (.cells #[] 56)) := (Below.refl _ _).alloc (Nat.le_refl _) _
    have R3 := Lib.hid ((ref_empty (w := w4) (B := w.heap.size) w4.heap hsz4).grow hb3.block)
    have A3 := Lib.hid (A4.out.kept hb3.block)
    have K3 := Lib.hid (K4.out.kept hb3.block)
    have S3 := Lib.hid (HS4.out.step hb3)
    have G3 := Lib.hid (grown_below2 HG4.out hb3)
    have pk := pick_lit g w0 _ [41, -1, 40] S3.out (by simp) (by simp)
    simp only [size_alloc_w] at pk
    have PK := Lib.hid pk
    clear pk
    clear hb3
    go_wp2_with fail
    refine PK.out.mono ?_
    rintro e w6 ⟨r6, rfl, -, hs6, hg6⟩
    have hba : Below w6.heap.size w6 (w6.alloc (.cells #[.int .i64 r6] 2)) := (Below.refl _ _).alloc (Nat.le_refl _) _
    have RX := Lib.hid ((R3.out.past S3.out hg6).keepD hba.block)
    have AX := Lib.hid ((A3.out.past S3.out (by decide) hg6).kept hba.block)
    have KX := Lib.hid ((K3.out.past S3.out (by decide) hg6).kept hba.block)
    have SX := Lib.hid (hs6.step hba)
    have GX := Lib.hid (grown_below2 (grownBy_trans G3.out hg6) hba)
    have LI := Lib.hid (lit_ints w6 [r6] (by simp))
    clear hba hs6 hg6
    go_wp2_with (at_builtin; refine append_ref1 rfl _ _ rfl w.heap.size _ (.slice (some ⟨w6.heap.size, 0, none⟩) 1 1) [] _ [r6] RX.out rfl (by exact LI.out) (Below.refl _ _) GX.out.size _ rfl (by simp) (by simp) ?_; intro v5 w5 hR5 hb5 _ h45 _ _; obtain ⟨pa, pn, pc, rfl⟩ := own_shape hR5.row; have K55 := AX.out.app RX.out.row h45 (by decide); have q5 := K55.c0; have f5 := K55.free 0; have K56 := KX.out.app RX.out.row h45 (by decide); have q6 := K56.c0; have f6 := K56.free 0)
    have K5 := Lib.hid ((KX.out.app RX.out.row h45 (by decide)).setFar ⟨w2.heap.size, 0, none⟩ hne (.slice pa pn pc))
    have AS := AX.out.app RX.out.row h45 (by decide)
    have D5 := Lib.hid (DrewM.store (j := 0) (u := .slice pa pn pc) (DrewM.app (m := 20) SX.out GX.out HW0.out RX.out h45 hb5 hR5 (by first | (simp; omega) | simp)) AS (Nat.le_of_lt HZ.out) HW0.out (by decide) (by decide) (by decide))
    have g0 := (K5.out.set (.slice pa pn pc)).c0
    exact bodyPost_ret (v := .agg #[.slice pa pn pc]) (by simp [results, Tryz.results115, go_sem, g0]) rfl
      ⟨_, rfl, D5.out.store K5.out (Nat.le_refl _) HW0.out (by decide) (by decide) (by decide)⟩
  · have u0 := (neB e0).1; have u1 := (neB e1).1; have u2 := (neB e2).1
    have qA := A4.out.c0; have qR := K4.out.c0; have fR := K4.out.free 0
    go_wp2_with fail
    have g0 := (K4.out.set (.slice ra rn rc)).c0
    exact bodyPost_ret (v := .agg #[.slice ra rn rc]) (by simp [results, Tryz.results115, go_sem, g0]) rfl
      ⟨_, rfl, (HD4.out.le (n := 20) (by omega)).store K4.out (Nat.le_refl _) HW0.out (by decide) (by decide) (by decide)⟩
end
end Go.Proofs.YtmnkccjddahcjaaGreat

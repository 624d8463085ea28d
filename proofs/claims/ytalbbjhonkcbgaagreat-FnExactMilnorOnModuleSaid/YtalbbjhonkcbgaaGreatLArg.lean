/- Arguments of the type [][]int64: how they read; their sizes and copies. -/
import Derived.Test.YtalbbjhonkcbgaaGreatBase2
import Derived.Test.YtalbbjhonkcbgaaGreatFn
import Derived.Test.YtalbbjhonkcbgaaGreatLib3
import Derived.Deep.Matrix
import Derived.Lib.SmallJoins
namespace Go.Proofs.YtalbbjhonkcbgaaGreat
open Go.RowKit Go.Sort Go.Deep

/-- What is told of a slice of slices of int64 that came in: each element is a slice that reads; xss: the rows' elements. -/
def IsRows (w : World) (a : Option Addr) (len : Nat) (xss : List (List Int)) : Prop :=
  xss.length = len ∧ len ≤ 9223372036854775807 ∧ ∀ i, i < len → ∃ b off A L C Z, a = some ⟨b, off, none⟩ ∧ b < w.heap.size ∧ w.cell? ⟨b, off + i, none⟩ = some (.slice A L C) ∧ IsRow .i64 w A L C Z ∧ xss[i]? = some (Z.take L) ∧ (Z.take L).length = L

theorem IsRows.same {w w' : World} {a : Option Addr} {len : Nat} {xss : List (List Int)} (h : IsRows w a len xss) (e : ∀ b, b < w.heap.size → w'.heap[b]? = w.heap[b]?) (hs : w.heap.size ≤ w'.heap.size) : IsRows w' a len xss := by
  refine ⟨h.1, h.2.1, fun i hi => ?_⟩
  obtain ⟨b, off, A, L, C, Z, h1, h2, h3, h4, h5⟩ := h.2.2 i hi
  exact ⟨b, off, A, L, C, Z, h1, by omega, by rw [World.cell?_of_block (e b h2)]; exact h3, h4.same e, h5⟩

theorem IsRow.le {k : IntKind} {w : World} {A : Option Addr} {L C : Nat} {Z : List Int} (h : IsRow k w A L C Z) : L ≤ 9223372036854775807 := by
  rcases h with ⟨_, rfl, _⟩ | ⟨x, _, h1, h2, _⟩
  · omega
  · unfold maxLen at h2; omega

section
variable {H : Type} {enc : TypeId × Value → H} {P : Program} {w : World} {base : Nat} {held : Bool}
theorem isRows_of {t e q : TypeId} {fuel : Nat} {cs : List Value} {x : DataW H × List MemPlace} (ht : P.underlying t = some (.slice e)) (he : P.underlying e = some (.slice q)) (hq : P.underlying q = some (.int .i64))
    (ce : P.cellsOf e = 1) (cq : P.cellsOf q = 1) (h : DataW.trod enc P w base (fun _ => true) held fuel t cs = some x) : ∃ a len cap xss, cs = [.slice a len cap] ∧ IsRows w a len xss := by
  rcases open_int_rows ht he hq ce cq h with ⟨hcs, _⟩ | ⟨a, len, cap, A, L, C, Z, hcs, _, hl, hm, _, hr⟩
  · exact ⟨none, 0, 0, [], hcs, rfl, Nat.zero_le _, fun i hi => absurd hi (Nat.not_lt_zero _)⟩
  · refine ⟨some a, len, cap, (List.range len).map fun r => (Z r).take (L r), hcs, by simp, by unfold maxLen at hm; omega, fun i hi => ?_⟩
    obtain ⟨hc, r1, r2, r3, r4, r5, r6⟩ := hr i (by omega)
    obtain ⟨b, off, spot⟩ := a
    cases spot with
    | some s =>
      have h5 := (hr 0 (by omega)).1
      rw [show (⟨b, off, some s⟩ : Addr).add 0 = ⟨b, off, some s⟩ by simp [Addr.add], cell_spot] at h5; cases h5
    | none =>
      rw [Addr.add_lit] at hc
      refine ⟨b, off, A i, L i, C i, Z i, rfl, World.block_lt_of_cell? w _ hc, hc, ?_, by simp [hi], by rw [List.length_take]; omega⟩
      cases hA : A i with
      | none =>
        have hC := r5 hA
        exact .inl ⟨rfl, by omega, hC, List.eq_nil_of_length_eq_zero (by omega)⟩
      | some a' => exact .inr ⟨a', rfl, r1, r2, r3, fun c hc => (r6 a' hA).2 c (by omega), r4⟩
variable {spare : Nat → Bool}
theorem open_agg1 {r : Reach} {b0 : Nat} {t : TypeId} {f0 : Field} {v : Value} {d : DataW H} {p : List MemPlace} (hs : P.underlying t = some (.struct #[f0])) (hone : oneCellFields P #[f0] = true) (hC : P.cellsOf t = 1)
    (hv : Value.okWide P w r b0 t v) (h : DataW.Trod enc P w base spare held t v d p) :
    ∃ (v0 : Value) (y0 : DataW H × List MemPlace) (n : Nat), v = .agg #[v0] ∧ DataW.trod enc P w base spare held n f0.type [v0] = some y0 := by
  obtain ⟨cs, rfl, hsz⟩ := Go.WideShapes.okWide_struct hs hv
  obtain ⟨l⟩ := cs
  match l, hsz.trans hC with
  | [c0], _ =>
    obtain ⟨fuel, hf⟩ := h
    obtain ⟨xs, n, _, hx, hl, hlen, hf⟩ := DataW.trod_struct hs hf
    obtain ⟨o0, k0⟩ := hone_of hone 0 f0 rfl
    match xs, hlen with
    | [y0], _ => exact ⟨c0, y0, n, rfl, by simpa [Value.cells, o0, k0] using hf 0 f0 rfl⟩
end
/-- What is left of a bound behind the sizes of a slice of slices, or -1. -/
def szR (xss : List (List Int)) (left : Nat) : Int := if xss.length + cnt xss ≤ left then (left : Int) - (xss.length + cnt xss : Nat) else -1
theorem szInt64S_c (a : Option Addr) (len cap : Nat) (left : Nat) (w : World) (h1 : left ≤ 1048576) (h2 : len ≤ 9223372036854775807) :
    Calls Tryz.prog 18 #[.slice a len cap, .int .i64 left] w fun e w' => e = .returned (.int .i64 (if len ≤ left then (left : Int) - (len : Int) else -1)) ∧ w = w' := by
  by_cases hl : len ≤ left
  · rw [if_pos hl]
    have t : decide ((left : Int) - (len : Int) < 0) = false := by simp; omega
    go_enter Tryz.func18, Tryz.ntmps18
    go_wp2_with fail
    go_ret
    exact ⟨rfl, rfl⟩
  · rw [if_neg hl]
    have t : decide ((left : Int) - (len : Int) < 0) = true := by simp; omega
    go_enter Tryz.func18, Tryz.ntmps18
    go_wp2_with fail
    go_ret
    exact ⟨rfl, rfl⟩
theorem szInt64SS_c (a : Option Addr) (len cap : Nat) (xss : List (List Int)) (left : Nat) (w : World) (h : IsRows w a len xss) (h1 : left ≤ 1048576) :
    Calls Tryz.prog 19 #[.slice a len cap, .int .i64 left] w fun e w' => e = .returned (.int .i64 (szR xss left)) ∧ w = w' := by
  obtain ⟨hln, hlm, hr⟩ := h
  have HL := Lib.hid hln; have HR := Lib.hid hr; clear hln hr
  by_cases hl : len ≤ left
  · have t : decide ((left : Int) - (len : Int) < 0) = false := by simp; omega
    go_enter Tryz.func19, Tryz.ntmps19
    go_wp2_with fail
    go_loop [1, 5] (fun s i => ∃ j : Nat, j ≤ len ∧ i = .int .i64 j ∧ cnt (xss.take j) + len ≤ left ∧ s = .int .i64 (((left - len - cnt (xss.take j) : Nat) : Int))) (fun _ i => len - (intOf i).toNat)
    case atStart => exact ⟨0, Nat.zero_le _, rfl, by simp [cnt]; omega, by simp [cnt]; omega⟩
    case round =>
      obtain ⟨j, hj, rfl, hc, rfl⟩ := hrel
      by_cases hlt : j < len
      · obtain ⟨b, off, A, L, C, Z, rfl, hb, hcl, hrow, hx, hZ⟩ := HR.out j hlt
        have hcs := cnt_take_succ xss j (by have := HL.out; omega)
        have hxe : xss[j]'(by have := HL.out; omega) = Z.take L := by
          rw [List.getElem?_eq_getElem (by have := HL.out; omega)] at hx; exact Option.some.inj hx
        rw [hxe, hZ] at hcs
        have HCS := Lib.hid hcs
        have HXX := Lib.hid (cnt_take_le xss (j + 1))
        clear hcs hx hZ hxe
        have HN := Lib.hid (show szR xss left = if xss.length + cnt xss ≤ left then (left : Int) - (xss.length + cnt xss : Nat) else -1 from rfl)
        have hLm := IsRow.le hrow
        clear hrow
        generalize hq : left - len - cnt (xss.take j) = q
        have HQ := Lib.hid hq; clear hq
        by_cases hLq : L ≤ q
        · have HS := Lib.hid (szInt64S_c A L C q w (by have := HQ.out; omega) hLm)
          rw [if_pos hLq] at HS
          have t1 : decide ((q : Int) - (L : Int) < 0) = false := by simp; omega
          have hqb : q ≤ 1048576 := by have := HQ.out; omega
          go_wp2_with fail
          refine HS.out.mono ?_
          rintro e w' ⟨rfl, rfl⟩
          go_wp2_with fail
          go_round
          case rel => exact ⟨j + 1, by omega, by go_num, by rw [HCS.out]; have := HQ.out; omega, by rw [HCS.out]; have := HQ.out; congr 1; omega⟩
          case measure => simp [intOf]; omega
        · have HS := Lib.hid (szInt64S_c A L C q w (by have := HQ.out; omega) hLm)
          rw [if_neg hLq] at HS
          have e : Hid (szR xss left = -1) := by
            show _ = _
            rw [HN.out, if_neg]; have := HQ.out; have := HCS.out; have := HXX.out; have := HL.out; omega
          go_wp2_with fail
          refine HS.out.mono ?_
          rintro e w' ⟨rfl, rfl⟩
          go_wp2_with fail
          go_ret
          exact ⟨by rw [e.out]; rfl, rfl⟩
      · obtain rfl : j = len := by omega
        have e : Hid (szR xss left = ((left - j - cnt (xss.take j) : Nat) : Int)) := by
          show _ = _
          have e1 := HL.out
          rw [List.take_of_length_le (by omega)] at hc ⊢
          unfold szR; rw [if_pos (by omega)]; omega
        go_wp2_with fail
        go_ret
        exact ⟨by rw [e.out]; rfl, rfl⟩
  · have t : decide ((left : Int) - (len : Int) < 0) = true := by simp; omega
    have e : szR xss left = -1 := by unfold szR; rw [if_neg]; have := HL.out; omega
    rw [e]; clear e
    go_enter Tryz.func19, Tryz.ntmps19
    go_wp2_with fail
    go_ret
    exact ⟨rfl, rfl⟩
/-- A new row is laid at place j. -/
theorem OwnU.put {wE w : World} {B g n c : Nat} {us : List Value} {xss : List (List Int)} {u : Value} {ys : List Int} (h : OwnU wE B (.slice (some ⟨g, 0, none⟩) n c) us xss) (hE : Below wE.heap.size wE w) (hu : OwnI w wE.heap.size u ys) (j : Nat) (hj : j < xss.length) :
    OwnU (w.setCell ⟨g, j, none⟩ u) B (.slice (some ⟨g, 0, none⟩) n c) (us.set j u) (xss.set j ys) := by
  obtain rfl : n = xss.length := by
    rcases h.row.2 with ⟨hv, h0⟩ | ⟨_, _, _, hv, _⟩
    · simp at hv
    · simp only [Value.slice.injEq] at hv; exact hv.2.1
  have hW := h.same hE.block
  have hl := h.len
  have hg := (World.ownsRow.lt h.row g rfl).2
  have hug : u.ownBlock ≠ some g := fun e => by have := (World.ownsRow.lt hu g e).1; omega
  refine ⟨?_, fun i x xs hx hy => ?_, fun i k x x' hik hx hx' => ?_⟩
  · rw [List.length_set]; exact (hW.row.stored j u).1
  · by_cases e : j = i
    · subst e
      rw [List.getElem?_set_self (by omega)] at hx hy
      simp only [Option.some.injEq] at hx hy
      subst hx; subst hy
      exact own_setCell_other (own_base hu (by have := (World.ownsRow.lt h.row g rfl).1; have := hE.size; omega)) _ hug _
    · rw [List.getElem?_set_ne e] at hx hy
      have ho := hW.each i x xs hx hy
      refine own_setCell_other ho _ ?_ _
      rcases own_ne_types ho hW.row (by decide) with e1 | e1
      · rw [e1]; simp
      · exact e1
  · have old : ∀ (i : Nat) x b, us[i]? = some x → x.ownBlock = some b → b < wE.heap.size := fun i x b hx hb => by
      have hi : i < us.length := (List.getElem?_eq_some_iff.1 hx).1
      exact (World.ownsRow.lt (h.each i x _ hx (List.getElem?_eq_getElem (show i < xss.length by omega))) b hb).2
    by_cases e1 : j = i
    · subst e1
      rw [List.getElem?_set_self (by omega)] at hx
      rw [List.getElem?_set_ne (by omega)] at hx'
      simp only [Option.some.injEq] at hx
      subst hx
      cases hb : u.ownBlock with
      | none => exact .inl rfl
      | some b =>
        right
        intro e2
        have h1 := (World.ownsRow.lt hu b hb).1
        have h2 := old k x' b hx' e2.symm
        omega
    · rw [List.getElem?_set_ne e1] at hx
      by_cases e2 : j = k
      · subst e2
        rw [List.getElem?_set_self (by omega)] at hx'
        simp only [Option.some.injEq] at hx'
        subst hx'
        cases hb : x.ownBlock with
        | none => exact .inl rfl
        | some b =>
          right
          intro e2
          have h1 := (World.ownsRow.lt hu b e2.symm).1
          have h2 := old i x b hx hb
          omega
      · rw [List.getElem?_set_ne e2] at hx'
        exact h.apart i k x x' hik hx hx'
theorem copyStep (xss : List (List Int)) (len j : Nat) (hl : xss.length = len) (hj : j < len) : (xss.take j ++ List.replicate (len - j) []).set j (xss[j]'(by omega)) = xss.take (j + 1) ++ List.replicate (len - (j + 1)) [] := by
  rw [List.set_append_right _ _ (by simp; omega), show len - j = (len - (j + 1)) + 1 by omega, List.replicate_succ]
  rw [show j - (xss.take j).length = 0 by simp; omega, List.set_cons_zero, List.take_succ_eq_append_getElem (by omega), List.append_assoc]
  rfl
theorem toInt64SS_c (a : Option Addr) (len cap : Nat) (xss : List (List Int)) (w : World) (h : IsRows w a len xss) (h1 : xss.length + cnt xss ≤ 1048576) :
    Calls Tryz.prog 24 #[.slice a len cap] w fun e w' => ∃ v, e = .returned v ∧ OwnII w' w.heap.size v xss ∧ Below w.heap.size w w' := by
  have H := Lib.hid h
  have hlen : len ≤ 1048576 := by have := h.1; omega
  have HL := Lib.hid h.1
  have HC := Lib.hid h1
  have hmk := fun w => make_run (P := Tryz.prog) 23 22 _ 24 info_slI Tryz.underlying23 rfl (by omega) len (by omega) .i64 .i64 (len : Int) (len : Int) rfl rfl w
  clear h h1
  go_enter Tryz.func24, Tryz.ntmps24
  go_wp2_with fail
  clear hmk
  go_loopw [4] (fun i wr => ∃ (j : Nat) (us : List Value), j ≤ len ∧ i = .int .i64 j ∧ OwnU wr w.heap.size (.slice (some ⟨w.heap.size, 0, none⟩) len len) us (xss.take j ++ List.replicate (len - j) []) ∧ Below w.heap.size w wr) (fun i _ => len - (intOf i).toNat)
  case atStart =>
    refine ⟨0, List.replicate len (.slice none 0 0), Nat.zero_le _, rfl, ⟨?_, fun i u xs hu hx => ?_, fun i j u u' _ hu _ => ?_⟩, (Below.refl _ _).alloc (Nat.le_refl _) _⟩
    · have := made_own w w.heap.size 22 len (.slice none 0 0) (Nat.le_refl _) (by omega)
      simpa using this
    · simp only [List.take_zero, List.nil_append, Nat.sub_zero] at hx
      simp only [List.getElem?_replicate, Option.ite_none_right_eq_some, Option.some.injEq] at hu hx
      obtain ⟨_, rfl⟩ := hu
      obtain ⟨_, rfl⟩ := hx
      exact OwnI.nil _ _
    · simp only [List.getElem?_replicate, Option.ite_none_right_eq_some, Option.some.injEq] at hu
      obtain ⟨_, rfl⟩ := hu
      exact .inl rfl
  case round =>
    obtain ⟨j, us, hj, rfl, hown, hbl⟩ := hrel
    by_cases hlt : j < len
    · obtain ⟨b, off, A, L, C, Z, rfl, hb, hcl, hrow, hx, hZ⟩ := (H.out.same hbl.block hbl.size).2.2 j hlt
      have hxe : xss[j]'(by have := HL.out; omega) = Z.take L := by
        rw [List.getElem?_eq_getElem (by have := HL.out; omega)] at hx; exact Option.some.inj hx
      have hcs := cnt_take_succ xss j (by have := HL.out; omega)
      rw [hxe, hZ] at hcs
      have hcs2 := cnt_take_le xss (j + 1)
      have hL : L ≤ 1048576 := by have := HC.out; omega
      have C1 := Lib.hid (toInt64S_c A L C Z wr hrow hL)
      have HST := Lib.hid (copyStep xss len j HL.out hlt)
      rw [hxe] at HST
      have hg : w.heap.size < wr.heap.size := (World.ownsRow.lt hown.row _ rfl).2
      have HO := Lib.hid hown; have HB := Lib.hid hbl
      clear hxe hcs hcs2 hx hZ hrow hL hown hbl
      go_wp2_with fail
      refine C1.out.mono ?_
      rintro e w1 ⟨u, rfl, hu, hb1⟩
      obtain ⟨ua, ul, uc, rfl⟩ := own_shape hu
      have hU1 := HO.out.same hb1.block
      have hlu := HO.out.len
      have hln : (xss.take j ++ List.replicate (len - j) ([] : List Int)).length = len := by have := HL.out; simp; omega
      have hrw := hU1.row
      rw [hln] at hrw
      have hcc : w1.cell? ⟨w.heap.size, j, none⟩ = some (us[j]'(by omega)) := by
        have := hrw.cellAt j (by omega)
        rw [this, List.getElem?_eq_getElem]
      have hf := hrw.frozenAt j
      clear hrw
      have hp := OwnU.put HO.out hb1 hu j (by omega)
      rw [HST.out] at hp
      have HP := Lib.hid hp; have HB1 := Lib.hid hb1
      generalize us[j]'(by omega) = old at hcc
      clear hp hU1 hu hb1 hlu hln
      go_wp2_with fail
      go_roundw
      case rel => exact ⟨j + 1, _, by omega, by go_num, HP.out, (HB.out.trans (HB1.out.mono HB.out.size)).setCell (Nat.le_refl _) _⟩
      case measure => simp [intOf]; omega
    · obtain rfl : j = len := by omega
      have e : xss.take j ++ List.replicate (j - j) [] = xss := by rw [List.take_of_length_le (by have := HL.out; omega)]; simp
      rw [e] at hown
      go_wp2_with fail
      go_ret
      exact ⟨_, rfl, ⟨us, hown⟩, hbl⟩
end Go.Proofs.YtalbbjhonkcbgaaGreat

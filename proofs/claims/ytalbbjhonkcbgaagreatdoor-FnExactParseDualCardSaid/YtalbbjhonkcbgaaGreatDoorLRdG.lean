/- Reading texts: of the program: its variables, numbers and parts. -/
import Derived.Test.YtalbbjhonkcbgaaGreatDoorLRdP
import Derived.Test.YtalbbjhonkcbgaaGreatDoorLRdLay
import Derived.Test.YtalbbjhonkcbgaaGreatDoorLRdS
import Derived.Lib.LaidTab
import Derived.Lib.AtoiErrMem
import Derived.Lib.AppendIntMem
namespace Go.Proofs.YtalbbjhonkcbgaaGreatDoor
open Go.RowKit Go.Sort

/-- What the library's own variables hold. -/
structure Glob (w : World) : Prop where
  max : ∃ m, w.cell? ⟨0, 0, none⟩ = some (.int .i64 m)
  syn : ∃ ev, w.cell? ⟨1, 0, none⟩ = some ev ∧ (ev = .nilIface ∨ ∃ te pe, ev = .iface te pe)
  rng : ∃ ev, w.cell? ⟨2, 0, none⟩ = some ev ∧ (ev = .nilIface ∨ ∃ te pe, ev = .iface te pe)
  tab : Go.Lib.TabIs Tryz.prog w "internal/strconv.uint64pow10" .u64 Go.Lib.pow10Tab
theorem var_same {P : Program} {w w' : World} {n : String} {cs : Array Value} (h : w.var? P n = some cs) (k : ∀ b, b < w.heap.size → w'.heap[b]? = w.heap[b]?) : w'.var? P n = some cs := by
  unfold World.var? at *
  cases hg : P.globalNamed n with
  | none => rw [hg] at h; cases h
  | some g =>
    rw [hg] at h
    simp only [Option.bind_some] at h ⊢
    by_cases hb : g < w.heap.size
    · rw [k g hb]; exact h
    · rw [Array.getElem?_eq_none (by omega)] at h; cases h
theorem Glob.same {w w' : World} (h : Glob w) (k : ∀ b, b < w.heap.size → w'.heap[b]? = w.heap[b]?) : Glob w' := by
  obtain ⟨m, hm⟩ := h.max
  obtain ⟨e1, h1, g1⟩ := h.syn
  obtain ⟨e2, h2, g2⟩ := h.rng
  refine ⟨⟨m, (World.cell?_of_block (k _ (World.block_lt_of_cell? _ _ hm))).trans hm⟩, ⟨e1, (World.cell?_of_block (k _ (World.block_lt_of_cell? _ _ h1))).trans h1, g1⟩, ⟨e2, (World.cell?_of_block (k _ (World.block_lt_of_cell? _ _ h2))).trans h2, g2⟩, ?_⟩
  have := h.tab
  unfold Go.Lib.TabIs at *
  exact var_same this k
theorem Glob.below {w w' : World} (h : Glob w) (b : Below w.heap.size w w') : Glob w' := h.same b.block
theorem decimalG_c (n : Nat) (hn : n ≤ 9223372036854775807) (w : World) (hG : Glob w) : Calls Tryz.prog 60 #[.int .i64 n] w fun e w' => e = .returned (.string (bs (Go.Lib.decDigits n))) ∧ Below w.heap.size w w' := by
  have C := Lib.hid (Go.Proofs.Tryz.strconv_FormatInt_10 n (by omega) (by omega) w hG.tab)
  have hi : Go.Lib.itoa (n : Int) = Go.Lib.decDigits n := by rw [Go.Lib.itoa, if_neg (by omega), Int.toNat_natCast]
  rw [hi] at C
  clear hi
  have HB : Hid (bs (Go.Lib.decDigits n) = ⟨(Go.Lib.decDigits n).toArray⟩) := rfl
  generalize bs (Go.Lib.decDigits n) = y at *
  go_enter Tryz.func60, Tryz.ntmps60
  go_wp2_with (go_at_call 90; refine C.out.mono ?_; rintro e w1 ⟨rfl, k, os, rfl⟩)
  go_ret
  exact ⟨by rw [HB.out]; rfl, Go.Lib.below_grow _ _ (Nat.le_refl _) k os⟩
set_option maxRecDepth 100000 in
set_option maxHeartbeats 1000000 in
theorem readDecimal_c (l : List UInt8) (hl : l.length ≤ 2000000) (w : World) (hG : Glob w) :
    Calls Tryz.prog 42 #[.string (bs l)] w fun e w' => ∃ n, e = .returned (.tuple #[.int .i64 n, .bool (readB l)]) ∧ (readB l = true → n = (valN l : Int)) ∧ Below w.heap.size w w' := by
  have hz := bs_size l
  by_cases h15 : 15 < l.length
  · have t1 : decide ((15 : Int) < (l.length : Int)) = true := by simp; omega
    have e : readB l = false := by unfold readB; rw [decide_eq_false (by omega)]; rfl
    rw [e]
    clear e hG
    generalize bs l = s at *
    generalize l.length = n at *
    go_enter Tryz.func42, Tryz.ntmps42
    go_wp2_with fail
    go_ret2
    exact ⟨_, rfl, (fun h => by cases h), Below.refl _ _⟩
  have t1 : decide ((15 : Int) < (l.length : Int)) = false := by simp; omega
  have hrd : readB l = canB l := by unfold readB; rw [decide_eq_true (by omega)]; rfl
  have hpc := fun h => parse_can (w := l) h (by omega)
  obtain ⟨ev1, hs0, hs⟩ := hG.syn
  obtain ⟨ev2, hr0, hr⟩ := hG.rng
  have hdl : (bs l).data.toList = l := bs_data l
  cases hP : Go.Lib.parseIntB 64 l
  rotate_left
  · skip
    have e : readB l = false := by
      cases hc : canB l
      · rw [hrd, hc]
      · rw [hpc hc] at hP; cases hP
    have C := Lib.hid (Go.Proofs.Tryz.strconv_ParseInt_10_at64_syntax (bs l) (by rw [hz]; omega) (by rw [hdl]; exact hP) _ w hs0 hs)
    rw [e]
    clear e hG hP hs hr hs0 hr0 hdl hpc hrd
    generalize bs l = s at *
    generalize l.length = n at *
    go_enter Tryz.func42, Tryz.ntmps42
    go_wp2_with (go_at_call 59; refine C.out.mono ?_; rintro e w1 ⟨N, rfl, -, -, hb⟩)
    go_ret2
    exact ⟨_, rfl, (fun h => by cases h), hb⟩
  · skip
    have e : readB l = false := by
      cases hc : canB l
      · rw [hrd, hc]
      · rw [hpc hc] at hP; cases hP
    have C := Lib.hid (Go.Proofs.Tryz.strconv_ParseInt_10_at64_range (bs l) (by rw [hz]; omega) (by rw [hdl]; exact hP) _ w hr0 hr)
    rw [e]
    clear e hG hP hs hr hs0 hr0 hpc hrd
    generalize Go.Lib.intSat 64 (bs l).data.toList = q at *
    clear hdl
    generalize bs l = s at *
    generalize l.length = n at *
    go_enter Tryz.func42, Tryz.ntmps42
    go_wp2_with (go_at_call 59; refine C.out.mono ?_; rintro e w1 ⟨N, rfl, -, -, hb⟩)
    go_ret2
    exact ⟨_, rfl, (fun h => by cases h), hb⟩
  · rename_i v
    have hv := Go.Lib.parseIntB_bounds hP
    have C := Lib.hid (Go.Proofs.Tryz.strconv_ParseInt_10_at64_ok (bs l) (by rw [hz]; omega) v (by rw [hdl]; exact hP) w)
    have hbw : ∀ w', (w' = w ∨ ∃ t, w' = Go.Lib.bytesWorld w 5 t) → Below w.heap.size w w' := fun w' h => by
      rcases h with rfl | ⟨t, rfl⟩
      · exact Below.refl _ _
      · exact Go.Lib.bytesWorld_below _ _ _
    have HBW := Lib.hid hbw
    by_cases h0 : 0 ≤ v
    · obtain ⟨n, rfl⟩ := Int.eq_ofNat_of_zero_le h0
      have D := Lib.hid (fun W (hW : Glob W) => decimalG_c n (by have := hv.2; simp at this; omega) W hW)
      have t2 : decide (0 ≤ (n : Int)) = true := by simp
      cases hc : canB l
      · have t3 : ((bs (Go.Lib.decDigits n)).toList == (bs l).toList) = false := by
          rw [Go.Lib.toList_data, Go.Lib.toList_data, bs_data, bs_data]
          have : Go.Lib.decDigits n ≠ l := fun e => by have := ((can_iff l n).1 e).1; rw [hc] at this; cases this
          simpa using this
        rw [hrd, hc]
        have HG := Lib.hid hG
        clear hG hP hs hr hs0 hr0 hpc hrd hdl hv h0 hbw hc
        generalize bs l = s at *
        generalize bs (Go.Lib.decDigits n) = y at *
        generalize l.length = m at *
        go_enter Tryz.func42, Tryz.ntmps42
        go_wp2_with (first | (go_at_call 59; refine C.out.mono ?_; rintro e w1 ⟨rfl, hb⟩; have HB1 := Lib.hid (HBW.out _ hb); clear hb) | (go_at_call 60; refine (D.out _ (HG.out.below HB1.out)).mono ?_; rintro e w2 ⟨rfl, hb2⟩))
        go_ret2
        exact ⟨_, rfl, (fun h => by cases h), HB1.out.trans (hb2.mono HB1.out.size)⟩
      · have hn : n = valN l := by
          have := hpc hc
          rw [hP] at this
          injection this with this
          omega
        have t3 : ((bs (Go.Lib.decDigits n)).toList == (bs l).toList) = true := by
          rw [Go.Lib.toList_data, Go.Lib.toList_data, bs_data, bs_data, (can_iff l n).2 ⟨hc, hn⟩]
          simp
        rw [hrd, hc]
        have HG := Lib.hid hG; have HN := Lib.hid hn
        clear hG hP hs hr hs0 hr0 hpc hrd hdl hv h0 hbw hc hn
        generalize bs l = s at *
        generalize bs (Go.Lib.decDigits n) = y at *
        generalize valN l = vl at *
        generalize l.length = m at *
        go_enter Tryz.func42, Tryz.ntmps42
        go_wp2_with (first | (go_at_call 59; refine C.out.mono ?_; rintro e w1 ⟨rfl, hb⟩; have HB1 := Lib.hid (HBW.out _ hb); clear hb) | (go_at_call 60; refine (D.out _ (HG.out.below HB1.out)).mono ?_; rintro e w2 ⟨rfl, hb2⟩))
        go_ret2
        exact ⟨_, rfl, (fun _ => by rw [HN.out]), HB1.out.trans (hb2.mono HB1.out.size)⟩
    · have e : readB l = false := by
        cases hc : canB l
        · rw [hrd, hc]
        · rw [hpc hc] at hP; injection hP with hP; omega
      have t2 : decide (0 ≤ v) = false := by simp; omega
      rw [e]
      clear e hG hP hs hr hs0 hr0 hpc hrd hdl hv hbw
      generalize bs l = s at *
      generalize l.length = n at *
      go_enter Tryz.func42, Tryz.ntmps42
      go_wp2_with (go_at_call 59; refine C.out.mono ?_; rintro e w1 ⟨rfl, hb⟩)
      go_ret2
      exact ⟨_, rfl, (fun h => by cases h), HBW.out _ hb⟩
/-- A new row of texts. -/
def WordsAt (w : World) (g : Nat) (ws : List (List UInt8)) : Prop := w.heap[g]? = some (.cells (ws.map fun l => Value.string (bs l)).toArray 9 (0, 0))
theorem WordsAt.lt {w : World} {g : Nat} {ws : List (List UInt8)} (h : WordsAt w g ws) : g < w.heap.size := (Array.getElem?_eq_some_iff.1 h).1
theorem WordsAt.same {w w' : World} {g : Nat} {ws : List (List UInt8)} (h : WordsAt w g ws) (k : ∀ b, b < w.heap.size → w'.heap[b]? = w.heap[b]?) : WordsAt w' g ws := (k g h.lt).trans h
theorem WordsAt.cell {w : World} {g : Nat} {ws : List (List UInt8)} (h : WordsAt w g ws) (j : Nat) (hj : j < ws.length) : w.cell? ⟨g, j, none⟩ = some (.string (bs ws[j])) := by
  rw [World.cell?]
  simp only [show w.heap[g]? = _ from h]
  simp [hj]
theorem WordsAt.app {a b : World} {g B n e : Nat} {ws : List (List UInt8)} {v : Value} {us : List Value} (k : WordsAt a g ws) (hr : a.ownsRow B e 1 v n us) (h4 : ∀ i, i < a.heap.size → some i ≠ v.ownBlock → b.heap[i]? = a.heap[i]?) (ne : 9 ≠ e) : WordsAt b g ws := by
  by_cases h : some g = v.ownBlock
  · exfalso
    have hr' := hr
    rcases hr'.2 with ⟨rfl, h1⟩ | ⟨g', cap, cur, rfl, hgB, hg, h2⟩
    · cases h
    · have hgg : g = g' := by simpa [Value.ownBlock] using h
      subst hgg
      have := k.symm.trans hg
      simp only [Option.some.injEq, Obj.cells.injEq] at this
      exact ne this.2.1
  · exact (h4 g k.lt h).trans k
/-- strings.Split at one byte. -/
theorem split_c (c : UInt8) (l : List UInt8) (hl : l.length ≤ 2000000) (w : World) (hG : Glob w) :
    Calls Tryz.prog 29 #[.string (bs l), .string ⟨#[c]⟩] w fun e w' => ∃ g, e = .returned (.slice (some ⟨g, 0, none⟩) (spl c l).length (spl c l).length) ∧ w.heap.size ≤ g ∧ WordsAt w' g (spl c l) ∧ Below w.heap.size w w' := by
  obtain ⟨m, hm⟩ := hG.max
  refine (Go.Proofs.Tryz.strings_Split (bs l) ⟨#[c]⟩ m w (by rw [bs_size]; omega) hm (Nat.le_refl 1)).mono ?_
  rintro e w' ⟨rfl, rfl⟩
  rw [splitB_spl c l, ← spl_len c l, List.map_map]
  exact ⟨w.heap.size, rfl, Nat.le_refl _, heap_alloc_new _ _, (Below.refl _ _).alloc (Nat.le_refl _) _⟩
end Go.Proofs.YtalbbjhonkcbgaaGreatDoor

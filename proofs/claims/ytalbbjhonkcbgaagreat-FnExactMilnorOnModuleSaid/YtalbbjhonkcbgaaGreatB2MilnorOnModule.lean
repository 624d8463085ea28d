/- Texts that lie in one file here: LSmW LSmX LSmY0 LSmY LSmT LSmJ LSmN LSqs LMod LVec LMt1 LMt2 LMt3. -/
import Derived.Test.YtalbbjhonkcbgaaGreatLMil2
import Derived.Test.YtalbbjhonkcbgaaGreatLSum
import Derived.Test.YtalbbjhonkcbgaaGreatLAdd
import Derived.Deep.AppendLies
import Derived.Test.YtalbbjhonkcbgaaGreatLMilArg
import Derived.Deep.DeepCutAuto
import Derived.Deep.RegionHeld3
import Derived.Test.YtalbbjhonkcbgaaGreatLCopy
import Derived.Test.YtalbbjhonkcbgaaGreatLHeld2
import Derived.Test.YtalbbjhonkcbgaaGreatLMil
import Derived.Test.YtalbbjhonkcbgaaGreatLTab
import Derived.Test.YtalbbjhonkcbgaaGreatBaseC
import Derived.Test.YtalbbjhonkcbgaaGreatBaseM
import Derived.Test.YtalbbjhonkcbgaaGreatLCmp
import Derived.Test.YtalbbjhonkcbgaaGreatLib3
import Derived.Deep.RegionLaw
import Derived.BigRegion
import Derived.WalkSpells
import Derived.Test.YtalbbjhonkcbgaaGreatBMilnorOnModule
namespace Go.Proofs.YtalbbjhonkcbgaaGreat
section
open Go.RowKit Go.Sort

section
variable {ops : Array Oper} {rest : List Oper} {o : Oper} {a : Act} {Q : Exit → Act → World → Prop}
/-- 'append(rows, x)', one reference; where the new row lies. -/
theorem append_refQ {w : World} (hg : o.guard = none) (s x : Operand)
    (ho : o.op = .call { callee := .builtin .append, args := #[s, x], argTypes := #[73, 73] })
    (B : Nat) (v u : Value) (us : List Value) (xsss : List (List (List Int))) (xss : List (List Int)) (hR : RefSS w B w.heap v us xsss) (hs : a.eval s = v) (hu : IntSS w.heap u xss) (hB : B ≤ w.heap.size)
    (b : Nat) (hx : a.eval x = .slice (some ⟨b, 0, none⟩) 1 1) (hb : w.heap[b]? = some (.cells #[u] 23 (0, 0))) (hn : xsss.length < 4398046511104)
    (hK : ∀ g n cap us' w', RefSS w' B w'.heap (.slice (some ⟨g, 0, none⟩) n cap) us' (xsss ++ [xss]) → Below B w w' → KeepT 23 w w' → (v.ownBlock = some g ∨ g = w.heap.size) → (∀ b, b < w.heap.size → some b ≠ v.ownBlock → w'.heap[b]? = w.heap[b]?) → wpList Tryz.prog ops Q rest (a.put o.dst (.slice (some ⟨g, 0, none⟩) n cap)) w') :
    wpList Tryz.prog ops Q (o :: rest) a w := by
  obtain ⟨i0, hi, hz0, hz1, hz2⟩ := info_parts info_slSS
  have hl := hR.len
  refine wpList_append_lies w hg s x _ ho B _ i0 _ 1 24 Tryz.underlying73 hi hz0 hz1 hz2 rfl (by omega) v xsss.length us hs hR.row ⟨b, 0, none⟩ 1 1 [u] hx rfl (fun j y hy => World.news_of_block hb j y hy) (fun z hz => ?_) (by omega) (by unfold maxLen; omega) (by omega) hB w.heap.size rfl ?_
  · rw [List.mem_singleton] at hz; rw [hz]; exact intSS_oneCell hu
  · intro g cap w' h1 h2 h3 h4
    have far : ∀ b, b < w.heap.size → some b ≠ v.ownBlock → w'.heap[b]? = w.heap[b]? := fun b hb hne => h2.block b hb hne
    have kt := KeepT.grown hR.row far
    refine hK g _ cap (us ++ [u]) w' ⟨by simpa using h1, fun i y ys hy hz => ?_⟩ ⟨h2.os, h2.tape, h2.output, h2.size, fun k hk => far k (by omega) fun e => by have := (World.ownsRow.lt hR.row k e.symm).1; omega⟩ kt h3 far
    by_cases hi' : i < us.length
    · rw [List.getElem?_append_left hi'] at hy
      rw [List.getElem?_append_left (by omega)] at hz
      exact (hR.each i y ys hy hz).keepT (by decide) (by decide) kt
    · rw [List.getElem?_append_right (by omega)] at hy hz
      rw [← hl] at hz
      obtain ⟨m, hm⟩ : ∃ m, i - us.length = m := ⟨_, rfl⟩
      rw [hm] at hy hz
      match m, hy, hz with
      | 0, hy, hz =>
        simp at hy hz
        subst hy; subst hz
        exact hu.keepT (by decide) (by decide) kt
end
theorem wdsL_leads (d : Nat) (hd : d ≤ 40) : Leads d (wdsL d) := ⟨wdsF_nodup _ _ _, fun w hw => by
  obtain ⟨r, h1, h2, h3, _, _⟩ := wdsF_mem _ _ _ w hd hw
  exact ⟨r, h1, h3, h2⟩⟩
theorem wdsL_all (d : Nat) (r : List Int) (hr : isExp r = true) (hd : deg r = d) : leadL r ∈ wdsL d := by
  refine wdsF_all _ _ _ r hr hd ?_ (by omega)
  cases r with
  | nil => simp [wtR]
  | cons x r =>
    have h1 := deg_cons x r
    have h2 := deg_nn (isExp_tail hr)
    omega
theorem wdsL_len (d : Nat) (hd : d ≤ 40) : (wdsL d).length ≤ 504 := by
  have h := wdsL_leads d hd
  obtain ⟨h1, h2⟩ := lead_pre h.2
  have : ((wdsL d).map unL).length ≤ 504 := expD_nodup_len (by omega) h1 (by
    rw [List.Nodup, List.pairwise_map]
    refine List.Pairwise.imp_of_mem (fun {a b} ha hb hne e => hne ?_) h.1
    obtain ⟨r, _, _, rfl⟩ := h.2 a ha
    obtain ⟨s, _, _, rfl⟩ := h.2 b hb
    rw [unL_lead, unL_lead] at e
    rw [e])
  rwa [List.length_map] at this
set_option maxRecDepth 100000 in
theorem l03Basis_c (d : Nat) (hd : d ≤ 40) (w : World) :
    Calls Tryz.prog 57 #[.int .i64 d] w fun e w' => ∃ r, e = .returned r ∧ IntSS w'.heap r (wdsL d) ∧ Below w.heap.size w w' := by
  have hlen := wdsL_len d hd
  have HC := Lib.hid (l03Words_c (d + 1) d d [] (.slice (some ⟨w.heap.size, 0, none⟩) 0 0) (.slice none 0 0) [] [] w.heap.size (w.alloc (.cells #[] 2)) (by omega) hd hd (by simp; omega) (ownI_empty (w := w) (B := w.heap.size) (Nat.le_refl _)).ints ⟨World.ownsRow_nil _ _ _ _, fun i u xs hu => by simp at hu⟩ (by simp) (by simp only [List.length_nil, Nat.zero_add]; show (wdsL d).length < _; omega))
  go_enter Tryz.func57, Tryz.ntmps57
  go_wp2_with (go_at_call 83; refine HC.out.mono ?_; rintro e w2 ⟨r, us, rfl, hR, hb, hk⟩; obtain ⟨pa, pn, pc, rfl⟩ := own_shape hR.row)
  go_ret
  refine ⟨_, rfl, ?_, ((Below.refl _ _).alloc (Nat.le_refl _) _).trans hb⟩
  have := hR.ints (fun _ _ => rfl)
  simp only [List.nil_append, List.map_id'] at this
  exact this
end
section
open Go.RowKit Go.Sort

theorem leads_len {d : Nat} (h40 : d ≤ 40) {S : List (List Int)} (hn : S.Nodup) (h : ∀ w ∈ S, ∃ r, isExp r = true ∧ deg r = (d : Int) ∧ w = leadL r) : S.length ≤ 504 ∧ ∀ w ∈ S, w.length ≤ 5 := by
  obtain ⟨h1, h2⟩ := lead_pre h
  refine ⟨?_, fun w hw => ?_⟩
  · have : (S.map unL).length ≤ 504 := expD_nodup_len (by omega) h1 (by
      rw [List.Nodup, List.pairwise_map]
      refine List.Pairwise.imp_of_mem (fun {a b} ha hb hne e => hne ?_) hn
      obtain ⟨r, _, _, rfl⟩ := h a ha
      obtain ⟨s, _, _, rfl⟩ := h b hb
      rw [unL_lead, unL_lead] at e
      rw [e])
    rwa [List.length_map] at this
  · obtain ⟨r, h3, h4, rfl⟩ := h w hw
    rw [lead_len]; exact exp_len5 h3 (by omega)
theorem expD_small {d : Nat} (h40 : d ≤ 40) {x : List (List Int)} (h : ExpD d x) (ha : Asc x) : x.length ≤ 504 ∧ ∀ r ∈ x, r.length ≤ 5 :=
  ⟨expD_length ha h (by omega), fun r hr => exp_len5 (h r hr).1 (by have := (h r hr).2; omega)⟩
theorem elimX_first {d : Int} {W : List (List Int)} (hW : Leads d W) (h40 : d ≤ 40) (k : Nat) (hk : k < W.length) (R : List (List (List Int))) : ElimX d [] R 0 (wordA W[k]) [W[k]] := by
  obtain ⟨r, h1, h2, h3⟩ := hW.2 _ (List.getElem_mem hk)
  have ha : Asc (wordA W[k]) := by rw [h3]; exact (lead_main r h1 (by omega)).2.1
  exact ⟨List.pairwise_singleton .., by simp [ha.odd], fun j hj => by omega⟩
theorem elimX_terms {d : Int} {xs : List (List Int)} (ha : Asc xs) (R : List (List (List Int))) : ElimX d xs R 0 xs [] := ⟨Asc.nil, by simp [ha.odd], fun j hj => by omega⟩
/-- A row more. -/
theorem Elim.push {d : Int} {W : List (List Int)} {i : Nat} {rows sums : List (List (List Int))} {x own : List (List Int)} (h : Elim d W i rows sums) (hx : ElimX d [] rows i x own) (hs : ∀ w ∈ own, w ∈ W.take (i + 1)) (ho : W.getD i [] ∈ own) : Elim d W (i + 1) (rows ++ [x]) (sums ++ [own]) := by
  have e1 : ∀ k, k < i → (rows ++ [x]).getD k [] = rows.getD k [] := fun k hk => by rw [List.getD_eq_getElem?_getD, List.getElem?_append_left (by rw [h.lr]; exact hk), ← List.getD_eq_getElem?_getD]
  have e2 : ∀ k, k < i → (sums ++ [own]).getD k [] = sums.getD k [] := fun k hk => by rw [List.getD_eq_getElem?_getD, List.getElem?_append_left (by rw [h.ls]; exact hk), ← List.getD_eq_getElem?_getD]
  have e3 : (rows ++ [x]).getD i [] = x := by rw [List.getD_eq_getElem?_getD, List.getElem?_append_right (by rw [h.lr]; exact Nat.le_refl _), h.lr]; simp
  have e4 : (sums ++ [own]).getD i [] = own := by rw [List.getD_eq_getElem?_getD, List.getElem?_append_right (by rw [h.ls]; exact Nat.le_refl _), h.ls]; simp
  refine ⟨by simp [h.lr], by simp [h.ls], fun k hk => ?_, fun k hk => ?_, fun k hk => ?_, fun k hk => ?_, fun j k hj hk => ?_⟩ <;> by_cases e : k = i
  · subst e; rw [e4]; exact hx.asc
  · rw [e2 k (by omega)]; exact h.asc k (by omega)
  · subst e; rw [e4]; exact hs
  · rw [e2 k (by omega)]; exact h.sub k (by omega)
  · subst e; rw [e4]; exact ho
  · rw [e2 k (by omega)]; exact h.own k (by omega)
  · subst e; rw [e3, e4]; have := hx.sum; rwa [List.nil_append] at this
  · rw [e1 k (by omega), e2 k (by omega)]; exact h.row k (by omega)
  · subst e; rw [e3, e1 j hj]; exact hx.no j hj
  · rw [e1 k (by omega), e1 j (by omega)]; exact h.lead j k hj (by omega)
theorem Elim.nil (d : Int) (W : List (List Int)) : Elim d W 0 [] [] := ⟨rfl, rfl, fun k hk => by omega, fun k hk => by omega, fun k hk => by omega, fun k hk => by omega, fun j k _ hk => by omega⟩
/-- The words that make an element, with one row more. -/
theorem own_step {d : Int} {W : List (List Int)} (hW : Leads d W) {i k : Nat} {rows sums : List (List (List Int))} {own : List (List Int)} (h : Elim d W i rows sums) (hk : k < i) (hi : i < W.length) (ha : Asc own) (hs : ∀ w ∈ own, w ∈ W.take (i + 1)) (ho : W.getD i [] ∈ own) :
    (∀ w ∈ oddL (own ++ sums.getD k []), w ∈ W.take (i + 1)) ∧ W.getD i [] ∈ oddL (own ++ sums.getD k []) := by
  refine ⟨fun w hw => ?_, ?_⟩
  · rcases List.mem_append.1 (mem_oddL_sub hw) with h1 | h1
    · exact hs w h1
    · exact List.take_subset_take_left W (show k + 1 ≤ i + 1 by omega) (h.sub k hk w h1)
  · have hno : W.getD i [] ∉ sums.getD k [] := fun hm => by
      have h1 := h.sub k hk _ hm
      rw [show W.getD i [] = W[i] by simp [hi]] at h1
      obtain ⟨j, hj, e⟩ := List.getElem_of_mem h1
      rw [List.length_take] at hj
      rw [List.getElem_take] at e
      have := (List.getElem_inj hW.1).1 e
      omega
    rw [mem_oddL, List.count_append, ha.count, if_pos ho, List.count_eq_zero.2 hno]
/-- What the calls of a step ask. -/
theorem elimX_expD {d : Nat} (h40 : d ≤ 40) {W T : List (List Int)} (hW : Leads d W) {R : List (List (List Int))} {k : Nat} {x own : List (List Int)} (hT : ExpD d T) (hx : ElimX d T R k x own) (hs : ∀ w ∈ own, w ∈ W) : ExpD d x ∧ Asc x := by
  rw [hx.sum]
  exact ⟨(hT.append (words_expD (by omega) fun w hw => hW.2 w (hs w hw))).odd, asc_oddL _⟩
theorem elim_rowD {d : Nat} (h40 : d ≤ 40) {W : List (List Int)} (hW : Leads d W) {i : Nat} {rows sums : List (List (List Int))} (h : Elim d W i rows sums) (k : Nat) (hk : k < i) : ExpD d (rows.getD k []) ∧ Asc (rows.getD k []) ∧ Asc (sums.getD k []) ∧ ∀ w ∈ sums.getD k [], w ∈ W := by
  refine ⟨?_, h.ascR k hk, h.asc k hk, fun w hw => List.mem_of_mem_take (h.sub k hk w hw)⟩
  rw [h.row k hk]
  exact (words_expD (by omega) fun w hw => hW.2 w (List.mem_of_mem_take (h.sub k hk w hw))).odd
end
section
open Go.RowKit Go.Sort

/-- What a call of l01Sum asks and gives. -/
structure SumFit (a b : List (List Int)) : Prop where
  len : a.length + b.length ≤ 4398046511104
  la : ∀ r ∈ a, r.length ≤ 4398046511104
  lb : ∀ r ∈ b, r.length ≤ 4398046511104
theorem sumFit_of {a b : List (List Int)} (h1 : a.length ≤ 504 ∧ ∀ r ∈ a, r.length ≤ 5) (h2 : b.length ≤ 504 ∧ ∀ r ∈ b, r.length ≤ 5) : SumFit a b :=
  ⟨by omega, fun r hr => by have := h1.2 r hr; omega, fun r hr => by have := h2.2 r hr; omega⟩
theorem words_small {d : Nat} (h40 : d ≤ 40) {W : List (List Int)} (hW : Leads d W) {S : List (List Int)} (ha : Asc S) (hs : ∀ w ∈ S, w ∈ W) : S.length ≤ 504 ∧ ∀ w ∈ S, w.length ≤ 5 :=
  leads_len h40 (List.Pairwise.imp (fun h => ltL_ne h) ha) fun w hw => hW.2 w (hs w hw)
structure StepFit (d : Int) (T : List (List Int)) (R : List (List (List Int))) (j : Nat) (X O Y Z : List (List Int)) (z : List Int) : Prop where
  fx : SumFit X Y
  fo : SumFit O Z
  yes : z ∈ X → ElimX d T R (j + 1) (mrg X Y) (mrg O Z)
  no : z ∉ X → ElimX d T R (j + 1) X O
  sub : mrg O Z = oddL (O ++ Z)
theorem step_fit {d : Nat} (h40 : d ≤ 40) {W T : List (List Int)} (hW : Leads d W) {i : Nat} {R S : List (List (List Int))} (hE : Elim d W i R S) (hT : ExpD d T) {j : Nat} {X O : List (List Int)} (hx : ElimX d T R j X O) (hs : ∀ w ∈ O, w ∈ W) (hj : j < i) : StepFit d T R j X O (R.getD j []) (S.getD j []) ((R.getD j []).headD []) := by
  have h1 := elimX_expD h40 hW hT hx hs
  have h2 := elim_rowD h40 hW hE j hj
  have h3 := hx.step (by omega) hW hE hj
  have e1 := mrg_odd h1.2 h2.2.1
  have e2 := mrg_odd hx.asc h2.2.2.1
  exact ⟨sumFit_of (expD_small h40 h1.1 h1.2) (expD_small h40 h2.1 h2.2.1), sumFit_of (words_small h40 hW hx.asc hs) (words_small h40 hW h2.2.2.1 h2.2.2.2), fun h => by rw [e1, e2]; exact h3.1 h, h3.2, e2⟩
theorem cell_at {W W' : World} {a : Addr} {u : Value} (h : W.cell? a = some u) (hb : Below W.heap.size W W') : W'.cell? a = some u := (hb.cell (World.block_lt_of_cell? _ _ h)).trans h
theorem below_of_drewN {B n : Nat} {w w' w3 : World} (h : Below B w w') (e : w3 = w'.drewN n) : Below B w w3 := by rw [e]; exact below_drewN n h
theorem refSS_step {w w' w2 : World} {B : Nat} {v : Value} {us : List Value} {xsss : List (List (List Int))} (a : RefSS w B w.heap v us xsss) (h : Below w.heap.size w w') (k : ∀ b, b < w'.heap.size → w2.heap[b]? = w'.heap[b]?) : RefSS w2 B w2.heap v us xsss :=
  have e : ∀ b, b < w.heap.size → w2.heap[b]? = w.heap[b]? := fun b hb => (k b (Nat.lt_of_lt_of_le hb h.size)).trans (h.block b hb)
  (a.same e).grow e
/-- Nothing is left. -/
theorem elimX_done {d : Int} {xs : List (List Int)} {R : List (List (List Int))} {n : Nat} {O : List (List Int)} (hx : ElimX d xs R n [] O) (ha : Asc xs) : oddL (O.flatMap wordA) = xs := by
  have h := hx.sum
  conv => rhs; rw [← ha.odd]
  refine oddL_congr fun z => ?_
  have h1 : z ∉ oddL (xs ++ O.flatMap wordA) := by rw [← h]; simp
  rw [mem_oddL, List.count_append] at h1
  omega
theorem sq_end {d : Nat} (h40 : d ≤ 40) {R S : List (List (List Int))} {W xs X O : List (List Int)} (hW : Leads d W) (hall : ∀ r, isExp r = true → deg r = d → leadL r ∈ W) (hE : Elim d W W.length R S) (hT : ExpD d xs) (ha : Asc xs) (hx : ElimX d xs R W.length X O) (hs : ∀ w ∈ O, w ∈ W) : SqOk d xs O := by
  have h1 := elimX_expD h40 hW hT hx hs
  have h2 := hE.full h40 hW hall h1.1 hx.no
  subst h2
  exact ⟨hx.asc, fun w hw => hW.2 w (hs w hw), elimX_done hx ha⟩
theorem step_subW {O Z W : List (List Int)} {M : List (List Int)} (e : M = oddL (O ++ Z)) (h1 : ∀ w ∈ O, w ∈ W) (h2 : ∀ w ∈ Z, w ∈ W) : ∀ w ∈ M, w ∈ W := fun w hw => by
  rw [e] at hw
  rcases List.mem_append.1 (mem_oddL_sub hw) with h | h
  · exact h1 w h
  · exact h2 w h
/-- The row of a reference, read later. -/
theorem refSS_at {W wr : World} {B B' g k c : Nat} {us : List Value} {R : List (List (List Int))} (h : RefSS W B W.heap (.slice (some ⟨g, 0, none⟩) k c) us R) (hl : R.length = k) (hb : Below B' W wr) (hB : W.heap.size ≤ B') (j : Nat) (hj : j < k) :
    ∃ a c', wr.cell? ⟨g, j, none⟩ = some (.slice a (R.getD j []).length c') ∧ IntSS wr.heap (.slice a (R.getD j []).length c') (R.getD j []) := by
  have hb := hb.mono hB
  obtain ⟨b2, o2, q2, u2, hv2, hc2, hu2, -⟩ := (h.ints (fun _ _ => rfl)).at j (by omega)
  simp only [Value.slice.injEq] at hv2
  obtain ⟨e1, e2, rfl⟩ := hv2
  cases e1
  obtain ⟨ua, uc, rfl, -⟩ := hu2.len
  have e : R.getD j [] = R[j]'(by omega) := by simp [show j < R.length by omega]
  rw [e]
  rw [Nat.zero_add] at hc2
  exact ⟨ua, uc, (hb.cell (World.block_lt_of_cell? _ _ hc2)).trans hc2, hu2.same hb.block⟩
theorem intSS_head {w : World} {a : Option Addr} {n c : Nat} {Y : List (List Int)} (h : IntSS w.heap (.slice a n c) Y) (hne : Y ≠ []) :
    ∃ b o e f, a = some ⟨b, o, none⟩ ∧ w.cell? ⟨b, o, none⟩ = some (.slice e (Y.headD []).length f) ∧ IntS w.heap (.slice e (Y.headD []).length f) (Y.headD []) := by
  cases Y with
  | nil => exact absurd rfl hne
  | cons y Y =>
    obtain ⟨b, o, q, u, hv, hc, hu, -⟩ := h.at 0 (by simp)
    simp only [Value.slice.injEq] at hv
    obtain ⟨e, f, rfl, -⟩ := hu.len
    rw [Nat.add_zero] at hc
    exact ⟨b, o, e, f, hv.1, hc, hu⟩
theorem refSS_far {w w' : World} {B g n c : Nat} {us : List Value} {R : List (List (List Int))} {v : Value} (a : RefSS w B w.heap (.slice (some ⟨g, 0, none⟩) n c) us R) (ne : some g ≠ v.ownBlock) (far : ∀ b, b < w.heap.size → some b ≠ v.ownBlock → w'.heap[b]? = w.heap[b]?) (kt : KeepT 23 w w') : RefSS w' B w'.heap (.slice (some ⟨g, 0, none⟩) n c) us R :=
  ⟨own_kept a.row fun b e => by
    have hlt := (World.ownsRow.lt a.row b e).2
    simp only [Value.ownBlock, Option.some.injEq] at e
    subst e
    exact far _ hlt ne, fun i u xs hu hx => (a.each i u xs hu hx).keepT (by decide) (by decide) kt⟩
theorem refSS_block {w : World} {B g n c : Nat} {us : List Value} {R : List (List (List Int))} (a : RefSS w B w.heap (.slice (some ⟨g, 0, none⟩) n c) us R) : B ≤ g ∧ g < w.heap.size := World.ownsRow.lt a.row g rfl
/-- One literal, made ahead of a call that keeps what lay there. -/
theorem row_before {w w5 : World} {u : Value} {xs : List Int} (h : IntS w.heap u xs) (hz : Below (w.alloc (.cells #[u] 22)).heap.size (w.alloc (.cells #[u] 22)) w5) : IntSS w5.heap (.slice (some ⟨w.heap.size, 0, none⟩) 1 1) [xs] := (one_row h).same hz.block
theorem row_end {w : World} {X : List (List Int)} {a : Option Addr} {n c : Nat} (h : IntSS w.heap (.slice a n c) X) : X.length = n := by
  obtain ⟨_, _, hv, _⟩ := h.len
  simp only [Value.slice.injEq] at hv
  exact hv.2.1.symm
end
section
open Go.RowKit Go.Sort

theorem SlAt.len0 {h : Array Obj} {e : Nat} {v : Value} {us : List Value} (a : SlAt h e v us) : ∃ ao c, v = .slice ao us.length c := by
  obtain ⟨ao, c, hv, _⟩ := SlAt.len a; exact ⟨ao, c, hv⟩
set_option maxRecDepth 100000 in
set_option maxHeartbeats 4000000 in
theorem l05Squares_c (v : Value) (xs : List (List Int)) (w : World) (h : IntSS w.heap v xs) (hT : arT xs = true) (h0 : 0 < xs.length) :
    Calls Tryz.prog 37 #[v] w fun e w' => ∃ o S, e = .returned o ∧ SqOk (degT xs) xs S ∧ IntSS w'.heap o S ∧ Below w.heap.size w w' := by
  have hdg := degT_in hT
  obtain ⟨d, hd⟩ : ∃ d : Nat, degT xs = (d : Int) := ⟨(degT xs).toNat, by omega⟩
  have hd40 : d ≤ 40 := by omega
  obtain ⟨W, hW⟩ : ∃ W, W = wdsL d := ⟨_, rfl⟩
  have HWL : Hid (Leads d W) := by show Leads _ _; rw [hW]; exact wdsL_leads d hd40
  have HWA : Hid (∀ r, isExp r = true → deg r = d → leadL r ∈ W) := fun r h1 h2 => by rw [hW]; exact wdsL_all d r h1 h2
  have hWn : W.length ≤ 504 := by rw [hW]; exact wdsL_len d hd40
  have HBS := Lib.hid (fun (w : World) => l03Basis_c d hd40 w)
  rw [← hW] at HBS
  have HXE : Hid (ExpD d xs) := by have := arT_expD hT; rw [hd] at this; exact this
  have HXA := Lib.hid (arT_asc hT)
  obtain ⟨ao, c, rfl, -⟩ := h.len
  obtain ⟨b0, o0, q0, u0, hv0, hc0, hu0, -⟩ := h.at 0 h0
  simp only [Value.slice.injEq, true_and] at hv0
  obtain ⟨rfl, rfl⟩ := hv0
  rw [Nat.add_zero] at hc0
  have e0 : deg xs[0] = (d : Int) := (HXE.out _ (List.getElem_mem h0)).2
  have hE0 := (HXE.out _ (List.getElem_mem h0)).1
  have HDG := Lib.hid (l01DegreeE_c u0 xs[0] w hu0 hE0)
  rw [e0] at HDG
  obtain ⟨ua, uc, rfl, -⟩ := hu0.len
  have H := Lib.hid h; have HD := Lib.hid hd
  have t0 := (neB (show (xs.length : Int) ≠ 0 by omega)).1
  have h0i : (0 : Int) < (xs.length : Int) := by omega
  rw [hd]
  clear h hW hu0 hE0 e0 hd hdg hT
  go_enter Tryz.func37, Tryz.ntmps37
  go_wp2_with (first | (go_at_call 34; refine HDG.out.mono ?_; rintro e w2 ⟨rfl, rfl⟩) | (go_at_call 57; refine (HBS.out w).mono ?_; rintro e w1 ⟨rW, rfl, hRW, hb1⟩; obtain ⟨wa, wc, rfl, -⟩ := hRW.len; have HRW := Lib.hid hRW; have HB1 := Lib.hid hb1; clear hRW hb1))
  obtain ⟨w2, hw2⟩ : ∃ w2, w2 = (w1.alloc (.cells #[] 23)).alloc (.cells #[] 23) := ⟨_, rfl⟩
  have hs1 : (w1.alloc (.cells #[] 23)).heap.size = w1.heap.size + 1 := by simp
  have HR0 : Hid (RefSS w2 w1.heap.size w2.heap (.slice (some ⟨w1.heap.size, 0, none⟩) 0 0) [] []) := by
    show RefSS _ _ _ _ _ _
    rw [hw2]; exact ⟨own_same (refSS_empty (w := w1) (B := w1.heap.size) w1.heap (Nat.le_refl _)).row (alloc_old _ _), fun i u xss hu => by simp at hu⟩
  have HS0 : Hid (RefSS w2 w1.heap.size w2.heap (.slice (some ⟨w1.heap.size + 1, 0, none⟩) 0 0) [] []) := by
    show RefSS _ _ _ _ _ _
    have := refSS_empty (w := w1.alloc (.cells #[] 23)) (B := w1.heap.size) w1.heap (by simp)
    rw [hs1] at this
    rw [hw2]; exact ⟨this.row, fun i u xss hu => by simp at hu⟩
  have HB2 : Hid (Below w1.heap.size w1 w2) := by show Below _ _ _; rw [hw2]; exact ((Below.refl _ _).alloc (Nat.le_refl _) _).alloc (by simp) _
  have HW2 := Lib.hid hw2
  clear hw2 hs1
  rw [← HW2.out]
  clear HW2 HDG HBS
  go_loopw [5, 6, 7] (fun rv sv i wr => ∃ (k gr nr cr gs ns cs : Nat) (us vs : List Value) (R S : List (List (List Int))), k ≤ W.length ∧ rv = .slice (some ⟨gr, 0, none⟩) nr cr ∧ sv = .slice (some ⟨gs, 0, none⟩) ns cs ∧ i = .int .i64 k ∧ Elim d W k R S ∧ RefSS wr w1.heap.size wr.heap (.slice (some ⟨gr, 0, none⟩) nr cr) us R ∧ RefSS wr w1.heap.size wr.heap (.slice (some ⟨gs, 0, none⟩) ns cs) vs S ∧ gr ≠ gs ∧ Below w1.heap.size w1 wr) (fun _ _ i _ => W.length - (intOf i).toNat)
  case atStart => exact ⟨0, _, _, _, _, _, _, _, _, [], [], Nat.zero_le _, rfl, rfl, rfl, Elim.nil _ _, HR0.out, HS0.out, by omega, HB2.out⟩
  case round =>
    rename World => WA
    obtain ⟨k, gr, nr, cr, gs, ns, cs, us, vs, R, S, hk, rfl, rfl, rfl, hE, hRR, hRS, hne, hbl⟩ := hrel
    have HE := Lib.hid hE; have HRR := Lib.hid hRR; have HRS := Lib.hid hRS; have HBA := Lib.hid hbl; have HNE := Lib.hid hne
    have hsA := hbl.size
    have hnr : nr = k := by
      obtain ⟨_, _, hv, _⟩ := (hRR.ints (fun _ _ => rfl)).len
      simp only [Value.slice.injEq] at hv
      rw [hv.2.1, hE.lr]
    have hns : ns = k := by
      obtain ⟨_, _, hv, _⟩ := (hRS.ints (fun _ _ => rfl)).len
      simp only [Value.slice.injEq] at hv
      rw [hv.2.1, hE.ls]
    subst nr
    subst ns
    clear hE hRR hRS hbl HR0 HS0 HB2 hne
    by_cases hkl : k < W.length
    · obtain ⟨b1, o1, q1, u1, hv1, hc1, hu1, -⟩ := HRW.out.at k hkl
      simp only [Value.slice.injEq, true_and] at hv1
      obtain ⟨rfl, rfl⟩ := hv1
      obtain ⟨rk, hrk1, hrk2, hrk⟩ := HWL.out.2 _ (List.getElem_mem hkl)
      have hcA := (HBA.out.cell (World.block_lt_of_cell? _ _ hc1)).trans hc1
      have HUA := Lib.hid (hu1.same HBA.out.block)
      obtain ⟨xa, xc, rfl, -⟩ := hu1.len
      have HW5 := Lib.hid (fun (w : World) (h : IntS w.heap (.slice xa W[k].length xc) W[k]) => l05Word_c (.slice xa W[k].length xc) rk w hrk1 (by omega) (by rw [← hrk]; exact h))
      rw [← hrk] at HW5
      have HF := Lib.hid (fun (W' : World) (hW' : Below WA.heap.size WA W') => (⟨(hW'.cell (World.block_lt_of_cell? _ _ hcA)).trans hcA, hW'⟩ : W'.cell? ⟨b1, o1 + k, none⟩ = some (.slice xa W[k].length xc) ∧ Below WA.heap.size WA W'))
      have HX0 := Lib.hid (elimX_first HWL.out (by omega) k hkl R)
      have HG0 : Hid (W.getD k [] = W[k]) := by show _ = _; simp [hkl]
      have HM0 : Hid (∀ w ∈ [W[k]], w ∈ W.take (k + 1)) := fun w hw => by
        rw [List.mem_singleton.1 hw, List.take_succ_eq_append_getElem hkl]; exact List.mem_append_right _ (List.mem_singleton.2 rfl)
      have hki : (k : Int) < (W.length : Int) := by omega
      clear hc1 hu1 hrk hrk1 hrk2
      have hln : W[k].length ≤ 5 := (leads_len hd40 HWL.out.1 HWL.out.2).2 _ (List.getElem_mem hkl)
      generalize W[k] = wk at *
      go_upto_region 8 with fail
      go_cut [8, 9] (fun x own wx => IntSS wx.heap x (wordA wk) ∧ IntSS wx.heap own [wk] ∧ Below WA.heap.size WA wx)
      case first =>
        go_region_held3 (fun W' => W'.cell? ⟨b1, o1 + k, none⟩ = some (.slice xa wk.length xc) ∧ Below WA.heap.size WA W')
          (first | assumption | exact HF.out _ ((Below.refl _ _).drew) | exact HF.out _ (((Below.refl _ _).drew).alloc (Nat.le_refl _) _) | exact HF.out _ (hx5.alloc hx5.size _) | exact HF.out _ hx5 | fail)
          (first | (go_at_call 58; refine (HW5.out _ (by first | exact HUA.out.same (fun _ _ => rfl) | exact HUA.out.same (alloc_old _ _))).mono ?_; rintro e w5 ⟨x5, rfl, hX5, hz5⟩; obtain ⟨pa, pc, rfl, -⟩ := hX5.len; have hx5 : Below WA.heap.size WA w5 := by first | exact (Below.refl _ _).drew.trans hz5 | exact (((Below.refl _ _).drew).alloc (Nat.le_refl _) _).trans (hz5.mono (by simp))) | fail)
        all_goals
          go_wp2_with fail
          go_meet
          first | exact ⟨hX5.same (alloc_old _ _), one_row (HUA.out.same hx5.block), hx5.alloc hx5.size _⟩ | exact ⟨hX5, row_before (w := WA.drew) HUA.out hz5, hx5⟩
      case rest =>
        rename World => WB
        obtain ⟨hX, hO, hbB⟩ := hcut
        have HXB := Lib.hid hX; have HOB := Lib.hid hO; have HBB := Lib.hid hbB
        obtain ⟨xa1, xc1, rfl, -⟩ := hX.len
        obtain ⟨oa1, oc1, rfl, -⟩ := hO.len
        clear hX hO hbB HF HW5 hcA HUA
        go_wp2_with fail
        go_loopw [8, 9, 10] (fun x own i wr => ∃ (j : Nat) (X O : List (List Int)), j ≤ k ∧ i = .int .i64 j ∧ ElimX d [] R j X O ∧ (∀ w ∈ O, w ∈ W.take (k + 1)) ∧ W.getD k [] ∈ O ∧ IntSS wr.heap x X ∧ IntSS wr.heap own O ∧ Below WA.heap.size WA wr) (fun _ _ i _ => k - (intOf i).toNat)
        case atStart => exact ⟨0, _, _, Nat.zero_le _, rfl, HX0.out, HM0.out, by rw [HG0.out]; exact List.mem_singleton.2 rfl, HXB.out, HOB.out, HBB.out⟩
        case round =>
          obtain ⟨j, X, O, hj, rfl, hEX, hOs, hOk, hx, ho, hbl⟩ := hrel
          have HX := Lib.hid hx; have HO := Lib.hid ho; have HB := Lib.hid hbl; have HEX := Lib.hid hEX; have HOS := Lib.hid hOs; have HOK := Lib.hid hOk
          obtain ⟨xa2, xc2, rfl, -⟩ := hx.len
          obtain ⟨oa2, oc2, rfl, -⟩ := ho.len
          have hszr := hbl.size
          clear hx ho hbl hEX hOs hOk
          by_cases hjk : j < k
          · have SF := step_fit hd40 HWL.out HE.out (T := []) (fun z hz => by cases hz) HEX.out (fun w hw => List.mem_of_mem_take (HOS.out w hw)) hjk
            have OS := own_step HWL.out HE.out hjk hkl HEX.out.asc HOS.out HOK.out
            rw [← SF.sub] at OS
            obtain ⟨ya, yc, hcy, hY⟩ := refSS_at HRR.out HE.out.lr (Below.refl WA.heap.size WA) (Nat.le_refl _) j hjk
            obtain ⟨za, zc, hcz, hZ⟩ := refSS_at HRS.out HE.out.ls (Below.refl WA.heap.size WA) (Nat.le_refl _) j hjk
            obtain ⟨qb, qo, qe, qf, rfl, hcq, hq⟩ := intSS_head hY (HE.out.ne (by omega) HWL.out j hjk)
            have hyp : 0 < (R.getD j []).length := List.length_pos_iff.2 (HE.out.ne (by omega) HWL.out j hjk)
            generalize (R.getD j []).headD [] = z at *
            generalize R.getD j [] = Y at *
            generalize S.getD j [] = Z at *
            have HSF := Lib.hid SF; have HOS2 := Lib.hid OS; have HY := Lib.hid hY; have HZ := Lib.hid hZ
            have HPL := Lib.hid (l01Place_c _ _ X z wr HX.out (hq.same HB.out.block))
            have hcy1 := cell_at hcy HB.out
            have hcq1 := cell_at hcq HB.out
            have HC := Lib.hid (⟨hcy, hcz, hcq⟩ : _ ∧ _ ∧ _)
            have hji : (j : Int) < (k : Int) := by omega
            have HS1 := Lib.hid (fun (w : World) (h1 : Below wr.heap.size wr w) (h2 : Below WA.heap.size WA w) => l01Sum_c _ _ X Y w (HX.out.same h1.block) (HY.out.same h2.block) HSF.out.fx.len HSF.out.fx.la HSF.out.fx.lb)
            have HS2 := Lib.hid (fun (w : World) (h1 : Below wr.heap.size wr w) (h2 : Below WA.heap.size WA w) => l01Sum_c _ _ O Z w (HO.out.same h1.block) (HZ.out.same h2.block) HSF.out.fo.len HSF.out.fo.la HSF.out.fo.lb)
            clear hY hZ hq hcy hcz hcq SF OS
            by_cases hm : z ∈ X
            · have t1 := (placeL_in hm).1
              generalize placeL X z = pl at *
              go_wp2_with (first | (go_at_call 59; refine HPL.out.mono ?_; rintro e w3 ⟨rfl, n3, hw3⟩; have hb3 := below_of_drewN (Below.refl wr.heap.size wr) hw3; have hb3A : Below WA.heap.size WA w3 := HB.out.trans (hb3.mono hszr); have hcy3 := cell_at HC.out.1 hb3A; have HW3 := Lib.hid hw3; clear hw3) | (go_at_call 60; (with_reducible show Calls _ _ #[Value.slice xa2 X.length xc2, _] _ _); refine (HS1.out _ hb3 hb3A).mono ?_; rintro e w4 ⟨r4, rfl, ho4, hz4⟩; have hb4 : Below wr.heap.size wr w4 := hb3.trans (hz4.mono hb3.size); have hb4A : Below WA.heap.size WA w4 := HB.out.trans (hb4.mono hszr); have hx4 := ho4.ints; obtain ⟨ra, rc, rfl, -⟩ := hx4.len; have hcz4 := cell_at HC.out.2.1 hb4A) | (go_at_call 60; (with_reducible show Calls _ _ #[Value.slice oa2 O.length oc2, _] _ _); refine (HS2.out _ hb4 hb4A).mono ?_; rintro e w5 ⟨r5, rfl, ho5, hz5⟩; have hb5A : Below WA.heap.size WA w5 := hb4A.trans (hz5.mono hb4A.size); have hx5 := ho5.ints; obtain ⟨sa, sc, rfl, -⟩ := hx5.len))
              go_roundw
              case rel => exact ⟨j + 1, _, _, by omega, by go_num, HSF.out.yes hm, HOS2.out.1, HOS2.out.2, hx4.same hz5.block, hx5, hb5A⟩
              case measure => simp [intOf]; omega
            · have t1 := placeL_out hm
              rw [t1] at HPL
              go_wp2_with (go_at_call 59; refine HPL.out.mono ?_; rintro e w3 ⟨rfl, n3, hw3⟩; have hb3 := below_of_drewN (Below.refl wr.heap.size wr) hw3; have hb3A : Below WA.heap.size WA w3 := HB.out.trans (hb3.mono hszr); have HW3 := Lib.hid hw3; clear hw3)
              go_roundw
              case rel => exact ⟨j + 1, X, O, by omega, by go_num, HSF.out.no hm, HOS.out, HOK.out, HX.out.same hb3.block, HO.out.same hb3.block, hb3A⟩
              case measure => simp [intOf]; omega
          · obtain rfl : k = j := by omega
            have HP := Lib.hid (HE.out.push HEX.out HOS.out HOK.out)
            have hRl : R.length < 4398046511104 := by rw [HE.out.lr]; omega
            have hSl : S.length < 4398046511104 := by rw [HE.out.ls]; omega
            have HLN := Lib.hid (⟨hRl, hSl⟩ : _ ∧ _)
            have HGB := Lib.hid (⟨refSS_block HRR.out, refSS_block HRS.out⟩ : _ ∧ _)
            have hBr : w1.heap.size ≤ wr.heap.size := by omega
            clear hRl hSl
            go_wp2_with (first | (at_builtin; refine append_refQ rfl _ _ rfl w1.heap.size (.slice (some ⟨gs, 0, none⟩) k cs) (.slice oa2 O.length oc2) vs S O (refSS_step HRS5.out (Below.refl _ _) (alloc_old _ _)) rfl (HO5.out.same (alloc_old _ _)) (by simp; omega) w5.heap.size rfl (heap_alloc_new _ _) HLN.out.2 ?_; intro g2 n2 c2 us2 w6 hR6 hb6 hk6 ho6 hf6; have HR6 := Lib.hid hR6; have HB6 := Lib.hid hb6; have HK6 := Lib.hid hk6; have HO6 := Lib.hid ho6; have HF6 := Lib.hid hf6; clear hR6 hb6 hk6 ho6 hf6) | (at_builtin; refine append_refQ rfl _ _ rfl w1.heap.size (.slice (some ⟨gr, 0, none⟩) k cr) (.slice xa2 X.length xc2) us R X (refSS_step HRR.out HB.out (alloc_old _ _)) rfl (HX.out.same (alloc_old _ _)) (by simp; omega) wr.heap.size rfl (heap_alloc_new _ _) HLN.out.1 ?_; intro g1 n1 c1 us1 w5 hR5 hb5 hk5 ho5 hf5; have hsz5 : wr.heap.size + 1 ≤ w5.heap.size := Nat.le_trans (Nat.le_of_eq (by simp)) hb5.size; have HRS5 := Lib.hid (refSS_far (v := .slice (some ⟨gr, 0, none⟩) k cr) (refSS_step HRS.out HB.out (alloc_old _ _)) (fun e => HNE.out (by simp only [Value.ownBlock, Option.some.injEq] at e; exact e.symm)) hf5 hk5); have HO5 : Hid (IntSS w5.heap (.slice oa2 O.length oc2) O) := (HO.out.same (alloc_old wr (.cells #[.slice xa2 X.length xc2] 23))).keepT (by decide) (by decide) hk5; have HR5 := Lib.hid hR5; have HB5 := Lib.hid hb5; have HOB5 := Lib.hid ho5; clear hR5 hb5 hk5 ho5 hf5))
            go_roundw
            case rel => 
              have h1 := HGB.out
              have hne2 : g1 ≠ gs := by
                rcases HOB5.out with e | e
                · simp only [Value.ownBlock, Option.some.injEq] at e
                  rw [← e]; exact HNE.out
                · rw [e]; simp; omega
              have h5 := refSS_block HR5.out
              have HR7 := refSS_far (v := .slice (some ⟨gs, 0, none⟩) k cs) (refSS_step HR5.out (Below.refl _ _) (alloc_old _ _)) (fun e => hne2 (by simpa only [Value.ownBlock, Option.some.injEq] using e)) HF6.out HK6.out
              refine ⟨k + 1, g1, n1, c1, g2, n2, c2, us1, us2, R ++ [X], S ++ [O], by omega, rfl, rfl, by go_num, HP.out, HR7, HR6.out, fun e => ?_, ?_⟩
              · subst e
                rcases HO6.out with e | e
                · simp only [Value.ownBlock, Option.some.injEq] at e
                  exact hne2 e.symm
                · rw [e] at h5; simp at h5; omega
              · have b1 : Below w1.heap.size w1 wr := HBA.out.trans (HB.out.mono hsA)
                exact (((b1.alloc hBr _).trans HB5.out).alloc (Nat.le_trans hBr (by omega)) _).trans HB6.out
            case measure => simp [intOf]; omega
    · obtain rfl : k = W.length := by omega
      have HWA2 : Hid (Below w.heap.size w WA) := HB1.out.trans (HBA.out.mono HB1.out.size)
      have hszA := HWA2.out.size
      clear HRW HB1
      go_wp2_with fail
      go_loopw [0, 11, 12] (fun x own i wr => ∃ (j : Nat) (X O : List (List Int)), j ≤ W.length ∧ i = .int .i64 j ∧ ElimX d xs R j X O ∧ (∀ w ∈ O, w ∈ W) ∧ IntSS wr.heap x X ∧ IntSS wr.heap own O ∧ Below WA.heap.size WA wr) (fun _ _ i _ => W.length - (intOf i).toNat)
      case atStart => exact ⟨0, xs, [], Nat.zero_le _, rfl, elimX_terms HXA.out R, (fun w hw => by cases hw), (H.out.same HWA2.out.block).same (alloc_old _ _), (ownII_empty (w := WA) (B := WA.heap.size) (Nat.le_refl _)).ints, (Below.refl _ _).alloc (Nat.le_refl _) _⟩
      case round =>
        obtain ⟨j, X, O, hj, rfl, hEX, hOs, hx, ho, hbl⟩ := hrel
        have HX := Lib.hid hx; have HO := Lib.hid ho; have HB := Lib.hid hbl; have HEX := Lib.hid hEX; have HOS := Lib.hid hOs
        obtain ⟨xa2, xc2, rfl, -⟩ := hx.len
        obtain ⟨oa2, oc2, rfl, -⟩ := ho.len
        have hszr := hbl.size
        clear hx ho hbl hEX hOs
        by_cases hjk : j < W.length
        · have SF := step_fit hd40 HWL.out HE.out HXE.out HEX.out HOS.out hjk
          have OS := step_subW SF.sub HOS.out (elim_rowD hd40 HWL.out HE.out j hjk).2.2.2
          obtain ⟨ya, yc, hcy, hY⟩ := refSS_at HRR.out HE.out.lr (Below.refl WA.heap.size WA) (Nat.le_refl _) j hjk
          obtain ⟨za, zc, hcz, hZ⟩ := refSS_at HRS.out HE.out.ls (Below.refl WA.heap.size WA) (Nat.le_refl _) j hjk
          obtain ⟨qb, qo, qe, qf, rfl, hcq, hq⟩ := intSS_head hY (HE.out.ne (by omega) HWL.out j hjk)
          have hyp : 0 < (R.getD j []).length := List.length_pos_iff.2 (HE.out.ne (by omega) HWL.out j hjk)
          generalize (R.getD j []).headD [] = z at *
          generalize R.getD j [] = Y at *
          generalize S.getD j [] = Z at *
          have HSF := Lib.hid SF; have HOS2 := Lib.hid OS; have HY := Lib.hid hY; have HZ := Lib.hid hZ
          have HPL := Lib.hid (l01Place_c _ _ X z wr HX.out (hq.same HB.out.block))
          have hcy1 := cell_at hcy HB.out
          have hcq1 := cell_at hcq HB.out
          have HC := Lib.hid (⟨hcy, hcz, hcq⟩ : _ ∧ _ ∧ _)
          have hji : (j : Int) < (W.length : Int) := by omega
          have HS1 := Lib.hid (fun (w : World) (h1 : Below wr.heap.size wr w) (h2 : Below WA.heap.size WA w) => l01Sum_c _ _ X Y w (HX.out.same h1.block) (HY.out.same h2.block) HSF.out.fx.len HSF.out.fx.la HSF.out.fx.lb)
          have HS2 := Lib.hid (fun (w : World) (h1 : Below wr.heap.size wr w) (h2 : Below WA.heap.size WA w) => l01Sum_c _ _ O Z w (HO.out.same h1.block) (HZ.out.same h2.block) HSF.out.fo.len HSF.out.fo.la HSF.out.fo.lb)
          clear hY hZ hq hcy hcz hcq SF OS
          by_cases hm : z ∈ X
          · have t1 := (placeL_in hm).1
            generalize placeL X z = pl at *
            go_wp2_with (first | (go_at_call 59; refine HPL.out.mono ?_; rintro e w3 ⟨rfl, n3, hw3⟩; have hb3 := below_of_drewN (Below.refl wr.heap.size wr) hw3; have hb3A : Below WA.heap.size WA w3 := HB.out.trans (hb3.mono hszr); have hcy3 := cell_at HC.out.1 hb3A; have HW3 := Lib.hid hw3; clear hw3) | (go_at_call 60; (with_reducible show Calls _ _ #[Value.slice xa2 X.length xc2, _] _ _); refine (HS1.out _ hb3 hb3A).mono ?_; rintro e w4 ⟨r4, rfl, ho4, hz4⟩; have hb4 : Below wr.heap.size wr w4 := hb3.trans (hz4.mono hb3.size); have hb4A : Below WA.heap.size WA w4 := HB.out.trans (hb4.mono hszr); have hx4 := ho4.ints; obtain ⟨ra, rc, rfl, -⟩ := hx4.len; have hcz4 := cell_at HC.out.2.1 hb4A) | (go_at_call 60; (with_reducible show Calls _ _ #[Value.slice oa2 O.length oc2, _] _ _); refine (HS2.out _ hb4 hb4A).mono ?_; rintro e w5 ⟨r5, rfl, ho5, hz5⟩; have hb5A : Below WA.heap.size WA w5 := hb4A.trans (hz5.mono hb4A.size); have hx5 := ho5.ints; obtain ⟨sa, sc, rfl, -⟩ := hx5.len))
            go_roundw
            case rel => exact ⟨j + 1, _, _, by omega, by go_num, HSF.out.yes hm, HOS2.out, hx4.same hz5.block, hx5, hb5A⟩
            case measure => simp [intOf]; omega
          · have t1 := placeL_out hm
            rw [t1] at HPL
            go_wp2_with (go_at_call 59; refine HPL.out.mono ?_; rintro e w3 ⟨rfl, n3, hw3⟩; have hb3 := below_of_drewN (Below.refl wr.heap.size wr) hw3; have hb3A : Below WA.heap.size WA w3 := HB.out.trans (hb3.mono hszr); have HW3 := Lib.hid hw3; clear hw3)
            go_roundw
            case rel => exact ⟨j + 1, X, O, by omega, by go_num, HSF.out.no hm, HOS.out, HX.out.same hb3.block, HO.out.same hb3.block, hb3A⟩
            case measure => simp [intOf]; omega
        · obtain rfl : j = W.length := by omega
          have HEND := Lib.hid (sq_end hd40 HWL.out HWA.out HE.out HXE.out HXA.out HEX.out HOS.out)
          go_wp2_with fail
          go_ret
          exact ⟨_, O, rfl, HEND.out, HO.out, HWA2.out.trans (HB.out.mono hszA)⟩
end
section
open Go.RowKit Go.Sort

theorem smR_ex (xss : List (List Int)) : ∃ S, (arT xss = true → SqOk (degT xss) xss S) ∧ (arT xss = false → S = []) := by
  cases h : arT xss
  · exact ⟨[], fun e => by simp at e, fun _ => rfl⟩
  · obtain ⟨S, hS⟩ := sq_some h
    exact ⟨S, fun _ => hS, fun e => by simp at e⟩
/-- The admissible sum of an element. -/
noncomputable def smR (xss : List (List Int)) : List (List Int) := (smR_ex xss).choose
theorem smR_ok {xss : List (List Int)} (h : arT xss = true) : SqOk (degT xss) xss (smR xss) := (smR_ex xss).choose_spec.1 h
theorem smR_no {xss : List (List Int)} (h : arT xss = false) : smR xss = [] := (smR_ex xss).choose_spec.2 h
theorem smR_eq {xss S : List (List Int)} (h : arT xss = true) (hS : SqOk (degT xss) xss S) : S = smR xss := sq_unique (degT_in h).2 hS (smR_ok h)
theorem smR_small (xss : List (List Int)) : (smR xss).length ≤ 504 ∧ ∀ w ∈ smR xss, w.length ≤ 5 := by
  cases h : arT xss
  · rw [smR_no h]; exact ⟨by simp, fun w hw => by cases hw⟩
  · have h1 := smR_ok h
    have hd := degT_in h
    obtain ⟨d, hd0⟩ : ∃ d : Nat, degT xss = (d : Int) := ⟨(degT xss).toNat, by omega⟩
    rw [hd0] at h1
    exact leads_len (d := d) (by omega) (List.Pairwise.imp (fun h => ltL_ne h) h1.asc) h1.lead
theorem smR_nil : smR [] = [] := by
  cases h : arT []
  · exact smR_no h
  · have h1 := smR_ok h
    have hl := (sq_unique (degT_in h).2 (S' := []) h1 ⟨Asc.nil, (fun w hw => by cases hw), rfl⟩)
    exact hl
theorem smR_cnt (xss : List (List Int)) : cnt (smR xss) ≤ 5000 := by
  have h := smR_small xss
  have h2 := cnt_le h.2
  omega
def smC (xss : List (List Int)) : Int := if arT xss then 0 else 1
end
section
open Go.RowKit Go.Sort

/-- The program's rounds. -/
structure SqI (d : Int) (xs X O : List (List Int)) : Prop where
  asc : Asc X
  exp : ExpD d X
  sum : X = oddL (xs ++ O.flatMap wordA)
  lead : ∀ w ∈ O, ∃ r, isExp r = true ∧ deg r = d ∧ w = leadL r ∧ ∀ z ∈ X, KK z < KK r
  nod : O.Nodup
theorem SqI.start {xs : List (List Int)} (hT : arT xs = true) : SqI (degT xs) xs xs [] :=
  ⟨arT_asc hT, arT_expD hT, by simp [(arT_asc hT).odd], fun w hw => by simp at hw, List.nodup_nil⟩
theorem SqI.step {d : Int} (h40 : d ≤ 40) {xs X O : List (List Int)} (h : SqI d xs X O) {m : List Int} (hm : m ∈ X) (hmax : ∀ z ∈ X, KK z ≤ KK m) : SqI d xs (mrg X (wordA (leadL m))) (O ++ [leadL m]) := by
  have hme := h.exp m hm
  obtain ⟨l1, l2, l3, l4⟩ := lead_main m hme.1 (by omega)
  obtain ⟨s1, s2⟩ := sq_step h40 h.exp h.asc hm hmax
  rw [mrg_odd h.asc l2]
  refine ⟨asc_oddL _, s1, ?_, fun w hw => ?_, ?_⟩
  · conv => lhs; rw [h.sum]
    rw [← oddL_append, List.flatMap_append, List.append_assoc]; simp
  · rcases List.mem_append.1 hw with hw | hw
    · obtain ⟨r, r1, r2, r3, r4⟩ := h.lead w hw
      exact ⟨r, r1, r2, r3, fun z hz => by have := s2 z hz; have := r4 m hm; omega⟩
    · exact ⟨m, hme.1, hme.2, List.mem_singleton.1 hw, s2⟩
  · rw [List.nodup_append]
    refine ⟨h.nod, by simp, fun a ha b hb e => ?_⟩
    rw [List.mem_singleton.1 hb] at e
    obtain ⟨r, r1, r2, r3, r4⟩ := h.lead a ha
    have : r = m := by rw [← unL_lead r, ← r3, e, unL_lead]
    subst this
    have := r4 r hm
    omega
theorem SqI.small {d : Nat} (h40 : d ≤ 40) {xs X O : List (List Int)} (h : SqI d xs X O) : O.length ≤ 504 ∧ (∀ w ∈ O, w.length ≤ 5) ∧ X.length ≤ 504 ∧ ∀ r ∈ X, isExp r = true ∧ deg r ≤ 40 ∧ r.length ≤ 5 := by
  have h1 := leads_len h40 h.nod fun w hw => by obtain ⟨r, r1, r2, r3, _⟩ := h.lead w hw; exact ⟨r, r1, r2, r3⟩
  have h2 := expD_small h40 h.exp h.asc
  exact ⟨h1.1, h1.2, h2.1, fun r hr => ⟨(h.exp r hr).1, by have := (h.exp r hr).2; omega, h2.2 r hr⟩⟩
theorem SqI.done {d : Int} {xs O : List (List Int)} (h : SqI d xs [] O) (ha : Asc xs) : SqOk d xs (oddL O) := by
  refine ⟨asc_oddL _, fun w hw => ?_, ?_⟩
  · obtain ⟨r, r1, r2, r3, _⟩ := h.lead w (mem_oddL_sub hw)
    exact ⟨r, r1, r2, r3⟩
  · rw [oddL_flatMap]
    have h0 := h.sum
    conv => rhs; rw [← ha.odd]
    refine oddL_congr fun z => ?_
    have h1 : z ∉ oddL (xs ++ O.flatMap wordA) := by rw [← h0]; simp
    rw [mem_oddL, List.count_append] at h1
    omega
theorem lead_fit {d : Nat} (h40 : d ≤ 40) {xs X O : List (List Int)} (h : SqI d xs X O) {m : List Int} (hm : m ∈ X) : Asc (wordA (leadL m)) ∧ SumFit X (wordA (leadL m)) := by
  have hme := h.exp m hm
  obtain ⟨l1, l2, l3, l4⟩ := lead_main m hme.1 (by omega)
  rw [hme.2] at l1
  exact ⟨l2, sumFit_of (expD_small h40 h.exp h.asc) (expD_small h40 l1 l2)⟩
theorem enters_fromRight : Enters Tryz.prog 47 := fun args w => by kernel_rfl
set_option maxRecDepth 100000 in
theorem maxFunc_c (v : Value) (T : List (List Int)) (w : World) (h : IntSS w.heap v T) (h0 : 0 < T.length) (hT : ∀ r ∈ T, isExp r = true ∧ deg r ≤ 40 ∧ r.length ≤ 5) :
    Calls Tryz.prog 46 #[v, .func (.func 47) #[] #[]] w fun e w' => ∃ o m, e = .returned o ∧ m ∈ T ∧ (∀ z ∈ T, KK z ≤ KK m) ∧ IntS w'.heap o m ∧ Below w.heap.size w w' := by
  obtain ⟨b0, o0, c0, u0, rfl, hc0, hu0, hm⟩ := h.at 0 h0
  rw [Nat.add_zero] at hc0
  have H := Lib.hid h
  have HT := Lib.hid hT
  have H0 : Hid (T[0] ∈ T.take 1 ∧ ∀ z ∈ T.take 1, KK z ≤ KK T[0]) := by
    have e : T.take 1 = [T[0]] := by
      rw [List.take_succ_eq_append_getElem h0]; rfl
    show _ ∧ _
    rw [e]
    exact ⟨List.mem_singleton.2 rfl, fun z hz => by rw [List.mem_singleton.1 hz]; exact Int.le_refl _⟩
  have HU0 := Lib.hid hu0
  have hcf := enters_fromRight
  unfold Enters at hcf
  have hi : ¬ (T.length : Int) < 1 := by omega
  have hi2 : (0 : Int) < (T.length : Int) := by omega
  clear h hT hu0
  generalize T[0] = t0 at *
  go_enter Tryz.func46, Tryz.ntmps46
  go_wp2_with fail
  go_loopw [5, 6] (fun mv i wr => ∃ (k : Nat) (m : List Int), 1 ≤ k ∧ k ≤ T.length ∧ i = .int .i64 k ∧ m ∈ T.take k ∧ (∀ z ∈ T.take k, KK z ≤ KK m) ∧ IntS wr.heap mv m ∧ Below w.heap.size w wr) (fun _ i _ => T.length - (intOf i).toNat)
  case atStart => exact ⟨1, t0, Nat.le_refl _, h0, by go_num, H0.out.1, H0.out.2, HU0.out, Below.refl _ _⟩
  case round =>
    obtain ⟨k, m, hk1, hk, rfl, hmT, hmx, hu, hbl⟩ := hrel
    obtain ⟨ma, mc, rfl, -⟩ := hu.len
    have HU := Lib.hid hu; have HB := Lib.hid hbl; have HMT := Lib.hid hmT; have HMX := Lib.hid hmx
    by_cases hkl : k < T.length
    · obtain ⟨b1, o1, c1, u1, hv1, hc1, hu1, -⟩ := H.out.at k hkl
      simp only [Value.slice.injEq, true_and] at hv1
      obtain ⟨e1, rfl⟩ := hv1
      cases e1
      have hcA := (hbl.cell (World.block_lt_of_cell? _ _ hc1)).trans hc1
      have ht := HT.out _ (List.getElem_mem hkl)
      have hmm := HT.out m (List.mem_of_mem_take hmT)
      have HU1 := Lib.hid (hu1.same hbl.block)
      have HL := Lib.hid (fr_law ht.1 hmm.1 ht.2.1 hmm.2.1)
      have HTK : Hid (T.take (k + 1) = T.take k ++ [T[k]]) := by show _ = _; exact List.take_succ_eq_append_getElem hkl
      have HFR := Lib.hid (frI_c _ _ T[k] m wr HU1.out HU.out ht.2.2 hmm.2.2)
      obtain ⟨ta, tc, rfl, -⟩ := hu1.len
      have hki : (k : Int) < (T.length : Int) := by omega
      clear hu hbl hmT hmx hc1 hu1 ht hmm
      generalize T[k] = t at *
      by_cases hgt : KK m < KK t
      · have t1 : (0 : Int) < frV t m := HL.out.2 hgt
        generalize frV t m = fv at *
        have HGT := Lib.hid hgt
        clear hgt
        go_wp2_with (go_at_call 47; refine HFR.out.mono ?_; rintro e w3 ⟨rfl, hb3⟩; have hc3 := cell_at hcA hb3; have HB3 := Lib.hid hb3; clear hb3)
        go_roundw
        case rel =>
          refine ⟨k + 1, t, by omega, by omega, by go_num, ?_, fun z hz => ?_, HU1.out.same HB3.out.block, HB.out.trans (HB3.out.mono HB.out.size)⟩
          · rw [HTK.out]; exact List.mem_append_right _ (List.mem_singleton.2 rfl)
          · rw [HTK.out] at hz
            rcases List.mem_append.1 hz with hz | hz
            · have := HMX.out z hz; have := HGT.out; omega
            · rw [List.mem_singleton.1 hz]; exact Int.le_refl _
        case measure => simp [intOf]; omega
      · have t1 : ¬ (0 : Int) < frV t m := fun h => hgt (HL.out.1 h)
        generalize frV t m = fv at *
        have HGT := Lib.hid hgt
        clear hgt
        go_wp2_with (go_at_call 47; refine HFR.out.mono ?_; rintro e w3 ⟨rfl, hb3⟩; have HB3 := Lib.hid hb3; clear hb3)
        go_roundw
        case rel =>
          refine ⟨k + 1, m, by omega, by omega, by go_num, ?_, fun z hz => ?_, HU.out.same HB3.out.block, HB.out.trans (HB3.out.mono HB.out.size)⟩
          · rw [HTK.out]; exact List.mem_append_left _ HMT.out
          · rw [HTK.out] at hz
            rcases List.mem_append.1 hz with hz | hz
            · exact HMX.out z hz
            · rw [List.mem_singleton.1 hz]; have := HGT.out; omega
        case measure => simp [intOf]; omega
    · obtain rfl : k = T.length := by omega
      clear hu hbl hmT hmx
      go_wp2_with fail
      go_ret
      exact ⟨_, m, rfl, List.mem_of_mem_take HMT.out, fun z hz => HMX.out z (by rwa [List.take_length]), HU.out, HB.out⟩
end
section
open Go.RowKit Go.Sort

section
variable {ops : Array Oper} {rest : List Oper} {o : Oper} {a : Act} {Q : Exit → Act → World → Prop}
/-- 'append(list, x)', x one reference; all else as it was. -/
theorem append_refF {w w0 : World} (hg : o.guard = none) (s x : Operand)
    (ho : o.op = .call { callee := .builtin .append, args := #[s, x], argTypes := #[23, 23] })
    (B : Nat) (v u : Value) (us : List Value) (xss : List (List Int)) (xs : List Int) (hR : RefR w B w.heap v us xss) (hs : a.eval s = v) (hu : IntS w.heap u xs) (hbl : Below B w0 w) (hB : B ≤ w.heap.size)
    (b : Nat) (hx : a.eval x = .slice (some ⟨b, 0, none⟩) 1 1) (hb : w.heap[b]? = some (.cells #[u] 22 (0, 0))) (hn : xss.length < 4398046511104)
    (hK : ∀ v' us' w', RefR w' B w'.heap v' us' (xss ++ [xs]) → Below B w0 w' → w.heap.size ≤ w'.heap.size → (∀ b, b < w.heap.size → some b ≠ v.ownBlock → w'.heap[b]? = w.heap[b]?) → wpList Tryz.prog ops Q rest (a.put o.dst v') w') :
    wpList Tryz.prog ops Q (o :: rest) a w := by
  obtain ⟨i0, hi, hz0, hz1, hz2⟩ := info_parts info_slI
  refine append_all hg s x _ ho B _ i0 _ 24 Tryz.underlying23 hi hz0 hz1 hz2 rfl (by omega) v _ _ us [u] hR.row hs (slAt_one hb) hx hbl hB (fun z hz => ?_) (by simp; omega) ?_
  · rw [List.mem_singleton] at hz; rw [hz]
    obtain ⟨_, _, rfl, _⟩ := hu.len
    simp [Value.oneCell']
  · intro v' w' h1 h2 h3 h4
    have kp := KeepI.grown hR.row (by decide) h4
    have hl := hR.len
    refine hK v' _ w' ⟨by simpa using h1, fun i y ys hy hz => ?_⟩ h2 h3 h4
    by_cases hi' : i < us.length
    · rw [List.getElem?_append_left hi'] at hy
      rw [List.getElem?_append_left (by omega)] at hz
      exact (hR.each i y ys hy hz).keep kp
    · rw [List.getElem?_append_right (by omega)] at hy hz
      rw [← hl] at hz
      obtain ⟨m, hm⟩ : ∃ m, i - us.length = m := ⟨_, rfl⟩
      rw [hm] at hy hz
      match m, hy, hz with
      | 0, hy, hz =>
        simp at hy hz
        subst hy; subst hz
        exact hu.keep kp
end
/-- What is read however the row of v is changed. -/
def Apart (w : World) (v x : Value) (X : List (List Int)) : Prop := ∀ W : World, (∀ b, b < w.heap.size → some b ≠ v.ownBlock → W.heap[b]? = w.heap[b]?) → IntSS W.heap x X
theorem Apart.now {w : World} {v x : Value} {X : List (List Int)} (h : Apart w v x X) : IntSS w.heap x X := h w fun _ _ _ => rfl
theorem Apart.grown {w w' : World} {v x : Value} {X : List (List Int)} (h : Apart w v x X) (k : ∀ b, b < w.heap.size → w'.heap[b]? = w.heap[b]?) (hs : w.heap.size ≤ w'.heap.size) : Apart w' v x X := fun W hW => h W fun b hb hne => (hW b (by omega) hne).trans (k b hb)
theorem apart_own {w : World} {B : Nat} {v x : Value} {us : List Value} {X : List (List Int)} (h : OwnU w B x us X) (hv : ∀ b, v.ownBlock = some b → b < B) : Apart w v x X := fun W hW => (h.far (w' := W) fun b hb hlt => hW b hlt fun e => by have := hv b e.symm; omega).ints
set_option maxRecDepth 100000 in
set_option maxHeartbeats 1000000 in
theorem squaresOf_of (SO : SortOk) (v : Value) (xs : List (List Int)) (w : World) (h : IntSS w.heap v xs) (hT : arT xs = true) :
    Calls Tryz.prog 27 #[v] w fun e w' => ∃ o us S, e = .returned o ∧ SqOk (degT xs) xs S ∧ OwnU w' w.heap.size o us S ∧ Below w.heap.size w w' := by
  have hdg := degT_in hT
  obtain ⟨d, hd⟩ : ∃ d : Nat, degT xs = (d : Int) := ⟨(degT xs).toNat, by omega⟩
  have hd40 : d ≤ 40 := by omega
  have HST := Lib.hid (SqI.start hT)
  have HA := Lib.hid (arT_asc hT)
  rw [hd] at HST ⊢
  have HSO := Lib.hid SO
  obtain ⟨ao, c, rfl, -⟩ := h.len
  have H := Lib.hid h
  clear h hT hd hdg SO
  go_enter Tryz.func27, Tryz.ntmps27
  go_wp2_with fail
  go_loopg [0, 3] 505 (fun k x out wr => ∃ (X O : List (List Int)) (us : List Value), SqI d xs X O ∧ Apart wr out x X ∧ RefR wr w.heap.size wr.heap out us O ∧ Below w.heap.size w wr ∧ 505 ≤ k + O.length)
  case atStart =>
    refine ⟨xs, [], [], HST.out, fun W hW => ?_, ref_empty (B := w.heap.size) _ (Nat.le_refl _), (Below.refl _ _).alloc (Nat.le_refl _) _, by simp⟩
    refine H.out.same fun b hb => (hW b (by simp; omega) (by simp [Value.ownBlock]; omega)).trans (alloc_old _ _ b hb)
  case round =>
    obtain ⟨X, O, us, hI, hA, hR, hbl, hkk⟩ := hrel
    obtain ⟨xa, xc, rfl, -⟩ := hA.now.len
    obtain ⟨oa, on, oc, rfl⟩ := own_shape hR.row
    have hsm := hI.small hd40
    have HI := Lib.hid hI; have HAP := Lib.hid hA; have HR := Lib.hid hR; have HB := Lib.hid hbl
    have hszr := hbl.size
    clear hI hA hR hbl
    by_cases h0 : 0 < X.length
    · have h0i : (0 : Int) < (X.length : Int) := by omega
      have hk0 : 1 ≤ gk := by omega
      have HSM := Lib.hid hsm
      have HOL : Hid (O.length < 4398046511104) := by show _ < _; omega
      have MX := Lib.hid (maxFunc_c _ X wr HAP.out.now h0 hsm.2.2.2)
      have HKK := Lib.hid hkk
      clear hsm hkk h0
      go_wp2_with (first | (go_at_call 46; refine MX.out.mono ?_; rintro e w1 ⟨mv, m, rfl, hm, hmx, hmr, hb1⟩; obtain ⟨ma, mc, rfl, -⟩ := hmr.len; have HM := Lib.hid hm; have HMX := Lib.hid hmx; have HMR := Lib.hid hmr; have HB1 := Lib.hid hb1; have LF := Lib.hid (lead_fit hd40 HI.out hm); have HSTEP := Lib.hid (HI.out.step (by omega) hm hmx); clear hm hmx hmr hb1) | (go_at_call 45; refine (leadingWord_c _ m w1 HMR.out (HSM.out.2.2.2 m HM.out).1 (HSM.out.2.2.2 m HM.out).2.1).mono ?_; rintro e w2 ⟨wv, rfl, hw2, hb2⟩; obtain ⟨wa, wn, wc, rfl⟩ := own_shape hw2; have HW2 := Lib.hid (hw2.ints.same (alloc_old w2 (.cells #[.slice wa wn wc] 22))); have HB2 := Lib.hid (HB1.out.trans (hb2.mono HB1.out.size)); have hsz2 := HB2.out.size; have HRA := Lib.hid ((HR.out.grown HB2.out.block).grown (alloc_old w2 (.cells #[.slice wa wn wc] 22))); have HAA := Lib.hid ((HAP.out.grown HB2.out.block hsz2).grown (alloc_old w2 (.cells #[.slice wa wn wc] 22)) (by simp)); clear hw2 hb2) | (at_builtin; refine append_refF (w0 := w) rfl _ _ rfl w.heap.size (.slice oa on oc) (.slice wa wn wc) us O (leadL m) HRA.out rfl HW2.out ((HB.out.trans (HB2.out.mono hszr)).alloc (Nat.le_trans hszr hsz2) _) (by simp; omega) w2.heap.size rfl (heap_alloc_new _ _) HOL.out ?_; intro v3 us3 w3 hR3 hb3 hs3 hf3; obtain ⟨qa, qn, qc, rfl⟩ := own_shape hR3.row; have HX3 := Lib.hid (HAA.out w3 hf3); have HW3 := Lib.hid (HW2.out.keep (KeepI.grown HRA.out.row (by decide) hf3)); have HR3 := Lib.hid hR3; have HB3 := Lib.hid hb3; clear hR3 hb3 hf3) | (go_at_call 49; refine (milnorOfWord_of HSO.out _ m w3 (HSM.out.2.2.2 m HM.out).1 (HSM.out.2.2.2 m HM.out).2.1 HW3.out).mono ?_; rintro e w4 ⟨pv, rfl, hp4, hb4⟩; obtain ⟨pa, pc, rfl, -⟩ := hp4.len; have HP4 := Lib.hid hp4; have HB4 := Lib.hid hb4; have hsz4 := hb4.size; clear hp4 hb4) | (go_at_call 48; refine (sumOf_of HSO.out _ _ X (wordA (leadL m)) w4 (HX3.out.same HB4.out.block) HP4.out HI.out.asc LF.out.1 LF.out.2.len LF.out.2.la LF.out.2.lb).mono ?_; rintro e w5 ⟨sv, us5, rfl, hU5, hb5⟩; obtain ⟨sa, sc, rfl, -⟩ := hU5.ints.len; have HU5 := Lib.hid hU5; have HB5 := Lib.hid hb5; clear hU5 hb5))
      go_roundg (gk - 1)
      case measure => omega
      case rel =>
        have hb45 : Below w3.heap.size w3 w5 := HB4.out.trans (HB5.out.mono hsz4)
        refine ⟨_, _, us3, HSTEP.out, apart_own HU5.out (fun b e => ?_), HR3.out.grown hb45.block, HB3.out.trans (hb45.mono (HB3.out.size)), ?_⟩
        · have := (World.ownsRow.lt HR3.out.row b e).2; omega
        · have := HKK.out; rw [List.length_append, List.length_singleton]; omega
    · obtain rfl : X = [] := List.eq_nil_of_length_eq_zero (by omega)
      have HD := Lib.hid (HI.out.done HA.out)
      have OO := Lib.hid (oddOnes_of HSO.out _ O wr (HR.out.ints fun _ _ => rfl) (by omega) (fun x hx => by have := hsm.2.1 x hx; omega))
      clear hsm hkk
      go_wp2_with (go_at_call 50; refine OO.out.mono ?_; rintro e w1 ⟨r1, us1, rfl, hU1, hb1⟩; obtain ⟨ra, rn, rc, rfl⟩ := own_shape hU1.row)
      go_ret
      obtain ⟨us2, hU2⟩ := OwnII.base ⟨us1, hU1⟩ hszr
      exact ⟨_, us2, oddL O, rfl, HD.out, hU2, HB.out.trans (hb1.mono hszr)⟩
end
section
open Go.RowKit Go.Sort

def letB (x : Int) : Bool := decide (1 ≤ x) && decide (x ≤ 40)
def wordB (r : List Int) : Bool := decide (r.length ≤ 20) && r.all letB && decide (r.sum ≤ 40)
def sumB (xss : List (List Int)) : Bool := xss.all fun r => r.sum == (xss.getD 0 []).sum
/-- The terms of a sum of squares. -/
def sqT (xss : List (List Int)) : Bool := decide (xss.length ≤ 2000) && ascB xss && xss.all wordB && sumB xss
theorem letB_in {x : Int} (h : letB x = true) : 1 ≤ x ∧ x ≤ 40 := by simp only [letB, Bool.and_eq_true, decide_eq_true_eq] at h; exact h
theorem letters_sm {r : List Int} (h : r.all letB = true) : Sm 1000000000000000 r := fun x hx => by
  have := letB_in (List.all_eq_true.1 h x hx); omega
theorem wordB_all {r : List Int} (h : wordB r = true) : r.all letB = true := by simp only [wordB, Bool.and_eq_true] at h; exact h.1.2
theorem wordB_len {r : List Int} (h : wordB r = true) : r.length ≤ 20 := by simp only [wordB, Bool.and_eq_true, decide_eq_true_eq] at h; exact h.1.1
theorem wordB_let {r : List Int} (h : wordB r = true) : ∀ x ∈ r, 1 ≤ x ∧ x ≤ 40 := fun x hx => letB_in (List.all_eq_true.1 (wordB_all h) x hx)
theorem sqT_rows {xss : List (List Int)} (h : sqT xss = true) : ∀ r ∈ xss, wordB r = true := by
  simp only [sqT, Bool.and_eq_true, List.all_eq_true] at h
  exact h.1.2
theorem isWord1_c (x : Int) (w : World) : Calls Tryz.prog 91 #[.int .i64 x] w fun e w' => e = .returned (.bool (letB x)) ∧ w = w' := by
  go_enter Tryz.func91, Tryz.ntmps91
  go_wp2_with (go_at_call 92; refine (in_c _ _ _ _).mono ?_; rintro e w' ⟨rfl, rfl⟩)
  go_ret
  exact ⟨rfl, rfl⟩
theorem enters_isWord1 : Enters Tryz.prog 91 := fun args w => by kernel_rfl
theorem isWord_c (v : Value) (r : List Int) (w : World) (h : IntS w.heap v r) :
    Calls Tryz.prog 67 #[v] w fun e w' => e = .returned (.bool (wordB r)) ∧ Below w.heap.size w w' := by
  have C := all_c v r 91 #[] letB w h enters_isWord1 (fun w1 _ x _ => (isWord1_c x w1).mono fun _ _ ⟨he, hw⟩ => ⟨he, 0, by rw [← hw]; rfl⟩)
  have S := fun (hs : r.all letB = true) (hl : r.length ≤ 20) => Lib.hid (fun (w : World) (h : IntS w.heap v r) => sumS_c v r w h (letters_sm hs) (by omega))
  have HB : Hid (wordB r = (decide (r.length ≤ 20) && r.all letB && decide (r.sum ≤ 40))) := rfl
  obtain ⟨ao, c, rfl, hm⟩ := h.len
  have HC := Lib.hid C; clear C
  have H := Lib.hid h; clear h
  generalize wordB r = q at *
  by_cases hl : r.length ≤ 20
  · have t1 : decide (r.length ≤ 20) = true := by simpa using hl
    rw [t1, Bool.true_and] at HB
    cases ha : r.all letB
    · rw [ha] at HC HB
      obtain rfl : q = false := HB.out
      clear ha HB S
      go_enter Tryz.func67, Tryz.ntmps67
      go_wp2_with (first | (go_at_call 88; refine HC.out.mono ?_; rintro e w1 ⟨rfl, hb⟩))
      go_ret
      exact ⟨rfl, hb⟩
    · have S := S ha hl
      rw [ha] at HC HB
      rw [Bool.true_and] at HB
      clear ha
      generalize r.sum = s at *
      go_enter Tryz.func67, Tryz.ntmps67
      go_wp2_with (first | (go_at_call 88; refine HC.out.mono ?_; rintro e w1 ⟨rfl, hb⟩; have HB1 := Lib.hid hb; clear hb) | (go_at_call 68; refine (S.out _ (H.out.same HB1.out.block)).mono ?_; rintro e w2 ⟨rfl, rfl⟩))
      go_ret
      exact ⟨by rw [HB.out]; rfl, HB1.out⟩
  · have t1 : decide (r.length ≤ 20) = false := by simpa using hl
    have t2 : decide ((r.length : Int) ≤ 20) = false := by simp; omega
    rw [t1] at HB
    obtain rfl : q = false := by have := HB.out; simpa using this
    clear HB S hl
    go_enter Tryz.func67, Tryz.ntmps67
    go_wp2_with fail
    go_ret
    exact ⟨rfl, Below.refl _ _⟩
theorem enters_isWord : Enters Tryz.prog 67 := fun args w => by kernel_rfl
theorem enters_sum : Enters Tryz.prog 68 := fun args w => by kernel_rfl
theorem sumW_c (v : Value) (r : List Int) (w : World) (h : IntS w.heap v r) (hE : wordB r = true) :
    Calls Tryz.prog 68 #[v] w fun e w' => e = .returned (.int .i64 r.sum) ∧ w = w' :=
  sumS_c v r w h (letters_sm (wordB_all hE)) (by have := wordB_len hE; omega)
theorem sameSum1_c (u v : Value) (r : List Int) (xss : List (List Int)) (g h0 : Nat) (w : World) (h : IntS w.heap u r) (hX : IntSS w.heap v xss) (h1 : w.cell? ⟨g, 0, none⟩ = some (.func (.func 68) #[] #[])) (h2 : w.cell? ⟨h0, 0, none⟩ = some v)
    (hr : wordB r = true) (hl : 0 < xss.length) (hx : wordB (xss.getD 0 []) = true) :
    Calls Tryz.prog 90 #[u, .pointer (some ⟨g, 0, none⟩), .pointer (some ⟨h0, 0, none⟩)] w fun e w' => e = .returned (.bool (r.sum == (xss.getD 0 []).sum)) ∧ ∃ n, w' = w.drewN n := by
  obtain ⟨b, off, cap, u0, rfl, hc, hu0, hm⟩ := hX.at 0 hl
  rw [show xss[0] = xss.getD 0 [] by simp [hl]] at hu0
  have D1 := Lib.hid (fun (w : World) (h : IntS w.heap u r) => sumW_c _ r w h hr)
  have D2 := Lib.hid (fun (w : World) (h : IntS w.heap u0 (xss.getD 0 [])) => sumW_c _ _ w h hx)
  obtain ⟨a1, c1, rfl, m1⟩ := h.len
  obtain ⟨a2, c2, rfl, m2⟩ := hu0.len
  have HU := Lib.hid h; have HU0 := Lib.hid hu0; have HX := Lib.hid hX
  have hcf := enters_sum
  unfold Enters at hcf
  clear h hu0 hX hr hx
  have e0 : off + 0 = off := rfl
  rw [e0] at hc
  clear e0
  generalize xss.getD 0 [] = s at *
  generalize r.sum = d at *
  generalize s.sum = d' at *
  have hl1 : (0 : Int) < (xss.length : Int) := by omega
  have hl2 : decide (0 < xss.length) = true := by simpa using hl
  go_enter Tryz.func90, Tryz.ntmps90
  go_wp2_with fail
  go_quiet ((go_at_call 68; first | ((with_reducible refine quiet_same (D1.out _ ?_)); exact HU.out) | ((with_reducible refine quiet_same (D2.out _ ?_)); exact HU0.out)))
  go_wp2_with fail
  go_ret
  exact ⟨rfl, _, rfl⟩
theorem sameSum_c (v : Value) (xss : List (List Int)) (w : World) (h : IntSS w.heap v xss) (hE : ∀ r ∈ xss, wordB r = true) :
    Calls Tryz.prog 66 #[v, .func (.func 68) #[] #[]] w fun e w' => e = .returned (.bool (sumB xss)) ∧ Below w.heap.size w w' := by
  obtain ⟨ao, c, hv, hm⟩ := h.len
  have hb : Below w.heap.size w ((w.alloc (.cells #[v] 23)).alloc (.cells #[.func (.func 68) #[] #[]] 56)) := ((Below.refl _ _).alloc (Nat.le_refl _) _).alloc (by simp) _
  have C := allSS_c v xss 90 #[.pointer (some ⟨w.heap.size + 1, 0, none⟩), .pointer (some ⟨w.heap.size, 0, none⟩)] (fun r => r.sum == (xss.getD 0 []).sum) ((w.alloc (.cells #[v] 23)).alloc (.cells #[.func (.func 68) #[] #[]] 56))
    (h.same hb.block) enters_sameDegree1 (fun w1 hb1 u xs hx hu => by
      have hl : 0 < xss.length := List.length_pos_of_mem hx
      refine (sameSum1_c u v xs xss (w.heap.size + 1) w.heap.size w1 hu ((h.same hb.block).same hb1.block) ?_ ?_ (hE xs hx) hl (hE _ ?_)).mono fun _ _ ⟨he, n, hn⟩ => ⟨he, by rw [hn]; exact below_drewN n (Below.refl _ _)⟩
      · rw [World.cell?_of_block (hb1.block _ (by simp)), World.cell?]
        simp only [show ∀ (W : World) (o : Obj), W.heap.size = w.heap.size + 1 → (W.alloc o).heap[w.heap.size + 1]? = some o from fun W o hW => by rw [← hW]; exact heap_alloc_new W o, size_alloc_w]
        rfl
      · rw [World.cell?_of_block (hb1.block _ (by simp; omega)), World.cell?]
        rw [alloc_old _ _ _ (by simp), heap_alloc_new]
        rfl
      · rw [show xss.getD 0 [] = xss[0] by simp [hl]]; exact List.getElem_mem _)
  subst hv
  have HC := Lib.hid C; have HB := Lib.hid hb; clear C h hE hb
  unfold sumB
  go_enter Tryz.func66, Tryz.ntmps66
  go_wp2_with (go_at_call 61; refine HC.out.mono ?_; rintro e w1 ⟨rfl, hb1⟩)
  go_ret
  exact ⟨rfl, HB.out.trans (hb1.mono HB.out.size)⟩
theorem isSquares_c (v : Value) (xss : List (List Int)) (w : World) (h : IntSS w.heap v xss) :
    Calls Tryz.prog 39 #[.agg #[v]] w fun e w' => e = .returned (.bool (sqT xss)) ∧ Below w.heap.size w w' := by
  have hb : Below w.heap.size w (w.alloc (.cells #[v] 51)) := (Below.refl _ _).alloc (Nat.le_refl _) _
  have hA := h.same hb.block
  have R := Lib.hid (fun (w : World) (h : IntSS w.heap v xss) => rising_c v xss w h)
  have A := Lib.hid (fun (w : World) (h : IntSS w.heap v xss) => allSS_c v xss 67 #[] wordB w h enters_isWord (fun w1 _ u xs _ hu => isWord_c u xs w1 hu))
  have hS : xss.all wordB = true → Hid (∀ (w : World), IntSS w.heap v xss → Calls Tryz.prog 66 #[v, .func (.func 68) #[] #[]] w fun e w' => e = .returned (.bool (sumB xss)) ∧ Below w.heap.size w w') := fun ha => Lib.hid fun w h => sameSum_c v xss w h fun r hr => List.all_eq_true.1 ha r hr
  have HT : Hid (sqT xss = (decide (xss.length ≤ 2000) && ascB xss && xss.all wordB && sumB xss)) := rfl
  have k0 := (Cell1.new w v 51).c0
  obtain ⟨ao, c, rfl, hm⟩ := h.len
  have H := Lib.hid hA; have HB0 := Lib.hid hb; clear h hA hb
  generalize sqT xss = q at *
  by_cases hl : xss.length ≤ 2000
  · have t1 : decide (xss.length ≤ 2000) = true := by simpa using hl
    have t2 : decide ((xss.length : Int) ≤ 2000) = true := by simp; omega
    rw [t1, Bool.true_and] at HT
    cases hr : ascB xss
    · rw [hr] at R HT
      obtain rfl : q = false := by have := HT.out; simpa using this
      clear hr hS HT
      go_enter Tryz.func39, Tryz.ntmps39
      go_wp2_with fail
      refine (R.out _ H.out).mono ?_
      rintro e w2 ⟨rfl, n, rfl⟩
      go_wp2_with fail
      go_ret
      exact ⟨rfl, below_drewN n HB0.out⟩
    · rw [hr] at R HT
      rw [Bool.true_and] at HT
      clear hr
      cases ha : xss.all wordB
      · rw [ha] at A HT
        obtain rfl : q = false := by have := HT.out; simpa using this
        clear ha hS HT
        go_enter Tryz.func39, Tryz.ntmps39
        go_wp2_with fail
        refine (R.out _ H.out).mono ?_
        rintro e w2 ⟨rfl, n, rfl⟩
        have HB2 := Lib.hid (below_drewN n HB0.out)
        have H2 := Lib.hid (H.out.same (fun _ _ => rfl) : IntSS ((w.alloc (.cells #[.slice ao xss.length c] 51)).drewN n).heap (.slice ao xss.length c) xss)
        go_wp2_with fail
        refine (A.out _ H2.out).mono ?_
        rintro e w3 ⟨rfl, hb3⟩
        have HB3 := Lib.hid (HB2.out.trans (hb3.mono HB2.out.size)); clear hb3
        go_wp2_with fail
        go_ret
        exact ⟨rfl, HB3.out⟩
      · have S := hS ha
        rw [ha] at A HT
        rw [Bool.true_and] at HT
        clear ha hS
        generalize sumB xss = sb at *
        obtain rfl : q = sb := HT.out
        clear HT
        go_enter Tryz.func39, Tryz.ntmps39
        go_wp2_with fail
        refine (R.out _ H.out).mono ?_
        rintro e w2 ⟨rfl, n, rfl⟩
        have HB2 := Lib.hid (below_drewN n HB0.out)
        have H2 := Lib.hid (H.out.same (fun _ _ => rfl) : IntSS ((w.alloc (.cells #[.slice ao xss.length c] 51)).drewN n).heap (.slice ao xss.length c) xss)
        go_wp2_with fail
        refine (A.out _ H2.out).mono ?_
        rintro e w3 ⟨rfl, hb3⟩
        have H3 := Lib.hid (H2.out.same hb3.block)
        have k3 := (hb3.cell (p := ⟨w.heap.size, 0, none⟩) (by simp)).trans k0
        have HB3 := Lib.hid (HB2.out.trans (hb3.mono HB2.out.size)); clear hb3
        go_wp2_with fail
        refine (S.out _ H3.out).mono ?_
        rintro e w4 ⟨rfl, hb4⟩
        have HB4 := Lib.hid (HB3.out.trans (hb4.mono HB3.out.size)); clear hb4
        go_wp2_with fail
        go_ret
        exact ⟨rfl, HB4.out⟩
  · have t1 : decide (xss.length ≤ 2000) = false := by simpa using hl
    have t2 : decide ((xss.length : Int) ≤ 2000) = false := by simp; omega
    rw [t1] at HT
    obtain rfl : q = false := by have := HT.out; simpa using this
    clear hS HT hl
    go_enter Tryz.func39, Tryz.ntmps39
    go_wp2_with fail
    go_ret
    exact ⟨rfl, HB0.out⟩
theorem wordB_no (r : List Int) (k : Nat) (hk : k < r.length) (h : letB r[k] = false) : wordB r = false := by
  cases e : wordB r
  · rfl
  · have := List.all_eq_true.1 (wordB_all e) _ (List.getElem_mem hk)
    rw [h] at this; cases this
theorem all_let (r : List Int) (h : ∀ j, j < r.length → letB (r.getD j 0) = true) : r.all letB = true := by
  rw [List.all_eq_true]
  intro x hx
  obtain ⟨j, hj, rfl⟩ := List.getElem_of_mem hx
  have := h j hj
  simpa [hj] using this
theorem sqT_yes (xss : List (List Int)) (h1 : xss.length ≤ 2000) (h2 : ascB xss = true) (h3 : ∀ j, j < xss.length → wordB (xss.getD j []) = true ∧ (xss.getD j []).sum = (xss.getD 0 []).sum) : sqT xss = true := by
  simp only [sqT, sumB, h2, h1, decide_true, Bool.true_and, Bool.and_eq_true, List.all_eq_true]
  constructor
  · intro r hr
    obtain ⟨j, hj, rfl⟩ := List.getElem_of_mem hr
    have := (h3 j hj).1
    simpa [hj] using this
  · intro r hr
    obtain ⟨j, hj, rfl⟩ := List.getElem_of_mem hr
    have := (h3 j hj).2
    rw [show xss.getD j [] = xss[j] by simp [hj]] at this
    simpa using this
theorem sqT_no (xss : List (List Int)) (j : Nat) (hj : j < xss.length) (h : wordB (xss.getD j []) = false ∨ (xss.getD j []).sum ≠ (xss.getD 0 []).sum) : sqT xss = false := by
  cases e : sqT xss
  · rfl
  · have hm : xss.getD j [] ∈ xss := by rw [show xss.getD j [] = xss[j] by simp [hj]]; exact List.getElem_mem _
    have h1 := sqT_rows e _ hm
    rcases h with h | h
    · rw [h1] at h; cases h
    · simp only [sqT, sumB, Bool.and_eq_true, List.all_eq_true, beq_iff_eq] at e
      exact absurd (e.2 _ hm) h
end
section
open Go.RowKit Go.Sort

/-- Whether the digit c of a mask is 1, as the program asks it. -/
def bitB (v : Int) (c : Nat) : Bool := bits BinOp.and IntKind.i64 (v / 2 ^ c) 1 == 1
/-- The rows for n and b: those for the first k places c. -/
def modC (sq : Nat → Nat → Int) (n b : Nat) : Nat → List (List Int)
  | 0 => []
  | c + 1 => modC sq n b c ++ if bitB (sq n b) c then [[(n : Int), (b : Int), (c : Int)]] else []
def modB (sq : Nat → Nat → Int) (size n : Nat) : Nat → List (List Int)
  | 0 => []
  | b + 1 => modB sq size n b ++ modC sq n b size
/-- The rows for the squares 1 to k. -/
def modN (sq : Nat → Nat → Int) (size : Nat) : Nat → List (List Int)
  | 0 => []
  | k + 1 => modN sq size k ++ modB sq size (k + 1) size
theorem modC_len (sq : Nat → Nat → Int) (n b c : Nat) : (modC sq n b c).length ≤ c ∧ cnt (modC sq n b c) ≤ 3 * c := by
  induction c with
  | zero => simp [modC, cnt]
  | succ c ih => unfold modC; rw [List.length_append, cnt_append]; split <;> simp [cnt] at * <;> omega
theorem modB_len (sq : Nat → Nat → Int) (size n b : Nat) : (modB sq size n b).length ≤ b * size ∧ cnt (modB sq size n b) ≤ 3 * (b * size) := by
  induction b with
  | zero => simp [modB, cnt]
  | succ b ih => unfold modB; rw [List.length_append, cnt_append, Nat.succ_mul]; have := modC_len sq n b size; omega
theorem modN_len (sq : Nat → Nat → Int) (size k : Nat) : (modN sq size k).length ≤ k * (size * size) ∧ cnt (modN sq size k) ≤ 3 * (k * (size * size)) := by
  induction k with
  | zero => simp [modN, cnt]
  | succ k ih => unfold modN; rw [List.length_append, cnt_append, Nat.succ_mul]; have := modB_len sq size (k + 1) size; omega

theorem OwnM.setVar {w : World} {B g t j : Nat} {d a x y : Value} {us : List Value} {ds : List Int} {act : List (List Int)} (h : OwnM w B d a us ds act) (k : Var2 w g x y t) (ne : t ≠ 2) (ne2 : t ≠ 22) (u : Value) : OwnM (w.setCell ⟨g, j, none⟩ u) B d a us ds act :=
  ⟨h.deg.setVar k ne u, h.act.setVar k ne ne2 u, h.apart⟩
theorem OwnM.base {w : World} {B B' : Nat} {d a : Value} {us : List Value} {ds : List Int} {act : List (List Int)} (h : OwnM w B d a us ds act) (k : B' ≤ B) : OwnM w B' d a us ds act :=
  ⟨own_base h.deg k, ⟨own_base h.act.row k, fun i u xs hu hx => own_base (h.act.each i u xs hu hx) k, h.act.apart⟩, h.apart⟩

section
variable {ops : Array Oper} {rest : List Oper} {o : Oper} {a : Act} {Q : Exit → Act → World → Prop}
/-- 'out.Action = append(out.Action, row)', the rows of a module of the call's own; the row has been made since the world wE. -/
theorem append_rowM {w w0 wE : World} (hg : o.guard = none) (s x : Operand)
    (ho : o.op = .call { callee := .builtin .append, args := #[s, x], argTypes := #[23, 23] })
    (B : Nat) (d v u : Value) (us : List Value) (ds : List Int) (xss : List (List Int)) (xs : List Int) (hown : OwnM wE B d v us ds xss) (hs : a.eval s = v) (hu : OwnI w wE.heap.size u xs) (hE : Below wE.heap.size wE w) (hbl : Below B w0 wE) (hB : B ≤ wE.heap.size)
    (b : Nat) (hx : a.eval x = .slice (some ⟨b, 0, none⟩) 1 1) (hb : b = w.heap.size) (hn : xss.length ≤ 4398046511104)
    (hK : ∀ v' w', OwnM w' B d v' (us ++ [u]) ds (xss ++ [xs]) → Below B w0 w' → w.heap.size ≤ w'.heap.size → (∀ b, b < w.heap.size → some b ≠ v.ownBlock → w'.heap[b]? = w.heap[b]?) → wpList Tryz.prog ops Q rest (a.put o.dst v') w') :
    wpList Tryz.prog ops Q (o :: rest) a (w.alloc (.cells #[u] 22)) := by
  have hW := hown.act.same hE.block
  obtain ⟨i0, hi, hz0, hz1, hz2⟩ := info_parts info_slI
  refine append_one hg s x _ ho B _ i0 _ 24 Tryz.underlying23 hi hz0 hz1 hz2 rfl (by omega) v _ _ u hW.row hs (hbl.trans (hE.mono hB)) (Nat.le_trans hB hE.size) b hx hb (own_oneCell hu) hn ?_
  intro v' w' h1 h2 h3 h4
  refine hK v' w' ⟨?_, OwnU.append hown.act hE hB hu h1 h4, fun z hz => ?_⟩ h2 h3 h4
  · have hd := hown.deg.same hE.block
    refine own_kept hd fun k hk => h4 k (World.ownsRow.lt hd k hk).2 ?_
    rcases own_ne_types hd hW.row (by decide) with e | e
    · rw [e] at hk; cases hk
    · rw [← hk]; exact e
  · rcases List.mem_append.1 hz with hz | hz
    · exact hown.apart z hz
    · simp only [List.mem_singleton] at hz; subst hz
      cases hd : d.ownBlock with
      | none => exact .inl rfl
      | some k =>
        right
        intro e
        have h5 := (World.ownsRow.lt hown.deg k hd).2
        have h6 := (World.ownsRow.lt hu k e.symm).1
        omega
end

end
section

/-- What one row of an action gives for a vector. -/
def hitM (n : Int) (v : Nat) (x : List Int) : Nat := if x.getD 0 0 = n ∧ v.testBit (x.getD 1 0).toNat = true then 2 ^ (x.getD 2 0).toNat else 0
/-- Sq^n of a mask by an action, n at least 1. -/
def actM (n : Int) (v : Nat) : List (List Int) → Nat
  | [] => 0
  | x :: a => hitM n v x ^^^ actM n v a
/-- Sq^n of a mask. -/
def actZ (act : List (List Int)) (n : Int) (v : Nat) : Nat := if n = 0 then v else actM n v act
/-- The mask of Sq^n of a basis element. -/
def rowM (n : Int) (i : Nat) : List (List Int) → Nat
  | [] => 0
  | x :: a => (if x.getD 0 0 = n ∧ x.getD 1 0 = i then 2 ^ (x.getD 2 0).toNat else 0) ^^^ rowM n i a
/-- A mask times rows. -/
def timM (v : Nat) (rows : Nat → Nat) : Nat → Nat
  | 0 => 0
  | k + 1 => timM v rows k ^^^ (if v.testBit k then rows k else 0)
theorem actM_append (n : Int) (v : Nat) (a b : List (List Int)) : actM n v (a ++ b) = actM n v a ^^^ actM n v b := by
  induction a with
  | nil => simp [actM]
  | cons x a ih => simp only [List.cons_append, actM, ih, Nat.xor_assoc]
theorem rowM_append (n : Int) (i : Nat) (a b : List (List Int)) : rowM n i (a ++ b) = rowM n i a ^^^ rowM n i b := by
  induction a with
  | nil => simp [rowM]
  | cons x a ih => simp only [List.cons_append, rowM, ih, Nat.xor_assoc]
theorem actM_take (n : Int) (v : Nat) (act : List (List Int)) (k : Nat) (h : k < act.length) : actM n v (act.take (k + 1)) = actM n v (act.take k) ^^^ hitM n v act[k] := by
  rw [List.take_succ_eq_append_getElem h, actM_append]; simp [actM]
theorem rowM_take (n : Int) (i : Nat) (act : List (List Int)) (k : Nat) (h : k < act.length) : rowM n i (act.take (k + 1)) = rowM n i (act.take k) ^^^ (if act[k].getD 0 0 = n ∧ act[k].getD 1 0 = i then 2 ^ (act[k].getD 2 0).toNat else 0) := by
  rw [List.take_succ_eq_append_getElem h, rowM_append]; simp [rowM]
theorem xor4 (a b c d : Nat) : (a ^^^ b) ^^^ (c ^^^ d) = (a ^^^ c) ^^^ (b ^^^ d) := by
  rw [Nat.xor_assoc, Nat.xor_assoc, ← Nat.xor_assoc b c d, Nat.xor_comm b c, Nat.xor_assoc c b d]
theorem timM_xor (v : Nat) (f g : Nat → Nat) (k : Nat) : timM v (fun i => f i ^^^ g i) k = timM v f k ^^^ timM v g k := by
  induction k with
  | zero => simp [timM]
  | succ k ih =>
    simp only [timM, ih]
    cases v.testBit k
    · simp
    · simp only [if_true]; exact xor4 _ _ _ _
theorem timM_one (v j c k : Nat) : timM v (fun i => if i = j then c else 0) k = if j < k ∧ v.testBit j = true then c else 0 := by
  induction k with
  | zero => simp [timM]
  | succ k ih =>
    simp only [timM, ih]
    by_cases e : k = j
    · subst e; simp
    · have : (j < k + 1) ↔ (j < k) := by omega
      simp [e, this]
theorem timM_congr (v : Nat) (f g : Nat → Nat) (k : Nat) (h : ∀ i, i < k → f i = g i) : timM v f k = timM v g k := by
  induction k with
  | zero => rfl
  | succ k ih => simp only [timM, ih fun i hi => h i (by omega), h k (by omega)]
theorem timM_act (n : Int) (v size : Nat) : ∀ (act : List (List Int)), (∀ x ∈ act, 0 ≤ x.getD 1 0 ∧ x.getD 1 0 < size) → timM v (fun i => rowM n i act) size = actM n v act
  | [], _ => by
    simp only [rowM, actM]
    have := timM_one v 0 0 size
    simpa using this
  | x :: a, h => by
    have hx := h x (List.mem_cons_self ..)
    simp only [rowM, actM]
    rw [timM_xor, timM_act n v size a fun y hy => h y (List.mem_cons_of_mem _ hy)]
    congr 1
    unfold hitM
    by_cases e : x.getD 0 0 = n
    · rw [timM_congr v _ (fun i => if i = (x.getD 1 0).toNat then 2 ^ (x.getD 2 0).toNat else 0) size fun i _ => by
        by_cases e2 : x.getD 1 0 = i
        · rw [if_pos ⟨e, e2⟩, if_pos (by omega)]
        · rw [if_neg (fun z => e2 z.2), if_neg (by omega)]]
      rw [timM_one]
      by_cases e3 : v.testBit (x.getD 1 0).toNat = true
      · rw [if_pos ⟨by omega, e3⟩, if_pos ⟨e, e3⟩]
      · rw [if_neg (fun z => e3 z.2), if_neg (fun z => e3 z.2)]
    · rw [timM_congr v _ (fun i => if i = 0 then 0 else 0) size fun i _ => by rw [if_neg (fun z => e z.1)]; simp, timM_one, ite_self, if_neg (fun z => e z.1)]
theorem timM_self (v : Nat) : ∀ k, v < 2 ^ k → timM v (fun i => 2 ^ i) k = v := by
  have key : ∀ k, timM v (fun i => 2 ^ i) k = v % 2 ^ k := by
    intro k
    induction k with
    | zero => simp [timM, Nat.mod_one]
    | succ k ih =>
      rw [timM, ih]
      apply Nat.eq_of_testBit_eq
      intro i
      rw [Nat.testBit_xor, Nat.testBit_mod_two_pow, Nat.testBit_mod_two_pow]
      by_cases hi : i < k
      · have : i ≠ k := by omega
        by_cases e : v.testBit k = true
        · simp [e, hi, show i < k + 1 by omega, show k ≠ i by omega]
        · simp [e, hi, show i < k + 1 by omega]
      · by_cases e2 : i = k
        · subst e2
          by_cases e : v.testBit i = true
          · simp [e]
          · simp [e]
        · by_cases e : v.testBit k = true
          · simp [e, hi, show ¬ i < k + 1 by omega, show k ≠ i by omega]
          · simp [e, hi, show ¬ i < k + 1 by omega]
  intro k h; rw [key, Nat.mod_eq_of_lt h]
theorem timM_bound (v : Nat) (f : Nat → Nat) (m : Nat) (h : ∀ i, f i < 2 ^ m) : ∀ k, timM v f k < 2 ^ m
  | 0 => Nat.two_pow_pos m
  | k + 1 => by
    rw [timM]
    exact Nat.xor_lt_two_pow (timM_bound v f m h k) (by split; exact h k; exact Nat.two_pow_pos m)

theorem hitM_bit (n : Int) (v : Nat) (x : List Int) (c : Nat) (h : (hitM n v x).testBit c = true) : x.getD 0 0 = n ∧ v.testBit (x.getD 1 0).toNat = true ∧ (x.getD 2 0).toNat = c := by
  unfold hitM at h
  by_cases e : x.getD 0 0 = n ∧ v.testBit (x.getD 1 0).toNat = true
  · rw [if_pos e, Nat.testBit_two_pow] at h
    exact ⟨e.1, e.2, by simpa using h⟩
  · rw [if_neg e] at h; simp at h
theorem actM_bit (n : Int) (v c : Nat) : ∀ (act : List (List Int)), (actM n v act).testBit c = true → ∃ x ∈ act, x.getD 0 0 = n ∧ v.testBit (x.getD 1 0).toNat = true ∧ (x.getD 2 0).toNat = c
  | [], h => by simp [actM] at h
  | x :: a, h => by
    rw [actM, Nat.testBit_xor] at h
    by_cases e : (hitM n v x).testBit c = true
    · exact ⟨x, List.mem_cons_self .., hitM_bit n v x c e⟩
    · have h2 : (actM n v a).testBit c = true := by
        cases h3 : (hitM n v x).testBit c
        · rw [h3] at h; simpa using h
        · exact absurd h3 e
      obtain ⟨y, hy, r⟩ := actM_bit n v c a h2
      exact ⟨y, List.mem_cons_of_mem _ hy, r⟩
/-- A table of an action, but for Adem's relations. -/
def sortB (ds : List Int) : Bool := (List.range (ds.length - 1)).all fun i => decide (ds.getD i 0 ≤ ds.getD (i + 1) 0)
def stemB (d : Int) : Bool := decide (0 ≤ d) && decide (d ≤ 20)
def cellB (ds x : List Int) : Bool := decide (x.length = 3) && decide (1 ≤ x.getD 0 0) && decide (0 ≤ x.getD 1 0) && decide (x.getD 1 0 < ds.length) && decide (0 ≤ x.getD 2 0) && decide (x.getD 2 0 < ds.length) && decide (ds.getD (x.getD 2 0).toNat 0 = ds.getD (x.getD 1 0).toNat 0 + x.getD 0 0)
def modT (ds : List Int) (act : List (List Int)) : Bool := decide (ds.length ≤ 16) && ds.all stemB && sortB ds && ascB act && act.all (cellB ds)
theorem modT_len {ds : List Int} {act : List (List Int)} (h : modT ds act = true) : ds.length ≤ 16 := by
  simp only [modT, Bool.and_eq_true, decide_eq_true_eq] at h; exact h.1.1.1.1
theorem modT_stem {ds : List Int} {act : List (List Int)} (h : modT ds act = true) (i : Nat) : 0 ≤ ds.getD i 0 ∧ ds.getD i 0 ≤ 20 := by
  simp only [modT, Bool.and_eq_true, List.all_eq_true, stemB, decide_eq_true_eq] at h
  by_cases hi : i < ds.length
  · have := h.1.1.1.2 ds[i] (List.getElem_mem hi)
    rw [show ds.getD i 0 = ds[i] by simp [hi]]; exact this
  · rw [show ds.getD i 0 = 0 by simp [show ds.length ≤ i by omega]]; omega
theorem modT_asc {ds : List Int} {act : List (List Int)} (h : modT ds act = true) : Asc act := by
  simp only [modT, Bool.and_eq_true] at h; exact ascB_asc _ h.1.2
theorem modT_cell {ds : List Int} {act : List (List Int)} (h : modT ds act = true) (x : List Int) (hx : x ∈ act) :
    x.length = 3 ∧ 1 ≤ x.getD 0 0 ∧ 0 ≤ x.getD 1 0 ∧ x.getD 1 0 < ds.length ∧ 0 ≤ x.getD 2 0 ∧ x.getD 2 0 < ds.length ∧ ds.getD (x.getD 2 0).toNat 0 = ds.getD (x.getD 1 0).toNat 0 + x.getD 0 0 := by
  simp only [modT, Bool.and_eq_true, List.all_eq_true, cellB, decide_eq_true_eq] at h
  obtain ⟨⟨⟨⟨⟨⟨a, b⟩, c⟩, d⟩, e⟩, f⟩, g⟩ := h.2 x hx
  exact ⟨a, b, c, d, e, f, g⟩
theorem modT_sorted {ds : List Int} {act : List (List Int)} (h : modT ds act = true) : ∀ (j i : Nat), i ≤ j → j < ds.length → ds.getD i 0 ≤ ds.getD j 0 := by
  simp only [modT, Bool.and_eq_true, sortB, List.all_eq_true, decide_eq_true_eq, List.mem_range] at h
  intro j
  induction j with
  | zero => intro i hi _; rw [show i = 0 by omega]; exact Int.le_refl _
  | succ j ih =>
    intro i hi hj
    by_cases e : i = j + 1
    · rw [e]; exact Int.le_refl _
    · exact Int.le_trans (ih i (by omega) (by omega)) (h.1.1.2 j (by omega))
theorem modT_top {ds : List Int} {act : List (List Int)} (h : modT ds act = true) (x : List Int) (hx : x ∈ act) : x.getD 0 0 ≤ 20 := by
  have h1 := modT_cell h x hx
  have h2 := modT_stem h (x.getD 2 0).toNat
  have h3 := modT_stem h (x.getD 1 0).toNat
  omega
theorem actM_lt {ds : List Int} {act : List (List Int)} (h : modT ds act = true) (n : Int) (v : Nat) : actM n v act < 2 ^ ds.length := by
  apply Nat.lt_pow_two_of_testBit
  intro i hi
  cases e : (actM n v act).testBit i
  · rfl
  · obtain ⟨x, hx, _, _, h2⟩ := actM_bit n v i act e
    have := modT_cell h x hx
    omega
theorem actZ_lt {ds : List Int} {act : List (List Int)} (h : modT ds act = true) (n : Int) (v : Nat) (hv : v < 2 ^ ds.length) : actZ act n v < 2 ^ ds.length := by
  unfold actZ; split
  · exact hv
  · exact actM_lt h n v
/-- The degree of what a square makes. -/
theorem actZ_deg {ds : List Int} {act : List (List Int)} (h : modT ds act = true) (n : Int) (v c : Nat) (hb : (actZ act n v).testBit c = true) : ∃ i, v.testBit i = true ∧ ds.getD c 0 = ds.getD i 0 + n := by
  unfold actZ at hb
  split at hb
  · exact ⟨c, hb, by omega⟩
  · obtain ⟨x, hx, h0, h1, h2⟩ := actM_bit n v c act hb
    have := modT_cell h x hx
    exact ⟨_, h1, by rw [← h2, this.2.2.2.2.2.2, h0]⟩
theorem actZ_two {ds : List Int} {act : List (List Int)} (h : modT ds act = true) (p q : Int) (v : Nat) (hv : v < ds.length) (hpq : ds.getD (ds.length - 1) 0 - ds.getD 0 0 < p + q) : actZ act p (actZ act q (2 ^ v)) = 0 := by
  apply Nat.eq_of_testBit_eq
  intro c
  rw [Nat.zero_testBit]
  cases e : (actZ act p (actZ act q (2 ^ v))).testBit c
  · rfl
  · have hc : c < ds.length := by
      have hlt : actZ act p (actZ act q (2 ^ v)) < 2 ^ ds.length := actZ_lt h _ _ (actZ_lt h _ _ (Nat.pow_lt_pow_right (by omega) hv))
      by_cases e2 : c < ds.length
      · exact e2
      · rw [Nat.testBit_lt_two_pow (Nat.lt_of_lt_of_le hlt (Nat.pow_le_pow_right (by omega) (by omega)))] at e; cases e
    obtain ⟨i, h1, h2⟩ := actZ_deg h p _ c e
    obtain ⟨j, h3, h4⟩ := actZ_deg h q _ i h1
    rw [Nat.testBit_two_pow] at h3
    obtain rfl : v = j := by simpa using h3
    have := modT_sorted h (ds.length - 1) c (by omega) (by omega)
    have := modT_sorted h v 0 (by omega) hv
    omega
/-- Whether j occurs in Adem's relation for a and b. -/
def relB (a b j : Nat) : Bool := decide (2 * j ≤ a) && decide ((b - j - 1) &&& (a - 2 * j) = a - 2 * j)
def relL (a b : Nat) : List Nat := (List.range (a + 1)).filter (relB a b)
def fltS (act : List (List Int)) (a b v : Nat) : List Nat → Nat
  | [] => 0
  | j :: l => actZ act ((a + b - j : Nat) : Int) (actZ act (j : Int) (2 ^ v)) ^^^ fltS act a b v l
/-- What shows a fault. -/
def flt (act : List (List Int)) (a b v : Nat) : Nat := actZ act a (actZ act b (2 ^ v)) ^^^ fltS act a b v (relL a b)
theorem fltS_append (act : List (List Int)) (a b v : Nat) (l m : List Nat) : fltS act a b v (l ++ m) = fltS act a b v l ^^^ fltS act a b v m := by
  induction l with
  | nil => simp [fltS]
  | cons x l ih => simp only [List.cons_append, fltS, ih, Nat.xor_assoc]
theorem flt_far {ds : List Int} {act : List (List Int)} (h : modT ds act = true) (a b v : Nat) (hv : v < ds.length) (hab : ds.getD (ds.length - 1) 0 - ds.getD 0 0 < a + b) : flt act a b v = 0 := by
  have key : ∀ l : List Nat, (∀ j ∈ l, j ≤ a) → fltS act a b v l = 0 := by
    intro l
    induction l with
    | nil => intro _; rfl
    | cons j l ih =>
      intro hj
      have := hj j (List.mem_cons_self ..)
      rw [fltS, ih fun x hx => hj x (List.mem_cons_of_mem _ hx), actZ_two h _ _ v hv (by omega)]
      rfl
  rw [flt, actZ_two h _ _ v hv (by omega), key]
  · rfl
  · intro j hj
    simp only [relL, List.mem_filter, List.mem_range] at hj
    omega
def fV (ds : List Int) (act : List (List Int)) (a b : Nat) : Option (List Int) := (List.range ds.length).findSome? fun v => if flt act a b v = 0 then none else some [(a : Int), (b : Int), (v : Int)]
def fB (ds : List Int) (act : List (List Int)) (a : Nat) : Option (List Int) := (List.range 21).findSome? fun b => if a / 2 + 1 ≤ b ∧ a + b ≤ 20 then fV ds act a b else none
def fA (ds : List Int) (act : List (List Int)) : Option (List Int) := (List.range 21).findSome? fun a => if 1 ≤ a then fB ds act a else none
/-- The first fault of Adem's relations. -/
def fltL (ds : List Int) (act : List (List Int)) : List Int := (fA ds act).getD []
theorem find_none {α : Type} (f : Nat → Option α) (n : Nat) (h : ∀ i, i < n → f i = none) : (List.range n).findSome? f = none := by
  rw [List.findSome?_eq_none_iff]; intro x hx; exact h x (List.mem_range.1 hx)
theorem find_some {α : Type} (f : Nat → Option α) (n k : Nat) (y : α) (hk : k < n) (h : ∀ i, i < k → f i = none) (hy : f k = some y) : (List.range n).findSome? f = some y := by
  obtain ⟨m, rfl⟩ : ∃ m, n = k + 1 + m := ⟨n - (k + 1), by omega⟩
  rw [List.range_add, List.range_succ, List.append_assoc, List.findSome?_append, find_none f k h]
  simp [hy]
theorem fV_shape {ds : List Int} {act : List (List Int)} {a b : Nat} {l : List Int} (h : fV ds act a b = some l) : ∃ v, v < ds.length ∧ l = [(a : Int), (b : Int), (v : Int)] := by
  obtain ⟨v, hv, h⟩ := List.exists_of_findSome?_eq_some h
  refine ⟨v, List.mem_range.1 hv, ?_⟩
  split at h
  · cases h
  · exact (Option.some.inj h).symm
theorem fA_shape {ds : List Int} {act : List (List Int)} {l : List Int} (h : fA ds act = some l) : ∃ a b v : Nat, v < ds.length ∧ a ≤ 20 ∧ b ≤ 20 ∧ l = [(a : Int), (b : Int), (v : Int)] := by
  obtain ⟨a, ha, h⟩ := List.exists_of_findSome?_eq_some h
  split at h
  · obtain ⟨b, hb, h⟩ := List.exists_of_findSome?_eq_some h
    split at h
    · obtain ⟨v, hv, h⟩ := fV_shape h
      have := List.mem_range.1 ha; have := List.mem_range.1 hb
      exact ⟨a, b, v, hv, by omega, by omega, h⟩
    · cases h
  · cases h
theorem fltL_len (ds : List Int) (act : List (List Int)) : (fltL ds act).length ≤ 3 := by
  unfold fltL
  cases h : fA ds act with
  | none => simp
  | some l => obtain ⟨a, b, v, _, _, _, rfl⟩ := fA_shape h; simp
theorem fltL_nil (ds : List Int) (act : List (List Int)) : fltL ds act = [] ↔ fA ds act = none := by
  unfold fltL
  cases h : fA ds act with
  | none => simp
  | some l => obtain ⟨a, b, v, _, _, _, rfl⟩ := fA_shape h; simp
/-- Whether a table is a module. -/
def isMod (ds : List Int) (act : List (List Int)) : Bool := modT ds act && decide (fltL ds act = [])
/-- The digits of a mask. -/
def bitsL (size m : Nat) : List Int := (List.range size).map fun i => if m.testBit i then 1 else 0
theorem bitsL_length (size m : Nat) : (bitsL size m).length = size := by simp [bitsL]
theorem bitsL_at (size m i : Nat) (h : i < size) : (bitsL size m).getD i 0 = if m.testBit i then 1 else 0 := by simp [bitsL, h]
theorem bitsL_ext {l : List Int} {size m : Nat} (hl : l.length = size) (h : ∀ i, i < size → l.getD i 0 = if m.testBit i then 1 else 0) : l = bitsL size m := by
  apply List.ext_getElem
  · rw [hl, bitsL_length]
  · intro i h1 h2
    have h3 := h i (by omega)
    have h4 := bitsL_at size m i (by omega)
    rw [show l[i] = l.getD i 0 by simp [h1], show (bitsL size m)[i] = (bitsL size m).getD i 0 by simp [h2], h3, h4]
theorem bitsL_zero (size : Nat) : bitsL size 0 = List.replicate size 0 := by
  symm; exact bitsL_ext (by simp) fun i hi => by simp [hi]
theorem bitsL_inj {size m m' : Nat} (h1 : m < 2 ^ size) (h2 : m' < 2 ^ size) (h : bitsL size m = bitsL size m') : m = m' := by
  apply Nat.eq_of_testBit_eq
  intro i
  by_cases hi : i < size
  · have := congrArg (fun l : List Int => l.getD i 0) h
    simp only [bitsL_at _ _ _ hi] at this
    cases e1 : m.testBit i <;> cases e2 : m'.testBit i <;> simp_all
  · rw [Nat.testBit_lt_two_pow (Nat.lt_of_lt_of_le h1 (Nat.pow_le_pow_right (by omega) (by omega))), Nat.testBit_lt_two_pow (Nat.lt_of_lt_of_le h2 (Nat.pow_le_pow_right (by omega) (by omega)))]
theorem bitsL_toggle (size m c : Nat) (hc : c < size) : (bitsL size m).set c (1 - (bitsL size m).getD c 0) = bitsL size (m ^^^ 2 ^ c) := by
  refine bitsL_ext (by simp [bitsL_length]) fun i hi => ?_
  rw [bitsL_at _ _ _ hc, Nat.testBit_xor, Nat.testBit_two_pow]
  by_cases e : c = i
  · subst e
    rw [show ((bitsL size m).set c (1 - if m.testBit c then 1 else 0)).getD c 0 = 1 - if m.testBit c then 1 else 0 by simp [bitsL_length, hi]]
    cases m.testBit c <;> simp
  · rw [show ((bitsL size m).set c (1 - if m.testBit c then 1 else 0)).getD i 0 = (bitsL size m).getD i 0 by simp [List.getElem?_set_ne e], bitsL_at _ _ _ hi]
    simp [e]
/-- The sum of two vectors. -/
def plusL (a b : List Int) (k : Nat) : List Int := (List.range k).map fun i => (a.getD i 0 + b.getD i 0) % 2
theorem plusL_bits (size m n : Nat) : plusL (bitsL size m) (bitsL size n) size = bitsL size (m ^^^ n) := by
  refine bitsL_ext (by simp [plusL]) fun i hi => ?_
  rw [show (plusL (bitsL size m) (bitsL size n) size).getD i 0 = ((bitsL size m).getD i 0 + (bitsL size n).getD i 0) % 2 by simp [plusL, hi], bitsL_at _ _ _ hi, bitsL_at _ _ _ hi, Nat.testBit_xor]
  cases m.testBit i <;> cases n.testBit i <;> rfl
theorem plusL_succ (a b : List Int) (k : Nat) : plusL a b (k + 1) = plusL a b k ++ [(a.getD k 0 + b.getD k 0) % 2] := by simp [plusL, List.range_succ]
theorem bitsL_unit (size v : Nat) (hv : v < size) : (List.replicate size (0 : Int)).set v 1 = bitsL size (2 ^ v) := by
  refine bitsL_ext (by simp) fun i hi => ?_
  rw [Nat.testBit_two_pow]
  by_cases e : v = i
  · subst e; simp [hv]
  · simp [e, hi]
/-- The words of the relation for a and b, in order. -/
def relW (a b : Nat) : List Nat → List (List Int)
  | [] => []
  | j :: l => relW a b l ++ [if j = 0 then [((a + b : Nat) : Int)] else [((a + b - j : Nat) : Int), (j : Int)]]
end
section
open Go.RowKit Go.Sort

theorem lessI_c (x y : Int) (w : World) : Calls Tryz.prog 127 #[.int .i64 x, .int .i64 y] w fun e w' => e = .returned (.bool (decide (x < y))) ∧ w = w' := by
  go_enter Tryz.func127, Tryz.ntmps127
  go_wp2_with (go_at_call 113; refine (isNaN_c _ _).mono ?_; rintro e w' ⟨rfl, rfl⟩)
  go_ret
  exact ⟨rfl, rfl⟩
theorem sortB_false (ds : List Int) (m : Nat) (h : m + 1 < ds.length) (hlt : ds.getD (m + 1) 0 < ds.getD m 0) : sortB ds = false := by
  cases e : sortB ds
  · rfl
  · simp only [sortB, List.all_eq_true, List.mem_range, decide_eq_true_eq] at e
    have := e m (by omega); omega
theorem sortB_true (ds : List Int) (h : ∀ j, j + 1 < ds.length → ds.getD j 0 ≤ ds.getD (j + 1) 0) : sortB ds = true := by
  simp only [sortB, List.all_eq_true, List.mem_range, decide_eq_true_eq]
  intro i hi; exact h i (by omega)
theorem sortedI_c (v : Value) (ds : List Int) (w : World) (h : IntS w.heap v ds) :
    Calls Tryz.prog 109 #[v] w fun e w' => e = .returned (.bool (sortB ds)) ∧ ∃ n, w' = w.drewN n := by
  obtain ⟨ao, c, rfl, hm⟩ := h.len
  have H := Lib.hid h; clear h
  by_cases h1 : ds.length = 0
  · have hs := Lib.hid (sortB_true ds fun j hj => by omega)
    rw [h1]
    clear h1
    go_enter Tryz.func109, Tryz.ntmps109
    go_wp2_with fail
    go_loopw [3] (fun i wr => i = .int .i64 (-1) ∧ w = wr) (fun i _ => 0)
    case atStart => exact ⟨rfl, rfl⟩
    case round =>
      obtain ⟨rfl, rfl⟩ := hrel
      go_wp2_with fail
      go_ret
      exact ⟨by rw [hs.out]; rfl, 0, rfl⟩
  · obtain ⟨l, hl⟩ : ∃ l, ds.length = l + 1 := ⟨ds.length - 1, by omega⟩
    have HL := Lib.hid hl
    have hm' : l + 1 ≤ 9223372036854775807 := by omega
    rw [hl]
    clear h1 hl hm
    go_enter Tryz.func109, Tryz.ntmps109
    go_wp2_with fail
    go_loopw [3] (fun i wr => ∃ k n : Nat, i = .int .i64 k ∧ k ≤ l ∧ wr = w.drewN n ∧ ∀ j, k ≤ j → j < l → ds.getD j 0 ≤ ds.getD (j + 1) 0) (fun i _ => (intOf i).toNat)
    case atStart => exact ⟨l, 0, by go_num, Nat.le_refl _, rfl, fun j h1 h2 => by omega⟩
    case round =>
      obtain ⟨k, n, rfl, hk, rfl, hpre⟩ := hrel
      have HP := Lib.hid hpre; clear hpre
      rcases k with _ | m
      · have hs := Lib.hid (sortB_true ds fun j hj => HP.out j (Nat.zero_le _) (by have := HL.out; omega))
        go_wp2_with fail
        go_ret
        exact ⟨by rw [hs.out]; rfl, _, rfl⟩
      · have hml : m + 1 < ds.length := by have := HL.out; omega
        obtain ⟨b1, o1, c1, hv1, hc1, -⟩ := H.out.at m (by omega)
        obtain ⟨b2, o2, c2, hv2, hc2, -⟩ := H.out.at (m + 1) hml
        simp only [Value.slice.injEq, true_and] at hv1 hv2
        obtain ⟨rfl, rfl⟩ := hv1
        obtain ⟨hv2, -⟩ := hv2
        simp only [Option.some.injEq, Addr.mk.injEq, and_true] at hv2
        obtain ⟨rfl, rfl⟩ := hv2
        rw [show ds[m] = ds.getD m 0 by simp [show m < ds.length by omega]] at hc1
        rw [show ds[m + 1] = ds.getD (m + 1) 0 by simp [hml]] at hc2
        have HN := Lib.hid (sortB_false ds m hml)
        have HPS : Hid (¬ ds.getD (m + 1) 0 < ds.getD m 0 → ∀ j, m ≤ j → j < l → ds.getD j 0 ≤ ds.getD (j + 1) 0) := fun h j h1 h2 => by
          by_cases e : j = m
          · subst e; omega
          · exact HP.out j (by omega) h2
        have e0 : (((m + 1 : Nat)) : Int) = (m : Int) + 1 := rfl
        rw [e0]
        clear e0 hml
        have s1 : IntKind.i64.wrap ((m : Int) + 1 - 1) = m := by rw [IntWalk.i64_in _ (by omega)]; omega
        have s2 : (0 : Int) ≤ (m : Int) + 1 := by omega
        have s3 : ((m : Int) + 1).toNat = m + 1 := by omega
        have s4 : m < l := by omega
        have s5 : m < l + 1 := by omega
        have s6 : (m : Int) < (l : Int) + 1 := by omega
        generalize ds.getD m 0 = x at *
        generalize ds.getD (m + 1) 0 = y at *
        cases hlt : decide (y < x)
        · have HR := Lib.hid (HPS.out (by simpa using hlt))
          have L := Lib.hid (fun w => lessI_c y x w)
          rw [hlt] at L
          clear hlt
          go_wp2_with fail
          go_quiet ((go_at_call 127; exact quiet_behind_same (L.out _)))
          go_wp2_with fail
          go_roundw
          case rel => exact ⟨m, _, by go_num, by omega, rfl, HR.out⟩
          case measure => simp [intOf]
        · have HR := Lib.hid (HN.out (by simpa using hlt))
          have L := Lib.hid (fun w => lessI_c y x w)
          rw [hlt] at L
          clear hlt
          go_wp2_with fail
          go_quiet ((go_at_call 127; exact quiet_behind_same (L.out _)))
          go_wp2_with fail
          go_ret
          exact ⟨by rw [HR.out]; rfl, _, by first | rfl | (simp only [World.drewN_drewN]; rfl)⟩
theorem isStem_c (d : Int) (w : World) : Calls Tryz.prog 108 #[.int .i64 d] w fun e w' => e = .returned (.bool (stemB d)) ∧ w = w' := by
  go_enter Tryz.func108, Tryz.ntmps108
  go_wp2_with (go_at_call 92; refine (in_c _ _ _ _).mono ?_; rintro e w' ⟨rfl, rfl⟩)
  go_ret
  exact ⟨rfl, rfl⟩
theorem enters_isStem : Enters Tryz.prog 108 := fun args w => by kernel_rfl
set_option maxRecDepth 100000 in
set_option maxHeartbeats 1000000 in
theorem isTable1_c (u d : Value) (r ds : List Int) (gl gm : Nat) (w : World) (h : IntS w.heap u r) (hD : IntS w.heap d ds) (hl : w.cell? ⟨gl, 0, none⟩ = some (.int .i64 ((ds.length : Int) - 1))) (hm : w.cell? ⟨gm, 0, none⟩ = some d)
    (hst : ds.all stemB = true) :
    Calls Tryz.prog 110 #[u, .pointer (some ⟨gl, 0, none⟩), .pointer (some ⟨gm, 0, none⟩)] w fun e w' => e = .returned (.bool (cellB ds r)) ∧ ∃ n, w' = w.drewN n := by
  obtain ⟨ao, c, rfl, hm1⟩ := h.len
  by_cases h3 : r.length = 3
  · obtain ⟨p, q, s, rfl⟩ : ∃ p q s, r = [p, q, s] := by
      match r, h3 with
      | [p, q, s], _ => exact ⟨p, q, s, rfl⟩
    obtain ⟨b, off, cap, hv, hc0, -⟩ := h.at 0 (by simp)
    obtain ⟨b1, o1, c1, hv1, hc1, -⟩ := h.at 1 (by simp)
    obtain ⟨b2, o2, c2, hv2, hc2, -⟩ := h.at 2 (by simp)
    simp only [Value.slice.injEq, true_and] at hv hv1 hv2
    obtain ⟨rfl, rfl⟩ := hv
    obtain ⟨hv1, -⟩ := hv1
    obtain ⟨hv2, -⟩ := hv2
    simp only [Option.some.injEq, Addr.mk.injEq, and_true] at hv1 hv2
    obtain ⟨rfl, rfl⟩ := hv1
    obtain ⟨rfl, rfl⟩ := hv2
    simp only [List.getElem_cons_zero, List.getElem_cons_succ, Nat.add_zero] at hc0 hc1 hc2
    have HC : Hid (cellB ds [p, q, s] = (decide (1 ≤ p) && decide (0 ≤ q) && decide (q < ds.length) && decide (0 ≤ s) && decide (s < ds.length) && decide (ds.getD s.toNat 0 = ds.getD q.toNat 0 + p))) := by
      show _ = _
      simp [cellB]
    have HP := Lib.hid (fun (w : World) => in_c p 1 20 w)
    have HQ := Lib.hid (fun (w : World) => in_c q 0 ((ds.length : Int) - 1) w)
    have HS := Lib.hid (fun (w : World) => in_c s 0 ((ds.length : Int) - 1) w)
    have HX : Hid (cellB ds [p, q, s] = true → p ≤ 20) := fun hh => by
      rw [HC.out] at hh
      simp only [Bool.and_eq_true, decide_eq_true_eq] at hh
      have st : ∀ i : Nat, 0 ≤ ds.getD i 0 ∧ ds.getD i 0 ≤ 20 := fun i => by
        by_cases hi : i < ds.length
        · have := List.all_eq_true.1 hst ds[i] (List.getElem_mem hi)
          simp only [stemB, Bool.and_eq_true, decide_eq_true_eq] at this
          rw [show ds.getD i 0 = ds[i] by simp [hi]]; exact this
        · rw [show ds.getD i 0 = 0 by simp [show ds.length ≤ i by omega]]; omega
      have a1 := st s.toNat; have a2 := st q.toNat
      omega
    have HD := Lib.hid hD
    have HST := Lib.hid hst
    have HM1 := Lib.hid hm1
    clear h hD hst hm1 h3
    cases hA : (decide (1 ≤ p) && decide (p ≤ 20))
    · have e1 : cellB ds [p, q, s] = false := by
        cases e : cellB ds [p, q, s]
        · rfl
        · have h1 := HX.out e
          rw [HC.out] at e
          simp only [Bool.and_eq_true, decide_eq_true_eq] at e
          simp only [Bool.and_eq_false_iff, decide_eq_false_iff_not] at hA
          omega
      rw [e1]
      rw [hA] at HP
      clear e1 hA HX HC
      go_enter Tryz.func110, Tryz.ntmps110
      go_wp2_with fail
      go_quiet ((go_at_call 92; exact quiet_same (HP.out _)))
      go_wp2_with fail
      go_ret
      exact ⟨rfl, _, rfl⟩
    · cases hB : (decide (0 ≤ q) && decide (q ≤ (ds.length : Int) - 1))
      · have e1 : cellB ds [p, q, s] = false := by
          cases e : cellB ds [p, q, s]
          · rfl
          · rw [HC.out] at e
            simp only [Bool.and_eq_true, decide_eq_true_eq] at e
            simp only [Bool.and_eq_false_iff, decide_eq_false_iff_not] at hB
            omega
        rw [e1]
        rw [hA] at HP
        rw [hB] at HQ
        clear e1 hA hB HX HC
        go_enter Tryz.func110, Tryz.ntmps110
        go_wp2_with fail
        go_quiet ((go_at_call 92; first | (with_reducible exact quiet_same (HP.out _)) | (with_reducible exact quiet_same (HQ.out _))))
        go_wp2_with fail
        go_ret
        exact ⟨rfl, _, rfl⟩
      · cases hC : (decide (0 ≤ s) && decide (s ≤ (ds.length : Int) - 1))
        · have e1 : cellB ds [p, q, s] = false := by
            cases e : cellB ds [p, q, s]
            · rfl
            · rw [HC.out] at e
              simp only [Bool.and_eq_true, decide_eq_true_eq] at e
              simp only [Bool.and_eq_false_iff, decide_eq_false_iff_not] at hC
              omega
          rw [e1]
          rw [hA] at HP
          rw [hB] at HQ
          rw [hC] at HS
          clear e1 hA hB hC HX HC
          go_enter Tryz.func110, Tryz.ntmps110
          go_wp2_with fail
          go_quiet ((go_at_call 92; first | (with_reducible exact quiet_same (HP.out _)) | (with_reducible exact quiet_same (HQ.out _)) | (with_reducible exact quiet_same (HS.out _))))
          go_wp2_with fail
          go_ret
          exact ⟨rfl, _, rfl⟩
        · rw [hA] at HP
          rw [hB] at HQ
          rw [hC] at HS
          simp only [Bool.and_eq_true, decide_eq_true_eq] at hA hB hC
          obtain ⟨x, rfl⟩ := Int.eq_ofNat_of_zero_le hB.1
          obtain ⟨y, rfl⟩ := Int.eq_ofNat_of_zero_le hC.1
          have hx : x < ds.length := by omega
          have hy : y < ds.length := by omega
          have e1 : Hid (cellB ds [p, (x : Int), (y : Int)] = (ds.getD y 0 == ds.getD x 0 + p)) := by
            show _ = _
            rw [HC.out]
            simp [hA.1, hx, hy]
            exact rfl
          have hst := HST.out
          have st : ∀ i : Nat, i < ds.length → 0 ≤ ds.getD i 0 ∧ ds.getD i 0 ≤ 20 := fun i hi => by
            have := List.all_eq_true.1 hst ds[i] (List.getElem_mem hi)
            simp only [stemB, Bool.and_eq_true, decide_eq_true_eq] at this
            rw [show ds.getD i 0 = ds[i] by simp [hi]]; exact this
          have sx := st x hx
          have sy := st y hy
          obtain ⟨b3, o3, c3, hv3, hd1, -⟩ := HD.out.at x hx
          obtain ⟨b4, o4, c4, hv4, hd2, -⟩ := HD.out.at y hy
          subst hv3
          simp only [Value.slice.injEq, true_and] at hv4
          obtain ⟨hv4, -⟩ := hv4
          simp only [Option.some.injEq, Addr.mk.injEq, and_true] at hv4
          obtain ⟨rfl, rfl⟩ := hv4
          rw [show ds[x] = ds.getD x 0 by simp [hx]] at hd1
          rw [show ds[y] = ds.getD y 0 by simp [hy]] at hd2
          have hp1 := hA.1; have hp2 := hA.2
          clear hA hB hC HX HC HST HD hst st
          generalize ds.getD x 0 = X at *
          generalize ds.getD y 0 = Y at *
          have t1 : IntKind.i64.wrap (X + p) = X + p := IntWalk.i64_in _ (by omega)
          have hxi : (x : Int) < ds.length := by omega
          have hyi : (y : Int) < ds.length := by omega
          go_enter Tryz.func110, Tryz.ntmps110
          go_wp2_with fail
          go_quiet ((go_at_call 92; first | (with_reducible exact quiet_same (HP.out _)) | (with_reducible exact quiet_same (HQ.out _)) | (with_reducible exact quiet_same (HS.out _))))
          go_wp2_with fail
          go_quiet (fail)
          go_wp2_with fail
          go_ret
          exact ⟨by rw [e1.out]; rfl, _, by first | rfl | (simp only [World.drewN_drewN]; rfl)⟩
  · have t1 := (neB (show ((r.length : Nat) : Int) ≠ 3 by omega)).2
    have e1 : cellB ds r = false := by simp [cellB, h3]
    rw [e1]
    clear e1
    go_enter Tryz.func110, Tryz.ntmps110
    go_wp2_with fail
    go_quiet (fail)
    go_wp2_with fail
    go_ret
    exact ⟨rfl, _, rfl⟩
theorem enters_isTable1 : Enters Tryz.prog 110 := fun args w => by kernel_rfl
set_option maxHeartbeats 1000000 in
theorem isTable_c (d a : Value) (ds : List Int) (act : List (List Int)) (w : World) (h : ModS w.heap d a ds act) :
    Calls Tryz.prog 93 #[.agg #[d, a]] w fun e w' => e = .returned (.bool (modT ds act)) ∧ Below w.heap.size w w' := by
  have hb : Below w.heap.size w (w.alloc (.cells #[d, a] 32)) := (Below.refl _ _).alloc (Nat.le_refl _) _
  have V := two_new w d a 32
  have hM := h.same hb.block
  have hv := h.1.len
  obtain ⟨ao, ac, hv, hm⟩ := hv
  obtain ⟨bo, bc, hv2, hm2⟩ := h.2.len
  have HT : Hid (modT ds act = (decide (ds.length ≤ 16) && ds.all stemB && sortB ds && ascB act && act.all (cellB ds))) := rfl
  have A := Lib.hid (fun (w : World) (h : IntS w.heap d ds) => all_c d ds 108 #[] stemB w h enters_isStem (fun w1 _ x _ => (isStem_c x w1).mono fun _ _ ⟨he, hw⟩ => ⟨he, 0, hw.symm⟩))
  have S := Lib.hid (fun (w : World) (h : IntS w.heap d ds) => (sortedI_c d ds w h).mono fun e w' ⟨he, n, hn⟩ => (⟨he, by rw [hn]; exact below_drewN n (Below.refl _ _)⟩ : e = _ ∧ Below w.heap.size w w'))
  have R := Lib.hid (fun (w : World) (h : IntSS w.heap a act) => (rising_c a act w h).mono fun e w' ⟨he, n, hn⟩ => (⟨he, by rw [hn]; exact below_drewN n (Below.refl _ _)⟩ : e = _ ∧ Below w.heap.size w w'))
  have C := Lib.hid (fun (w1 : World) (gl : Nat) (h1 : IntS w1.heap d ds) (h2 : IntSS w1.heap a act) (hl : w1.cell? ⟨gl, 0, none⟩ = some (.int .i64 ((ds.length : Int) - 1))) (hm : w1.cell? ⟨w.heap.size, 0, none⟩ = some d) (hst : ds.all stemB = true) =>
    allSS_c a act 110 #[.pointer (some ⟨gl, 0, none⟩), .pointer (some ⟨w.heap.size, 0, none⟩)] (cellB ds) w1 h2 enters_isTable1 (fun w2 hb2 u xs hx hu =>
      (isTable1_c u d xs ds gl w.heap.size w2 hu (h1.same hb2.block) ((hb2.cell (World.block_lt_of_cell? _ _ hl)).trans hl) ((hb2.cell (World.block_lt_of_cell? _ _ hm)).trans hm) hst).mono fun _ _ ⟨he, n, hn⟩ => ⟨he, by rw [hn]; exact below_drewN n (Below.refl _ _)⟩))
  subst hv; subst hv2
  have HM := Lib.hid hM; have HB := Lib.hid hb; have HV := Lib.hid V; clear h hM hb V
  by_cases h1 : ds.length ≤ 16
  · have t1 : decide (ds.length ≤ 16) = true := by simpa using h1
    rw [t1, Bool.true_and] at HT
    have t2 : decide ((16 : Int) < (ds.length : Int)) = false := by simp; omega
    have t3 : decide (16 < ds.length) = false := by simp; omega
    cases hA : ds.all stemB
    · rw [hA] at A HT
      have e : modT ds act = false := by rw [HT.out]; rfl
      rw [e]
      clear hA e C
      have k1 := HV.out.1; have k2 := HV.out.2
      go_enter Tryz.func93, Tryz.ntmps93
      go_wp2_with (first | (go_at_call 88; refine (A.out _ HM.out.1).mono ?_; rintro e w1 ⟨rfl, hb1⟩; have k3 := (hb1.cell (World.block_lt_of_cell? _ _ k1)).trans k1; have k4 := (hb1.cell (World.block_lt_of_cell? _ _ k2)).trans k2; have HB1 := Lib.hid (HB.out.trans (hb1.mono HB.out.size)); have HM1 := Lib.hid (HM.out.same hb1.block); clear hb1))
      go_ret
      exact ⟨rfl, HB1.out⟩
    · have HA := Lib.hid hA
      rw [hA] at A HT
      rw [Bool.true_and] at HT
      clear hA
      cases hS : sortB ds
      · rw [hS] at S HT
        have e : modT ds act = false := by rw [HT.out]; rfl
        rw [e]
        clear hS e C
        have k1 := HV.out.1; have k2 := HV.out.2
        go_enter Tryz.func93, Tryz.ntmps93
        go_wp2_with (first | (go_at_call 88; refine (A.out _ HM.out.1).mono ?_; rintro e w1 ⟨rfl, hb1⟩; have k3 := (hb1.cell (World.block_lt_of_cell? _ _ k1)).trans k1; have k4 := (hb1.cell (World.block_lt_of_cell? _ _ k2)).trans k2; have HB1 := Lib.hid (HB.out.trans (hb1.mono HB.out.size)); have HM1 := Lib.hid (HM.out.same hb1.block); clear hb1) | (go_at_call 109; refine (S.out _ HM1.out.1).mono ?_; rintro e w2 ⟨rfl, hb2⟩; have k5 := (hb2.cell (World.block_lt_of_cell? _ _ k3)).trans k3; have k6 := (hb2.cell (World.block_lt_of_cell? _ _ k4)).trans k4; have HB2 := Lib.hid (HB1.out.trans (hb2.mono HB1.out.size)); have HM2 := Lib.hid (HM1.out.same hb2.block); clear hb2))
        go_ret
        exact ⟨rfl, HB2.out⟩
      · rw [hS] at S HT
        rw [Bool.true_and] at HT
        clear hS
        cases hR : ascB act
        · rw [hR] at R HT
          have e : modT ds act = false := by rw [HT.out]; rfl
          rw [e]
          clear hR e C
          have k1 := HV.out.1; have k2 := HV.out.2
          go_enter Tryz.func93, Tryz.ntmps93
          go_wp2_with (first | (go_at_call 88; refine (A.out _ HM.out.1).mono ?_; rintro e w1 ⟨rfl, hb1⟩; have k3 := (hb1.cell (World.block_lt_of_cell? _ _ k1)).trans k1; have k4 := (hb1.cell (World.block_lt_of_cell? _ _ k2)).trans k2; have HB1 := Lib.hid (HB.out.trans (hb1.mono HB.out.size)); have HM1 := Lib.hid (HM.out.same hb1.block); clear hb1) | (go_at_call 109; refine (S.out _ HM1.out.1).mono ?_; rintro e w2 ⟨rfl, hb2⟩; have k5 := (hb2.cell (World.block_lt_of_cell? _ _ k3)).trans k3; have k6 := (hb2.cell (World.block_lt_of_cell? _ _ k4)).trans k4; have HB2 := Lib.hid (HB1.out.trans (hb2.mono HB1.out.size)); have HM2 := Lib.hid (HM1.out.same hb2.block); clear hb2) | (go_at_call 65; refine (R.out _ HM2.out.2).mono ?_; rintro e w3 ⟨rfl, hb3⟩; have k7 := (hb3.cell (World.block_lt_of_cell? _ _ k5)).trans k5; have k8 := (hb3.cell (World.block_lt_of_cell? _ _ k6)).trans k6; have hsz := World.block_lt_of_cell? _ _ k7; simp only at hsz; have HB3 := Lib.hid (HB2.out.trans (hb3.mono HB2.out.size)); have HM3 := Lib.hid (HM2.out.same hb3.block); clear hb3))
          go_ret
          exact ⟨rfl, HB3.out⟩
        · rw [hR] at R HT
          rw [Bool.true_and] at HT
          clear hR
          have k1 := HV.out.1; have k2 := HV.out.2
          go_enter Tryz.func93, Tryz.ntmps93
          go_wp2_with (first | (go_at_call 88; refine (A.out _ HM.out.1).mono ?_; rintro e w1 ⟨rfl, hb1⟩; have k3 := (hb1.cell (World.block_lt_of_cell? _ _ k1)).trans k1; have k4 := (hb1.cell (World.block_lt_of_cell? _ _ k2)).trans k2; have HB1 := Lib.hid (HB.out.trans (hb1.mono HB.out.size)); have HM1 := Lib.hid (HM.out.same hb1.block); clear hb1) | (go_at_call 109; refine (S.out _ HM1.out.1).mono ?_; rintro e w2 ⟨rfl, hb2⟩; have k5 := (hb2.cell (World.block_lt_of_cell? _ _ k3)).trans k3; have k6 := (hb2.cell (World.block_lt_of_cell? _ _ k4)).trans k4; have HB2 := Lib.hid (HB1.out.trans (hb2.mono HB1.out.size)); have HM2 := Lib.hid (HM1.out.same hb2.block); clear hb2) | (go_at_call 65; refine (R.out _ HM2.out.2).mono ?_; rintro e w3 ⟨rfl, hb3⟩; have k7 := (hb3.cell (World.block_lt_of_cell? _ _ k5)).trans k5; have k8 := (hb3.cell (World.block_lt_of_cell? _ _ k6)).trans k6; have hsz := World.block_lt_of_cell? _ _ k7; simp only at hsz; have HB3 := Lib.hid (HB2.out.trans (hb3.mono HB2.out.size)); have HM3 := Lib.hid (HM2.out.same hb3.block); clear hb3))
          have HY := alloc_old w3 (.cells #[.int .i64 ((ds.length : Int) - 1)] 2)
          have hcl : (w3.alloc (.cells #[.int .i64 ((ds.length : Int) - 1)] 2)).cell? ⟨w3.heap.size, 0, none⟩ = some (.int .i64 ((ds.length : Int) - 1)) := by rw [World.cell?]; simp only [heap_alloc_new]; rfl
          refine (C.out _ w3.heap.size (HM3.out.1.same HY) (HM3.out.2.same HY) hcl ?_ HA.out).mono ?_
          · rw [World.cell?_of_block (HY _ hsz)]; exact k7
          rintro e w4 ⟨rfl, hb4⟩
          have HB4 := Lib.hid (((HB3.out.alloc HB3.out.size (.cells #[.int .i64 ((ds.length : Int) - 1)] 2))).trans (hb4.mono (by have := HB3.out.size; simp; omega)))
          clear hb4 HY hcl
          go_wp2_with fail
          go_ret
          exact ⟨by rw [HT.out]; rfl, HB4.out⟩
  · have t1 : decide (ds.length ≤ 16) = false := by simpa using h1
    have t2 : decide (16 < ds.length) = true := by simp; omega
    have e : modT ds act = false := by rw [HT.out, t1]; rfl
    rw [e]
    clear e C
    have k1 := HV.out.1; have k2 := HV.out.2
    go_enter Tryz.func93, Tryz.ntmps93
    go_wp2_with fail
    go_ret
    exact ⟨rfl, HB.out⟩
theorem modT_no1 (ds : List Int) (act : List (List Int)) (j : Nat) (hj : j < ds.length) (h : stemB (ds.getD j 0) = false) : modT ds act = false := by
  have : ds.all stemB = false := by
    rw [List.all_eq_false]
    exact ⟨ds[j], List.getElem_mem hj, by rw [show ds[j] = ds.getD j 0 by simp [hj], h]; decide⟩
  simp [modT, this]
theorem modT_no2 (ds : List Int) (act : List (List Int)) (m : Nat) (h : m + 1 < ds.length) (hlt : ds.getD (m + 1) 0 < ds.getD m 0) : modT ds act = false := by
  simp [modT, sortB_false ds m h hlt]
theorem modT_no3 (ds : List Int) (act : List (List Int)) (j : Nat) (hj : j < act.length) (h : cellB ds (act.getD j []) = false) : modT ds act = false := by
  have : act.all (cellB ds) = false := by
    rw [List.all_eq_false]
    exact ⟨act[j], List.getElem_mem hj, by rw [show act[j] = act.getD j [] by simp [hj], h]; decide⟩
  simp only [modT, this, Bool.and_false]
theorem all_getD {α : Type} (l : List α) (z : α) (p : α → Bool) (h : ∀ j, j < l.length → p (l.getD j z) = true) : l.all p = true := by
  rw [List.all_eq_true]
  intro x hx
  obtain ⟨j, hj, rfl⟩ := List.getElem_of_mem hx
  have := h j hj
  rwa [show l.getD j z = l[j] by simp [hj]] at this
theorem modT_yes (ds : List Int) (act : List (List Int)) (h1 : ds.length ≤ 16) (h2 : ascB act = true) (h3 : ∀ j, j < ds.length → stemB (ds.getD j 0) = true) (h4 : ∀ j, j + 1 < ds.length → ds.getD j 0 ≤ ds.getD (j + 1) 0) (h5 : ∀ j, j < act.length → cellB ds (act.getD j []) = true) : modT ds act = true := by
  simp only [modT, h1, h2, all_getD ds 0 stemB h3, sortB_true ds h4, all_getD act [] (cellB ds) h5]; rfl
set_option maxRecDepth 100000 in
set_option maxHeartbeats 2000000 in
theorem l11Shape_c (d a : Value) (ds : List Int) (act : List (List Int)) (w : World) (h : ModS w.heap d a ds act) :
    Calls Tryz.prog 30 #[.agg #[d, a]] w fun e w' => e = .returned (.bool (modT ds act)) ∧ Below w.heap.size w w' := by
  have hb : Below w.heap.size w (w.alloc (.cells #[d, a] 32)) := (Below.refl _ _).alloc (Nat.le_refl _) _
  have V := two_new w d a 32
  have hM := h.same hb.block
  obtain ⟨ao, ac, hv, hm⟩ := h.1.len
  obtain ⟨bo, bc, hv2, hm2⟩ := h.2.len
  have R := Lib.hid (fun (w : World) (h : IntSS w.heap a act) => l01Ascending_c a act w h)
  subst hv; subst hv2
  have HM := Lib.hid hM; have HB := Lib.hid hb; have HV := Lib.hid V; clear h hM hb V
  by_cases h1 : ds.length ≤ 16
  · have t2 : decide ((16 : Int) < (ds.length : Int)) = false := by simp; omega
    have t3 : decide (16 < ds.length) = false := by simp; omega
    cases hR : ascB act
    · have e : modT ds act = false := by simp [modT, hR]
      rw [hR] at R
      rw [e]
      clear hR e
      have k1 := HV.out.1; have k2 := HV.out.2
      go_enter Tryz.func30, Tryz.ntmps30
      go_wp2_with (go_at_call 32; refine (R.out _ HM.out.2).mono ?_; rintro e w1 ⟨rfl, n1, rfl⟩)
      go_ret
      exact ⟨rfl, below_drewN _ HB.out⟩
    · have HR := Lib.hid hR
      rw [hR] at R
      clear hR
      have k1 := HV.out.1; have k2 := HV.out.2
      go_enter Tryz.func30, Tryz.ntmps30
      go_wp2_with (go_at_call 32; refine (R.out _ HM.out.2).mono ?_; rintro e w1 ⟨rfl, n1, rfl⟩)
      go_loopw [3] (fun i wr => ∃ k n : Nat, i = .int .i64 k ∧ k ≤ ds.length ∧ wr = (w.alloc (.cells #[.slice ao ds.length ac, .slice bo act.length bc] 32)).drewN n ∧ (∀ j, j < k → stemB (ds.getD j 0) = true) ∧ ∀ j, j + 1 < k → ds.getD j 0 ≤ ds.getD (j + 1) 0) (fun i _ => ds.length - (intOf i).toNat)
      case atStart => exact ⟨0, n1, rfl, Nat.zero_le _, rfl, fun j hj => by omega, fun j hj => by omega⟩
      case round =>
        obtain ⟨k, n, rfl, hk, rfl, hq1, hq2⟩ := hrel
        have Q1 := Lib.hid hq1; have Q2 := Lib.hid hq2; clear hq1 hq2
        by_cases hlt : k < ds.length
        · obtain ⟨b1, o1, c1, hv1, hc1, -⟩ := HM.out.1.at k hlt
          simp only [Value.slice.injEq, true_and] at hv1
          obtain ⟨rfl, rfl⟩ := hv1
          rw [show ds[k] = ds.getD k 0 by simp [hlt]] at hc1
          have HI := Lib.hid (fun (w : World) => l01In_c (ds.getD k 0) 0 20 w)
          cases hst : stemB (ds.getD k 0)
          · have HE := Lib.hid (modT_no1 ds act k hlt hst)
            unfold stemB at hst
            rw [hst] at HI
            clear hst
            generalize ds.getD k 0 = x at *
            go_wp2_with fail
            go_quiet ((go_at_call 35; exact quiet_behind_same (HI.out _)))
            go_wp2_with fail
            go_ret
            exact ⟨by rw [HE.out]; rfl, below_drewN _ (below_drewN _ HB.out)⟩
          · have HST := Lib.hid hst
            unfold stemB at hst
            rw [hst] at HI
            clear hst
            rcases k with _ | m
            · have E : Hid ((∀ j, j < 0 + 1 → stemB (ds.getD j 0) = true) ∧ ∀ j, j + 1 < 0 + 1 → ds.getD j 0 ≤ ds.getD (j + 1) 0) := ⟨(fun j hj => by rw [show j = 0 by omega]; exact HST.out), fun j hj => by omega⟩
              generalize ds.getD 0 0 = x at *
              rw [Nat.add_zero] at hc1
              go_wp2_with fail
              go_quiet ((go_at_call 35; exact quiet_behind_same (HI.out _)))
              go_wp2_with fail
              go_roundw
              case rel => exact ⟨0 + 1, _, by go_num, by omega, by first | rfl | (simp only [World.drewN_drewN]; rfl), E.out.1, E.out.2⟩
              case measure => simp [intOf]; omega
            · obtain ⟨b2, o2, c2, hv2, hc2, -⟩ := HM.out.1.at m (by omega)
              simp only [Value.slice.injEq, true_and] at hv2
              obtain ⟨hv2, -⟩ := hv2
              simp only [Option.some.injEq, Addr.mk.injEq, and_true] at hv2
              obtain ⟨rfl, rfl⟩ := hv2
              rw [show ds[m]'(by omega) = ds.getD m 0 by simp [show m < ds.length by omega]] at hc2
              have E : Hid (¬ ds.getD (m + 1) 0 < ds.getD m 0 → (∀ j, j < m + 1 + 1 → stemB (ds.getD j 0) = true) ∧ ∀ j, j + 1 < m + 1 + 1 → ds.getD j 0 ≤ ds.getD (j + 1) 0) := fun hh => ⟨(fun j hj => by
                by_cases e : j = m + 1
                · rw [e]; exact HST.out
                · exact Q1.out j (by omega)), (fun j hj => by
                by_cases e : j = m
                · subst e; omega
                · exact Q2.out j (by omega))⟩
              have HN := Lib.hid (modT_no2 ds act m hlt)
              have e0 : (((m + 1 : Nat)) : Int) = (m : Int) + 1 := rfl
              rw [e0]
              clear e0
              have s1 : IntKind.i64.wrap ((m : Int) + 1 - 1) = m := by rw [IntWalk.i64_in _ (by omega)]; omega
              have s2 : (0 : Int) ≤ (m : Int) + 1 := by omega
              have s3 : ((m : Int) + 1).toNat = m + 1 := by omega
              have s4 : (m : Int) + 1 < ds.length := by omega
              have s5 : decide ((0 : Int) < (m : Int) + 1) = true := by simp
              have s6 : (m : Int) < ds.length := by omega
              have s7 : m < ds.length := by omega
              generalize ds.getD (m + 1) 0 = y at *
              generalize ds.getD m 0 = x at *
              cases hyx : decide (y < x)
              · have E2 := Lib.hid (E.out (by simpa using hyx))
                clear E
                go_wp2_with fail
                go_quiet ((go_at_call 35; exact quiet_behind_same (HI.out _)))
                go_wp2_with fail
                go_roundw
                case rel => exact ⟨m + 1 + 1, _, by go_num, by omega, by first | rfl | (simp only [World.drewN_drewN]; rfl), E2.out.1, E2.out.2⟩
                case measure => simp [intOf]; omega
              · have E2 := Lib.hid (HN.out (by simpa using hyx))
                clear E
                go_wp2_with fail
                go_quiet ((go_at_call 35; exact quiet_behind_same (HI.out _)))
                go_wp2_with fail
                go_ret
                exact ⟨by rw [E2.out]; rfl, below_drewN _ (below_drewN _ HB.out)⟩
        · obtain rfl : k = ds.length := by omega
          go_wp2_with fail
          obtain ⟨n0, hn0⟩ : ∃ n0, n0 = n := ⟨n, rfl⟩
          go_loopw [5, 6] (fun i _ wr => ∃ k n : Nat, i = .int .i64 k ∧ k ≤ act.length ∧ wr = (w.alloc (.cells #[.slice ao ds.length ac, .slice bo act.length bc] 32)).drewN n ∧ (∀ j, j < k → cellB ds (act.getD j []) = true)) (fun i _ _ => act.length - (intOf i).toNat)
          case atStart => exact ⟨0, n, rfl, Nat.zero_le _, rfl, fun j hj => by omega⟩
          case round =>
            obtain ⟨k, n, rfl, hk, rfl, hq⟩ := hrel
            have Q := Lib.hid hq; clear hq hn0
            by_cases hlt : k < act.length
            · obtain ⟨b1, o1, c1, u, hv1, hc1, hu, -⟩ := HM.out.2.at k hlt
              simp only [Value.slice.injEq, true_and] at hv1
              obtain ⟨rfl, rfl⟩ := hv1
              rw [show act[k] = act.getD k [] by simp [hlt]] at hu
              have HE := Lib.hid (modT_no3 ds act k hlt)
              have HQS : Hid (cellB ds (act.getD k []) = true → ∀ j, j < k + 1 → cellB ds (act.getD j []) = true) := fun hh j hj => by
                by_cases e : j = k
                · rw [e]; exact hh
                · exact Q.out j (by omega)
              generalize act.getD k [] = r at *
              obtain ⟨ua, uc, rfl, hm1⟩ := hu.len
              have HU := Lib.hid hu; have HM1 := Lib.hid hm1
              clear hu hm1
              by_cases h3 : r.length = 3
              · obtain ⟨p, q, s, rfl⟩ : ∃ p q s, r = [p, q, s] := by
                  match r, h3 with
                  | [p, q, s], _ => exact ⟨p, q, s, rfl⟩
                obtain ⟨b, off, cap, hv, hc0, -⟩ := HU.out.at 0 (by simp)
                obtain ⟨b1, o1, c1, hv1, hc2, -⟩ := HU.out.at 1 (by simp)
                obtain ⟨b2, o2, c2, hv2, hc3, -⟩ := HU.out.at 2 (by simp)
                simp only [Value.slice.injEq, true_and] at hv hv1 hv2
                obtain ⟨rfl, rfl⟩ := hv
                obtain ⟨hv1, -⟩ := hv1
                obtain ⟨hv2, -⟩ := hv2
                simp only [Option.some.injEq, Addr.mk.injEq, and_true] at hv1 hv2
                obtain ⟨rfl, rfl⟩ := hv1
                obtain ⟨rfl, rfl⟩ := hv2
                simp only [List.getElem_cons_zero, List.getElem_cons_succ, Nat.add_zero] at hc0 hc2 hc3
                have HC : Hid (cellB ds [p, q, s] = (decide (1 ≤ p) && decide (0 ≤ q) && decide (q < ds.length) && decide (0 ≤ s) && decide (s < ds.length) && decide (ds.getD s.toNat 0 = ds.getD q.toNat 0 + p))) := by
                  show _ = _
                  simp [cellB]
                have HQ := Lib.hid (fun (w : World) => l01In_c q 0 ((ds.length : Int) - 1) w)
                have HS := Lib.hid (fun (w : World) => l01In_c s 0 ((ds.length : Int) - 1) w)
                have sl : IntKind.i64.wrap ((ds.length : Int) - 1) = (ds.length : Int) - 1 := IntWalk.i64_in _ (by omega)
                clear HU h3
                by_cases hA : 1 ≤ p
                · have a1 : decide (p < 1) = false := by simp; omega
                  cases hB : (decide (0 ≤ q) && decide (q ≤ (ds.length : Int) - 1))
                  · have HE2 : Hid (modT ds act = false) := HE.out (by
                      cases e : cellB ds [p, q, s]
                      · rfl
                      · rw [HC.out] at e
                        simp only [Bool.and_eq_true, decide_eq_true_eq] at e
                        simp only [Bool.and_eq_false_iff, decide_eq_false_iff_not] at hB
                        omega)
                    rw [hB] at HQ
                    clear hB HC hA
                    go_wp2_with fail
                    go_quiet ((go_at_call 35; first | (with_reducible exact quiet_behind_same (HQ.out _)) | (with_reducible exact quiet_behind_same (HS.out _))))
                    go_wp2_with fail
                    go_ret
                    exact ⟨by rw [HE2.out]; rfl, below_drewN _ (below_drewN _ HB.out)⟩
                  · cases hC : (decide (0 ≤ s) && decide (s ≤ (ds.length : Int) - 1))
                    · have HE2 : Hid (modT ds act = false) := HE.out (by
                        cases e : cellB ds [p, q, s]
                        · rfl
                        · rw [HC.out] at e
                          simp only [Bool.and_eq_true, decide_eq_true_eq] at e
                          simp only [Bool.and_eq_false_iff, decide_eq_false_iff_not] at hC
                          omega)
                      rw [hB] at HQ
                      rw [hC] at HS
                      clear hB hC HC hA
                      go_wp2_with fail
                      go_quiet ((go_at_call 35; first | (with_reducible exact quiet_behind_same (HQ.out _)) | (with_reducible exact quiet_behind_same (HS.out _))))
                      go_wp2_with fail
                      go_ret
                      exact ⟨by rw [HE2.out]; rfl, below_drewN _ (below_drewN _ HB.out)⟩
                    · rw [hB] at HQ
                      rw [hC] at HS
                      simp only [Bool.and_eq_true, decide_eq_true_eq] at hB hC
                      obtain ⟨x, rfl⟩ := Int.eq_ofNat_of_zero_le hB.1
                      obtain ⟨y, rfl⟩ := Int.eq_ofNat_of_zero_le hC.1
                      have hx : x < ds.length := by omega
                      have hy : y < ds.length := by omega
                      have e1 : Hid (cellB ds [p, (x : Int), (y : Int)] = decide (ds.getD y 0 = ds.getD x 0 + p)) := by
                        show _ = _
                        rw [HC.out]
                        simp [hA, hx, hy]
                      have st : ∀ i : Nat, i < ds.length → 0 ≤ ds.getD i 0 ∧ ds.getD i 0 ≤ 20 := fun i hi => by
                        have := Q1.out i hi
                        simpa only [stemB, Bool.and_eq_true, decide_eq_true_eq] using this
                      have sx := st x hx
                      have sy := st y hy
                      obtain ⟨b3, o3, c3, hv3, hd1, -⟩ := HM.out.1.at x hx
                      obtain ⟨b4, o4, c4, hv4, hd2, -⟩ := HM.out.1.at y hy
                      simp only [Value.slice.injEq, true_and] at hv3
                      obtain ⟨rfl, rfl⟩ := hv3
                      simp only [Value.slice.injEq, true_and] at hv4
                      obtain ⟨hv4, -⟩ := hv4
                      simp only [Option.some.injEq, Addr.mk.injEq, and_true] at hv4
                      obtain ⟨rfl, rfl⟩ := hv4
                      rw [show ds[x] = ds.getD x 0 by simp [hx]] at hd1
                      rw [show ds[y] = ds.getD y 0 by simp [hy]] at hd2
                      clear hB hC st
                      generalize ds.getD x 0 = X at *
                      generalize ds.getD y 0 = Y at *
                      have tw : IntKind.i64.wrap (Y - X) = Y - X := IntWalk.i64_in _ (by omega)
                      have hxi : (x : Int) < ds.length := by omega
                      have hyi : (y : Int) < ds.length := by omega
                      by_cases hF : Y - X = p
                      · have f1 := (eqB hF).2
                        have E2 : Hid (∀ j, j < k + 1 → cellB ds (act.getD j []) = true) := HQS.out (by rw [e1.out]; simp; omega)
                        clear HC HQS HE hF
                        go_wp2_with fail
                        go_quiet ((go_at_call 35; first | (with_reducible exact quiet_behind_same (HQ.out _)) | (with_reducible exact quiet_behind_same (HS.out _))))
                        go_wp2_with fail
                        go_roundw
                        case rel => exact ⟨k + 1, _, by go_num, by omega, by first | rfl | (simp only [World.drewN_drewN]; rfl), E2.out⟩
                        case measure => simp [intOf]; omega
                      · have f1 := (neB hF).2
                        have HE2 : Hid (modT ds act = false) := HE.out (by rw [e1.out]; simp; omega)
                        clear HC HQS HE hF
                        go_wp2_with fail
                        go_quiet ((go_at_call 35; first | (with_reducible exact quiet_behind_same (HQ.out _)) | (with_reducible exact quiet_behind_same (HS.out _))))
                        go_wp2_with fail
                        go_ret
                        exact ⟨by rw [HE2.out]; rfl, below_drewN _ (below_drewN _ HB.out)⟩
                · have a1 : decide (p < 1) = true := by simp; omega
                  have HE2 : Hid (modT ds act = false) := HE.out (by simp [HC.out, hA])
                  clear HC hA HE HQS
                  go_wp2_with fail
                  go_quiet (fail)
                  go_wp2_with fail
                  go_ret
                  exact ⟨by rw [HE2.out]; rfl, below_drewN _ (below_drewN _ HB.out)⟩
              · have a1 := (neB (show ((r.length : Nat) : Int) ≠ 3 by omega)).2
                have HE2 : Hid (modT ds act = false) := HE.out (by simp [cellB, h3])
                clear h3 HE HQS
                go_wp2_with fail
                go_quiet (fail)
                go_wp2_with fail
                go_ret
                exact ⟨by rw [HE2.out]; rfl, below_drewN _ (below_drewN _ HB.out)⟩

            · obtain rfl : k = act.length := by omega
              have HE := Lib.hid (modT_yes ds act h1 HR.out Q1.out Q2.out Q.out)
              go_wp2_with fail
              go_ret
              exact ⟨by rw [HE.out]; rfl, below_drewN _ HB.out⟩
  · have e : modT ds act = false := by simp [modT, h1]
    have t2 : decide (16 < ds.length) = true := by simp; omega
    rw [e]
    clear e
    have k1 := HV.out.1; have k2 := HV.out.2
    go_enter Tryz.func30, Tryz.ntmps30
    go_wp2_with fail
    go_ret
    exact ⟨rfl, HB.out⟩
end
section
open Go.RowKit Go.Sort

/-- A struct variable whose first cell is d and whose others are slices of int64 of the call's own. -/
theorem own_ne2 {w : World} {B g r n c t : Nat} {x y : Value} {xs : List Int} (h : OwnI w B (.slice (some ⟨r, 0, none⟩) n c) xs) (k : Var2 w g x y t) (ne : 2 ≠ t) : g ≠ r := fun e => own_ne_var h k ne (by rw [e]; rfl)
structure TabU (w : World) (B g : Nat) (d : Value) (us : List Value) (xss : List (List Int)) : Prop where
  row : w.heap[g]? = some (.cells (d :: us).toArray 79 (0, 0))
  base : B ≤ g
  len : us.length = xss.length
  each : ∀ (i : Nat) u xs, us[i]? = some u → xss[i]? = some xs → OwnI w B u xs
  apart : ∀ (i j : Nat) u u', i < j → us[i]? = some u → us[j]? = some u' → u.ownBlock = none ∨ u.ownBlock ≠ u'.ownBlock
section
variable {w w' : World} {B g : Nat} {d : Value} {us : List Value} {xss : List (List Int)}
theorem TabU.lt (h : TabU w B g d us xss) : g < w.heap.size := (Array.getElem?_eq_some_iff.1 h.row).1
theorem TabU.same (h : TabU w B g d us xss) (k : ∀ b, b < w.heap.size → w'.heap[b]? = w.heap[b]?) : TabU w' B g d us xss :=
  ⟨(k g h.lt).trans h.row, h.base, h.len, fun i u xs hu hx => (h.each i u xs hu hx).same k, h.apart⟩
theorem TabU.c0 (h : TabU w B g d us xss) : w.cell? ⟨g, 0, none⟩ = some d := by rw [World.cell?]; simp only [h.row]; simp
theorem TabU.cell (h : TabU w B g d us xss) (i : Nat) : w.cell? ⟨g, 1 + i, none⟩ = us[i]? := by
  rw [World.cell?]; simp only [h.row]; rw [Nat.add_comm 1 i]; simp
theorem TabU.free (h : TabU w B g d us xss) (j : Nat) : w.frozen? ⟨g, j, none⟩ = false := by rw [World.frozen?]; simp only [h.row]; simp
theorem TabU.ne (h : TabU w B g d us xss) {i : Nat} {u : Value} (hu : us[i]? = some u) : u.ownBlock ≠ some g := by
  have hi : i < us.length := (List.getElem?_eq_some_iff.1 hu).1
  have ho := h.each i u _ hu (List.getElem?_eq_getElem (by rw [← h.len]; exact hi))
  rcases ho.2 with ⟨rfl, _⟩ | ⟨b, cap, cur, rfl, _, hg, _⟩
  · simp [Value.ownBlock]
  · intro e
    simp only [Value.ownBlock, Option.some.injEq] at e
    subst e
    rw [h.row] at hg
    simp only [Option.some.injEq, Obj.cells.injEq] at hg
    exact absurd hg.2.1 (by decide)
/-- A row has been made and is stored. -/
theorem TabU.put {u : Value} {ys : List Int} (h : TabU w B g d us xss) (j : Nat) (hj : j < xss.length) (hk : ∀ b, b < w.heap.size → w'.heap[b]? = w.heap[b]?) (hu : OwnI w' w.heap.size u ys) :
    TabU (w'.setCell ⟨g, 1 + j, none⟩ u) B g d (us.set j u) (xss.set j ys) := by
  have h' := h.same hk
  have hlt := h.lt
  have hl := h.len
  have hne : ∀ b, u.ownBlock = some b → w.heap.size ≤ b := fun b hb => (World.ownsRow.lt hu b hb).1
  refine ⟨?_, h.base, by simp [hl], fun i x xs hx hxs => ?_, fun i i' x x' hi hx hx' => ?_⟩
  · have := heap_setCell_same w' g (1 + j) (d :: us).toArray 79 u h'.row
    rw [this, Nat.add_comm 1 j]
    simp
  · by_cases e : j = i
    · subst e
      rw [List.getElem?_set_self (by omega)] at hx hxs
      simp only [Option.some.injEq] at hx hxs
      subst hx; subst hxs
      refine own_setCell_other (own_base hu (Nat.le_trans h.base (Nat.le_of_lt hlt))) _ (fun e => ?_) u
      have := hne _ e; simp at this; omega
    · rw [List.getElem?_set_ne e] at hx hxs
      exact own_setCell_other (h'.each i x xs hx hxs) _ (h'.ne hx) u
  · have old : ∀ (i : Nat) x, us[i]? = some x → ∀ b, x.ownBlock = some b → b < w.heap.size := fun i x hx b hb => by
      have hi : i < us.length := (List.getElem?_eq_some_iff.1 hx).1
      exact (World.ownsRow.lt (h.each i x _ hx (List.getElem?_eq_getElem (by omega))) b hb).2
    by_cases e : j = i
    · subst e
      rw [List.getElem?_set_self (by omega)] at hx
      rw [List.getElem?_set_ne (by omega)] at hx'
      simp only [Option.some.injEq] at hx
      subst hx
      cases hb : u.ownBlock with
      | none => exact .inl rfl
      | some b => exact .inr fun e => by have h1 := hne b hb; have h2 := old _ _ hx' b e.symm; omega
    · rw [List.getElem?_set_ne e] at hx
      by_cases e2 : j = i'
      · subst e2
        rw [List.getElem?_set_self (by omega)] at hx'
        simp only [Option.some.injEq] at hx'
        subst hx'
        cases hb : x.ownBlock with
        | none => exact .inl rfl
        | some b => exact .inr fun e => by have h1 := hne b e.symm; have h2 := old _ _ hx b hb; omega
      · rw [List.getElem?_set_ne e2] at hx'
        exact h.apart i i' x x' hi hx hx'
/-- A number is stored in a row. -/
theorem TabU.store {xs : List Int} (h : TabU w B g d us xss) (j : Nat) (hx : xss[j]? = some xs) (b : Nat) (hb : b < xs.length) :
    ∃ r cap, us[j]? = some (.slice (some ⟨r, 0, none⟩) xs.length cap) ∧ w.cell? ⟨r, b, none⟩ = some (.int .i64 xs[b]) ∧ w.frozen? ⟨r, b, none⟩ = false ∧ B ≤ r ∧ OwnI w B (.slice (some ⟨r, 0, none⟩) xs.length cap) xs ∧ ∀ x, TabU (w.setCell ⟨r, b, none⟩ (.int .i64 x)) B g d us (xss.set j (xs.set b x)) := by
  have hl := h.len
  have hj : j < xss.length := (List.getElem?_eq_some_iff.1 hx).1
  have hu := List.getElem?_eq_getElem (show j < us.length by omega)
  have ho := h.each j _ xs hu hx
  obtain ⟨r, cap, hv, hB, hc⟩ := ho.open (by omega)
  rw [hv] at hu ho
  refine ⟨r, cap, hu, hc b hb, ho.frozenAt b, hB, ho, fun x => ?_⟩
  have hst := own_int_set ho b x
  have hne := h.ne hu
  simp only [Value.ownBlock, ne_eq, Option.some.injEq] at hne
  refine ⟨?_, h.base, by simp [hl], fun i z zs hz hzs => ?_, h.apart⟩
  · rw [Below.heap_setCell _ _ _ _ (fun e => hne (by simpa using e.symm))]; exact h.row
  · by_cases e : j = i
    · subst e
      rw [List.getElem?_set_self hj] at hzs
      rw [hu] at hz
      simp only [Option.some.injEq] at hz hzs
      subst hz; subst hzs
      unfold OwnI
      rw [List.length_set]; exact hst
    · rw [List.getElem?_set_ne e] at hzs
      refine own_setCell_other (h.each i z zs hz hzs) _ (fun e2 => ?_) _
      rcases Nat.lt_or_gt_of_ne e with h1 | h1
      · rcases h.apart j i _ z h1 hu hz with e3 | e3
        · simp [Value.ownBlock] at e3
        · exact e3 (by rw [e2]; rfl)
      · rcases h.apart i j z _ h1 hz hu with e3 | e3
        · rw [e3] at e2; cases e2
        · exact e3 e2
end
/-- A table of numbers. -/
def gridL (f : Nat → Nat → Nat) (size n : Nat) : List (List Int) := (List.range n).map fun i => (List.range size).map fun b => ((f i b : Nat) : Int)
theorem gridL_at (f : Nat → Nat → Nat) (size n i : Nat) (h : i < n) : (gridL f size n)[i]? = some ((List.range size).map fun b => ((f i b : Nat) : Int)) := by simp [gridL, h]
theorem gridL_congr (f f' : Nat → Nat → Nat) (size n : Nat) (h : ∀ i b, i < n → b < size → f i b = f' i b) : gridL f size n = gridL f' size n := by
  unfold gridL
  apply List.map_congr_left
  intro i hi
  apply List.map_congr_left
  intro b hb
  rw [h i b (List.mem_range.1 hi) (List.mem_range.1 hb)]
theorem gridL_set (f f' : Nat → Nat → Nat) (size n i b : Nat) (h1 : ∀ j c, ¬ (j = i ∧ c = b) → f' j c = f j c) :
    (gridL f size n).set i (((List.range size).map fun b => ((f i b : Nat) : Int)).set b ((f' i b : Nat) : Int)) = gridL f' size n := by
  apply List.ext_getElem?
  intro j
  by_cases hj : j < n
  · rw [gridL_at f' _ _ _ hj]
    by_cases e : i = j
    · subst e
      rw [List.getElem?_set_self (by simp [gridL, hj])]
      congr 1
      apply List.ext_getElem?
      intro c
      by_cases hc : c < size
      · by_cases e2 : b = c
        · subst e2; simp [hc]
        · rw [List.getElem?_set_ne e2]; simp [hc, h1 i c (fun x => e2 x.2.symm)]
      · rw [List.getElem?_eq_none (by simp; omega), List.getElem?_eq_none (by simp; omega)]
    · rw [List.getElem?_set_ne e, gridL_at _ _ _ _ hj]
      congr 2
      funext c
      rw [h1 j c (fun x => e x.1.symm)]
  · rw [List.getElem?_eq_none (by simp [gridL]; omega), List.getElem?_eq_none (by simp [gridL]; omega)]
/-- Made rows, k of them. -/
def madeL (size k n : Nat) : List (List Int) := (List.range n).map fun i => if i < k then List.replicate size 0 else []
theorem madeL_set (size k n : Nat) : (madeL size k n).set k (List.replicate size 0) = madeL size (k + 1) n := by
  apply List.ext_getElem?
  intro j
  by_cases hj : j < n
  · by_cases e : k = j
    · subst e; rw [List.getElem?_set_self (by simp [madeL, hj])]; simp [madeL, hj]
    · rw [List.getElem?_set_ne e]
      simp only [madeL, List.getElem?_map, List.getElem?_range hj, Option.map_some]
      by_cases e2 : j < k
      · simp [e2, show j < k + 1 by omega]
      · simp [e2, show ¬ j < k + 1 by omega]
  · rw [List.getElem?_eq_none (by simp [madeL]; omega), List.getElem?_eq_none (by simp [madeL]; omega)]
theorem madeL_all (size n : Nat) : madeL size n n = gridL (fun _ _ => 0) size n := by
  apply List.ext_getElem?
  intro j
  by_cases hj : j < n
  · simp [madeL, gridL, hj]
    apply List.ext_getElem <;> simp
  · rw [List.getElem?_eq_none (by simp [madeL]; omega), List.getElem?_eq_none (by simp [gridL]; omega)]
theorem madeL_length (size k n : Nat) : (madeL size k n).length = n := by simp [madeL]
/-- The rows of the squares. -/
def rowZ (act : List (List Int)) (n b : Nat) : Nat := if n = 0 then 2 ^ b else rowM n b act
def tabL (size : Nat) (act : List (List Int)) : List (List Int) := gridL (rowZ act) size 21
theorem wrap64_pow : ∀ k : Nat, k < 63 → wrap64 (2 ^ k) = 2 ^ k := by decide +kernel
theorem ofInt_i64 (a : Nat) (ha : a < 9223372036854775808) : (BitVec.ofInt 64 (a : Int)).toNat = a := by
  rw [BitVec.ofInt_natCast, BitVec.toNat_ofNat]; exact Nat.mod_eq_of_lt (by omega)
theorem i64_or_nat (a b : Nat) (ha : a < 9223372036854775808) (hb : b < 9223372036854775808) : bits .or .i64 (a : Int) (b : Int) = ((a ||| b : Nat) : Int) := by
  have hx : a ||| b < 2 ^ 63 := Nat.or_lt_two_pow (by omega) (by omega)
  show IntKind.i64.wrap ((BitVec.ofInt 64 (a : Int) ||| BitVec.ofInt 64 (b : Int)).toNat : Int) = _
  rw [BitVec.toNat_or, ofInt_i64 a ha, ofInt_i64 b hb, IntKind.wrap_i64]
  omega
theorem i64_xor_nat (a b : Nat) (ha : a < 9223372036854775808) (hb : b < 9223372036854775808) : bits .xor .i64 (a : Int) (b : Int) = ((a ^^^ b : Nat) : Int) := by
  have hx : a ^^^ b < 2 ^ 63 := Nat.xor_lt_two_pow (by omega) (by omega)
  show IntKind.i64.wrap ((BitVec.ofInt 64 (a : Int) ^^^ BitVec.ofInt 64 (b : Int)).toNat : Int) = _
  rw [BitVec.toNat_xor, ofInt_i64 a ha, ofInt_i64 b hb, IntKind.wrap_i64]
  omega
theorem i64_and_nat (a b : Nat) (ha : a < 9223372036854775808) (hb : b < 9223372036854775808) : bits .and .i64 (a : Int) (b : Int) = ((a &&& b : Nat) : Int) := by
  have hx : a &&& b < 2 ^ 63 := Nat.and_lt_two_pow _ (by omega)
  show IntKind.i64.wrap ((BitVec.ofInt 64 (a : Int) &&& BitVec.ofInt 64 (b : Int)).toNat : Int) = _
  rw [BitVec.toNat_and, ofInt_i64 a ha, ofInt_i64 b hb, IntKind.wrap_i64]
  omega
theorem or_xor_bit (x c : Nat) (h : x.testBit c = false) : x ||| 2 ^ c = x ^^^ 2 ^ c := by
  apply Nat.eq_of_testBit_eq
  intro i
  rw [Nat.testBit_or, Nat.testBit_xor, Nat.testBit_two_pow]
  by_cases e : c = i
  · subst e; simp [h]
  · simp [e]
/-- What is set in a row has its place in the action. -/
theorem rowM_bit (n : Int) (i c : Nat) : ∀ (act : List (List Int)), (rowM n i act).testBit c = true → ∃ x ∈ act, x.getD 0 0 = n ∧ x.getD 1 0 = i ∧ (x.getD 2 0).toNat = c
  | [], h => by simp [rowM] at h
  | x :: a, h => by
    rw [rowM, Nat.testBit_xor] at h
    by_cases e : x.getD 0 0 = n ∧ x.getD 1 0 = i
    · rw [if_pos e, Nat.testBit_two_pow] at h
      by_cases e2 : (x.getD 2 0).toNat = c
      · exact ⟨x, List.mem_cons_self .., e.1, e.2, e2⟩
      · rw [show decide ((x.getD 2 0).toNat = c) = false by simpa using e2] at h
        obtain ⟨y, hy, r⟩ := rowM_bit n i c a (by simpa using h)
        exact ⟨y, List.mem_cons_of_mem _ hy, r⟩
    · rw [if_neg e] at h
      obtain ⟨y, hy, r⟩ := rowM_bit n i c a (by simpa using h)
      exact ⟨y, List.mem_cons_of_mem _ hy, r⟩
theorem rowM_new {ds : List Int} {act : List (List Int)} (h : modT ds act = true) (k : Nat) (hk : k < act.length) : (rowM (act[k].getD 0 0) (act[k].getD 1 0).toNat (act.take k)).testBit (act[k].getD 2 0).toNat = false := by
  cases e : (rowM (act[k].getD 0 0) (act[k].getD 1 0).toNat (act.take k)).testBit (act[k].getD 2 0).toNat
  · rfl
  · obtain ⟨x, hx, h0, h1, h2⟩ := rowM_bit _ _ _ _ e
    have hm := List.mem_of_mem_take hx
    have a1 := modT_cell h x hm
    have a2 := modT_cell h act[k] (List.getElem_mem hk)
    have key : x = act[k] := by
      generalize act[k] = z at *
      match x, z, a1.1, a2.1 with
      | [p, q, s], [p', q', s'], _, _ =>
        simp at h0 h1 h2 a1 a2
        simp; omega
    obtain ⟨j, hj, e2⟩ := List.getElem_of_mem hx
    simp only [List.length_take] at hj
    rw [List.getElem_take, key] at e2
    have ha := List.pairwise_iff_getElem.1 (modT_asc h) j k (by omega) hk (by omega)
    rw [e2, ltL_irrefl] at ha
    cases ha
theorem rowM_lt {ds : List Int} {act : List (List Int)} (h : modT ds act = true) (n : Int) (i k : Nat) : rowM n i (act.take k) < 2 ^ 16 := by
  apply Nat.lt_pow_two_of_testBit
  intro c hc
  cases e : (rowM n i (act.take k)).testBit c
  · rfl
  · obtain ⟨x, hx, _, _, h2⟩ := rowM_bit _ _ _ _ e
    have := modT_cell h x (List.mem_of_mem_take hx)
    have := modT_len h
    omega
set_option maxRecDepth 100000 in
set_option maxHeartbeats 2000000 in
theorem tableOf_c (d a : Value) (ds : List Int) (act : List (List Int)) (w : World) (h : ModS w.heap d a ds act) (hT : modT ds act = true) :
    Calls Tryz.prog 42 #[.agg #[d, a]] w fun e w' => ∃ g us, e = .returned (.pointer (some ⟨g, 0, none⟩)) ∧ TabU w' w.heap.size g d us (tabL ds.length act) ∧ Below w.heap.size w w' := by
  have hb : Below w.heap.size w (w.alloc (.cells #[d, a] 32)) := (Below.refl _ _).alloc (Nat.le_refl _) _
  have V := two_new w d a 32
  have hM := h.same hb.block
  have hs16 := modT_len hT
  obtain ⟨ao, ac, hv, hm⟩ := h.1.len
  obtain ⟨bo, bc, hv2, hm2⟩ := h.2.len
  subst hv; subst hv2
  have H0 := Lib.hid h; have HB := Lib.hid hb; have HV := Lib.hid V; have HT := Lib.hid hT; clear h hM hb V hT
  have k1 := HV.out.1; have k2 := HV.out.2
  have hmk := fun w => make_run (P := Tryz.prog) 22 2 _ 8 info_int64 Tryz.underlying22 rfl (by omega) ds.length (by omega) .i64 .i64 (ds.length : Int) (ds.length : Int) rfl rfl w
  go_enter Tryz.func42, Tryz.ntmps42
  go_wp2_with fail
  go_loopw [12] (fun i wr => ∃ (k : Nat) (us : List Value), k ≤ 21 ∧ i = .int .i64 k ∧ TabU wr w.heap.size (w.heap.size + 1) (.slice ao ds.length ac) us (madeL ds.length k 21) ∧ Var2 wr w.heap.size (.slice ao ds.length ac) (.slice bo act.length bc) 32 ∧ Below w.heap.size w wr) (fun i _ => 21 - (intOf i).toNat)
  case atStart =>
    refine ⟨0, List.replicate 21 (.slice none 0 0), by omega, rfl, ⟨?_, by omega, by simp [madeL], fun i u xs hu hx => ?_, fun i j u u' _ hu _ => ?_⟩, (Var2.new w _ _ _).kept (alloc_old _ _), HB.out.alloc (by simp) _⟩
    · have := heap_alloc_new (w.alloc (.cells #[.slice ao ds.length ac, .slice bo act.length bc] 32)) (.cells (.slice ao ds.length ac :: List.replicate 21 (.slice none 0 0)).toArray 79)
      rw [size_alloc_w] at this
      exact this
    · have h1 : u = .slice none 0 0 := by
        have := List.mem_of_getElem? hu
        exact List.eq_of_mem_replicate this
      have h2 : xs = [] := by
        simp only [madeL, List.getElem?_map, Option.map_eq_some_iff] at hx
        obtain ⟨j, _, rfl⟩ := hx
        simp
      subst h1 h2
      exact OwnI.nil _ _
    · left
      have := List.eq_of_mem_replicate (List.mem_of_getElem? hu)
      rw [this]; rfl
  case round =>
    obtain ⟨k, us, hk, rfl, hTU, hV, hbl⟩ := hrel
    have c0 := hV.c0; have c1 := hV.c1
    by_cases hk21 : k < 21
    · have hul : us.length = 21 := by rw [hTU.len, madeL_length]
      have ck := hTU.cell k
      rw [List.getElem?_eq_getElem (by omega)] at ck
      have fk := hTU.free (1 + k)
      have hlt1 := hTU.lt
      have hlt0 := hV.lt
      have HTU := Lib.hid hTU; have HV1 := Lib.hid hV; have HBL := Lib.hid hbl
      have HUL := Lib.hid hul
      generalize us[k]'(by omega) = uk at *
      clear hTU hV hbl hul
      go_wp2_with fail
      go_region
      all_goals
        go_wp2_with fail
        go_roundw
        case rel =>
          refine ⟨k + 1, us.set k (.slice (some ⟨wr.heap.size, 0, none⟩) ds.length ds.length), by omega, by go_num, ?_, ?_, ?_⟩
          · rw [← World.setCell_alloc_past _ _ _ _ hlt1, ← madeL_set]
            have ho := made_own wr wr.heap.size 2 ds.length (.int .i64 0) (Nat.le_refl _) (by omega)
            have := HTU.out.put (w' := wr.alloc (.cells (madeCells #[.int .i64 0] ds.length) 2)) (u := .slice (some ⟨wr.heap.size, 0, none⟩) ds.length ds.length) (ys := List.replicate ds.length 0) k (by rw [madeL_length]; omega) (alloc_old _ _) (by unfold OwnI; simpa using ho)
            exact this.same (fun _ _ => rfl)
          · exact ((HV1.out.setFar ⟨w.heap.size + 1, 1 + k, none⟩ (by simp) _).kept (alloc_old _ _)).kept (fun _ _ => rfl)
          · exact below_drewN 1 ((HBL.out.setCell (p := ⟨w.heap.size + 1, 1 + k, none⟩) (by simp) _).alloc (by have := HBL.out.size; simpa using this) _)
        case measure => simp [intOf]; omega
    · obtain rfl : k = 21 := by omega
      rw [madeL_all] at hTU
      have HTU := Lib.hid hTU; have HV1 := Lib.hid hV; have HBL := Lib.hid hbl
      clear hTU hV hbl
      rw [show (((21 : Nat)) : Int) = 21 from rfl]
      go_wp2_with fail
      clear c0 c1
      obtain ⟨wr0, hw0⟩ : ∃ wr0, wr0 = wr := ⟨_, rfl⟩
      go_loopw [28] (fun i wr => ∃ k : Nat, k ≤ ds.length ∧ i = .int .i64 k ∧ TabU wr w.heap.size (w.heap.size + 1) (.slice ao ds.length ac) us (gridL (fun n b => if n = 0 ∧ b < k then 2 ^ b else 0) ds.length 21) ∧ Var2 wr w.heap.size (.slice ao ds.length ac) (.slice bo act.length bc) 32 ∧ Below w.heap.size w wr) (fun i _ => ds.length - (intOf i).toNat)
      case atStart => exact ⟨0, Nat.zero_le _, rfl, by simpa using HTU.out, HV1.out, HBL.out⟩
      case round =>
        clear hw0 HTU HV1 HBL
        obtain ⟨k, hk, rfl, hTU, hV, hbl⟩ := hrel
        have c0 := hV.c0; have c1 := hV.c1
        by_cases hlt : k < ds.length
        · obtain ⟨r, cap, hur, hcr, hfr, hBr, hor, hst⟩ := hTU.store 0 (gridL_at _ _ _ _ (by omega)) k (by simpa using hlt)
          have ck := hTU.cell 0
          rw [hur] at ck
          simp only [List.length_map, List.length_range, Nat.add_zero] at ck
          have hst := hst (2 ^ k)
          rw [show ((2 : Int) ^ k) = (((if (0 : Nat) = 0 ∧ k < k + 1 then 2 ^ k else 0 : Nat)) : Int) by simp, gridL_set (f' := fun n b => if n = 0 ∧ b < k + 1 then 2 ^ b else 0) (h1 := fun j c hjc => by by_cases e : j = 0 ∧ c < k + 1 <;> by_cases e2 : j = 0 ∧ c < k <;> simp [e, e2] <;> omega)] at hst
          simp only [show (0 : Nat) = 0 ∧ k < k + 1 from ⟨rfl, by omega⟩, and_self, if_true] at hst
          have hst2 := hV.setFar ⟨r, k, none⟩ (own_ne2 hor hV (by decide)) (.int .i64 ((2 ^ k : Nat) : Int))
          have hst3 := hbl.setCell (p := ⟨r, k, none⟩) hBr (.int .i64 ((2 ^ k : Nat) : Int))
          have G := Lib.hid (And.intro hst (And.intro hst2 hst3))
          rw [show (((2 ^ k : Nat)) : Int) = (2 : Int) ^ k by simp] at G
          clear hst hst2 hst3 hTU hV hbl hur hor
          have hw := wrap64_pow k (by omega)
          have hki : (k : Int) < ds.length := by omega
          go_wp2_with fail
          go_region
          all_goals
            go_wp2_with fail
            go_roundw
            case rel => exact ⟨k + 1, by omega, by go_num, G.out.1.same (fun _ _ => rfl), G.out.2.1.kept (fun _ _ => rfl), below_drewN 1 G.out.2.2⟩
            case measure => simp [intOf]; omega
        · obtain rfl : k = ds.length := by omega
          have HTU := Lib.hid hTU; have HV1 := Lib.hid hV; have HBL := Lib.hid hbl
          clear hTU hV hbl
          go_wp2_with fail
          clear c0 c1
          obtain ⟨wr0, hw0⟩ : ∃ wr0, wr0 = wr := ⟨_, rfl⟩
          rw [show gridL (fun n b => if n = 0 ∧ b < ds.length then 2 ^ b else 0) ds.length 21 = gridL (fun n b => if n = 0 then 2 ^ b else rowM n b (act.take 0)) ds.length 21 from gridL_congr _ _ _ _ (fun n b _ hb => by by_cases e : n = 0 <;> simp [e, hb, rowM])] at HTU
          go_loopw [44] (fun i wr => ∃ k : Nat, k ≤ act.length ∧ i = .int .i64 k ∧ TabU wr w.heap.size (w.heap.size + 1) (.slice ao ds.length ac) us (gridL (fun n b => if n = 0 then 2 ^ b else rowM n b (act.take k)) ds.length 21) ∧ Below w.heap.size w wr) (fun i _ => act.length - (intOf i).toNat)
          case atStart => exact ⟨0, Nat.zero_le _, rfl, HTU.out, HBL.out⟩
          case round =>
            clear hw0 HTU HBL HV1
            obtain ⟨k, hk, rfl, hTU, hbl⟩ := hrel
            by_cases hlt : k < act.length
            · obtain ⟨b1, o1, c1, u, hv1, hc1, hu, -⟩ := H0.out.2.at k hlt
              simp only [Value.slice.injEq, true_and] at hv1
              obtain ⟨rfl, rfl⟩ := hv1
              have hc := (hbl.cell (World.block_lt_of_cell? _ _ hc1)).trans hc1
              clear hc1
              have hnew := rowM_new HT.out k hlt
              have hcell := modT_cell HT.out _ (List.getElem_mem hlt)
              have htop := modT_top HT.out _ (List.getElem_mem hlt)
              have htk := fun n i => rowM_take n i act k hlt
              generalize act[k] = x at *
              obtain ⟨p, q, s, rfl⟩ : ∃ p q s, x = [p, q, s] := by
                match x, hcell.1 with
                | [p, q, s], _ => exact ⟨p, q, s, rfl⟩
              simp only [List.getD_cons_zero, List.getD_cons_succ] at hnew hcell htop htk
              obtain ⟨-, hp1, hq0, hq1, hs0, hs1, -⟩ := hcell
              obtain ⟨n, rfl⟩ := Int.eq_ofNat_of_zero_le (show 0 ≤ p by omega)
              obtain ⟨b, rfl⟩ := Int.eq_ofNat_of_zero_le hq0
              obtain ⟨c, rfl⟩ := Int.eq_ofNat_of_zero_le hs0
              have hn21 : n < 21 := by omega
              have hbl1 : b < ds.length := by omega
              have hcl : c < 16 := by omega
              have hn0 : ¬ n = 0 := by omega
              have hF16 := rowM_lt HT.out n b k
              simp only [Int.toNat_natCast] at hnew
              obtain ⟨r, cap, hur, hcr, hfr, hBr, hor, hst⟩ := hTU.store n (gridL_at _ _ _ _ hn21) b (by simpa using hbl1)
              have ck := hTU.cell n
              rw [hur] at ck
              simp only [List.length_map, List.length_range, List.getElem_map, List.getElem_range, hn0, if_false] at ck hcr
              have hst := hst ((rowM n b (act.take k) ^^^ 2 ^ c : Nat) : Int)
              have hgs := gridL_set (fun n b => if n = 0 then 2 ^ b else rowM n b (act.take k)) (fun n b => if n = 0 then 2 ^ b else rowM n b (act.take (k + 1))) ds.length 21 n b (fun j e hje => by
                by_cases e0 : j = 0
                · simp [e0]
                · simp only [e0, if_false]
                  rw [htk, if_neg, Nat.xor_zero]
                  omega)
              simp only [hn0, if_false] at hgs
              have hx1 : rowM n b (act.take (k + 1)) = rowM n b (act.take k) ^^^ 2 ^ c := by
                rw [htk]
                simp
              rw [hx1] at hgs
              simp only [hn0, if_false] at hst
              rw [hgs] at hst
              have hor2 := i64_or_nat (rowM n b (act.take k)) (2 ^ c) (by omega) (by have := Nat.pow_lt_pow_right (a := 2) (by omega) hcl; omega)
              rw [or_xor_bit _ _ hnew, show (((2 ^ c : Nat)) : Int) = (2 : Int) ^ c by simp] at hor2
              have hst3 := hbl.setCell (p := ⟨r, b, none⟩) hBr (.int .i64 ((rowM n b (act.take k) ^^^ 2 ^ c : Nat) : Int))
              have hw := wrap64_pow c (by omega)
              obtain ⟨ua, uc, rfl, -⟩ := hu.len
              have hu2 := hu.same hbl.block
              obtain ⟨b2, o2, c2, hv2, hd0, -⟩ := hu2.at 0 (by simp)
              obtain ⟨b3, o3, c3, hv3, hd1, -⟩ := hu2.at 1 (by simp)
              obtain ⟨b4, o4, c4, hv4, hd2, -⟩ := hu2.at 2 (by simp)
              simp only [Value.slice.injEq, true_and] at hv2 hv3 hv4
              obtain ⟨rfl, rfl⟩ := hv2
              obtain ⟨hv3, -⟩ := hv3
              obtain ⟨hv4, -⟩ := hv4
              simp only [Option.some.injEq, Addr.mk.injEq, and_true] at hv3 hv4
              obtain ⟨rfl, rfl⟩ := hv3
              obtain ⟨rfl, rfl⟩ := hv4
              simp only [List.getElem_cons_zero, List.getElem_cons_succ, Nat.add_zero] at hd0 hd1 hd2
              have G := Lib.hid (And.intro hst hst3)
              clear hst hst3 hTU hbl hur hor hgs hnew hx1 hu hu2 htk htop hp1 hq0 hq1 hs0 hs1 hn0 hF16
              have hni : (n : Int) < 21 := by omega
              have hbi : (b : Int) < ds.length := by omega
              generalize rowM (n : Int) b (act.take k) = F at *
              generalize F ^^^ 2 ^ c = F' at *
              rw [← hor2, ← hw] at G
              clear hor2 hw
              go_wp2_with fail
              go_region_law (fail)
              all_goals
                go_wp2_with fail
                go_roundw
                case rel => exact ⟨k + 1, by omega, by go_num, G.out.1.same (fun _ _ => rfl), below_drewN 1 G.out.2⟩
                case measure => simp [intOf]; omega
            · obtain rfl : k = act.length := by omega
              rw [List.take_length] at hTU
              go_wp2_with fail
              go_ret
              exact ⟨_, us, rfl, hTU, hbl⟩
end
section
open Go.RowKit Go.Sort

theorem bitB_nat (x c : Nat) (hx : x < 9223372036854775808) : bitB (x : Int) c = x.testBit c := by
  unfold bitB
  rw [show ((x : Int) / 2 ^ c) = ((x / 2 ^ c : Nat) : Int) by simp, show (1 : Int) = ((1 : Nat) : Int) from rfl, i64_and_nat _ _ (Nat.lt_of_le_of_lt (Nat.div_le_self _ _) hx) (by omega), Nat.and_one_is_mod,
    Nat.testBit_eq_decide_div_mod_eq]
  rcases Nat.mod_two_eq_zero_or_one (x / 2 ^ c) with h | h <;> rw [h] <;> rfl
set_option maxHeartbeats 400000 in
theorem times_c (x : Nat) (v : Value) (rows : List Int) (f : Nat → Nat) (w : World) (h : IntS w.heap v rows) (hr : ∀ i, i < rows.length → rows.getD i 0 = (f i : Nat)) (hx : x < 2 ^ 16) (hf : ∀ i, f i < 2 ^ 16) (hl : rows.length ≤ 16) :
    Calls Tryz.prog 112 #[.int .i64 x, v] w fun e w' => e = .returned (.int .i64 (timM x f rows.length : Nat)) ∧ w = w' := by
  obtain ⟨ao, c, rfl, hm⟩ := h.len
  have H := Lib.hid h; have HR := Lib.hid hr; have HF := Lib.hid hf; clear h hr hf
  have HB := Lib.hid (timM_bound x f 16 HF.out)
  go_enter Tryz.func112, Tryz.ntmps112
  go_wp2
  go_loop [5, 10] (fun t i => ∃ k : Nat, k ≤ rows.length ∧ i = .int .i64 k ∧ t = .int .i64 (timM x f k : Nat)) (fun _ i => rows.length - (intOf i).toNat)
  case atStart => exact ⟨0, Nat.zero_le _, rfl, rfl⟩
  case round =>
    obtain ⟨k, hk, rfl, rfl⟩ := hrel
    by_cases hlt : k < rows.length
    · obtain ⟨b1, o1, c1, hv1, hc1, -⟩ := H.out.at k hlt
      simp only [Value.slice.injEq, true_and] at hv1
      obtain ⟨rfl, rfl⟩ := hv1
      rw [show rows[k] = rows.getD k 0 by simp [hlt], HR.out k hlt] at hc1
      have hb := bitB_nat x k (by omega)
      unfold bitB at hb
      have h1 := HB.out k
      have h2 := HF.out k
      have hxr := i64_xor_nat (timM x f k) (f k) (by omega) (by omega)
      have hxp : (0 : Int) ≤ (x : Int) := by omega
      cases ht : x.testBit k
      · have HS : Hid (timM x f (k + 1) = timM x f k) := by show _ = _; rw [timM, ht]; simp
        rw [ht] at hb
        clear ht hxr
        generalize timM x f k = t at *
        go_wp2
        go_round
        case rel => exact ⟨k + 1, by omega, by go_num, by rw [HS.out]⟩
        case measure => simp [intOf]; omega
      · have HS : Hid (timM x f (k + 1) = timM x f k ^^^ f k) := by show _ = _; rw [timM, ht]; simp
        rw [ht] at hb
        clear ht
        generalize timM x f k = t at *
        generalize f k = y at *
        go_wp2
        go_round
        case rel => exact ⟨k + 1, by omega, by go_num, by rw [HS.out]⟩
        case measure => simp [intOf]; omega
    · obtain rfl : k = rows.length := by omega
      go_wp2
      go_ret
      exact ⟨rfl, rfl⟩
theorem rowZ_lt {ds : List Int} {act : List (List Int)} (h : modT ds act = true) (n b : Nat) (hb : b < ds.length) : rowZ act n b < 2 ^ 16 := by
  unfold rowZ
  split
  · have := modT_len h; exact Nat.pow_lt_pow_right (by omega) (by omega)
  · have := rowM_lt h n b act.length
    rwa [List.take_length] at this
theorem actM_big {ds : List Int} {act : List (List Int)} (h : modT ds act = true) (n v : Nat) (hn : 20 < n) : actM n v act = 0 := by
  apply Nat.eq_of_testBit_eq
  intro c
  rw [Nat.zero_testBit]
  cases e : (actM n v act).testBit c
  · rfl
  · obtain ⟨x, hx, h0, _, _⟩ := actM_bit _ _ _ _ e
    have := modT_top h x hx
    omega
/-- What a table's row gives. -/
theorem timM_tab {ds : List Int} {act : List (List Int)} (h : modT ds act = true) (n v : Nat) (hv : v < 2 ^ ds.length) : timM v (fun b => if b < ds.length then rowZ act n b else 0) ds.length = actZ act n v := by
  rw [timM_congr v _ (rowZ act n) ds.length (fun i hi => by rw [if_pos hi])]
  unfold actZ rowZ
  by_cases e : n = 0
  · subst e
    simp only [if_true]
    exact timM_self v _ hv
  · rw [if_neg (by omega)]
    simp only [e, if_false]
    exact timM_act n v ds.length act fun x hx => by have := modT_cell h x hx; omega
set_option maxHeartbeats 400000 in
theorem square_c (g : Nat) (d : Value) (us : List Value) (ds : List Int) (act : List (List Int)) (B n v : Nat) (w : World) (h : TabU w B g d us (tabL ds.length act)) (hT : modT ds act = true) (hv : v < 2 ^ ds.length) :
    Calls Tryz.prog 96 #[.pointer (some ⟨g, 0, none⟩), .int .i64 n, .int .i64 v] w fun e w' => e = .returned (.int .i64 (actZ act n v : Nat)) ∧ w = w' := by
  have hl := modT_len hT
  have hv16 : v < 2 ^ 16 := Nat.lt_of_lt_of_le hv (Nat.pow_le_pow_right (by omega) hl)
  by_cases hn : n ≤ 20
  · have hg := gridL_at (rowZ act) ds.length 21 n (by omega)
    obtain ⟨u, hu⟩ : ∃ u, us[n]? = some u := ⟨_, List.getElem?_eq_getElem (show n < us.length by rw [h.len, tabL]; simp [gridL]; omega)⟩
    have ho := h.each n _ _ hu hg
    have ck := h.cell n
    rw [hu] at ck
    have T := Lib.hid (times_c v u _ (fun b => if b < ds.length then rowZ act n b else 0) w ho.ints (fun i hi => by
      simp only [List.length_map, List.length_range] at hi
      simp [hi]) hv16 (fun i => by
      by_cases hi : i < ds.length
      · rw [if_pos hi]; exact rowZ_lt hT n i hi
      · rw [if_neg hi]; omega) (by simpa using hl))
    simp only [List.length_map, List.length_range] at T
    rw [timM_tab hT n v hv] at T
    have hni : (n : Int) < 21 := by omega
    clear hg hu ho h hT hv hl
    go_enter Tryz.func96, Tryz.ntmps96
    go_wp2_with (go_at_call 112; refine T.out.mono ?_; rintro e w' ⟨rfl, rfl⟩)
    go_ret
    exact ⟨rfl, rfl⟩
  · have e : actZ act n v = 0 := by rw [actZ, if_neg (by omega), actM_big hT n v (by omega)]
    have t1 : decide ((20 : Int) < (n : Int)) = true := by simp; omega
    rw [e]
    clear e
    go_enter Tryz.func96, Tryz.ntmps96
    go_wp2
    go_ret
    exact ⟨rfl, rfl⟩
theorem relB_over (a b k : Nat) (h : a < 2 * k) : (List.range (a + 1)).filter (relB a b) = (List.range k).filter (relB a b) ∨ a + 1 < k := by
  by_cases hk : k ≤ a + 1
  · left
    obtain ⟨m, hm⟩ : ∃ m, a + 1 = k + m := ⟨a + 1 - k, by omega⟩
    rw [hm, List.range_add, List.filter_append]
    have : ((List.range m).map (k + ·)).filter (relB a b) = [] := by
      rw [List.filter_eq_nil_iff]
      intro x hx
      simp only [List.mem_map] at hx
      obtain ⟨y, _, rfl⟩ := hx
      simp [relB]; omega
    rw [this, List.append_nil]
  · right; omega
theorem relL_filter_len (a b k : Nat) : ((List.range k).filter (relB a b)).length ≤ k := Nat.le_trans (List.length_filter_le _ _) (by simp)
set_option maxHeartbeats 1000000 in
theorem relation_c (a b : Nat) (w : World) (ha : a ≤ 40) (hb1 : a / 2 + 1 ≤ b) (hb2 : b ≤ 40) :
    Calls Tryz.prog 111 #[.int .i64 a, .int .i64 b] w fun e w' => ∃ r, e = .returned r ∧ OwnI w' w.heap.size r ((relL a b).map fun (j : Nat) => (j : Int)) ∧ Below w.heap.size w w' := by
  go_enter Tryz.func111, Tryz.ntmps111
  go_wp2_with fail
  go_loopw [5, 6] (fun o i wr => ∃ k : Nat, k ≤ a / 2 + 1 ∧ i = .int .i64 k ∧ OwnI wr w.heap.size o (((List.range k).filter (relB a b)).map fun (j : Nat) => (j : Int)) ∧ Below w.heap.size w wr) (fun _ i _ => 41 - (intOf i).toNat)
  case atStart => exact ⟨0, by omega, rfl, ownI_empty (Nat.le_refl _), (Below.refl _ _).alloc (Nat.le_refl _) _⟩
  case round =>
    obtain ⟨k, hk, rfl, hown, hbl⟩ := hrel
    obtain ⟨va, vn, vc, rfl⟩ := own_shape hown
    have HO := Lib.hid hown; have HBL := Lib.hid hbl; have hsz := hbl.size
    have hln : (((List.range k).filter (relB a b)).map fun (j : Nat) => (j : Int)).length ≤ 4398046511104 := by
      rw [List.length_map]; have := relL_filter_len a b k; omega
    clear hown hbl
    by_cases hlt : k ≤ a / 2
    · have hka : 2 * k ≤ a := by omega
      have t0 : decide (2 * (k : Int) ≤ (a : Int)) = true := by simp; omega
      have t1 : decide (2 * k ≤ a) = true := by simpa using hka
      have s1 : IntKind.i64.wrap ((b : Int) - k) = (b : Int) - k := IntWalk.i64_in _ (by omega)
      have hand := i64_and_nat (b - k - 1) (a - 2 * k) (by omega) (by omega)
      have e1 : ((b - k - 1 : Nat) : Int) = (b : Int) - k - 1 := by omega
      have e2 : ((a - 2 * k : Nat) : Int) = (a : Int) - 2 * k := by omega
      rw [e1, e2] at hand
      have hs : ∀ x, relB a b k = x → ((List.range (k + 1)).filter (relB a b)).map (fun (j : Nat) => (j : Int)) = ((List.range k).filter (relB a b)).map (fun (j : Nat) => (j : Int)) ++ if x then [(k : Int)] else [] := fun x hx => by
        rw [List.range_succ, List.filter_append, List.map_append]
        cases x <;> simp [hx]
      cases hr : relB a b k
      · have HS := Lib.hid (hs false hr)
        have h2 : ¬ ((b - k - 1) &&& (a - 2 * k) = a - 2 * k) := by simpa [relB, hka] using hr
        have tt : (bits BinOp.and IntKind.i64 ((b : Int) - k - 1) ((a : Int) - 2 * k) == (a : Int) - 2 * k) = false := by
          rw [hand]; simp; omega
        clear hand hs hr h2 e1 e2
        go_wp2_with fail
        go_roundw
        case rel => exact ⟨k + 1, by omega, by go_num, by rw [HS.out]; simpa using HO.out, HBL.out⟩
        case measure => simp [intOf]; omega
      · have HS := Lib.hid (hs true hr)
        have h2 : (b - k - 1) &&& (a - 2 * k) = a - 2 * k := by simpa [relB, hka] using hr
        have tt : (bits BinOp.and IntKind.i64 ((b : Int) - k - 1) ((a : Int) - 2 * k) == (a : Int) - 2 * k) = true := by
          rw [hand]; simp; omega
        clear hand hs hr h2 e1 e2
        go_wp2_with (first | (at_builtin; refine append_int rfl _ _ rfl w.heap.size _ _ _ HO.out rfl HBL.out hsz _ rfl rfl hln ?_; intro v' wr0 hown' hbl' _ _; obtain ⟨va2, vn2, vc2, hv2⟩ := own_shape hown'; subst hv2))
        go_roundw
        case rel => exact ⟨k + 1, by omega, by go_num, by rw [HS.out]; simpa using hown', hbl'⟩
        case measure => simp [intOf]; omega
    · obtain rfl : k = a / 2 + 1 := by omega
      have t0 : decide (2 * ((a / 2 + 1 : Nat) : Int) ≤ (a : Int)) = false := by simp; omega
      have HE : Hid (relL a b = (List.range (a / 2 + 1)).filter (relB a b)) := by
        rcases relB_over a b (a / 2 + 1) (by omega) with h | h
        · exact h
        · exfalso; omega
      generalize a / 2 + 1 = q at *
      go_wp2_with fail
      go_ret
      exact ⟨_, rfl, by rw [HE.out]; exact HO.out, HBL.out⟩
end
end Go.Proofs.YtalbbjhonkcbgaaGreat

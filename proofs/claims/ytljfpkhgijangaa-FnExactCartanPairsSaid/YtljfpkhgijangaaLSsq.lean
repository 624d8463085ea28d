/- Slices of slices of slices of int64 of a call's own down to the numbers, and the statements' marks on them. -/
import Derived.Test.YtljfpkhgijangaaBase2
import Derived.Test.YtljfpkhgijangaaLSss
namespace Go.Proofs.Ytljfpkhgijangaa
open Go.RowKit Go.Sort

/-- All of it the call's own; no two rows of numbers share memory. qs: the rows' values. -/
structure OwnQ (w : World) (B : Nat) (v : Value) (us : List Value) (qs : List (List Value)) (xsss : List (List (List Int))) : Prop where
  row : w.ownsRow B 36 1 v xsss.length us
  qlen : qs.length = xsss.length
  each : ∀ (i : Nat) u q xss, us[i]? = some u → qs[i]? = some q → xsss[i]? = some xss → OwnU w B u q xss
  apart : ∀ (i j : Nat) q q', i < j → qs[i]? = some q → qs[j]? = some q' → ∀ u ∈ q, ∀ u' ∈ q', u.ownBlock = none ∨ u.ownBlock ≠ u'.ownBlock
theorem OwnQ.len {w : World} {B : Nat} {v : Value} {us : List Value} {qs : List (List Value)} {xsss : List (List (List Int))} (a : OwnQ w B v us qs xsss) : us.length = xsss.length := by simpa using a.row.1
theorem OwnQ.ints {w : World} {B : Nat} {v : Value} {us : List Value} {qs : List (List Value)} {xsss : List (List (List Int))} (a : OwnQ w B v us qs xsss) : IntSSS w.heap v xsss :=
  ⟨us, slAt_of_own a.row, a.len, fun i u xss hu hx => by
    have hi : i < xsss.length := (List.getElem?_eq_some_iff.1 hx).1
    exact (a.each i u _ xss hu (List.getElem?_eq_getElem (show i < qs.length by rw [a.qlen]; exact hi)) hx).ints⟩
theorem OwnQ.same {w w' : World} {B : Nat} {v : Value} {us : List Value} {qs : List (List Value)} {xsss : List (List (List Int))} (a : OwnQ w B v us qs xsss) (k : ∀ b, b < w.heap.size → w'.heap[b]? = w.heap[b]?) : OwnQ w' B v us qs xsss :=
  ⟨own_same a.row k, a.qlen, fun i u q xss hu hq hx => (a.each i u q xss hu hq hx).same k, a.apart⟩
theorem OwnQ.base {w : World} {B B' : Nat} {v : Value} {us : List Value} {qs : List (List Value)} {xsss : List (List (List Int))} (a : OwnQ w B v us qs xsss) (k : B' ≤ B) : OwnQ w B' v us qs xsss :=
  ⟨own_base a.row k, a.qlen, fun i u q xss hu hq hx => by
    have h := a.each i u q xss hu hq hx
    exact ⟨own_base h.row k, fun i u xs hu hx => own_base (h.each i u xs hu hx) k, h.apart⟩, a.apart⟩
theorem OwnQ.nil (w : World) (B : Nat) : OwnQ w B (.slice none 0 0) [] [] [] := ⟨World.ownsRow_nil _ _ _ _, rfl, fun i u q xss hu => by simp at hu, fun i j q q' _ hq => by simp at hq⟩
theorem ownQ_empty {w : World} {B : Nat} (hB : B ≤ w.heap.size) : OwnQ (w.alloc (.cells #[] 36)) B (.slice (some ⟨w.heap.size, 0, none⟩) 0 0) [] [] [] :=
  ⟨World.ownsRow_made w #[] 0 hB (Nat.zero_le _) rfl, rfl, fun i u q xss hu => by simp at hu, fun i j q q' _ hq => by simp at hq⟩
/-- The blocks of all of it. -/
theorem OwnU.mem {w : World} {B : Nat} {v u : Value} {us : List Value} {xss : List (List Int)} (h : OwnU w B v us xss) (hu : u ∈ us) : ∃ xs, OwnI w B u xs := by
  obtain ⟨i, hi, rfl⟩ := List.getElem_of_mem hu
  have hl := h.len
  exact ⟨_, h.each i _ _ (List.getElem?_eq_getElem hi) (List.getElem?_eq_getElem (show i < xss.length by omega))⟩
theorem OwnU.mem_lt {w : World} {B : Nat} {v u : Value} {us : List Value} {xss : List (List Int)} (h : OwnU w B v us xss) (hu : u ∈ us) (b : Nat) (hb : u.ownBlock = some b) : B ≤ b ∧ b < w.heap.size := by
  obtain ⟨xs, ho⟩ := h.mem hu
  exact World.ownsRow.lt ho b hb
theorem OwnU.kept {w w' : World} {B : Nat} {v : Value} {us : List Value} {xss : List (List Int)} (h : OwnU w B v us xss) (k1 : ∀ b, v.ownBlock = some b → w'.heap[b]? = w.heap[b]?) (k2 : ∀ u ∈ us, ∀ b, u.ownBlock = some b → w'.heap[b]? = w.heap[b]?) : OwnU w' B v us xss :=
  ⟨own_kept h.row k1, fun i u xs hu hx => own_kept (h.each i u xs hu hx) (k2 u (List.mem_of_getElem? hu)), h.apart⟩
theorem OwnQ.append {wE W w' : World} {B : Nat} {v v' u : Value} {us q : List Value} {qs : List (List Value)} {xsss : List (List (List Int))} {xss : List (List Int)} (h : OwnQ wE B v us qs xsss) (hE : Below wE.heap.size wE W) (hB : B ≤ wE.heap.size) (hu : OwnU W wE.heap.size u q xss)
    (hrow : w'.ownsRow B 36 1 v' (xsss.length + 1) (us ++ [u])) (hk : ∀ b, b < W.heap.size → some b ≠ v.ownBlock → w'.heap[b]? = W.heap[b]?) : OwnQ w' B v' (us ++ [u]) (qs ++ [q]) (xsss ++ [xss]) := by
  have hW := h.same hE.block
  have hl := h.len
  have hql := h.qlen
  have kt := KeepT.grown hW.row hk
  refine ⟨by simpa using hrow, by simp [hql], fun i x y ys hx hy hz => ?_, fun i j y y' hij hy hy' x hx x' hx' => ?_⟩
  · by_cases hi : i < us.length
    · rw [List.getElem?_append_left hi] at hx
      rw [List.getElem?_append_left (by omega)] at hy hz
      exact (hW.each i x y ys hx hy hz).keepT (by decide) (by decide) kt
    · rw [List.getElem?_append_right (by omega)] at hx hy hz
      rw [show i - qs.length = i - us.length by omega] at hy
      rw [show i - xsss.length = i - us.length by omega] at hz
      obtain ⟨m, hm⟩ : ∃ m, i - us.length = m := ⟨_, rfl⟩
      rw [hm] at hx hy hz
      match m, hx, hy, hz with
      | 0, hx, hy, hz =>
        simp at hx hy hz
        subst hx; subst hy; subst hz
        have hu' : OwnU W B u q xss := ⟨own_base hu.row hB, fun i u xs hu' hx => own_base (hu.each i u xs hu' hx) hB, hu.apart⟩
        exact hu'.keepT (by decide) (by decide) kt
  · by_cases hj : j < qs.length
    · rw [List.getElem?_append_left hj] at hy'
      rw [List.getElem?_append_left (by omega)] at hy
      exact h.apart i j y y' hij hy hy' x hx x' hx'
    · rw [List.getElem?_append_right (by omega)] at hy'
      obtain ⟨m, hm⟩ : ∃ m, j - qs.length = m := ⟨_, rfl⟩
      rw [hm] at hy'
      match m, hy', hm with
      | 0, hy', hm =>
        simp at hy'
        subst hy'
        rw [List.getElem?_append_left (by omega)] at hy
        have hi : i < qs.length := by omega
        have ho := h.each i _ y _ (List.getElem?_eq_getElem (show i < us.length by omega)) hy (List.getElem?_eq_getElem (show i < xsss.length by omega))
        cases hb : x.ownBlock with
        | none => exact .inl rfl
        | some b =>
          right
          intro e
          have h1 := (ho.mem_lt hx b hb).2
          have h2 := (hu.mem_lt hx' b e.symm).1
          omega
/-- One element's numbers have been written. -/
theorem OwnQ.set {w w' : World} {B : Nat} {v u : Value} {us q : List Value} {qs : List (List Value)} {xsss : List (List (List Int))} {yss : List (List Int)} {j : Nat} (h : OwnQ w B v us qs xsss) (hj : us[j]? = some u) (hq : qs[j]? = some q)
    (hg : ∀ b, b < w.heap.size → (∀ x, x ∈ q → x.ownBlock ≠ some b) → w'.heap[b]? = w.heap[b]?) (ho : OwnU w' B u q yss) : OwnQ w' B v us qs (xsss.set j yss) := by
  have hl := h.len
  have hql := h.qlen
  have hjl : j < us.length := (List.getElem?_eq_some_iff.1 hj).1
  have hJ := h.each j u q _ hj hq (List.getElem?_eq_getElem (show j < xsss.length by omega))
  refine ⟨?_, by simpa using hql, fun i x y xss hx hy hz => ?_, h.apart⟩
  · rw [List.length_set]
    refine own_kept h.row fun b hb => hg b (World.ownsRow.lt h.row b hb).2 fun x hx e => ?_
    obtain ⟨xs, hxo⟩ := hJ.mem hx
    rcases own_ne_types hxo h.row (by decide) with e1 | e1
    · rw [e1] at e; cases e
    · exact e1 (e.trans hb.symm)
  · rw [List.getElem?_set] at hz
    by_cases e : j = i
    · subst e
      rw [if_pos rfl, if_pos (by omega)] at hz
      rw [hj] at hx; rw [hq] at hy
      cases hz; cases hx; cases hy
      exact ho
    · rw [if_neg e] at hz
      have hI := h.each i x y xss hx hy hz
      refine hI.kept (fun b hb => hg b (World.ownsRow.lt hI.row b hb).2 fun z hzq e1 => ?_) (fun z hzy b hb => hg b (hI.mem_lt hzy b hb).2 fun z' hzq e1 => ?_)
      · obtain ⟨xs, hxo⟩ := hJ.mem hzq
        rcases own_ne_types hxo hI.row (by decide) with e2 | e2
        · rw [e2] at e1; cases e1
        · exact e2 (e1.trans hb.symm)
      · rcases Nat.lt_or_ge i j with hij | hij
        · rcases h.apart i j y q hij hy hq z hzy z' hzq with e2 | e2
          · rw [e2] at hb; cases hb
          · exact e2 (hb.trans e1.symm)
        · rcases h.apart j i q y (by omega) hq hy z' hzq z hzy with e2 | e2
          · rw [e2] at e1; cases e1
          · exact e2 (e1.trans hb.symm)
theorem OwnQ.far {w w' : World} {B : Nat} {v : Value} {us : List Value} {qs : List (List Value)} {xsss : List (List (List Int))} (a : OwnQ w B v us qs xsss) (k : ∀ b, B ≤ b → b < w.heap.size → w'.heap[b]? = w.heap[b]?) : OwnQ w' B v us qs xsss :=
  ⟨own_far a.row k, a.qlen, fun i u q xss hu hq hx => (a.each i u q xss hu hq hx).kept (fun b hb => k b (World.ownsRow.lt (a.each i u q xss hu hq hx).row b hb).1 (World.ownsRow.lt (a.each i u q xss hu hq hx).row b hb).2) (fun _ hx2 b hb => k b ((a.each i u q xss hu hq hx).mem_lt hx2 b hb).1 ((a.each i u q xss hu hq hx).mem_lt hx2 b hb).2), a.apart⟩
theorem OwnQ.range {w : World} {B : Nat} {v : Value} {us : List Value} {qs : List (List Value)} {xsss : List (List (List Int))} (a : OwnQ w B v us qs xsss) : ∀ q ∈ qs, ∀ u ∈ q, ∀ b, u.ownBlock = some b → B ≤ b ∧ b < w.heap.size := fun q hq u hu b hb => by
  obtain ⟨i, hi, rfl⟩ := List.getElem_of_mem hq
  have hl := a.len
  have hql := a.qlen
  exact (a.each i _ _ _ (List.getElem?_eq_getElem (show i < us.length by omega)) (List.getElem?_eq_getElem hi) (List.getElem?_eq_getElem (show i < xsss.length by omega))).mem_lt hu b hb
section
variable {ops : Array Oper} {rest : List Oper} {o : Oper} {a : Act} {Q : Exit → Act → World → Prop}
/-- 'append(out, x)', all of it the call's own, x made since the world wE. -/
theorem append_ownQ {w w0 wE : World} (hg : o.guard = none) (s x : Operand)
    (ho : o.op = .call { callee := .builtin .append, args := #[s, x], argTypes := #[47, 47] })
    (B : Nat) (v u : Value) (us q : List Value) (qs : List (List Value)) (xsss : List (List (List Int))) (xss : List (List Int)) (hR : OwnQ wE B v us qs xsss) (hs : a.eval s = v) (hu : OwnU w wE.heap.size u q xss) (hE : Below wE.heap.size wE w) (hbl : Below B w0 wE) (hB : B ≤ wE.heap.size)
    (b : Nat) (hx : a.eval x = .slice (some ⟨b, 0, none⟩) 1 1) (hb : b = w.heap.size) (hn : xsss.length ≤ 4398046511104)
    (hK : ∀ v' us' w', OwnQ w' B v' us' (qs ++ [q]) (xsss ++ [xss]) → Below B w0 w' → w.heap.size ≤ w'.heap.size → wpList Try.prog ops Q rest (a.put o.dst v') w') :
    wpList Try.prog ops Q (o :: rest) a (w.alloc (.cells #[u] 36)) := by
  obtain ⟨i0, hi, hz0, hz1, hz2⟩ := info_parts info_slSS
  have hW := hR.same hE.block
  refine append_one hg s x _ ho B _ i0 _ 24 Try.underlying47 hi hz0 hz1 hz2 rfl (by omega) v _ us u hW.row hs (hbl.trans (hE.mono hB)) (Nat.le_trans hB hE.size) b hx hb (intSS_oneCell hu.ints) hn ?_
  intro v' w' h1 h2 h3 h4
  exact hK v' _ w' (hR.append hE hB hu h1 h4) h2 h3
end
/-- How many numbers there are. -/
def cntQ (xsss : List (List (List Int))) : Nat := (xsss.map cnt).sum
theorem cntQ_cons (xs : List (List Int)) (xss : List (List (List Int))) : cntQ (xs :: xss) = cnt xs + cntQ xss := by simp [cntQ]
theorem cntQ_append (a b : List (List (List Int))) : cntQ (a ++ b) = cntQ a + cntQ b := by simp [cntQ]
theorem cntQ_take_succ (xss : List (List (List Int))) (j : Nat) (h : j < xss.length) : cntQ (xss.take (j + 1)) = cntQ (xss.take j) + cnt xss[j] := by
  rw [List.take_succ_eq_append_getElem h, cntQ_append, cntQ_cons]; simp [cntQ]
theorem cntQ_take_le (xss : List (List (List Int))) (j : Nat) : cntQ (xss.take j) ≤ cntQ xss := by
  have h := cntQ_append (xss.take j) (xss.drop j)
  rw [List.take_append_drop] at h
  omega
def marksQ (k : Int) : List (List (List Int)) → List (List (List Int))
  | [] => []
  | xs :: r => marksS k xs :: marksQ (k + cnt xs) r
theorem marksQ_length (k : Int) (xss : List (List (List Int))) : (marksQ k xss).length = xss.length := by
  induction xss generalizing k with
  | nil => rfl
  | cons x r ih => simp [marksQ, ih]
theorem marksQ_at (xss : List (List (List Int))) : ∀ (k : Int) (j : Nat) (h : j < xss.length), (marksQ k xss)[j]? = some (marksS (k + cntQ (xss.take j)) xss[j]) := by
  induction xss with
  | nil => intro k j h; simp at h
  | cons x r ih =>
    intro k j h
    cases j with
    | zero => simp [marksQ, cntQ]
    | succ j =>
      simp only [marksQ, List.getElem?_cons_succ, List.take_succ_cons, List.getElem_cons_succ]
      rw [ih _ j (by simpa using h), cntQ_cons]
      simp only [Int.natCast_add, Int.add_assoc]
def markedQ (k : Int) (xss : List (List (List Int))) (j : Nat) : List (List (List Int)) := (marksQ k xss).take j ++ xss.drop j
theorem markedQ_length (k : Int) (xss : List (List (List Int))) (j : Nat) : (markedQ k xss j).length = xss.length := by
  simp [markedQ, marksQ_length]; omega
theorem markedQ_at (k : Int) (xss : List (List (List Int))) (j i : Nat) (hi : i < xss.length) : (markedQ k xss j)[i]? = if i < j then (marksQ k xss)[i]? else xss[i]? := by
  unfold markedQ
  by_cases h : i < j
  · rw [if_pos h, List.getElem?_append_left (by simp [marksQ_length]; omega), List.getElem?_take, if_pos h]
  · rw [if_neg h, List.getElem?_append_right (by simp; omega)]
    simp only [List.length_take, marksQ_length, List.getElem?_drop]
    by_cases hj : j ≤ xss.length
    · rw [Nat.min_eq_left hj, Nat.add_sub_cancel' (by omega)]
    · omega
theorem markedQ_set (k : Int) (xss : List (List (List Int))) (j : Nat) (h : j < xss.length) : (markedQ k xss j).set j (marksS (k + cntQ (xss.take j)) xss[j]) = markedQ k xss (j + 1) := by
  apply List.ext_getElem?
  intro i
  rw [List.getElem?_set]
  by_cases hi : i < xss.length
  · rw [markedQ_at _ _ _ _ hi, markedQ_at _ _ _ _ hi]
    by_cases e : j = i
    · subst e
      rw [if_pos rfl, markedQ_length, if_pos h, if_pos (by omega), marksQ_at _ _ _ h]
    · rw [if_neg e]
      by_cases h2 : i < j
      · rw [if_pos h2, if_pos (by omega)]
      · rw [if_neg h2, if_neg (by omega)]
  · rw [if_neg (by omega), List.getElem?_eq_none (by rw [markedQ_length]; omega), List.getElem?_eq_none (by rw [markedQ_length]; omega)]
theorem markedQ_all (k : Int) (xss : List (List (List Int))) : markedQ k xss xss.length = marksQ k xss := by
  rw [markedQ, List.drop_length, List.append_nil, ← marksQ_length k xss, List.take_length]
theorem markInt64SSS_c (v : Value) (us : List Value) (qs : List (List Value)) (xss : List (List (List Int))) (k : Int) (B : Nat) (w : World) (h : OwnQ w B v us qs xss) (hsB : B ≤ w.heap.size) (hk : 0 ≤ k) (hx : k + cntQ xss ≤ 4611686018427387904) :
    Calls Try.prog 42 #[v, .int .i64 k] w fun e w' => e = .returned (.int .i64 (k + cntQ xss)) ∧ OwnQ w' B v us qs (marksQ k xss) ∧ w.heap.size ≤ w'.heap.size ∧ Below B w w' ∧ (∀ b, b < w.heap.size → (∀ q, q ∈ qs → ∀ u, u ∈ q → u.ownBlock ≠ some b) → w'.heap[b]? = w.heap[b]?) := by
  obtain ⟨ao, c, rfl, hm⟩ := h.ints.len
  have hl := h.len
  have hql := h.qlen
  have HSB := Lib.hid hsB; clear hsB
  have HL := Lib.hid hl; have HQL := Lib.hid hql; have H := Lib.hid h; clear h hl hql
  go_enter Try.func42, Try.ntmps42
  go_wp2
  go_loopw [1, 5] (fun s i wr => ∃ j : Nat, j ≤ xss.length ∧ i = .int .i64 j ∧ s = .int .i64 (k + cntQ (xss.take j)) ∧ OwnQ wr B (.slice ao xss.length c) us qs (markedQ k xss j) ∧ w.heap.size ≤ wr.heap.size ∧ Below B w wr ∧ (∀ b, b < w.heap.size → (∀ q, q ∈ qs → ∀ u, u ∈ q → u.ownBlock ≠ some b) → wr.heap[b]? = w.heap[b]?)) (fun _ i _ => xss.length - (intOf i).toNat)
  case atStart => exact ⟨0, Nat.zero_le _, rfl, by simp [cntQ], by simpa [markedQ] using H.out, Nat.le_refl _, Below.refl _ _, fun _ _ _ => rfl⟩
  case round =>
    obtain ⟨j, hj, rfl, rfl, hown, hsz, hbl, hkb⟩ := hrel
    by_cases hlt : j < xss.length
    · have hm1 : (markedQ k xss j)[j]? = some xss[j] := by rw [markedQ_at _ _ _ _ hlt, if_neg (by omega)]; simp [hlt]
      have hju : j < us.length := by have := HL.out; omega
      have hjq : j < qs.length := by have := HQL.out; omega
      have hO := hown.each j us[j] qs[j] _ (List.getElem?_eq_getElem hju) (List.getElem?_eq_getElem hjq) hm1
      obtain ⟨b, off, cap, cur, hv, hb, _, _, _, h5⟩ := SlAt.at (slAt_of_own hown.row) j hju
      simp only [Value.slice.injEq] at hv
      obtain ⟨rfl, -, rfl⟩ := hv
      have hc : wr.cell? ⟨b, off + j, none⟩ = some us[j] := by rw [World.cell?]; simp only [hb]; simpa [hju] using h5
      have hcnt := cntQ_take_succ xss j hlt
      have hle := cntQ_take_le xss (j + 1)
      have hx2 : (k + cntQ (xss.take j)) + cnt xss[j] ≤ 4611686018427387904 := by omega
      have HO := Lib.hid hown; have HO2 := Lib.hid hO; have HK := Lib.hid hkb; have HBL := Lib.hid hbl; have HC := Lib.hid hcnt
      have HMQ := Lib.hid (List.getElem_mem hjq)
      have HJU := Lib.hid (List.getElem?_eq_getElem hju)
      have HJQ := Lib.hid (List.getElem?_eq_getElem hjq)
      have HST := Lib.hid (markedQ_set k xss j hlt)
      obtain ⟨pa, pc, hpe, -⟩ := hO.ints.len
      clear hown hO hkb hbl hb h5 hcnt hle hm1
      generalize xss[j] = y at *
      generalize us[j] = u at *
      generalize qs[j] = q at *
      subst hpe
      go_wp2_with fail
      refine (markInt64SS_c (.slice pa y.length pc) q y (k + cntQ (xss.take j)) B wr HO2.out (by have := HSB.out; omega) (by omega) hx2).mono ?_
      rintro e w1 ⟨rfl, ho1, hs1, hb1, hg1⟩
      have HO1 := Lib.hid ho1; have HB1 := Lib.hid hb1; have HG1 := Lib.hid hg1
      clear ho1 hb1 hg1
      go_wp2_with fail
      go_roundw
      case rel =>
        refine ⟨j + 1, by omega, by go_num, by rw [HC.out]; simp only [Int.natCast_add, Int.add_assoc], ?_, Nat.le_trans hsz hs1, HBL.out.trans HB1.out, ?_⟩
        · rw [← HST.out]
          exact HO.out.set HJU.out HJQ.out HG1.out HO1.out
        · intro x hx hne
          rw [HG1.out x (by omega) (fun z hz => hne _ HMQ.out z hz)]
          exact HK.out x hx hne
      case measure => simp [intOf]; omega
    · obtain rfl : j = xss.length := by omega
      go_wp2_with fail
      go_ret
      rw [markedQ_all] at hown
      exact ⟨by simp, hown, hsz, hbl, hkb⟩
theorem heldInt64SSS_c (v : Value) (xss : List (List (List Int))) (k : Int) (w : World) (h : IntSSS w.heap v (marksQ k xss)) (hk : 0 ≤ k) (hx : k + cntQ xss ≤ 4611686018427387904) :
    Calls Try.prog 43 #[v, .int .i64 k] w fun e w' => e = .returned (.int .i64 (k + cntQ xss)) ∧ w = w' := by
  obtain ⟨ao, c, rfl, hm⟩ := h.len
  rw [marksQ_length] at hm ⊢
  have H := Lib.hid h; clear h
  go_enter Try.func43, Try.ntmps43
  go_wp2
  go_loop [1, 5] (fun s i => ∃ j : Nat, j ≤ xss.length ∧ i = .int .i64 j ∧ s = .int .i64 (k + cntQ (xss.take j))) (fun _ i => xss.length - (intOf i).toNat)
  case atStart => exact ⟨0, Nat.zero_le _, rfl, by simp [cntQ]⟩
  case round =>
    obtain ⟨j, hj, rfl, rfl⟩ := hrel
    by_cases hlt : j < xss.length
    · obtain ⟨b, off, cap, r, hv, hc, hr, _⟩ := (H.out).at j (by rw [marksQ_length]; exact hlt)
      simp only [Value.slice.injEq, marksQ_length, true_and] at hv
      obtain ⟨rfl, rfl⟩ := hv
      have e : (marksQ k xss)[j]'(by rw [marksQ_length]; exact hlt) = marksS (k + cntQ (xss.take j)) xss[j] := by
        have := marksQ_at xss k j hlt
        rw [List.getElem?_eq_getElem (by rw [marksQ_length]; exact hlt)] at this
        exact Option.some.inj this
      rw [e] at hr
      clear e
      have hcnt := cntQ_take_succ xss j hlt
      have hle := cntQ_take_le xss (j + 1)
      have hx2 : (k + cntQ (xss.take j)) + cnt xss[j] ≤ 4611686018427387904 := by omega
      have HR := Lib.hid hr; have HC := Lib.hid hcnt
      obtain ⟨pa, pc, hpe, -⟩ := hr.len
      subst hpe
      clear hr hcnt hle
      generalize xss[j] = y at *
      go_wp2_with fail
      refine (heldInt64SS_c _ y (k + cntQ (xss.take j)) w HR.out (by omega) hx2).mono ?_
      rintro e w1 ⟨rfl, rfl⟩
      go_wp2_with fail
      go_round
      case rel => exact ⟨j + 1, by omega, by go_num, by rw [HC.out]; simp only [Int.natCast_add, Int.add_assoc]⟩
      case measure => simp [intOf]; omega
    · obtain rfl : j = xss.length := by omega
      go_wp2_with fail
      go_ret
      exact ⟨by simp, rfl⟩
end Go.Proofs.Ytljfpkhgijangaa

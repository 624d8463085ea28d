/- The table of a module. -/
import Derived.Test.YtalbbjhonkcbgaaGreatDoorLMt1
import Derived.Test.YtalbbjhonkcbgaaGreatDoorLib3
import Derived.Test.YtalbbjhonkcbgaaGreatDoorLMod
import Derived.Deep.RegionLaw
import Derived.BigRegion
namespace Go.Proofs.YtalbbjhonkcbgaaGreatDoor
open Go.RowKit Go.Sort

/-- A struct variable whose first cell is d and whose others are slices of int64 of the call's own. -/
theorem own_ne2 {w : World} {B g r n c t : Nat} {x y : Value} {xs : List Int} (h : OwnI w B (.slice (some ⟨r, 0, none⟩) n c) xs) (k : Var2 w g x y t) (ne : 2 ≠ t) : g ≠ r := fun e => own_ne_var h k ne (by rw [e]; rfl)
structure TabU (w : World) (B g : Nat) (d : Value) (us : List Value) (xss : List (List Int)) : Prop where
  row : w.heap[g]? = some (.cells (d :: us).toArray 92 (0, 0))
  base : B ≤ g
  len : us.length = xss.length
  each : ∀ (i : Nat) u xs, us[i]? = some u → xss[i]? = some xs → OwnI w B u xs
  apart : ∀ (i j : Nat) u u', i < j → us[i]? = some u → us[j]? = some u' → u.ownBlock = none ∨ u.ownBlock ≠ u'.ownBlock
section
variable {w w' : World} {B g : Nat} {d : Value} {us : List Value} {xss : List (List Int)}
theorem TabU.lt (h : TabU w B g d us xss) : g < w.heap.size := (Array.getElem?_eq_some_iff.1 h.row).1
theorem TabU.same (h : TabU w B g d us xss) (k : ∀ b, b < w.heap.size → w'.heap[b]? = w.heap[b]?) : TabU w' B g d us xss :=
  ⟨(k g h.lt).trans h.row, h.base, h.len, fun i u xs hu hx => (h.each i u xs hu hx).same k, h.apart⟩
theorem TabU.c0 (h : TabU w B g d us xss) : w.cell? ⟨g, 0, none⟩ = some d := by rw [World.cell?]; simp only [h.row]; simp
theorem TabU.cell (h : TabU w B g d us xss) (i : Nat) : w.cell? ⟨g, 1 + i, none⟩ = us[i]? := by
  rw [World.cell?]; simp only [h.row]; rw [Nat.add_comm 1 i]; simp
theorem TabU.free (h : TabU w B g d us xss) (j : Nat) : w.frozen? ⟨g, j, none⟩ = false := by rw [World.frozen?]; simp only [h.row]; simp
theorem TabU.ne (h : TabU w B g d us xss) {i : Nat} {u : Value} (hu : us[i]? = some u) : u.ownBlock ≠ some g := by
  have hi : i < us.length := (List.getElem?_eq_some_iff.1 hu).1
  have ho := h.each i u _ hu (List.getElem?_eq_getElem (by rw [← h.len]; exact hi))
  rcases ho.2 with ⟨rfl, _⟩ | ⟨b, cap, cur, rfl, _, hg, _⟩
  · simp [Value.ownBlock]
  · intro e
    simp only [Value.ownBlock, Option.some.injEq] at e
    subst e
    rw [h.row] at hg
    simp only [Option.some.injEq, Obj.cells.injEq] at hg
    exact absurd hg.2.1 (by decide)
/-- A row has been made and is stored. -/
theorem TabU.put {u : Value} {ys : List Int} (h : TabU w B g d us xss) (j : Nat) (hj : j < xss.length) (hk : ∀ b, b < w.heap.size → w'.heap[b]? = w.heap[b]?) (hu : OwnI w' w.heap.size u ys) :
    TabU (w'.setCell ⟨g, 1 + j, none⟩ u) B g d (us.set j u) (xss.set j ys) := by
  have h' := h.same hk
  have hlt := h.lt
  have hl := h.len
  have hne : ∀ b, u.ownBlock = some b → w.heap.size ≤ b := fun b hb => (World.ownsRow.lt hu b hb).1
  refine ⟨?_, h.base, by simp [hl], fun i x xs hx hxs => ?_, fun i i' x x' hi hx hx' => ?_⟩
  · have := heap_setCell_same w' g (1 + j) (d :: us).toArray 92 u h'.row
    rw [this, Nat.add_comm 1 j]
    simp
  · by_cases e : j = i
    · subst e
      rw [List.getElem?_set_self (by omega)] at hx hxs
      simp only [Option.some.injEq] at hx hxs
      subst hx; subst hxs
      refine own_setCell_other (own_base hu (Nat.le_trans h.base (Nat.le_of_lt hlt))) _ (fun e => ?_) u
      have := hne _ e; simp at this; omega
    · rw [List.getElem?_set_ne e] at hx hxs
      exact own_setCell_other (h'.each i x xs hx hxs) _ (h'.ne hx) u
  · have old : ∀ (i : Nat) x, us[i]? = some x → ∀ b, x.ownBlock = some b → b < w.heap.size := fun i x hx b hb => by
      have hi : i < us.length := (List.getElem?_eq_some_iff.1 hx).1
      exact (World.ownsRow.lt (h.each i x _ hx (List.getElem?_eq_getElem (by omega))) b hb).2
    by_cases e : j = i
    · subst e
      rw [List.getElem?_set_self (by omega)] at hx
      rw [List.getElem?_set_ne (by omega)] at hx'
      simp only [Option.some.injEq] at hx
      subst hx
      cases hb : u.ownBlock with
      | none => exact .inl rfl
      | some b => exact .inr fun e => by have h1 := hne b hb; have h2 := old _ _ hx' b e.symm; omega
    · rw [List.getElem?_set_ne e] at hx
      by_cases e2 : j = i'
      · subst e2
        rw [List.getElem?_set_self (by omega)] at hx'
        simp only [Option.some.injEq] at hx'
        subst hx'
        cases hb : x.ownBlock with
        | none => exact .inl rfl
        | some b => exact .inr fun e => by have h1 := hne b e.symm; have h2 := old _ _ hx b hb; omega
      · rw [List.getElem?_set_ne e2] at hx'
        exact h.apart i i' x x' hi hx hx'
/-- A number is stored in a row. -/
theorem TabU.store {xs : List Int} (h : TabU w B g d us xss) (j : Nat) (hx : xss[j]? = some xs) (b : Nat) (hb : b < xs.length) :
    ∃ r cap, us[j]? = some (.slice (some ⟨r, 0, none⟩) xs.length cap) ∧ w.cell? ⟨r, b, none⟩ = some (.int .i64 xs[b]) ∧ w.frozen? ⟨r, b, none⟩ = false ∧ B ≤ r ∧ OwnI w B (.slice (some ⟨r, 0, none⟩) xs.length cap) xs ∧ ∀ x, TabU (w.setCell ⟨r, b, none⟩ (.int .i64 x)) B g d us (xss.set j (xs.set b x)) := by
  have hl := h.len
  have hj : j < xss.length := (List.getElem?_eq_some_iff.1 hx).1
  have hu := List.getElem?_eq_getElem (show j < us.length by omega)
  have ho := h.each j _ xs hu hx
  obtain ⟨r, cap, hv, hB, hc⟩ := ho.open (by omega)
  rw [hv] at hu ho
  refine ⟨r, cap, hu, hc b hb, ho.frozenAt b, hB, ho, fun x => ?_⟩
  have hst := own_int_set ho b x
  have hne := h.ne hu
  simp only [Value.ownBlock, ne_eq, Option.some.injEq] at hne
  refine ⟨?_, h.base, by simp [hl], fun i z zs hz hzs => ?_, h.apart⟩
  · rw [Below.heap_setCell _ _ _ _ (fun e => hne (by simpa using e.symm))]; exact h.row
  · by_cases e : j = i
    · subst e
      rw [List.getElem?_set_self hj] at hzs
      rw [hu] at hz
      simp only [Option.some.injEq] at hz hzs
      subst hz; subst hzs
      unfold OwnI
      rw [List.length_set]; exact hst
    · rw [List.getElem?_set_ne e] at hzs
      refine own_setCell_other (h.each i z zs hz hzs) _ (fun e2 => ?_) _
      rcases Nat.lt_or_gt_of_ne e with h1 | h1
      · rcases h.apart j i _ z h1 hu hz with e3 | e3
        · simp [Value.ownBlock] at e3
        · exact e3 (by rw [e2]; rfl)
      · rcases h.apart i j z _ h1 hz hu with e3 | e3
        · rw [e3] at e2; cases e2
        · exact e3 e2
end
/-- A table of numbers. -/
def gridL (f : Nat → Nat → Nat) (size n : Nat) : List (List Int) := (List.range n).map fun i => (List.range size).map fun b => ((f i b : Nat) : Int)
theorem gridL_at (f : Nat → Nat → Nat) (size n i : Nat) (h : i < n) : (gridL f size n)[i]? = some ((List.range size).map fun b => ((f i b : Nat) : Int)) := by simp [gridL, h]
theorem gridL_congr (f f' : Nat → Nat → Nat) (size n : Nat) (h : ∀ i b, i < n → b < size → f i b = f' i b) : gridL f size n = gridL f' size n := by
  unfold gridL
  apply List.map_congr_left
  intro i hi
  apply List.map_congr_left
  intro b hb
  rw [h i b (List.mem_range.1 hi) (List.mem_range.1 hb)]
theorem gridL_set (f f' : Nat → Nat → Nat) (size n i b : Nat) (h1 : ∀ j c, ¬ (j = i ∧ c = b) → f' j c = f j c) :
    (gridL f size n).set i (((List.range size).map fun b => ((f i b : Nat) : Int)).set b ((f' i b : Nat) : Int)) = gridL f' size n := by
  apply List.ext_getElem?
  intro j
  by_cases hj : j < n
  · rw [gridL_at f' _ _ _ hj]
    by_cases e : i = j
    · subst e
      rw [List.getElem?_set_self (by simp [gridL, hj])]
      congr 1
      apply List.ext_getElem?
      intro c
      by_cases hc : c < size
      · by_cases e2 : b = c
        · subst e2; simp [hc]
        · rw [List.getElem?_set_ne e2]; simp [hc, h1 i c (fun x => e2 x.2.symm)]
      · rw [List.getElem?_eq_none (by simp; omega), List.getElem?_eq_none (by simp; omega)]
    · rw [List.getElem?_set_ne e, gridL_at _ _ _ _ hj]
      congr 2
      funext c
      rw [h1 j c (fun x => e x.1.symm)]
  · rw [List.getElem?_eq_none (by simp [gridL]; omega), List.getElem?_eq_none (by simp [gridL]; omega)]
/-- Made rows, k of them. -/
def madeL (size k n : Nat) : List (List Int) := (List.range n).map fun i => if i < k then List.replicate size 0 else []
theorem madeL_set (size k n : Nat) : (madeL size k n).set k (List.replicate size 0) = madeL size (k + 1) n := by
  apply List.ext_getElem?
  intro j
  by_cases hj : j < n
  · by_cases e : k = j
    · subst e; rw [List.getElem?_set_self (by simp [madeL, hj])]; simp [madeL, hj]
    · rw [List.getElem?_set_ne e]
      simp only [madeL, List.getElem?_map, List.getElem?_range hj, Option.map_some]
      by_cases e2 : j < k
      · simp [e2, show j < k + 1 by omega]
      · simp [e2, show ¬ j < k + 1 by omega]
  · rw [List.getElem?_eq_none (by simp [madeL]; omega), List.getElem?_eq_none (by simp [madeL]; omega)]
theorem madeL_all (size n : Nat) : madeL size n n = gridL (fun _ _ => 0) size n := by
  apply List.ext_getElem?
  intro j
  by_cases hj : j < n
  · simp [madeL, gridL, hj]
    apply List.ext_getElem <;> simp
  · rw [List.getElem?_eq_none (by simp [madeL]; omega), List.getElem?_eq_none (by simp [gridL]; omega)]
theorem madeL_length (size k n : Nat) : (madeL size k n).length = n := by simp [madeL]
/-- The rows of the squares. -/
def rowZ (act : List (List Int)) (n b : Nat) : Nat := if n = 0 then 2 ^ b else rowM n b act
def tabL (size : Nat) (act : List (List Int)) : List (List Int) := gridL (rowZ act) size 21
theorem wrap64_pow : ∀ k : Nat, k < 63 → wrap64 (2 ^ k) = 2 ^ k := by decide +kernel
theorem ofInt_i64 (a : Nat) (ha : a < 9223372036854775808) : (BitVec.ofInt 64 (a : Int)).toNat = a := by
  rw [BitVec.ofInt_natCast, BitVec.toNat_ofNat]; exact Nat.mod_eq_of_lt (by omega)
theorem i64_or_nat (a b : Nat) (ha : a < 9223372036854775808) (hb : b < 9223372036854775808) : bits .or .i64 (a : Int) (b : Int) = ((a ||| b : Nat) : Int) := by
  have hx : a ||| b < 2 ^ 63 := Nat.or_lt_two_pow (by omega) (by omega)
  show IntKind.i64.wrap ((BitVec.ofInt 64 (a : Int) ||| BitVec.ofInt 64 (b : Int)).toNat : Int) = _
  rw [BitVec.toNat_or, ofInt_i64 a ha, ofInt_i64 b hb, IntKind.wrap_i64]
  omega
theorem i64_xor_nat (a b : Nat) (ha : a < 9223372036854775808) (hb : b < 9223372036854775808) : bits .xor .i64 (a : Int) (b : Int) = ((a ^^^ b : Nat) : Int) := by
  have hx : a ^^^ b < 2 ^ 63 := Nat.xor_lt_two_pow (by omega) (by omega)
  show IntKind.i64.wrap ((BitVec.ofInt 64 (a : Int) ^^^ BitVec.ofInt 64 (b : Int)).toNat : Int) = _
  rw [BitVec.toNat_xor, ofInt_i64 a ha, ofInt_i64 b hb, IntKind.wrap_i64]
  omega
theorem i64_and_nat (a b : Nat) (ha : a < 9223372036854775808) (hb : b < 9223372036854775808) : bits .and .i64 (a : Int) (b : Int) = ((a &&& b : Nat) : Int) := by
  have hx : a &&& b < 2 ^ 63 := Nat.and_lt_two_pow _ (by omega)
  show IntKind.i64.wrap ((BitVec.ofInt 64 (a : Int) &&& BitVec.ofInt 64 (b : Int)).toNat : Int) = _
  rw [BitVec.toNat_and, ofInt_i64 a ha, ofInt_i64 b hb, IntKind.wrap_i64]
  omega
theorem or_xor_bit (x c : Nat) (h : x.testBit c = false) : x ||| 2 ^ c = x ^^^ 2 ^ c := by
  apply Nat.eq_of_testBit_eq
  intro i
  rw [Nat.testBit_or, Nat.testBit_xor, Nat.testBit_two_pow]
  by_cases e : c = i
  · subst e; simp [h]
  · simp [e]
/-- What is set in a row has its place in the action. -/
theorem rowM_bit (n : Int) (i c : Nat) : ∀ (act : List (List Int)), (rowM n i act).testBit c = true → ∃ x ∈ act, x.getD 0 0 = n ∧ x.getD 1 0 = i ∧ (x.getD 2 0).toNat = c
  | [], h => by simp [rowM] at h
  | x :: a, h => by
    rw [rowM, Nat.testBit_xor] at h
    by_cases e : x.getD 0 0 = n ∧ x.getD 1 0 = i
    · rw [if_pos e, Nat.testBit_two_pow] at h
      by_cases e2 : (x.getD 2 0).toNat = c
      · exact ⟨x, List.mem_cons_self .., e.1, e.2, e2⟩
      · rw [show decide ((x.getD 2 0).toNat = c) = false by simpa using e2] at h
        obtain ⟨y, hy, r⟩ := rowM_bit n i c a (by simpa using h)
        exact ⟨y, List.mem_cons_of_mem _ hy, r⟩
    · rw [if_neg e] at h
      obtain ⟨y, hy, r⟩ := rowM_bit n i c a (by simpa using h)
      exact ⟨y, List.mem_cons_of_mem _ hy, r⟩
theorem rowM_new {ds : List Int} {act : List (List Int)} (h : modT ds act = true) (k : Nat) (hk : k < act.length) : (rowM (act[k].getD 0 0) (act[k].getD 1 0).toNat (act.take k)).testBit (act[k].getD 2 0).toNat = false := by
  cases e : (rowM (act[k].getD 0 0) (act[k].getD 1 0).toNat (act.take k)).testBit (act[k].getD 2 0).toNat
  · rfl
  · obtain ⟨x, hx, h0, h1, h2⟩ := rowM_bit _ _ _ _ e
    have hm := List.mem_of_mem_take hx
    have a1 := modT_cell h x hm
    have a2 := modT_cell h act[k] (List.getElem_mem hk)
    have key : x = act[k] := by
      generalize act[k] = z at *
      match x, z, a1.1, a2.1 with
      | [p, q, s], [p', q', s'], _, _ =>
        simp at h0 h1 h2 a1 a2
        simp; omega
    obtain ⟨j, hj, e2⟩ := List.getElem_of_mem hx
    simp only [List.length_take] at hj
    rw [List.getElem_take, key] at e2
    have ha := List.pairwise_iff_getElem.1 (modT_asc h) j k (by omega) hk (by omega)
    rw [e2, ltL_irrefl] at ha
    cases ha
theorem rowM_lt {ds : List Int} {act : List (List Int)} (h : modT ds act = true) (n : Int) (i k : Nat) : rowM n i (act.take k) < 2 ^ 16 := by
  apply Nat.lt_pow_two_of_testBit
  intro c hc
  cases e : (rowM n i (act.take k)).testBit c
  · rfl
  · obtain ⟨x, hx, _, _, h2⟩ := rowM_bit _ _ _ _ e
    have := modT_cell h x (List.mem_of_mem_take hx)
    have := modT_len h
    omega
set_option maxRecDepth 100000 in
set_option maxHeartbeats 2000000 in
theorem tableOf_c (d a : Value) (ds : List Int) (act : List (List Int)) (w : World) (h : ModS w.heap d a ds act) (hT : modT ds act = true) :
    Calls Tryz.prog 50 #[.agg #[d, a]] w fun e w' => ∃ g us, e = .returned (.pointer (some ⟨g, 0, none⟩)) ∧ TabU w' w.heap.size g d us (tabL ds.length act) ∧ Below w.heap.size w w' := by
  have hb : Below w.heap.size w (w.alloc (.cells #[d, a] 32)) := (Below.refl _ _).alloc (Nat.le_refl _) _
  have V := two_new w d a 32
  have hM := h.same hb.block
  have hs16 := modT_len hT
  obtain ⟨ao, ac, hv, hm⟩ := h.1.len
  obtain ⟨bo, bc, hv2, hm2⟩ := h.2.len
  subst hv; subst hv2
  have H0 := Lib.hid h; have HB := Lib.hid hb; have HV := Lib.hid V; have HT := Lib.hid hT; clear h hM hb V hT
  have k1 := HV.out.1; have k2 := HV.out.2
  have hmk := fun w => make_run (P := Tryz.prog) 30 2 _ 8 info_int64 Tryz.underlying30 rfl (by omega) ds.length (by omega) .i64 .i64 (ds.length : Int) (ds.length : Int) rfl rfl w
  go_enter Tryz.func50, Tryz.ntmps50
  go_wp2_with fail
  go_loopw [12] (fun i wr => ∃ (k : Nat) (us : List Value), k ≤ 21 ∧ i = .int .i64 k ∧ TabU wr w.heap.size (w.heap.size + 1) (.slice ao ds.length ac) us (madeL ds.length k 21) ∧ Var2 wr w.heap.size (.slice ao ds.length ac) (.slice bo act.length bc) 32 ∧ Below w.heap.size w wr) (fun i _ => 21 - (intOf i).toNat)
  case atStart =>
    refine ⟨0, List.replicate 21 (.slice none 0 0), by omega, rfl, ⟨?_, by omega, by simp [madeL], fun i u xs hu hx => ?_, fun i j u u' _ hu _ => ?_⟩, (Var2.new w _ _ _).kept (alloc_old _ _), HB.out.alloc (by simp) _⟩
    · have := heap_alloc_new (w.alloc (.cells #[.slice ao ds.length ac, .slice bo act.length bc] 32)) (.cells (.slice ao ds.length ac :: List.replicate 21 (.slice none 0 0)).toArray 92)
      rw [size_alloc_w] at this
      exact this
    · have h1 : u = .slice none 0 0 := by
        have := List.mem_of_getElem? hu
        exact List.eq_of_mem_replicate this
      have h2 : xs = [] := by
        simp only [madeL, List.getElem?_map, Option.map_eq_some_iff] at hx
        obtain ⟨j, _, rfl⟩ := hx
        simp
      subst h1 h2
      exact OwnI.nil _ _
    · left
      have := List.eq_of_mem_replicate (List.mem_of_getElem? hu)
      rw [this]; rfl
  case round =>
    obtain ⟨k, us, hk, rfl, hTU, hV, hbl⟩ := hrel
    have c0 := hV.c0; have c1 := hV.c1
    by_cases hk21 : k < 21
    · have hul : us.length = 21 := by rw [hTU.len, madeL_length]
      have ck := hTU.cell k
      rw [List.getElem?_eq_getElem (by omega)] at ck
      have fk := hTU.free (1 + k)
      have hlt1 := hTU.lt
      have hlt0 := hV.lt
      have HTU := Lib.hid hTU; have HV1 := Lib.hid hV; have HBL := Lib.hid hbl
      have HUL := Lib.hid hul
      generalize us[k]'(by omega) = uk at *
      clear hTU hV hbl hul
      go_wp2_with fail
      go_region
      all_goals
        go_wp2_with fail
        go_roundw
        case rel =>
          refine ⟨k + 1, us.set k (.slice (some ⟨wr.heap.size, 0, none⟩) ds.length ds.length), by omega, by go_num, ?_, ?_, ?_⟩
          · rw [← World.setCell_alloc_past _ _ _ _ hlt1, ← madeL_set]
            have ho := made_own wr wr.heap.size 2 ds.length (.int .i64 0) (Nat.le_refl _) (by omega)
            have := HTU.out.put (w' := wr.alloc (.cells (madeCells #[.int .i64 0] ds.length) 2)) (u := .slice (some ⟨wr.heap.size, 0, none⟩) ds.length ds.length) (ys := List.replicate ds.length 0) k (by rw [madeL_length]; omega) (alloc_old _ _) (by unfold OwnI; simpa using ho)
            exact this.same (fun _ _ => rfl)
          · exact ((HV1.out.setFar ⟨w.heap.size + 1, 1 + k, none⟩ (by simp) _).kept (alloc_old _ _)).kept (fun _ _ => rfl)
          · exact below_drewN 1 ((HBL.out.setCell (p := ⟨w.heap.size + 1, 1 + k, none⟩) (by simp) _).alloc (by have := HBL.out.size; simpa using this) _)
        case measure => simp [intOf]; omega
    · obtain rfl : k = 21 := by omega
      rw [madeL_all] at hTU
      have HTU := Lib.hid hTU; have HV1 := Lib.hid hV; have HBL := Lib.hid hbl
      clear hTU hV hbl
      rw [show (((21 : Nat)) : Int) = 21 from rfl]
      go_wp2_with fail
      clear c0 c1
      obtain ⟨wr0, hw0⟩ : ∃ wr0, wr0 = wr := ⟨_, rfl⟩
      go_loopw [28] (fun i wr => ∃ k : Nat, k ≤ ds.length ∧ i = .int .i64 k ∧ TabU wr w.heap.size (w.heap.size + 1) (.slice ao ds.length ac) us (gridL (fun n b => if n = 0 ∧ b < k then 2 ^ b else 0) ds.length 21) ∧ Var2 wr w.heap.size (.slice ao ds.length ac) (.slice bo act.length bc) 32 ∧ Below w.heap.size w wr) (fun i _ => ds.length - (intOf i).toNat)
      case atStart => exact ⟨0, Nat.zero_le _, rfl, by simpa using HTU.out, HV1.out, HBL.out⟩
      case round =>
        clear hw0 HTU HV1 HBL
        obtain ⟨k, hk, rfl, hTU, hV, hbl⟩ := hrel
        have c0 := hV.c0; have c1 := hV.c1
        by_cases hlt : k < ds.length
        · obtain ⟨r, cap, hur, hcr, hfr, hBr, hor, hst⟩ := hTU.store 0 (gridL_at _ _ _ _ (by omega)) k (by simpa using hlt)
          have ck := hTU.cell 0
          rw [hur] at ck
          simp only [List.length_map, List.length_range, Nat.add_zero] at ck
          have hst := hst (2 ^ k)
          rw [show ((2 : Int) ^ k) = (((if (0 : Nat) = 0 ∧ k < k + 1 then 2 ^ k else 0 : Nat)) : Int) by simp, gridL_set (f' := fun n b => if n = 0 ∧ b < k + 1 then 2 ^ b else 0) (h1 := fun j c hjc => by by_cases e : j = 0 ∧ c < k + 1 <;> by_cases e2 : j = 0 ∧ c < k <;> simp [e, e2] <;> omega)] at hst
          simp only [show (0 : Nat) = 0 ∧ k < k + 1 from ⟨rfl, by omega⟩, and_self, if_true] at hst
          have hst2 := hV.setFar ⟨r, k, none⟩ (own_ne2 hor hV (by decide)) (.int .i64 ((2 ^ k : Nat) : Int))
          have hst3 := hbl.setCell (p := ⟨r, k, none⟩) hBr (.int .i64 ((2 ^ k : Nat) : Int))
          have G := Lib.hid (And.intro hst (And.intro hst2 hst3))
          rw [show (((2 ^ k : Nat)) : Int) = (2 : Int) ^ k by simp] at G
          clear hst hst2 hst3 hTU hV hbl hur hor
          have hw := wrap64_pow k (by omega)
          have hki : (k : Int) < ds.length := by omega
          go_wp2_with fail
          go_region
          all_goals
            go_wp2_with fail
            go_roundw
            case rel => exact ⟨k + 1, by omega, by go_num, G.out.1.same (fun _ _ => rfl), G.out.2.1.kept (fun _ _ => rfl), below_drewN 1 G.out.2.2⟩
            case measure => simp [intOf]; omega
        · obtain rfl : k = ds.length := by omega
          have HTU := Lib.hid hTU; have HV1 := Lib.hid hV; have HBL := Lib.hid hbl
          clear hTU hV hbl
          go_wp2_with fail
          clear c0 c1
          obtain ⟨wr0, hw0⟩ : ∃ wr0, wr0 = wr := ⟨_, rfl⟩
          rw [show gridL (fun n b => if n = 0 ∧ b < ds.length then 2 ^ b else 0) ds.length 21 = gridL (fun n b => if n = 0 then 2 ^ b else rowM n b (act.take 0)) ds.length 21 from gridL_congr _ _ _ _ (fun n b _ hb => by by_cases e : n = 0 <;> simp [e, hb, rowM])] at HTU
          go_loopw [44] (fun i wr => ∃ k : Nat, k ≤ act.length ∧ i = .int .i64 k ∧ TabU wr w.heap.size (w.heap.size + 1) (.slice ao ds.length ac) us (gridL (fun n b => if n = 0 then 2 ^ b else rowM n b (act.take k)) ds.length 21) ∧ Below w.heap.size w wr) (fun i _ => act.length - (intOf i).toNat)
          case atStart => exact ⟨0, Nat.zero_le _, rfl, HTU.out, HBL.out⟩
          case round =>
            clear hw0 HTU HBL HV1
            obtain ⟨k, hk, rfl, hTU, hbl⟩ := hrel
            by_cases hlt : k < act.length
            · obtain ⟨b1, o1, c1, u, hv1, hc1, hu, -⟩ := H0.out.2.at k hlt
              simp only [Value.slice.injEq, true_and] at hv1
              obtain ⟨rfl, rfl⟩ := hv1
              have hc := (hbl.cell (World.block_lt_of_cell? _ _ hc1)).trans hc1
              clear hc1
              have hnew := rowM_new HT.out k hlt
              have hcell := modT_cell HT.out _ (List.getElem_mem hlt)
              have htop := modT_top HT.out _ (List.getElem_mem hlt)
              have htk := fun n i => rowM_take n i act k hlt
              generalize act[k] = x at *
              obtain ⟨p, q, s, rfl⟩ : ∃ p q s, x = [p, q, s] := by
                match x, hcell.1 with
                | [p, q, s], _ => exact ⟨p, q, s, rfl⟩
              simp only [List.getD_cons_zero, List.getD_cons_succ] at hnew hcell htop htk
              obtain ⟨-, hp1, hq0, hq1, hs0, hs1, -⟩ := hcell
              obtain ⟨n, rfl⟩ := Int.eq_ofNat_of_zero_le (show 0 ≤ p by omega)
              obtain ⟨b, rfl⟩ := Int.eq_ofNat_of_zero_le hq0
              obtain ⟨c, rfl⟩ := Int.eq_ofNat_of_zero_le hs0
              have hn21 : n < 21 := by omega
              have hbl1 : b < ds.length := by omega
              have hcl : c < 16 := by omega
              have hn0 : ¬ n = 0 := by omega
              have hF16 := rowM_lt HT.out n b k
              simp only [Int.toNat_natCast] at hnew
              obtain ⟨r, cap, hur, hcr, hfr, hBr, hor, hst⟩ := hTU.store n (gridL_at _ _ _ _ hn21) b (by simpa using hbl1)
              have ck := hTU.cell n
              rw [hur] at ck
              simp only [List.length_map, List.length_range, List.getElem_map, List.getElem_range, hn0, if_false] at ck hcr
              have hst := hst ((rowM n b (act.take k) ^^^ 2 ^ c : Nat) : Int)
              have hgs := gridL_set (fun n b => if n = 0 then 2 ^ b else rowM n b (act.take k)) (fun n b => if n = 0 then 2 ^ b else rowM n b (act.take (k + 1))) ds.length 21 n b (fun j e hje => by
                by_cases e0 : j = 0
                · simp [e0]
                · simp only [e0, if_false]
                  rw [htk, if_neg, Nat.xor_zero]
                  omega)
              simp only [hn0, if_false] at hgs
              have hx1 : rowM n b (act.take (k + 1)) = rowM n b (act.take k) ^^^ 2 ^ c := by
                rw [htk]
                simp
              rw [hx1] at hgs
              simp only [hn0, if_false] at hst
              rw [hgs] at hst
              have hor2 := i64_or_nat (rowM n b (act.take k)) (2 ^ c) (by omega) (by have := Nat.pow_lt_pow_right (a := 2) (by omega) hcl; omega)
              rw [or_xor_bit _ _ hnew, show (((2 ^ c : Nat)) : Int) = (2 : Int) ^ c by simp] at hor2
              have hst3 := hbl.setCell (p := ⟨r, b, none⟩) hBr (.int .i64 ((rowM n b (act.take k) ^^^ 2 ^ c : Nat) : Int))
              have hw := wrap64_pow c (by omega)
              obtain ⟨ua, uc, rfl, -⟩ := hu.len
              have hu2 := hu.same hbl.block
              obtain ⟨b2, o2, c2, hv2, hd0, -⟩ := hu2.at 0 (by simp)
              obtain ⟨b3, o3, c3, hv3, hd1, -⟩ := hu2.at 1 (by simp)
              obtain ⟨b4, o4, c4, hv4, hd2, -⟩ := hu2.at 2 (by simp)
              simp only [Value.slice.injEq, true_and] at hv2 hv3 hv4
              obtain ⟨rfl, rfl⟩ := hv2
              obtain ⟨hv3, -⟩ := hv3
              obtain ⟨hv4, -⟩ := hv4
              simp only [Option.some.injEq, Addr.mk.injEq, and_true] at hv3 hv4
              obtain ⟨rfl, rfl⟩ := hv3
              obtain ⟨rfl, rfl⟩ := hv4
              simp only [List.getElem_cons_zero, List.getElem_cons_succ, Nat.add_zero] at hd0 hd1 hd2
              have G := Lib.hid (And.intro hst hst3)
              clear hst hst3 hTU hbl hur hor hgs hnew hx1 hu hu2 htk htop hp1 hq0 hq1 hs0 hs1 hn0 hF16
              have hni : (n : Int) < 21 := by omega
              have hbi : (b : Int) < ds.length := by omega
              generalize rowM (n : Int) b (act.take k) = F at *
              generalize F ^^^ 2 ^ c = F' at *
              rw [← hor2, ← hw] at G
              clear hor2 hw
              go_wp2_with fail
              go_region_law (fail)
              all_goals
                go_wp2_with fail
                go_roundw
                case rel => exact ⟨k + 1, by omega, by go_num, G.out.1.same (fun _ _ => rfl), below_drewN 1 G.out.2⟩
                case measure => simp [intOf]; omega
            · obtain rfl : k = act.length := by omega
              rw [List.take_length] at hTU
              go_wp2_with fail
              go_ret
              exact ⟨_, us, rfl, hTU, hbl⟩
end Go.Proofs.YtalbbjhonkcbgaaGreatDoor

/- Words for slices that are only read, and laws on them and on slices that a call makes itself. Plain Lean over the model; no program. -/
import Derived.WalkKit
import Derived.ProofKit
import Derived.Outline
import Derived.Lib.Hide
import Derived.BigQuiet
import Derived.Deep.QuietTactic
import Derived.StillTailTactics
import Derived.IntWalk
import Derived.Deep.RegionWith
import Derived.Deep.CutBlock
import Derived.Deep.DeepCutAuto
import Derived.Deep.RegionHeld3
import Derived.Lib.QuietBelow
namespace Go.Proofs.YtalbbjhonkcbgaaGreatDoor
open Go.RowKit Go.Sort

/-- What is told of a slice of integers that came in: it is nil; or it leads to a row of 'cap' cells, the numbers 'zs' (the first 'len' are its elements), each fitting its kind. -/
def IsRow (k : IntKind) (w : World) (a : Option Addr) (len cap : Nat) (zs : List Int) : Prop :=
  (a = none ∧ len = 0 ∧ cap = 0 ∧ zs = []) ∨
  ∃ x, a = some x ∧ len ≤ cap ∧ cap ≤ maxLen ∧ zs.length = cap ∧ (∀ i, i < zs.length → w.cell? (x.add i) = some (.int k (zs.getD i 0))) ∧ ∀ n ∈ zs, (Lit.int k n).wf = true

theorem IsRow.same {k : IntKind} {w w' : World} {a : Option Addr} {len cap : Nat} {zs : List Int} (h : IsRow k w a len cap zs) (e : ∀ b, b < w.heap.size → w'.heap[b]? = w.heap[b]?) : IsRow k w' a len cap zs := by
  rcases h with h | ⟨x, h1, h2, h3, h4, h5, h6⟩
  · exact .inl h
  · refine .inr ⟨x, h1, h2, h3, h4, fun i hi => ?_, h6⟩
    have h7 := h5 i hi
    rw [World.cell?_of_block (e _ (World.block_lt_of_cell? w _ h7))]; exact h7

/-- The slice value v reads as the cells us (one cell an element), in a block of elements of type e, in the heap h. -/
def SlAt (h : Array Obj) (e : Nat) (v : Value) (us : List Value) : Prop :=
  (v = .slice none 0 0 ∧ us = []) ∨ ∃ b off cap cur, v = .slice (some ⟨b, off, none⟩) us.length cap ∧ h[b]? = some (.cells cur e (0, 0)) ∧ us.length ≤ cap ∧ cap ≤ maxLen ∧ off + cap ≤ cur.size ∧ (cur.toList.drop off).take us.length = us

theorem SlAt.same {h h' : Array Obj} {e : Nat} {v : Value} {us : List Value} (a : SlAt h e v us) (k : ∀ b, b < h.size → h'[b]? = h[b]?) : SlAt h' e v us := by
  rcases a with a | ⟨b, off, cap, cur, rfl, hb, r⟩
  · exact .inl a
  · exact .inr ⟨b, off, cap, cur, rfl, by rw [k b (Array.getElem?_eq_some_iff.1 hb).1]; exact hb, r⟩

theorem SlAt.at {h : Array Obj} {e : Nat} {v : Value} {us : List Value} (a : SlAt h e v us) (i : Nat) (hi : i < us.length) :
    ∃ b off cap cur, v = .slice (some ⟨b, off, none⟩) us.length cap ∧ h[b]? = some (.cells cur e (0, 0)) ∧ us.length ≤ cap ∧ cap ≤ maxLen ∧ off + cap ≤ cur.size ∧ cur[off + i]? = us[i]? := by
  rcases a with ⟨_, rfl⟩ | ⟨b, off, cap, cur, rfl, hb, h1, h2, h3, h4⟩
  · simp at hi
  · refine ⟨b, off, cap, cur, rfl, hb, h1, h2, h3, ?_⟩
    have := congrArg (fun l : List Value => l[i]?) h4
    simp only [List.getElem?_take, List.getElem?_drop, Array.getElem?_toList] at this
    rw [if_pos hi] at this
    exact this

theorem SlAt.len {h : Array Obj} {e : Nat} {v : Value} {us : List Value} (a : SlAt h e v us) : ∃ ao cap, v = .slice ao us.length cap ∧ us.length ≤ cap ∧ cap ≤ maxLen := by
  rcases a with ⟨rfl, rfl⟩ | ⟨b, off, cap, cur, rfl, hb, h1, h2, h3, h4⟩
  · exact ⟨none, 0, rfl, Nat.le_refl _, Nat.zero_le _⟩
  · exact ⟨_, cap, rfl, h1, h2⟩

/-- A slice of int64. -/
def IntS (h : Array Obj) (v : Value) (xs : List Int) : Prop := SlAt h 2 v (xs.map (Value.int .i64))

theorem IntS.nil (h : Array Obj) : IntS h (.slice none 0 0) [] := .inl ⟨rfl, rfl⟩
theorem IntS.same {h h' : Array Obj} {v : Value} {xs : List Int} (a : IntS h v xs) (k : ∀ b, b < h.size → h'[b]? = h[b]?) : IntS h' v xs := SlAt.same a k

theorem IntS.at {w : World} {v : Value} {xs : List Int} (a : IntS w.heap v xs) (i : Nat) (hi : i < xs.length) :
    ∃ b off cap, v = .slice (some ⟨b, off, none⟩) xs.length cap ∧ w.cell? ⟨b, off + i, none⟩ = some (.int .i64 xs[i]) ∧ xs.length ≤ maxLen := by
  obtain ⟨b, off, cap, cur, hv, hb, h1, h2, h3, h4⟩ := SlAt.at a i (by simpa using hi)
  simp only [List.length_map] at hv h1
  refine ⟨b, off, cap, hv, ?_, Nat.le_trans h1 h2⟩
  rw [World.cell?]; simp only [hb]
  simpa [hi] using h4

theorem IntS.len {h : Array Obj} {v : Value} {xs : List Int} (a : IntS h v xs) : ∃ ao cap, v = .slice ao xs.length cap ∧ xs.length ≤ 9223372036854775807 := by
  obtain ⟨ao, cap, hv, h1, h2⟩ := SlAt.len a
  simp only [List.length_map] at hv h1
  exact ⟨ao, cap, hv, by unfold maxLen at h2; omega⟩

/-- What is owned reads. -/
theorem slAt_of_own {w : World} {base e : Nat} {v : Value} {n : Nat} {us : List Value} (h : w.ownsRow base e 1 v n us) : SlAt w.heap e v us := by
  obtain ⟨hl, h2⟩ := h
  have hn : us.length = n := by simpa using hl
  rcases h2 with ⟨rfl, rfl⟩ | ⟨g, cap, cur, rfl, hb, hg, h1, h2, h3, h4⟩
  · exact .inl ⟨rfl, List.eq_nil_of_length_eq_zero hn⟩
  · exact .inr ⟨g, 0, cap, cur, by rw [hn], hg, by omega, h2, by omega, by rw [hn, List.drop_zero]; simpa using h4⟩

/-- A slice of int64 of the call's own. -/
def OwnI (w : World) (B : Nat) (v : Value) (xs : List Int) : Prop := w.ownsRow B 2 1 v xs.length (xs.map (Value.int .i64))

theorem OwnI.nil (w : World) (B : Nat) : OwnI w B (.slice none 0 0) [] := World.ownsRow_nil _ _ _ _
theorem OwnI.ints {w : World} {B : Nat} {v : Value} {xs : List Int} (h : OwnI w B v xs) : IntS w.heap v xs := slAt_of_own h

theorem OwnI.same {w w' : World} {B : Nat} {v : Value} {xs : List Int} (h : OwnI w B v xs) (k : ∀ b, b < w.heap.size → w'.heap[b]? = w.heap[b]?) : OwnI w' B v xs := by
  obtain ⟨h1, h2⟩ := h
  refine ⟨h1, ?_⟩
  rcases h2 with h2 | ⟨g, cap, cur, hv, hb, hg, r⟩
  · exact .inl h2
  · exact .inr ⟨g, cap, cur, hv, hb, by rw [k g (Array.getElem?_eq_some_iff.1 hg).1]; exact hg, r⟩

/-- 'out := []int64{}' -/
theorem ownI_empty {w : World} {B : Nat} (hB : B ≤ w.heap.size) : OwnI (w.alloc (.cells #[] 2)) B (.slice (some ⟨w.heap.size, 0, none⟩) 0 0) [] :=
  World.ownsRow_made w #[] 0 hB (Nat.zero_le _) rfl

/-- A slice of bool of the call's own. -/
def OwnB (w : World) (B : Nat) (v : Value) (bs : List Bool) : Prop := w.ownsRow B 4 1 v bs.length (bs.map Value.bool)

theorem own_same {w w' : World} {B e n : Nat} {v : Value} {us : List Value} (h : w.ownsRow B e 1 v n us) (k : ∀ b, b < w.heap.size → w'.heap[b]? = w.heap[b]?) : w'.ownsRow B e 1 v n us := by
  obtain ⟨h1, h2⟩ := h
  refine ⟨h1, ?_⟩
  rcases h2 with h2 | ⟨g, cap, cur, hv, hb, hg, r⟩
  · exact .inl h2
  · exact .inr ⟨g, cap, cur, hv, hb, by rw [k g (Array.getElem?_eq_some_iff.1 hg).1]; exact hg, r⟩

theorem own_base {w : World} {B B' e n : Nat} {v : Value} {us : List Value} (h : w.ownsRow B e 1 v n us) (k : B' ≤ B) : w.ownsRow B' e 1 v n us := by
  obtain ⟨h1, h2⟩ := h
  refine ⟨h1, ?_⟩
  rcases h2 with h2 | ⟨g, cap, cur, hv, hb, hg, r⟩
  · exact .inl h2
  · exact .inr ⟨g, cap, cur, hv, by omega, hg, r⟩

theorem alloc_old (w : World) (o : Obj) : ∀ b, b < w.heap.size → (w.alloc o).heap[b]? = w.heap[b]? := fun b hb => Below.heap_alloc w o b hb

/-- 'make([]T, n)': elements of one cell. -/
theorem make_run {P : Program} (t e : Nat) (z : Value) (bytes : Nat) (hi : (P.info? e).map (fun i => (i.zero, i.size, i.bytes)) = some (some z, 1, bytes)) (ht : P.underlying t = some (.slice e)) (hz : z.cells = #[z]) (hby : bytes ≤ 24)
    (n : Nat) (hn : n ≤ 4398046511104) (kl kc : IntKind) (x y : Int) (hx : x = n) (hy : y = n) (w : World) :
    (Instr.makeSlice t (.int kl x) (.int kc y)).run P w = .ok (.slice (some ⟨w.heap.size, 0, none⟩) n n) (w.alloc (.cells (madeCells #[z] n) e)) := by
  subst hx hy
  obtain ⟨i0, hi, hz0, hz1, hz2⟩ := info_parts hi
  have hb : i0.bytes * n ≤ 24 * n := Nat.mul_le_mul_right _ (by omega)
  have hb' : ((i0.bytes * n : Nat) : Int) ≤ 281474976710656 := by omega
  have hr := run_make (P := P) w t e i0 z ht hi hz0 kl kc n n (by omega) (Int.le_refl _) (by rwa [Int.natCast_mul] at hb') (by omega)
  simpa [hz1, hz] using hr

theorem made_own (w : World) (B e n : Nat) (z : Value) (hB : B ≤ w.heap.size) (hn : n ≤ 4398046511104) : (w.alloc (.cells (madeCells #[z] n) e)).ownsRow B e 1 (.slice (some ⟨w.heap.size, 0, none⟩) n n) n (List.replicate n z) := by
  have := World.ownsRow_lit (e := e) (size := 1) w (madeCells #[z] n) n hB (by unfold maxLen; omega) (by simp [size_madeCells])
  rwa [toList_madeCells_one] at this

/-- A store into a slice of the call's own. -/
theorem own_store {w : World} {B e n : Nat} {v : Value} {us : List Value} (h : w.ownsRow B e 1 v n us) (j : Nat) (hj : j < n) :
    ∃ g cap, v = .slice (some ⟨g, 0, none⟩) n cap ∧ B ≤ g ∧ w.cell? ⟨g, j, none⟩ = us[j]? ∧ w.frozen? ⟨g, j, none⟩ = false ∧
      ∀ u, (w.setCell ⟨g, j, none⟩ u).ownsRow B e 1 v n (us.set j u) := by
  rcases h.2 with ⟨rfl, rfl⟩ | ⟨g, cap, cur, rfl, hb, hg, r⟩
  · omega
  · exact ⟨g, cap, rfl, hb, h.cellAt j (by omega), h.frozenAt j, fun u => (h.stored j u).1⟩


theorem ret_int {k : IntKind} {a b : Int} (h : a = b) : Ending.returned (.int k a) = .returned (.int k b) := by rw [h]
theorem ret_bool {a b : Bool} (h : a = b) : Ending.returned (.bool a) = .returned (.bool b) := by rw [h]

theorem OwnI.open {w : World} {B : Nat} {v : Value} {xs : List Int} (h : OwnI w B v xs) (h0 : 0 < xs.length) :
    ∃ g cap, v = .slice (some ⟨g, 0, none⟩) xs.length cap ∧ B ≤ g ∧ ∀ j (hj : j < xs.length), w.cell? ⟨g, j, none⟩ = some (.int .i64 xs[j]) := by
  obtain ⟨g, cap, rfl, hb, _⟩ := own_store h 0 h0
  refine ⟨g, cap, rfl, hb, fun j hj => ?_⟩
  have := World.ownsRow.cellAt h j (by omega)
  rw [this]; simp [hj]

theorem own_open {w : World} {B e n : Nat} {v : Value} {us : List Value} (h : w.ownsRow B e 1 v n us) (h0 : 0 < n) : ∃ g cap, v = .slice (some ⟨g, 0, none⟩) n cap ∧ B ≤ g := by
  obtain ⟨g, cap, rfl, hb, _⟩ := own_store h 0 h0
  exact ⟨g, cap, rfl, hb⟩

/-- Of a slice of bool of the call's own: a cell. -/
theorem own_bool_at {w : World} {B n g cap : Nat} {bs : List Bool} (h : w.ownsRow B 4 1 (.slice (some ⟨g, 0, none⟩) n cap) n (bs.map Value.bool)) (j : Nat) (hj : j < n) :
    w.cell? ⟨g, j, none⟩ = some (.bool (bs.getD j false)) := by
  have hl : bs.length = n := by simpa using h.1
  rw [World.ownsRow.cellAt h j (by omega)]
  simp [hl, hj]

theorem own_bool_set {w : World} {B n g cap : Nat} {bs : List Bool} (h : w.ownsRow B 4 1 (.slice (some ⟨g, 0, none⟩) n cap) n (bs.map Value.bool)) (j : Nat) (b : Bool) :
    (w.setCell ⟨g, j, none⟩ (.bool b)).ownsRow B 4 1 (.slice (some ⟨g, 0, none⟩) n cap) n ((bs.set j b).map Value.bool) := by
  rw [List.map_set]; exact (h.stored j _).1

/-- Owned, and a cell of another block is stored. -/
theorem own_setCell_other {w : World} {B e n : Nat} {v : Value} {us : List Value} (h : w.ownsRow B e 1 v n us) (p : Addr) (hp : v.ownBlock ≠ some p.block) (u : Value) : (w.setCell p u).ownsRow B e 1 v n us := by
  obtain ⟨h1, h2⟩ := h
  refine ⟨h1, ?_⟩
  rcases h2 with h2 | ⟨g, cap, cur, rfl, hb, hg, r⟩
  · exact .inl h2
  · refine .inr ⟨g, cap, cur, rfl, hb, ?_, r⟩
    rw [Below.heap_setCell _ _ _ _ (by intro e; exact hp (by simp [Value.ownBlock, e]))]
    exact hg

theorem own_int_set {w : World} {B n g cap : Nat} {xs : List Int} (h : w.ownsRow B 2 1 (.slice (some ⟨g, 0, none⟩) n cap) n (xs.map (Value.int .i64))) (j : Nat) (x : Int) :
    (w.setCell ⟨g, j, none⟩ (.int .i64 x)).ownsRow B 2 1 (.slice (some ⟨g, 0, none⟩) n cap) n ((xs.set j x).map (Value.int .i64)) := by
  rw [List.map_set]; exact (h.stored j _).1

theorem own_int_at {w : World} {B n g cap : Nat} {xs : List Int} (h : w.ownsRow B 2 1 (.slice (some ⟨g, 0, none⟩) n cap) n (xs.map (Value.int .i64))) (j : Nat) (hj : j < n) :
    w.cell? ⟨g, j, none⟩ = some (.int .i64 (xs.getD j 0)) := by
  have hl : xs.length = n := by simpa using h.1
  rw [World.ownsRow.cellAt h j (by omega)]
  simp [hl, hj]

theorem grownBy_setCell (w : World) (p : Addr) (u : Value) : w.grownBy (w.setCell p u) (some p.block) :=
  ⟨rfl, rfl, rfl, by simp [World.setCell], fun k _ hk => Below.heap_setCell _ _ _ _ (fun e => hk (by rw [e]))⟩
theorem grownBy_trans {a b c : World} {r : Option Nat} (h : a.grownBy b r) (k : b.grownBy c r) : a.grownBy c r :=
  ⟨k.os.trans h.os, k.tape.trans h.tape, k.output.trans h.output, Nat.le_trans h.size k.size, fun i hi hr => (k.block i (Nat.lt_of_lt_of_le hi h.size) hr).trans (h.block i hi hr)⟩
theorem Below_of_grown {w w' : World} {B : Nat} {r : Option Nat} (h : w.grownBy w' r) (hB : B ≤ w.heap.size) (hr : ∀ k, r = some k → B ≤ k) : Below B w w' :=
  (Below.refl B w).grown h hB hr

theorem below_drewN {B : Nat} {w w' : World} (n : Nat) (h : Below B w w') : Below B w (w'.drewN n) := ⟨h.os, h.tape, h.output, h.size, h.block⟩

/-- A call of a function value comes to the function's own body. -/
def Enters (P : Program) (K : Nat) : Prop := ∀ (args : Array Value) (w : World), (callFunc K args).run P w = .ok (.enter K args) w

/-- A quiet callee in a region that draws, met behind earlier draws. -/
theorem quiet_behind {P : Program} {f : FuncId} {args : Array Value} {w : World} {n x : Nat} {v : Value}
    (h : Calls P f args (w.drewN (n + x)) fun e w' => e = .returned v ∧ ∃ m, w' = (w.drewN (n + x)).drewN m) : Calls P f args (w.drewN (n + x)) fun e w'' => e = .returned v ∧ ∃ m, w'' = w.drewN (n + m) :=
  h.mono fun _ _ ⟨he, m, hm⟩ => ⟨he, x + m, by rw [hm, World.drewN_drewN, Nat.add_assoc]⟩
theorem quiet_behind_same {P : Program} {f : FuncId} {args : Array Value} {w : World} {n x : Nat} {v : Value}
    (h : Calls P f args (w.drewN (n + x)) fun e w' => e = .returned v ∧ w.drewN (n + x) = w') : Calls P f args (w.drewN (n + x)) fun e w'' => e = .returned v ∧ ∃ m, w'' = w.drewN (n + m) :=
  h.mono fun _ _ ⟨he, hm⟩ => ⟨he, x, hm.symm⟩
theorem quiet_same {P : Program} {f : FuncId} {args : Array Value} {w : World} {n : Nat} {v : Value}
    (h : Calls P f args (w.drewN n) fun e w' => e = .returned v ∧ w.drewN n = w') : Calls P f args (w.drewN n) fun e w'' => e = .returned v ∧ ∃ m, w'' = w.drewN m :=
  h.mono fun _ _ ⟨he, hm⟩ => ⟨he, n, hm.symm⟩

/-- A callee that turns nothing that was there, in a region that draws and that makes blocks. -/
theorem regrown_same {P : Program} {f : FuncId} {args : Array Value} {w : World} {d : Nat} {os : Array Obj} {v : Value}
    (h : Calls P f args (grow (redrawn w d) os) fun e w' => e = .returned v ∧ grow (redrawn w d) os = w') : Calls P f args (grow (redrawn w d) os) fun e w'' => e = .returned v ∧ ∃ p : Regrown, w'' = grow (redrawn w p.d) p.os :=
  Calls.regrown_of (h.mono fun _ _ ⟨he, hw⟩ => ⟨he, by rw [← hw]; exact Below.refl _ _⟩)
theorem regrown_drewN {P : Program} {f : FuncId} {args : Array Value} {w : World} {d : Nat} {os : Array Obj} {v : Value}
    (h : Calls P f args (grow (redrawn w d) os) fun e w' => e = .returned v ∧ ∃ m, w' = (grow (redrawn w d) os).drewN m) : Calls P f args (grow (redrawn w d) os) fun e w'' => e = .returned v ∧ ∃ p : Regrown, w'' = grow (redrawn w p.d) p.os :=
  Calls.regrown_of (h.mono fun _ _ ⟨he, m, hw⟩ => ⟨he, by rw [hw]; exact below_drewN m (Below.refl _ _)⟩)

/-- The numbers that are laid to mark a slice: k, k + 1, .. -/
def marks (k : Int) (n : Nat) : List Int := (List.range n).map fun (i : Nat) => k + i
theorem marks_length (k : Int) (n : Nat) : (marks k n).length = n := by simp [marks]
theorem marks_getD (k : Int) (n i : Nat) (h : i < n) : (marks k n).getD i 0 = k + i := by simp [marks, h]
/-- The first j numbers of a list are marked. -/
def marked (k : Int) (xs : List Int) (j : Nat) : List Int := marks k j ++ xs.drop j
theorem marked_zero (k : Int) (xs : List Int) : marked k xs 0 = xs := by simp [marked, marks]
theorem marked_all (k : Int) (xs : List Int) : marked k xs xs.length = marks k xs.length := by simp [marked]
theorem marked_set (k : Int) (xs : List Int) (j : Nat) (h : j < xs.length) : (marked k xs j).set j (k + j) = marked k xs (j + 1) := by
  unfold marked
  rw [List.set_append_right _ _ (by simp [marks]), marks_length, Nat.sub_self, List.drop_eq_getElem_cons h, List.set_cons_zero]
  simp [marks, List.range_succ]
theorem marked_length (k : Int) (xs : List Int) (j : Nat) (h : j ≤ xs.length) : (marked k xs j).length = xs.length := by simp [marked, marks]; omega

theorem own_ne_new {w : World} {B e n k : Nat} {v : Value} {us : List Value} (h : w.ownsRow B e 1 v n us) (hk : k < B ∨ w.heap.size ≤ k) (l c : Nat) : v.ownBlock ≠ (Value.slice (some ⟨k, 0, none⟩) l c).ownBlock := by
  intro e
  have := h.lt k (by rw [e]; rfl)
  omega

theorem wrapN (x : Int) (n : Nat) (h : x = n) (hn : n ≤ 4398046511104) : IntKind.i64.wrap x = n := by
  rw [IntWalk.i64_in _ (by omega)]; exact h

theorem getD_at' (l : List Int) (i : Nat) (h : i < l.length) : l.getD i 0 = l[i] := by simp [h]
theorem neB {a b : Int} (h : a ≠ b) : (a == b) = false ∧ (a != b) = true := ⟨by simp [h], by simp [h]⟩
theorem eqB {a b : Int} (h : a = b) : (a == b) = true ∧ (a != b) = false := ⟨by simp [h], by simp [h]⟩

section
variable {P : Program} {ops : Array Oper} {rest : List Oper} {o : Oper} {a : Act} {Q : Exit → Act → World → Prop}

/-- 'append(out, x)', out the call's own: x has just been laid in a new block of one cell. -/
theorem append_one {w w0 : World} (hg : o.guard = none) (s x : Operand) (t : TypeId)
    (ho : o.op = .call { callee := .builtin .append, args := #[s, x], argTypes := #[t, t] })
    (B e : Nat) (i : TypeInfo) (z : Value) (bytes : Nat) (ht : P.underlying t = some (.slice e)) (hi : P.info? e = some i) (hz : i.zero = some z)
    (hsize : i.size = 1) (hby : i.bytes = bytes) (hzs : z.cells.size = 1) (hb24 : bytes ≤ 24)
    (v : Value) (n : Nat) (us : List Value) (u : Value) (hown : w.ownsRow B e 1 v n us) (hs : a.eval s = v) (hbl : Below B w0 w) (hB : B ≤ w.heap.size)
    (b : Nat) (hx : a.eval x = .slice (some ⟨b, 0, none⟩) 1 1) (hb : b = w.heap.size) (hu : u.oneCell' = true) (hn : n ≤ 4398046511104)
    (hK : ∀ v' w', w'.ownsRow B e 1 v' (n + 1) (us ++ [u]) → Below B w0 w' → w.heap.size ≤ w'.heap.size → (∀ b, b < w.heap.size → some b ≠ v.ownBlock → w'.heap[b]? = w.heap[b]?) → wpList P ops Q rest (a.put o.dst v') w') :
    wpList P ops Q (o :: rest) a (w.alloc (.cells #[u] e)) := by
  subst hb
  have hown' := hown.alloc (.cells #[u] e)
  refine wpList_append_own _ hg s x t ho B e i z 1 bytes ht hi hz hsize hby hzs (by omega) v n us hs hown' ⟨w.heap.size, 0, none⟩ 1 1 [u] hx (by simp) ?_ (by simpa using hu) (by unfold maxLen; omega) ?_ (by simp; omega) ?_
  · intro j u' hj
    match j, hj with
    | 0, hj =>
      simp at hj; subst hj
      simp [Addr.add]
  · have : (n + 1) * bytes ≤ (n + 1) * 24 := Nat.mul_le_mul_left _ hb24
    omega
  · intro v' w' h1 h2 _
    have hlt := hown.lt
    refine hK v' w' h1 ?_ ?_ ?_
    · exact (hbl.alloc hB _).grown h2 (by simp; omega) (fun k hk => (hlt k hk).1)
    · have := h2.size; simp at this; omega
    · intro b hb hne
      rw [h2.block b (by simp; omega) hne]
      exact Below.heap_alloc _ _ _ hb
end

end Go.Proofs.YtalbbjhonkcbgaaGreatDoor

/- The antipodes of squares by a table: of the program. -/
import Derived.Test.YtljfpkhgijangaaLAnt
import Derived.Test.YtljfpkhgijangaaLib3
import Derived.Laws.Rows
import Derived.Laws.Tables
import Derived.Laws.CopyOwn
namespace Go.Proofs.Ytljfpkhgijangaa
open Go.RowKit Go.Sort

/-- An array variable of 21 slices of int64 of the call's own. -/
structure ArrU (w : World) (B g : Nat) (us : List Value) (xss : List (List Int)) : Prop where
  row : w.heap[g]? = some (.cells us.toArray 116 (0, 0))
  base : B ≤ g
  len : us.length = xss.length
  each : ∀ (i : Nat) u xs, us[i]? = some u → xss[i]? = some xs → OwnI w B u xs
  apart : ∀ (i j : Nat) u u', i < j → us[i]? = some u → us[j]? = some u' → u.ownBlock = none ∨ u.ownBlock ≠ u'.ownBlock
section
variable {w w' : World} {B g : Nat} {us : List Value} {xss : List (List Int)}
theorem ArrU.lt (h : ArrU w B g us xss) : g < w.heap.size := (Array.getElem?_eq_some_iff.1 h.row).1
theorem ArrU.same (h : ArrU w B g us xss) (k : ∀ b, b < w.heap.size → w'.heap[b]? = w.heap[b]?) : ArrU w' B g us xss :=
  ⟨(k g h.lt).trans h.row, h.base, h.len, fun i u xs hu hx => (h.each i u xs hu hx).same k, h.apart⟩
theorem ArrU.cell (h : ArrU w B g us xss) (i : Nat) : w.cell? ⟨g, i, none⟩ = us[i]? := by
  rw [World.cell?]; simp only [h.row]; simp
theorem ArrU.free (h : ArrU w B g us xss) (j : Nat) : w.frozen? ⟨g, j, none⟩ = false := by rw [World.frozen?]; simp only [h.row]; simp
theorem ArrU.ne (h : ArrU w B g us xss) {i : Nat} {u : Value} (hu : us[i]? = some u) : u.ownBlock ≠ some g := by
  have hi : i < us.length := (List.getElem?_eq_some_iff.1 hu).1
  have ho := h.each i u _ hu (List.getElem?_eq_getElem (by rw [← h.len]; exact hi))
  rcases ho.2 with ⟨rfl, _⟩ | ⟨b, cap, cur, rfl, _, hg, _⟩
  · simp [Value.ownBlock]
  · intro e
    simp only [Value.ownBlock, Option.some.injEq] at e
    subst e
    rw [h.row] at hg
    simp only [Option.some.injEq, Obj.cells.injEq] at hg
    exact absurd hg.2.1 (by decide)
/-- A row has been made and is stored. -/
theorem ArrU.put {u : Value} {ys : List Int} (h : ArrU w B g us xss) (j : Nat) (hj : j < xss.length) (hk : ∀ b, b < w.heap.size → w'.heap[b]? = w.heap[b]?) (hu : OwnI w' w.heap.size u ys) :
    ArrU (w'.setCell ⟨g, j, none⟩ u) B g (us.set j u) (xss.set j ys) := by
  have h' := h.same hk
  have hlt := h.lt
  have hl := h.len
  have hne : ∀ b, u.ownBlock = some b → w.heap.size ≤ b := fun b hb => (World.ownsRow.lt hu b hb).1
  refine ⟨?_, h.base, by simp [hl], fun i x xs hx hxs => ?_, fun i i' x x' hi hx hx' => ?_⟩
  · have := heap_setCell_same w' g (j) us.toArray 116 u h'.row
    rw [this]
    simp
  · by_cases e : j = i
    · subst e
      rw [List.getElem?_set_self (by omega)] at hx hxs
      simp only [Option.some.injEq] at hx hxs
      subst hx; subst hxs
      refine own_setCell_other (own_base hu (Nat.le_trans h.base (Nat.le_of_lt hlt))) _ (fun e => ?_) u
      have := hne _ e; simp at this; omega
    · rw [List.getElem?_set_ne e] at hx hxs
      exact own_setCell_other (h'.each i x xs hx hxs) _ (h'.ne hx) u
  · have old : ∀ (i : Nat) x, us[i]? = some x → ∀ b, x.ownBlock = some b → b < w.heap.size := fun i x hx b hb => by
      have hi : i < us.length := (List.getElem?_eq_some_iff.1 hx).1
      exact (World.ownsRow.lt (h.each i x _ hx (List.getElem?_eq_getElem (by omega))) b hb).2
    by_cases e : j = i
    · subst e
      rw [List.getElem?_set_self (by omega)] at hx
      rw [List.getElem?_set_ne (by omega)] at hx'
      simp only [Option.some.injEq] at hx
      subst hx
      cases hb : u.ownBlock with
      | none => exact .inl rfl
      | some b => exact .inr fun e => by have h1 := hne b hb; have h2 := old _ _ hx' b e.symm; omega
    · rw [List.getElem?_set_ne e] at hx
      by_cases e2 : j = i'
      · subst e2
        rw [List.getElem?_set_self (by omega)] at hx'
        simp only [Option.some.injEq] at hx'
        subst hx'
        cases hb : x.ownBlock with
        | none => exact .inl rfl
        | some b => exact .inr fun e => by have h1 := hne b e.symm; have h2 := old _ _ hx b hb; omega
      · rw [List.getElem?_set_ne e2] at hx'
        exact h.apart i i' x x' hi hx hx'
/-- A number is stored in a row. -/
theorem ArrU.store {xs : List Int} (h : ArrU w B g us xss) (j : Nat) (hx : xss[j]? = some xs) (b : Nat) (hb : b < xs.length) :
    ∃ r cap, us[j]? = some (.slice (some ⟨r, 0, none⟩) xs.length cap) ∧ w.cell? ⟨r, b, none⟩ = some (.int .i64 xs[b]) ∧ w.frozen? ⟨r, b, none⟩ = false ∧ B ≤ r ∧ OwnI w B (.slice (some ⟨r, 0, none⟩) xs.length cap) xs ∧ ∀ x, ArrU (w.setCell ⟨r, b, none⟩ (.int .i64 x)) B g us (xss.set j (xs.set b x)) := by
  have hl := h.len
  have hj : j < xss.length := (List.getElem?_eq_some_iff.1 hx).1
  have hu := List.getElem?_eq_getElem (show j < us.length by omega)
  have ho := h.each j _ xs hu hx
  obtain ⟨r, cap, hv, hB, hc⟩ := ho.open (by omega)
  rw [hv] at hu ho
  refine ⟨r, cap, hu, hc b hb, ho.frozenAt b, hB, ho, fun x => ?_⟩
  have hst := own_int_set ho b x
  have hne := h.ne hu
  simp only [Value.ownBlock, ne_eq, Option.some.injEq] at hne
  refine ⟨?_, h.base, by simp [hl], fun i z zs hz hzs => ?_, h.apart⟩
  · rw [Below.heap_setCell _ _ _ _ (fun e => hne (by simpa using e.symm))]; exact h.row
  · by_cases e : j = i
    · subst e
      rw [List.getElem?_set_self hj] at hzs
      rw [hu] at hz
      simp only [Option.some.injEq] at hz hzs
      subst hz; subst hzs
      unfold OwnI
      rw [List.length_set]; exact hst
    · rw [List.getElem?_set_ne e] at hzs
      refine own_setCell_other (h.each i z zs hz hzs) _ (fun e2 => ?_) _
      rcases Nat.lt_or_gt_of_ne e with h1 | h1
      · rcases h.apart j i _ z h1 hu hz with e3 | e3
        · simp [Value.ownBlock] at e3
        · exact e3 (by rw [e2]; rfl)
      · rcases h.apart i j z _ h1 hz hu with e3 | e3
        · rw [e3] at e2; cases e2
        · exact e3 e2
end
theorem ArrU.far {w w' : World} {B g : Nat} {us : List Value} {xss : List (List Int)} (h : ArrU w B g us xss) (k : ∀ b, B ≤ b → b < w.heap.size → w'.heap[b]? = w.heap[b]?) : ArrU w' B g us xss :=
  ⟨(k g h.base h.lt).trans h.row, h.base, h.len, fun i u xs hu hx => own_kept (h.each i u xs hu hx) fun b hb => k b (World.ownsRow.lt (h.each i u xs hu hx) b hb).1 (World.ownsRow.lt (h.each i u xs hu hx) b hb).2, h.apart⟩
theorem ArrU.base' {w : World} {B B' g : Nat} {us : List Value} {xss : List (List Int)} (h : ArrU w B g us xss) (k : B' ≤ B) : ArrU w B' g us xss :=
  ⟨h.row, Nat.le_trans k h.base, h.len, fun i u xs hu hx => own_base (h.each i u xs hu hx) k, h.apart⟩
/-- The rows of the antipodes: those before n. -/
def anR (act : List (List Int)) (size n : Nat) : List (List Int) := (List.range 21).map fun m => if m < n then (List.range size).map fun c => ((apX act (2 ^ c) m : Nat) : Int) else []
/-- The row n, for the places before b; at b, j squares have been added. -/
def anL (act : List (List Int)) (size n b j : Nat) : List Int := (List.range size).map fun c => if c < b then ((apX act (2 ^ c) n : Nat) : Int) else if c = b then ((apS act (apX act (2 ^ b)) n j : Nat) : Int) else 0
theorem anR_len (act : List (List Int)) (size n : Nat) : (anR act size n).length = 21 := by simp [anR]
theorem anL_len (act : List (List Int)) (size n b j : Nat) : (anL act size n b j).length = size := by simp [anL]
theorem anR_at (act : List (List Int)) (size n m : Nat) (h : m < n) (h2 : m < 21) : (anR act size n)[m]? = some ((List.range size).map fun c => ((apX act (2 ^ c) m : Nat) : Int)) := by simp [anR, h, h2]
theorem anL_zero (act : List (List Int)) (size n : Nat) : anL act size n 0 0 = List.replicate size 0 := by
  apply List.ext_getElem (by simp [anL])
  intro i h1 h2
  simp [anL, apS]
theorem anL_end (act : List (List Int)) (size n b : Nat) (hn : 1 ≤ n) : anL act size n b n = anL act size n (b + 1) 0 := by
  apply List.ext_getElem (by simp [anL])
  intro i h1 h2
  simp only [anL, List.getElem_map, List.getElem_range]
  obtain ⟨k, rfl⟩ : ∃ k, n = k + 1 := ⟨n - 1, by omega⟩
  by_cases e1 : i < b
  · rw [if_pos e1, if_pos (show i < b + 1 by omega)]
  · by_cases e2 : i = b
    · subst e2
      rw [if_neg e1, if_pos rfl, if_pos (show i < i + 1 by omega), apX_succ]
    · rw [if_neg e1, if_neg e2, if_neg (show ¬ i < b + 1 by omega)]
      split <;> simp [apS]
theorem anL_set (act : List (List Int)) (size n b j : Nat) : (anL act size n b j).set b ((apS act (apX act (2 ^ b)) n (j + 1) : Nat) : Int) = anL act size n b (j + 1) := by
  apply List.ext_getElem (by simp [anL])
  intro i h1 h2
  rw [List.getElem_set]
  by_cases e : b = i
  · subst e; rw [if_pos rfl]; simp [anL]
  · rw [if_neg e]; simp [anL, show ¬ i = b from fun x => e x.symm]
theorem anL_get (act : List (List Int)) (size n b j : Nat) (hb : b < size) : (anL act size n b j)[b]'(by rw [anL_len]; exact hb) = ((apS act (apX act (2 ^ b)) n j : Nat) : Int) := by simp [anL]
theorem anR_full (act : List (List Int)) (size n : Nat) : (anR act size n).set n (anL act size n size 0) = anR act size (n + 1) := by
  apply List.ext_getElem (by simp [anR])
  intro i h1 h2
  rw [List.getElem_set]
  by_cases e : n = i
  · subst e
    rw [if_pos rfl]
    simp only [anR, List.getElem_map, List.getElem_range]
    rw [if_pos (show n < n + 1 by omega)]
    apply List.ext_getElem (by simp [anL])
    intro c h3 h4
    simp only [anL_len] at h3
    simp [anL, h3]
  · rw [if_neg e]
    simp only [anR, List.getElem_map, List.getElem_range]
    by_cases e2 : i < n
    · rw [if_pos e2, if_pos (show i < n + 1 by omega)]
    · rw [if_neg e2, if_neg (show ¬ i < n + 1 by omega)]
theorem info_arr (v : Value) : (Try.prog.info? 116).map (·.size) = some (v :: List.replicate 20 (.slice none 0 0)).toArray.size := by
  show (Try.prog.info? 116).map (·.size) = some 21
  kernel_rfl
theorem built_arr (a : Option Addr) (n c : Nat) : Try.prog.built 116 [(0, .slice a n c)] = some (.slice a n c :: List.replicate 20 (.slice none 0 0)).toArray := by kernel_rfl
section
variable {P : Program} {ops : Array Oper} {rest : List Oper} {o : Oper} {a : Act} {Q : Exit → Act → World → Prop}
theorem step_build {w : World} (hg : o.guard = none) (t : TypeId) (x : Operand) (ho : o.op = .build t #[(0, x)]) (v : Value) (hx : a.eval x = v) (cells : Array Value) (hf : P.built t [(0, v)] = some cells)
    (h : wpList P ops Q rest (a.put o.dst (.agg cells)) w) : wpList P ops Q (o :: rest) a w := by
  have e : (#[(0, x)].map fun (i, x) => (i, a.eval x)).toList = [(0, v)] := by simp [hx]
  exact wpList_build hg t _ ho (by rw [e, hf]; rfl) (by rw [e, hf]; exact h)
theorem step_store_new {w : World} (hg : o.guard = none) (ty : TypeId) (x y : Operand) (ho : o.op = .store ty x y) (c c' : Array Value) (hx : a.eval x = .pointer (some ⟨w.heap.size, 0, none⟩)) (hy : a.eval y = .agg c')
    (hi : (P.info? ty).map (·.size) = some c'.size) (hc : c.size = c'.size) (h1 : c'.all (·.oneCell') = true) (h : wpList P ops Q rest (a.put o.dst undef) (w.alloc (.cells c' ty))) : wpList P ops Q (o :: rest) a (w.alloc (.cells c ty)) := by
  refine wpList_store_row hg ty x y ho _ c' hx hy ty c (heap_alloc_new w _) hi hc h1 ?_
  have : (w.alloc (.cells c ty)).setRow w.heap.size c' = w.alloc (.cells c' ty) := by
    simp only [World.setRow, World.alloc]
    congr 1
    apply Array.ext_getElem?
    intro i
    rw [Array.getElem?_modify]
    by_cases h : w.heap.size = i
    · subst h; simp
    · have h' : ¬ i = w.heap.size := fun e => h e.symm
      simp [h, h', Array.getElem?_push]
  rw [this]; exact h
end
set_option maxRecDepth 100000 in
set_option maxHeartbeats 4000000 in
theorem antipodes_c (g : Nat) (d : Value) (us : List Value) (ds : List Int) (act : List (List Int)) (B : Nat) (w : World) (h : TabU w B g d us (tabL ds.length act)) (hd : IntS w.heap d ds) (hT : modT ds act = true) :
    Calls Try.prog 118 #[.pointer (some ⟨g, 0, none⟩)] w fun e w' => ∃ (ga : Nat) (ua : List Value), e = .returned (.agg ua.toArray) ∧ ArrU w' w.heap.size ga ua (anR act ds.length 21) ∧ Below w.heap.size w w' := by
  have hl := modT_len hT
  obtain ⟨ao, ac, rfl, hm⟩ := hd.len
  have HU := Lib.hid h
  have HT := Lib.hid hT
  have S := Lib.hid (fun (n v : Nat) (hv : v < 2 ^ ds.length) (W : World) (h : TabU W B g (.slice ao ds.length ac) us (tabL ds.length act)) => square_c g (.slice ao ds.length ac) us ds act B n v W h hT hv)
  have c0 := h.c0
  have c1 := h.cell 0
  obtain ⟨u0, hu0⟩ : ∃ u0, us[0]? = some u0 := ⟨_, List.getElem?_eq_getElem (show 0 < us.length by rw [h.len]; simp [tabL, gridL])⟩
  have hrow0 := (h.each 0 u0 _ hu0 (gridL_at _ _ _ 0 (by omega))).ints
  have hg := h.lt
  rw [hu0] at c1
  simp only [Nat.add_zero] at c1
  have hmk := fun w => make_run (P := Try.prog) 27 2 _ 8 info_int64 Try.underlying27 rfl (by omega) ds.length (by omega) .i64 .i64 (ds.length : Int) (ds.length : Int) rfl rfl w
  obtain ⟨R0, hR0⟩ : ∃ R0, R0 = (List.range ds.length).map fun b => ((rowZ act 0 b : Nat) : Int) := ⟨_, rfl⟩
  have hR0l : R0.length = ds.length := by rw [hR0]; simp
  have HR0 : Hid ((List.range 21).map (fun m => if m < 1 then R0 else []) = anR act ds.length 1) := by
    show _ = _
    unfold anR
    apply List.map_congr_left
    intro m hm
    by_cases e : m < 1
    · obtain rfl : m = 0 := by omega
      rw [if_pos e, if_pos e, hR0]
      apply List.map_congr_left
      intro b hb
      simp [apX_zero, rowZ]
    · rw [if_neg e, if_neg e]
  rw [← hR0] at hrow0
  obtain ⟨ra, rc, rfl, -⟩ := hrow0.len
  have CP0 := fun (W : World) (h : IntS W.heap (.slice ra R0.length rc) R0) => copyOf_c (.slice ra R0.length rc) R0 W h (by omega)
  rw [hR0l] at c1 hrow0 CP0
  have CP := Lib.hid CP0
  have HRL := Lib.hid hR0l; have HRW := Lib.hid hrow0
  clear h hT hd hR0 hu0 hrow0 CP0 hR0l
  go_enter Try.func118, Try.ntmps118
  go_wp2_with fail
  refine (CP.out _ (HRW.out.same (alloc_old _ _))).mono ?_
  rintro e w1 ⟨r1, rfl, ho1, hb1⟩
  obtain ⟨qa, qn, qc, rfl⟩ := own_shape ho1
  have HO1 := Lib.hid ho1; have HB1 := Lib.hid hb1
  clear ho1 hb1 c0 c1
  simp only []
  refine (‹∀ (a : Act) (w : World), wpList _ _ _ _ a w → _›) _ _ ?_
  refine step_build (a := _) rfl 116 (.tmp 12) rfl (.slice qa qn qc) (by rfl) _ (built_arr _ _ _) ?_
  obtain ⟨cs, hcs⟩ : ∃ cs, cs = (Value.slice qa qn qc :: List.replicate 20 (Value.slice none 0 0)).toArray := ⟨_, rfl⟩
  rw [← hcs]
  have hsz : 21 = cs.size := by rw [hcs]; rfl
  have hin : (Try.prog.info? 116).map (·.size) = some cs.size := by rw [← hsz]; exact info_arr (.slice none 0 0)
  have hone : cs.all (·.oneCell') = true := by rw [hcs]; simp [Value.oneCell']
  have HCS := Lib.hid hcs
  clear hcs
  go_wp2_with (refine step_store_new rfl _ _ _ rfl _ cs rfl rfl hin hsz hone ?_)
  clear hsz hin hone
  have HZ1 := Lib.hid (show w.heap.size + 1 ≤ w1.heap.size by have := HB1.out.size; simpa using this)
  go_loopw [4] (fun i wr => ∃ (n : Nat) (ua : List Value), 1 ≤ n ∧ n ≤ 21 ∧ i = .int .i64 n ∧ ArrU wr (w.heap.size + 1) w1.heap.size ua (anR act ds.length n) ∧ wr.heap[w.heap.size]? = some (.cells (List.replicate 21 (.slice none 0 0)).toArray 116 (0, 0)) ∧ Below w.heap.size w wr) (fun i _ => 21 - (intOf i).toNat)
  case atStart =>
    refine ⟨1, .slice qa qn qc :: List.replicate 20 (.slice none 0 0), by omega, by omega, rfl, ⟨?_, HZ1.out, by simp [anR], fun i u xs hu hx => ?_, fun i j u u' hij hu hu' => ?_⟩, ?_, ?_⟩
    · rw [← HCS.out]; exact heap_alloc_new w1 _
    · rw [← HR0.out] at hx
      cases i with
      | zero =>
        simp only [List.getElem?_cons_zero, Option.some.injEq] at hu
        subst hu
        have hx2 : xs = R0 := by simpa using hx.symm
        subst hx2
        have := HO1.out.same (alloc_old w1 (.cells cs 116))
        exact own_base this (by simp)
      | succ i =>
        simp only [List.getElem?_cons_succ] at hu
        have h1 : u = .slice none 0 0 := List.eq_of_mem_replicate (List.mem_of_getElem? hu)
        have h2 : xs = [] := by
          simp only [List.getElem?_map, Option.map_eq_some_iff] at hx
          obtain ⟨m, hm, rfl⟩ := hx
          rw [if_neg]
          intro e
          have := List.getElem?_eq_some_iff.1 hm
          obtain ⟨h3, h4⟩ := this
          rw [List.getElem_range] at h4
          omega
        subst h1; subst h2
        exact OwnI.nil _ _
    · cases j with
      | zero => omega
      | succ j =>
        simp only [List.getElem?_cons_succ] at hu'
        have h1 : u' = .slice none 0 0 := List.eq_of_mem_replicate (List.mem_of_getElem? hu')
        subst h1
        cases hb : u.ownBlock with
        | none => exact .inl rfl
        | some b => right; simp [Value.ownBlock]
    · rw [alloc_old _ _ _ (by have := HZ1.out; omega), HB1.out.block _ (by simp), heap_alloc_new]
      rfl
    · exact (((Below.refl _ w).alloc (Nat.le_refl _) _).trans (HB1.out.mono (by simp))).alloc (by have := HZ1.out; omega) _
  case round =>
    obtain ⟨n, ua, hn1, hn2, rfl, hA, hK, hbl⟩ := hrel
    by_cases hn : n ≤ 20
    · have tn : decide ((n : Int) ≤ 20) = true := by simp; omega
      have hual : ua.length = 21 := by rw [hA.len, anR_len]
      have ck := hA.cell n
      rw [List.getElem?_eq_getElem (by omega)] at ck
      have fk := hA.free n
      have hlt1 := hA.lt
      have hUr := HU.out.same hbl.block
      have hni : (n : Int) < 21 := by omega
      have c0 := hUr.c0
      have HA := Lib.hid hA; have HK := Lib.hid hK; have HBL := Lib.hid hbl
      clear hA hK hbl hUr
      go_upto_region 6 with fail
      have hP := HA.out.put (w' := wr.alloc (.cells (madeCells #[.int .i64 0] ds.length) 2)) (u := .slice (some ⟨wr.heap.size, 0, none⟩) ds.length ds.length) (ys := List.replicate ds.length 0) n (by rw [anR_len]; omega) (alloc_old _ _) (by have := made_own wr wr.heap.size 2 ds.length (.int .i64 0) (Nat.le_refl _) (by omega); unfold OwnI; simpa using this)
      rw [World.setCell_alloc_past _ _ _ _ hlt1, ← anL_zero act ds.length n] at hP
      have HA2 := Lib.hid hP
      have HB2 := Lib.hid ((HBL.out.setCell (p := ⟨w1.heap.size, n, none⟩) (by have := HZ1.out; show w.heap.size ≤ w1.heap.size; omega) (.slice (some ⟨wr.heap.size, 0, none⟩) ds.length ds.length)).alloc (by have := HBL.out.size; simpa using this) (.cells (madeCells #[.int .i64 0] ds.length) 2))
      have HK2 := Lib.hid (show ((wr.setCell ⟨w1.heap.size, n, none⟩ (.slice (some ⟨wr.heap.size, 0, none⟩) ds.length ds.length)).alloc (.cells (madeCells #[.int .i64 0] ds.length) 2)).heap[w.heap.size]? = some (.cells (List.replicate 21 (.slice none 0 0)).toArray 116 (0, 0)) by
        rw [alloc_old _ _ _ (by have := (Array.getElem?_eq_some_iff.1 HK.out).1; simpa using this), Below.heap_setCell _ _ _ _ (by have := HZ1.out; show w.heap.size ≠ w1.heap.size; omega)]
        exact HK.out)
      clear hP ck fk hlt1 c0 HA HBL HK
      generalize (wr.setCell ⟨w1.heap.size, n, none⟩ (.slice (some ⟨wr.heap.size, 0, none⟩) ds.length ds.length)).alloc (.cells (madeCells #[.int .i64 0] ds.length) 2) = W2 at *
      generalize (ua.set n (.slice (some ⟨wr.heap.size, 0, none⟩) ds.length ds.length)) = ub at *
      have c0 := (HU.out.same HB2.out.block).c0
      go_wp2_with fail
      clear c0
      obtain ⟨wo, hwo⟩ : ∃ wo : World, wo = W2 := ⟨_, rfl⟩
      go_loopw [31] (fun i wr => ∃ b : Nat, b ≤ ds.length ∧ i = .int .i64 b ∧ ArrU wr (w.heap.size + 1) w1.heap.size ub ((anR act ds.length n).set n (anL act ds.length n b 0)) ∧ wr.heap[w.heap.size]? = some (.cells (List.replicate 21 (.slice none 0 0)).toArray 116 (0, 0)) ∧ Below w.heap.size w wr) (fun i _ => ds.length - (intOf i).toNat)
      case atStart => exact ⟨0, Nat.zero_le _, rfl, HA2.out, HK2.out, HB2.out⟩
      case round =>
        clear hwo HA2 HK2 HB2
        obtain ⟨b, hb, rfl, hA, hK, hbl⟩ := hrel
        by_cases hlt : b < ds.length
        · have HA := Lib.hid hA; have HK := Lib.hid hK; have HBL := Lib.hid hbl
          clear hA hK hbl
          have hbi : (b : Int) < ds.length := by omega
          go_wp2_with fail
          obtain ⟨wp, hwp⟩ : ∃ wp : World, wp = wr := ⟨_, rfl⟩
          rename World => WB
          go_loopw [6] (fun i wr => ∃ j : Nat, j ≤ n ∧ i = .int .i64 ((j : Int) + 1) ∧ ArrU wr (w.heap.size + 1) w1.heap.size ub ((anR act ds.length n).set n (anL act ds.length n b j)) ∧ wr.heap[w.heap.size]? = some (.cells (List.replicate 21 (.slice none 0 0)).toArray 116 (0, 0)) ∧ Below w.heap.size w wr) (fun i _ => n + 1 - (intOf i).toNat)
          case atStart => exact ⟨0, Nat.zero_le _, rfl, HA.out, HK.out, HBL.out⟩
          case round =>
            clear hwp HA HK HBL
            obtain ⟨j, hj, rfl, hA, hK, hbl⟩ := hrel
            by_cases hlj : j < n
            · have tj : decide ((j : Int) + 1 ≤ (n : Int)) = true := by simp; omega
              have tj2 : decide (j + 1 ≤ n) = true := by simp; omega
              have hk1 : ((anR act ds.length n).set n (anL act ds.length n b j))[n]? = some (anL act ds.length n b j) := by rw [List.getElem?_set_self (by rw [anR_len]; omega)]
              have hk2 : ((anR act ds.length n).set n (anL act ds.length n b j))[n - (j + 1)]? = some ((List.range ds.length).map fun c => ((apX act (2 ^ c) (n - (j + 1)) : Nat) : Int)) := by
                rw [List.getElem?_set_ne (by omega), anR_at _ _ _ _ (by omega) (by omega)]
              obtain ⟨r, cap, hur, hcr, hfr, hBr, hor, hst⟩ := hA.store n hk1 b (by rw [anL_len]; exact hlt)
              obtain ⟨r2, cap2, hur2, hcr2, -, -, -, -⟩ := hA.store (n - (j + 1)) hk2 b (by simpa using hlt)
              have ck1 := hA.cell n
              have ck2 := hA.cell (n - (j + 1))
              rw [hur] at ck1; rw [hur2] at ck2
              rw [anL_get act ds.length n b j hlt] at hcr
              simp only [List.length_map, List.length_range, List.getElem_map, List.getElem_range] at hcr2 ck2
              rw [anL_len] at ck1
              have hst := hst ((apS act (apX act (2 ^ b)) n (j + 1) : Nat) : Int)
              rw [List.set_set, anL_set] at hst
              have hlv := fun m => apX_lt HT.out (2 ^ b) (Nat.pow_lt_pow_right (by omega) hlt) m
              have hlS := apS_lt HT.out (apX act (2 ^ b)) n (fun i _ => hlv i) j (by omega)
              have hlA := actZ_lt HT.out ((j + 1 : Nat) : Int) _ (hlv (n - (j + 1)))
              have hp16 : 2 ^ ds.length ≤ 2 ^ 16 := Nat.pow_le_pow_right (by omega) hl
              have hxr := i64_xor_nat (apS act (apX act (2 ^ b)) n j) (actZ act ((j + 1 : Nat) : Int) (apX act (2 ^ b) (n - (j + 1)))) (by omega) (by omega)
              have SQ := Lib.hid (fun (W : World) (h : TabU W B g (.slice ao ds.length ac) us (tabL ds.length act)) => S.out (j + 1) _ (hlv (n - (j + 1))) W h)
              have HUW := Lib.hid (HU.out.same hbl.block)
              have HST := Lib.hid hst
              have HS : Hid (apS act (apX act (2 ^ b)) n (j + 1) = apS act (apX act (2 ^ b)) n j ^^^ actZ act ((j + 1 : Nat) : Int) (apX act (2 ^ b) (n - (j + 1)))) := rfl
              have hB2 := hbl.setCell (p := ⟨r, b, none⟩) (by show w.heap.size ≤ r; omega) (.int .i64 ((apS act (apX act (2 ^ b)) n (j + 1) : Nat) : Int))
              have hK2 : (wr.setCell ⟨r, b, none⟩ (.int .i64 ((apS act (apX act (2 ^ b)) n (j + 1) : Nat) : Int))).heap[w.heap.size]? = some (.cells (List.replicate 21 (.slice none 0 0)).toArray 116 (0, 0)) := by
                rw [Below.heap_setCell _ _ _ _ (by show w.heap.size ≠ r; omega)]; exact hK
              have G := Lib.hid (And.intro hB2 hK2)
              have s1 : IntKind.i64.wrap ((n : Int) - ((j : Int) + 1)) = ((n - (j + 1) : Nat) : Int) := by rw [IntWalk.i64_in _ (by omega)]; omega
              have hnm : ((n - (j + 1) : Nat) : Int) < 21 := by omega
              have hcast : ((j + 1 : Nat) : Int) = (j : Int) + 1 := by omega
              rw [hcast] at SQ hxr HS
              rw [HS.out] at G HST
              clear hst hB2 hK2 hA hK hbl hur hur2 hor hk1 hk2 hlv hlS hlA hp16 hcast hBr
              generalize n - (j + 1) = mm at *
              generalize apX act (2 ^ b) mm = X at *
              generalize actZ act ((j : Int) + 1) X = Y at *
              generalize apS act (apX act (2 ^ b)) n j = Z at *
              rw [← hxr] at G HST
              clear hst
              clear hxr
              go_wp2_with fail
              go_region_with (go_at_call 169; refine (SQ.out _ (HUW.out.same (w' := wr.drew) (fun _ _ => rfl))).mono ?_; rintro e w' ⟨rfl, rfl⟩)
              all_goals
                go_wp2_with fail
                go_roundw
                case rel => exact ⟨j + 1, by omega, by go_num, HST.out.same (fun _ _ => rfl), G.out.2, below_drewN 1 G.out.1⟩
                case measure => simp [intOf]; omega
            · obtain rfl : j = n := by omega
              have tj : decide ((j : Int) + 1 ≤ (j : Int)) = false := by simp; omega
              rw [anL_end act ds.length j b hn1] at hA
              have HA := Lib.hid hA; have HK := Lib.hid hK; have HBL := Lib.hid hbl
              clear hA hK hbl
              go_wp2_with fail
              go_roundw
              case rel => exact ⟨b + 1, by omega, by go_num, HA.out, HK.out, HBL.out⟩
              case measure => simp [intOf]; omega
        · obtain rfl : b = ds.length := by omega
          rw [anR_full] at hA
          have HA := Lib.hid hA; have HK := Lib.hid hK; have HBL := Lib.hid hbl
          clear hA hK hbl
          go_wp2_with fail
          go_roundw
          case rel => exact ⟨n + 1, ub, by omega, by omega, by go_num, HA.out, HK.out, HBL.out⟩
          case measure => simp [intOf]; omega
    · obtain rfl : n = 21 := by omega
      have tn : decide (((21 : Nat) : Int) ≤ 20) = false := by decide
      have HA := Lib.hid hA; have HK := Lib.hid hK; have HBL := Lib.hid hbl
      clear hA hK hbl
      have hul : ua.length = 21 := by rw [HA.out.len, anR_len]
      have hin : (Try.prog.info? 116).map (·.size) = some ua.toArray.size := by rw [List.size_toArray, hul]; exact info_arr (.slice none 0 0)
      have hone : ua.toArray.all (·.oneCell') = true := by
        rw [Array.all_eq_true_iff_forall_mem]
        intro u hu
        obtain ⟨i, hi, rfl⟩ := List.getElem_of_mem (show u ∈ ua by simpa using hu)
        exact own_oneCell (HA.out.each i _ _ (List.getElem?_eq_getElem hi) (List.getElem?_eq_getElem (by rw [anR_len]; omega)))
      have hsz : (List.replicate 21 (Value.slice none 0 0)).toArray.size = ua.toArray.size := by rw [List.size_toArray, List.size_toArray, hul]; rfl
      have HH := Lib.hid (And.intro hin (And.intro hone hsz))
      clear hul hin hone hsz
      go_upto_region 14 with fail
      apply wp_region_lit
      refine wpList_load_row rfl 116 _ rfl w1.heap.size rfl 116 ua.toArray (0, 0) _ HA.out.row Try.underlying116 rfl HH.out.1 ?_
      refine wpList_store_row rfl 116 _ _ rfl w.heap.size ua.toArray rfl rfl 116 _ HK.out HH.out.1 HH.out.2.2 HH.out.2.1 ?_
      go_wp2_with fail
      exact bodyPost_ret (v := .agg ua.toArray) (results_cell_row rfl _ _ w.heap.size 116 ua.toArray (0, 0) _ rfl (setRow_heap wr _ _ _ _ _ HK.out) Try.underlying116 rfl HH.out.1) rfl
        ⟨w1.heap.size, ua, rfl, (HA.out.far fun b h1 _ => setRow_other wr _ _ _ (by omega)).base' (by omega), below_setRow HBL.out (Nat.le_refl _) _⟩
end Go.Proofs.Ytljfpkhgijangaa

/- The order of basis elements by degrees and places, and modules whose elements are put in order. Plain Lean; no program. -/
import Derived.Test.YtljfpkhgijangaaLModN
import Derived.Test.YtljfpkhgijangaaLMt3
namespace Go.Proofs.Ytljfpkhgijangaa

/-- The places of one degree. -/
def degO (ds : List Int) (d : Nat) : List Nat := (List.range ds.length).filter fun i => ds.getD i 0 == (d : Int)
/-- All places, by their degrees and then by themselves. -/
def ordL (ds : List Int) : List Nat := (List.range 21).flatMap (degO ds)
def befO (ds : List Int) (i j : Nat) : Prop := ds.getD i 0 < ds.getD j 0 ∨ (ds.getD i 0 = ds.getD j 0 ∧ i < j)
theorem befO_asym (ds : List Int) (i j : Nat) (h : befO ds i j) : ¬ befO ds j i := by unfold befO at *; omega
theorem befO_trans (ds : List Int) (i j k : Nat) (h : befO ds i j) (h' : befO ds j k) : befO ds i k := by unfold befO at *; omega
theorem sorted_ext {α : Type} (R : α → α → Prop) (asy : ∀ a b, R a b → ¬ R b a) : ∀ {a b : List α}, a.Pairwise R → b.Pairwise R → (∀ x, x ∈ a ↔ x ∈ b) → a = b
  | [], [], _, _, _ => rfl
  | [], y :: b, _, _, h => by have := (h y).2 (List.mem_cons_self ..); simp at this
  | x :: a, [], _, _, h => by have := (h x).1 (List.mem_cons_self ..); simp at this
  | x :: a, y :: b, ha, hb, h => by
    rw [List.pairwise_cons] at ha hb
    have e : x = y := by
      rcases List.mem_cons.1 ((h x).1 (List.mem_cons_self ..)) with e | hx
      · exact e
      · rcases List.mem_cons.1 ((h y).2 (List.mem_cons_self ..)) with e | hy
        · exact e.symm
        · exact absurd (ha.1 y hy) (asy _ _ (hb.1 x hx))
    subst e
    rw [sorted_ext R asy ha.2 hb.2 fun z => ?_]
    constructor
    · intro hz
      rcases List.mem_cons.1 ((h z).1 (List.mem_cons_of_mem _ hz)) with e | h'
      · subst e; exact absurd (ha.1 z hz) (asy _ _ (ha.1 z hz))
      · exact h'
    · intro hz
      rcases List.mem_cons.1 ((h z).2 (List.mem_cons_of_mem _ hz)) with e | h'
      · subst e; exact absurd (hb.1 z hz) (asy _ _ (hb.1 z hz))
      · exact h'
def Stems (ds : List Int) : Prop := ∀ i, i < ds.length → 0 ≤ ds.getD i 0 ∧ ds.getD i 0 ≤ 20
theorem mem_degO (ds : List Int) (d i : Nat) : i ∈ degO ds d ↔ i < ds.length ∧ ds.getD i 0 = d := by
  unfold degO; rw [List.mem_filter, List.mem_range, beq_iff_eq]
theorem mem_ordL {ds : List Int} (hs : Stems ds) (i : Nat) : i ∈ ordL ds ↔ i < ds.length := by
  unfold ordL
  rw [List.mem_flatMap]
  constructor
  · rintro ⟨d, _, h⟩; exact ((mem_degO _ _ _).1 h).1
  · intro h
    have := hs i h
    exact ⟨(ds.getD i 0).toNat, List.mem_range.2 (by omega), (mem_degO _ _ _).2 ⟨h, by omega⟩⟩
theorem ordL_sorted (ds : List Int) : (ordL ds).Pairwise (befO ds) := by
  unfold ordL
  rw [List.pairwise_flatMap]
  refine ⟨fun d _ => ?_, List.Pairwise.imp (fun {d d'} hlt x hx y hy => ?_) (List.pairwise_lt_range (n := 21))⟩
  · unfold degO
    refine List.Pairwise.imp_of_mem (fun {a b} ha hb hab => ?_) (List.Pairwise.filter (fun i => ds.getD i 0 == (d : Int)) (List.pairwise_lt_range (n := ds.length)))
    have h1 := ((mem_degO ds d a).1 ha).2; have h2 := ((mem_degO ds d b).1 hb).2
    exact .inr ⟨by rw [h1, h2], hab⟩
  · have h1 := ((mem_degO ds d x).1 hx).2; have h2 := ((mem_degO ds d' y).1 hy).2
    exact .inl (by rw [h1, h2]; omega)
theorem ordL_nodup (ds : List Int) : (ordL ds).Nodup := List.Pairwise.imp (fun {a b} h e => by subst e; unfold befO at h; omega) (ordL_sorted ds)
theorem nodup_perm {l : List Nat} {n : Nat} (h : l.Nodup) (hm : ∀ i, i ∈ l ↔ i < n) : l.Perm (List.range n) := by
  rw [List.perm_iff_count]
  intro a
  have hr : (List.range n).Nodup := List.Pairwise.imp (fun {a b} h e => by omega) (List.pairwise_lt_range (n := n))
  by_cases ha : a < n
  · have h1 := List.nodup_iff_count.1 h a
    have h2 := List.nodup_iff_count.1 hr a
    have h3 := List.count_pos_iff.2 ((hm a).2 ha)
    have h4 := List.count_pos_iff.2 (List.mem_range.2 ha)
    omega
  · rw [List.count_eq_zero.2 (fun h' => ha ((hm a).1 h')), List.count_eq_zero.2 (fun h' => ha (List.mem_range.1 h'))]
theorem ordL_len {ds : List Int} (hs : Stems ds) : (ordL ds).length = ds.length := by
  have := (nodup_perm (ordL_nodup ds) (mem_ordL hs)).length_eq
  rwa [List.length_range] at this
theorem ordL_at {ds : List Int} (hs : Stems ds) (c : Nat) (hc : c < ds.length) : (ordL ds).getD c 0 < ds.length := by
  have hl := ordL_len hs
  have : (ordL ds).getD c 0 ∈ ordL ds := by rw [show (ordL ds).getD c 0 = (ordL ds)[c]'(by omega) by simp [show c < (ordL ds).length by omega]]; exact List.getElem_mem _
  exact (mem_ordL hs _).1 this
theorem ordL_inj {ds : List Int} (hs : Stems ds) (b c : Nat) (hb : b < ds.length) (hc : c < ds.length) (h : (ordL ds).getD b 0 = (ordL ds).getD c 0) : b = c := by
  have hl := ordL_len hs
  have hn := ordL_nodup ds
  rw [show (ordL ds).getD b 0 = (ordL ds)[b]'(by omega) by simp [show b < (ordL ds).length by omega], show (ordL ds).getD c 0 = (ordL ds)[c]'(by omega) by simp [show c < (ordL ds).length by omega]] at h
  rw [List.Nodup, List.pairwise_iff_getElem] at hn
  rcases Nat.lt_trichotomy b c with h1 | h1 | h1
  · exact absurd h (hn b c (by omega) (by omega) h1)
  · exact h1
  · exact absurd h.symm (hn c b (by omega) (by omega) h1)
/-- The new place of an element. -/
def plcO (ds : List Int) (i : Nat) : Nat := (ordL ds).idxOf i
theorem plcO_lt {ds : List Int} (hs : Stems ds) (i : Nat) (hi : i < ds.length) : plcO ds i < ds.length := by
  rw [← ordL_len hs]; exact List.idxOf_lt_length_of_mem ((mem_ordL hs i).2 hi)
theorem ordL_plcO {ds : List Int} (hs : Stems ds) (i : Nat) (hi : i < ds.length) : (ordL ds).getD (plcO ds i) 0 = i := by
  have h := List.idxOf_lt_length_of_mem ((mem_ordL hs i).2 hi)
  unfold plcO
  rw [show (ordL ds).getD ((ordL ds).idxOf i) 0 = (ordL ds)[(ordL ds).idxOf i] by simp [h]]
  exact List.getElem_idxOf h
theorem plcO_ordL {ds : List Int} (hs : Stems ds) (c : Nat) (hc : c < ds.length) : plcO ds ((ordL ds).getD c 0) = c :=
  ordL_inj hs _ _ (plcO_lt hs _ (ordL_at hs c hc)) hc (ordL_plcO hs _ (ordL_at hs c hc))
/-- The degrees in order. -/
def srtD (ds : List Int) : List Int := (ordL ds).map fun i => ds.getD i 0
theorem srtD_len {ds : List Int} (hs : Stems ds) : (srtD ds).length = ds.length := by unfold srtD; rw [List.length_map, ordL_len hs]
/-- A row of an action with the new places. -/
def plcR (ds : List Int) (a : List Int) : List Int := [a.getD 0 0, ((plcO ds (a.getD 1 0).toNat : Nat) : Int), ((plcO ds (a.getD 2 0).toNat : Nat) : Int)]
/-- The mask of an element at the new places. -/
def oMask (ds : List Int) (v : Nat) : Nat → Nat
  | 0 => 0
  | k + 1 => oMask ds v k ||| (if v.testBit ((ordL ds).getD k 0) then 2 ^ k else 0)
theorem oMask_bit (ds : List Int) (v c : Nat) : ∀ k, (oMask ds v k).testBit c = (decide (c < k) && v.testBit ((ordL ds).getD c 0))
  | 0 => by simp [oMask]
  | k + 1 => by
    rw [oMask, Nat.testBit_or, oMask_bit ds v c k]
    by_cases h : c = k
    · subst h
      cases hv : v.testBit ((ordL ds).getD c 0) <;> simp [Nat.testBit_two_pow_self]
    · have : (if v.testBit ((ordL ds).getD k 0) = true then 2 ^ k else 0).testBit c = false := by
        split
        · rw [Nat.testBit_two_pow]; simp; omega
        · simp
      rw [this, Bool.or_false]
      congr 1
      exact decide_eq_decide.2 (by omega)
theorem oMask_lt (ds : List Int) (v : Nat) : ∀ k, oMask ds v k < 2 ^ k
  | 0 => by simp [oMask]
  | k + 1 => by
    rw [oMask]
    have h1 := oMask_lt ds v k
    refine Nat.or_lt_two_pow (Nat.lt_of_lt_of_le h1 (Nat.pow_le_pow_right (by decide) (by omega))) ?_
    split
    · exact Nat.pow_lt_pow_right (by decide) (by omega)
    · exact Nat.two_pow_pos _
/-- What ordered tells moduleOf. -/
def oSq (ds : List Int) (sq : Nat → Nat → Nat) (n b : Nat) : Int := ((oMask ds (sq n ((ordL ds).getD b 0)) ds.length : Nat) : Int)
theorem ord_mod {ds : List Int} (hs : Stems ds) (hl : ds.length ≤ 16) (sq : Nat → Nat → Nat) (L : List (List Int)) (hn : L.Nodup)
    (hm : ∀ x, x ∈ L ↔ ∃ n b c : Nat, 1 ≤ n ∧ n ≤ 20 ∧ b < ds.length ∧ c < ds.length ∧ (sq n b).testBit c = true ∧ x = [(n : Int), (b : Int), (c : Int)]) :
    oddL (L.map (plcR ds)) = modN (oSq ds sq) ds.length 20 := by
  refine oddL_modN _ _ _ _ ?_ ?_
  · rw [List.Nodup, List.pairwise_map]
    refine List.Pairwise.imp_of_mem (fun {x y} hx hy hne e => hne ?_) hn
    obtain ⟨n, b, c, _, _, hb, hc, _, rfl⟩ := (hm x).1 hx
    obtain ⟨n', b', c', _, _, hb', hc', _, rfl⟩ := (hm y).1 hy
    simp only [plcR, List.getD_cons_zero, List.getD_cons_succ, Int.toNat_natCast, List.cons.injEq, and_true] at e
    obtain ⟨e1, e2, e3⟩ := e
    have q2 : b = b' := by
      have : plcO ds b = plcO ds b' := by omega
      rw [← ordL_plcO hs b hb, this, ordL_plcO hs b' hb']
    have q3 : c = c' := by
      have : plcO ds c = plcO ds c' := by omega
      rw [← ordL_plcO hs c hc, this, ordL_plcO hs c' hc']
    rw [e1, q2, q3]
  · intro x
    have key : ∀ n b c : Nat, b < ds.length → c < ds.length → bitB (oSq ds sq n b) c = (sq n ((ordL ds).getD b 0)).testBit ((ordL ds).getD c 0) := fun n b c hb hc => by
      unfold oSq
      rw [bitB_nat _ _ (Nat.lt_of_lt_of_le (oMask_lt ds _ _) (Nat.le_trans (Nat.pow_le_pow_right (by decide) hl) (by decide))), oMask_bit]
      simp [hc]
    rw [List.mem_map]
    constructor
    · rintro ⟨y, hy, rfl⟩
      obtain ⟨n, b, c, h1, h2, hb, hc, ht, rfl⟩ := (hm y).1 hy
      refine ⟨n, plcO ds b, plcO ds c, h1, h2, plcO_lt hs b hb, plcO_lt hs c hc, ?_, by simp [plcR]⟩
      rw [key _ _ _ (plcO_lt hs b hb) (plcO_lt hs c hc), ordL_plcO hs b hb, ordL_plcO hs c hc]; exact ht
    · rintro ⟨n, b, c, h1, h2, hb, hc, ht, rfl⟩
      rw [key _ _ _ hb hc] at ht
      refine ⟨[(n : Int), (((ordL ds).getD b 0 : Nat) : Int), (((ordL ds).getD c 0 : Nat) : Int)], (hm _).2 ⟨n, _, _, h1, h2, ordL_at hs b hb, ordL_at hs c hc, ht, rfl⟩, ?_⟩
      simp only [plcR, List.getD_cons_zero, List.getD_cons_succ, Int.toNat_natCast, plcO_ordL hs b hb, plcO_ordL hs c hc]
/-- The sort by insertion, between two rounds. -/
def InsS (ds : List Int) (i : Nat) (l : List Nat) : Prop := ∃ P, l = P ++ (List.range ds.length).drop i ∧ P.Pairwise (befO ds) ∧ ∀ y, y ∈ P ↔ y < i
/-- Within a round: the element i stands at the place j. -/
def InsJ (ds : List Int) (i j : Nat) (l : List Nat) : Prop := ∃ A B, l = A ++ i :: (B ++ (List.range ds.length).drop (i + 1)) ∧ A.length = j ∧ (A ++ B).Pairwise (befO ds) ∧ (∀ y, y ∈ A ++ B ↔ y < i) ∧ ∀ y ∈ B, ds.getD i 0 < ds.getD y 0
theorem ins_len {ds : List Int} {i : Nat} {l : List Nat} (h : InsS ds i l) (hi : i ≤ ds.length) : l.length = ds.length := by
  obtain ⟨P, rfl, hs, hm⟩ := h
  have hn : P.Nodup := List.Pairwise.imp (fun {a b} h e => by subst e; unfold befO at h; omega) hs
  have := (nodup_perm hn hm).length_eq
  rw [List.length_range] at this
  rw [List.length_append, List.length_drop, List.length_range]; omega
theorem ins_lenP {ds : List Int} {i : Nat} {P : List Nat} (hs : P.Pairwise (befO ds)) (hm : ∀ y, y ∈ P ↔ y < i) : P.length = i := by
  have hn : P.Nodup := List.Pairwise.imp (fun {a b} h e => by subst e; unfold befO at h; omega) hs
  have := (nodup_perm hn hm).length_eq
  rwa [List.length_range] at this
theorem ins_first (ds : List Int) (h : 0 < ds.length) : InsS ds 1 (List.range ds.length) := by
  refine ⟨[0], ?_, List.pairwise_singleton .., fun y => by simp⟩
  rw [List.drop_one, show List.range ds.length = 0 :: (List.range ds.length).tail from ?_]
  · rfl
  · obtain ⟨m, hm⟩ : ∃ m, ds.length = m + 1 := ⟨ds.length - 1, by omega⟩
    rw [hm, List.range_succ_eq_map]; rfl
theorem ins_none (ds : List Int) (h : ds.length = 0) : InsS ds 0 (List.range ds.length) := ⟨[], by rw [h]; rfl, List.Pairwise.nil, fun y => by simp⟩
theorem ins_begin {ds : List Int} {i : Nat} {l : List Nat} (h : InsS ds i l) (hi : i < ds.length) : InsJ ds i i l := by
  obtain ⟨P, rfl, hs, hm⟩ := h
  refine ⟨P, [], ?_, ins_lenP hs hm, by rwa [List.append_nil], by rwa [List.append_nil], fun y hy => by simp at hy⟩
  rw [List.drop_eq_getElem_cons (by simpa using hi), List.getElem_range]; rfl
theorem insJ_len {ds : List Int} {i j : Nat} {l : List Nat} (h : InsJ ds i j l) (hi : i < ds.length) : l.length = ds.length ∧ j ≤ i := by
  obtain ⟨A, B, rfl, hA, hs, hm, _⟩ := h
  have := ins_lenP hs hm
  rw [List.length_append] at this
  simp only [List.length_append, List.length_cons, List.length_drop, List.length_range]; omega
theorem insJ_at {ds : List Int} {i j : Nat} {l : List Nat} (h : InsJ ds i j l) : l.getD j 0 = i := by
  obtain ⟨A, B, rfl, rfl, _, _, _⟩ := h
  simp [List.getD_eq_getElem?_getD]
theorem insJ_below {ds : List Int} {i j : Nat} {l : List Nat} (h : InsJ ds i (j + 1) l) : l.getD j 0 < i := by
  obtain ⟨A, B, rfl, hA, _, hm, _⟩ := h
  have hj : j < A.length := by omega
  rw [List.getD_eq_getElem?_getD, List.getElem?_append_left hj, List.getElem?_eq_getElem hj]
  exact (hm _).1 (List.mem_append_left _ (List.getElem_mem hj))
/-- The swap. -/
theorem ins_step {ds : List Int} {i j : Nat} {l : List Nat} (h : InsJ ds i (j + 1) l) (hlt : ds.getD i 0 < ds.getD (l.getD j 0) 0) : InsJ ds i j ((l.set (j + 1) (l.getD j 0)).set j i) := by
  obtain ⟨A, B, rfl, hA, hs, hm, hB⟩ := h
  obtain ⟨A', y, rfl⟩ : ∃ A' y, A = A' ++ [y] := by
    rcases List.eq_nil_or_concat A with e | ⟨A', y, e⟩
    · subst e; simp at hA
    · exact ⟨A', y, by rw [e, List.concat_eq_append]⟩
  have hA' : A'.length = j := by simpa using hA
  subst hA'
  have hy : (A' ++ [y] ++ i :: (B ++ (List.range ds.length).drop (i + 1))).getD A'.length 0 = y := by
    simp [List.getD_eq_getElem?_getD]
  rw [hy] at hlt ⊢
  refine ⟨A', y :: B, ?_, rfl, by simpa using hs, by simpa using hm, fun z hz => ?_⟩
  · have e1 : A' ++ [y] ++ i :: (B ++ (List.range ds.length).drop (i + 1)) = A' ++ (y :: i :: (B ++ (List.range ds.length).drop (i + 1))) := by simp
    rw [e1, List.set_append_right _ _ (by omega), show A'.length + 1 - A'.length = 1 by omega, List.set_append_right _ _ (by omega), Nat.sub_self]
    rfl
  · rcases List.mem_cons.1 hz with e | hz
    · subst e; exact hlt
    · exact hB z hz
theorem ins_stop {ds : List Int} {i j : Nat} {l : List Nat} (h : InsJ ds i j l) (hle : j = 0 ∨ ∃ k, j = k + 1 ∧ ds.getD (l.getD k 0) 0 ≤ ds.getD i 0) : InsS ds (i + 1) l := by
  obtain ⟨A, B, rfl, hA, hs, hm, hB⟩ := h
  have hmA : ∀ a ∈ A, a < i := fun a ha => (hm a).1 (List.mem_append_left _ ha)
  rw [List.pairwise_append] at hs
  obtain ⟨hs1, hs2, hs3⟩ := hs
  have hAi : ∀ a ∈ A, befO ds a i := fun a ha => by
    rcases hle with e | ⟨k, hk, hle⟩
    · rw [e] at hA
      rw [List.eq_nil_of_length_eq_zero hA] at ha; simp at ha
    · obtain ⟨A', y, rfl⟩ : ∃ A' y, A = A' ++ [y] := by
        rcases List.eq_nil_or_concat A with e | ⟨A', y, e⟩
        · subst e; simp at ha
        · exact ⟨A', y, by rw [e, List.concat_eq_append]⟩
      have hk' : A'.length = k := by rw [hk] at hA; simpa using hA
      subst hk'
      rw [show (A' ++ [y] ++ i :: (B ++ (List.range ds.length).drop (i + 1))).getD A'.length 0 = y by simp [List.getD_eq_getElem?_getD]] at hle
      rw [List.pairwise_append] at hs1
      have hai := hmA a ha
      rcases List.mem_append.1 ha with h1 | h1
      · have := hs1.2.2 a h1 y (List.mem_singleton.2 rfl)
        unfold befO at this ⊢; omega
      · have := List.mem_singleton.1 h1
        subst this
        unfold befO; omega
  refine ⟨A ++ i :: B, by simp, ?_, fun y => ?_⟩
  · rw [List.pairwise_append, List.pairwise_cons]
    refine ⟨hs1, ⟨fun b hb => .inl (hB b hb), hs2⟩, fun a ha b hb => ?_⟩
    rcases List.mem_cons.1 hb with e | hb
    · subst e; exact hAi a ha
    · exact hs3 a ha b hb
  · have h1 := hm y
    simp only [List.mem_append, List.mem_cons] at h1 ⊢
    constructor
    · rintro (h | h | h)
      · have := h1.1 (.inl h); omega
      · omega
      · have := h1.1 (.inr h); omega
    · intro h
      by_cases e : y = i
      · exact .inr (.inl e)
      · rcases h1.2 (by omega) with h | h
        · exact .inl h
        · exact .inr (.inr h)
theorem ins_end {ds : List Int} (hs : Stems ds) {l : List Nat} (h : InsS ds ds.length l) : l = ordL ds := by
  obtain ⟨P, rfl, hp, hm⟩ := h
  rw [List.drop_of_length_le (by simp), List.append_nil]
  exact sorted_ext _ (befO_asym ds) hp (ordL_sorted ds) fun x => by rw [hm, mem_ordL hs]
/-- The places that the reference writes down, up to the degree d and the place i. -/
def ordP (ds : List Int) (d i : Nat) : List Nat := (List.range d).flatMap (degO ds) ++ (List.range i).filter fun i => ds.getD i 0 == (d : Int)
theorem ordP_step (ds : List Int) (d i : Nat) : ordP ds d (i + 1) = if ds.getD i 0 = (d : Int) then ordP ds d i ++ [i] else ordP ds d i := by
  unfold ordP
  rw [List.range_succ, List.filter_append, ← List.append_assoc]
  by_cases h : ds.getD i 0 = (d : Int)
  · rw [if_pos h, List.filter_cons_of_pos (by simpa using h)]; rfl
  · rw [if_neg h, List.filter_cons_of_neg (by simpa using h)]; simp
theorem ordP_next (ds : List Int) (d : Nat) : ordP ds d ds.length = ordP ds (d + 1) 0 := by
  unfold ordP
  rw [List.range_succ, List.flatMap_append]; simp [degO]
theorem ordP_end (ds : List Int) : ordP ds 21 0 = ordL ds := by simp [ordP, ordL]
theorem ordP_zero (ds : List Int) : ordP ds 0 0 = [] := rfl
theorem ordP_notin (ds : List Int) (d i : Nat) (h : ds.getD i 0 = (d : Int)) : i ∉ ordP ds d i := by
  unfold ordP
  rw [List.mem_append]
  rintro (h' | h')
  · obtain ⟨e, he, hm⟩ := List.mem_flatMap.1 h'
    have := ((mem_degO ds e i).1 hm).2
    have := List.mem_range.1 he
    omega
  · have := List.mem_range.1 (List.mem_filter.1 h').1; omega
theorem ordP_le (ds : List Int) (d i : Nat) (hi : i ≤ ds.length) : (ordP ds d i).length ≤ (d + 1) * ds.length := by
  unfold ordP
  have h1 : ∀ d, ((List.range d).flatMap (degO ds)).length ≤ d * ds.length := fun d => by
    induction d with
    | zero => simp
    | succ d ih =>
      rw [List.range_succ, List.flatMap_append, List.length_append, Nat.succ_mul]
      have : ([d].flatMap (degO ds)).length ≤ ds.length := by
        simp only [List.flatMap_cons, List.flatMap_nil, List.append_nil]
        unfold degO
        refine Nat.le_trans (List.length_filter_le _ _) (by simp)
      omega
  have h2 : ((List.range i).filter fun i => ds.getD i 0 == (d : Int)).length ≤ i := Nat.le_trans (List.length_filter_le _ _) (by simp)
  have := h1 d
  rw [List.length_append, Nat.succ_mul]; omega
theorem plc_set {ds : List Int} {d i : Nat} {ps : List Int} (h : ds.getD i 0 = (d : Int)) (hi : i < ps.length) (hp : ∀ c, c < (ordP ds d i).length → ps.getD ((ordP ds d i).getD c 0) 0 = (c : Int)) :
    ∀ c, c < (ordP ds d (i + 1)).length → (ps.set i ((ordP ds d i).length : Int)).getD ((ordP ds d (i + 1)).getD c 0) 0 = (c : Int) := by
  rw [ordP_step, if_pos h]
  intro c hc
  rw [List.length_append] at hc
  have hn := ordP_notin ds d i h
  generalize ordP ds d i = L at *
  by_cases hcl : c < L.length
  · have e1 : (L ++ [i]).getD c 0 = L[c] := by rw [List.getD_eq_getElem?_getD, List.getElem?_append_left hcl, List.getElem?_eq_getElem hcl]; rfl
    have e2 := hp c hcl
    rw [show L.getD c 0 = L[c] by simp [hcl]] at e2
    have hne : L[c] ≠ i := fun e => hn (by rw [← e]; exact List.getElem_mem hcl)
    rw [e1, List.getD_eq_getElem?_getD, List.getElem?_set_ne (Ne.symm hne), ← List.getD_eq_getElem?_getD, e2]
  · have : c = L.length := by simp at hc; omega
    subst this
    rw [show (L ++ [i]).getD L.length 0 = i by simp [List.getD_eq_getElem?_getD], List.getD_eq_getElem?_getD, List.getElem?_set_self hi]; rfl
theorem plc_ok {ds : List Int} (hs : Stems ds) {ps : List Int} (hp : ∀ c, c < (ordL ds).length → ps.getD ((ordL ds).getD c 0) 0 = (c : Int)) : ∀ i, i < ds.length → ps.getD i 0 = ((plcO ds i : Nat) : Int) := fun i hi => by
  have := hp (plcO ds i) (by rw [ordL_len hs]; exact plcO_lt hs i hi)
  rwa [ordL_plcO hs i hi] at this
end Go.Proofs.Ytljfpkhgijangaa

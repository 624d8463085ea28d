/- The tensor product of two modules (plain). -/
import Derived.Test.YtljfpkhgijangaaLSumP
namespace Go.Proofs.Ytljfpkhgijangaa

/-- The degrees of the tensor product. -/
def tenD (d1 d2 : List Int) : List Int := d1.flatMap fun d => d2.map fun e => d + e
theorem tenD_snoc (a d2 : List Int) (d : Int) : tenD (a ++ [d]) d2 = tenD a d2 ++ d2.map fun e => d + e := by simp [tenD]
theorem tenD_len (d2 : List Int) : ∀ d1 : List Int, (tenD d1 d2).length = d1.length * d2.length
  | [] => by simp [tenD]
  | d :: a => by
    have := tenD_len d2 a
    unfold tenD at this ⊢
    rw [List.flatMap_cons, List.length_append, List.length_map, this, List.length_cons, Nat.add_mul]; omega
theorem tenD_mem {d1 d2 : List Int} (x : Int) : x ∈ tenD d1 d2 ↔ ∃ d ∈ d1, ∃ e ∈ d2, x = d + e := by
  unfold tenD
  simp only [List.mem_flatMap, List.mem_map]
  constructor
  · rintro ⟨d, hd, e, he, rfl⟩; exact ⟨d, hd, e, he, rfl⟩
  · rintro ⟨d, hd, e, he, rfl⟩; exact ⟨d, hd, e, he, rfl⟩
/-- Whether a summand bears an element. -/
def tenB (a1 a2 : List (List Int)) (o n b f c : Nat) : Bool := (rowZ a1 f (b / o)).testBit (c / o) && (rowZ a2 (n - f) (b % o)).testBit (c % o)
def tenW (a1 a2 : List (List Int)) (o n b f : Nat) : Nat → Nat
  | 0 => 0
  | c + 1 => tenW a1 a2 o n b f c ^^^ (if tenB a1 a2 o n b f c then 2 ^ c else 0)
def tenM (a1 a2 : List (List Int)) (o n b N : Nat) : Nat → Nat
  | 0 => 0
  | f + 1 => tenM a1 a2 o n b N f ^^^ tenW a1 a2 o n b f N
/-- The mask of Sq^n of an element of the product. -/
def tenQ (d1 d2 : List Int) (a1 a2 : List (List Int)) (n b : Nat) : Nat := tenM a1 a2 d2.length n b (d1.length * d2.length) (n + 1)
theorem tenW_lt (a1 a2 : List (List Int)) (o n b f : Nat) : ∀ c, tenW a1 a2 o n b f c < 2 ^ c
  | 0 => by simp [tenW]
  | c + 1 => by
    rw [tenW]
    refine Nat.xor_lt_two_pow (Nat.lt_of_lt_of_le (tenW_lt a1 a2 o n b f c) (Nat.pow_le_pow_right (by decide) (by omega))) ?_
    split
    · exact Nat.pow_lt_pow_right (by decide) (by omega)
    · exact Nat.two_pow_pos _
theorem tenM_lt (a1 a2 : List (List Int)) (o n b N : Nat) : ∀ f, tenM a1 a2 o n b N f < 2 ^ N
  | 0 => Nat.two_pow_pos _
  | f + 1 => by rw [tenM]; exact Nat.xor_lt_two_pow (tenM_lt a1 a2 o n b N f) (tenW_lt ..)
theorem tenMW_lt (a1 a2 : List (List Int)) (o n b N f c : Nat) (hc : c ≤ N) : tenM a1 a2 o n b N f ^^^ tenW a1 a2 o n b f c < 2 ^ N :=
  Nat.xor_lt_two_pow (tenM_lt ..) (Nat.lt_of_lt_of_le (tenW_lt ..) (Nat.pow_le_pow_right (by decide) hc))
theorem tenQ_lt (d1 d2 : List Int) (a1 a2 : List (List Int)) (h : d1.length * d2.length ≤ 16) (n b : Nat) : tenQ d1 d2 a1 a2 n b < 65536 :=
  Nat.lt_of_lt_of_le (tenM_lt ..) (Nat.le_trans (Nat.pow_le_pow_right (by decide) h) (by decide))
theorem bitsL_add (N X c : Nat) (p : Bool) (hc : c < N) : (bitsL N X).set c (((bitsL N X).getD c 0 + if p then 1 else 0) % 2) = bitsL N (X ^^^ if p then 2 ^ c else 0) := by
  refine bitsL_ext (by simp [bitsL_length]) fun i hi => ?_
  rw [bitsL_at _ _ _ hc, Nat.testBit_xor]
  by_cases e : c = i
  · subst e
    rw [List.getD_eq_getElem?_getD, List.getElem?_set_self (by rw [bitsL_length]; exact hc)]
    cases p
    · cases X.testBit c <;> simp
    · rw [if_pos rfl, if_pos rfl, Nat.testBit_two_pow_self]
      cases X.testBit c <;> simp
  · rw [List.getD_eq_getElem?_getD, List.getElem?_set_ne e, ← List.getD_eq_getElem?_getD, bitsL_at _ _ _ hi]
    have : (if p then 2 ^ c else 0 : Nat).testBit i = false := by
      split
      · rw [Nat.testBit_two_pow]; simp [e]
      · simp
    rw [this, Bool.xor_false]
theorem actZ_unit {ds : List Int} {act : List (List Int)} (h : modT ds act = true) (n i : Nat) : actZ act n (2 ^ i) = rowZ act n i := by
  unfold actZ rowZ
  by_cases hn : n = 0
  · subst hn; simp
  · rw [if_neg (show ¬ (n : Int) = 0 by omega), if_neg hn]
    have key : ∀ l : List (List Int), (∀ x ∈ l, 0 ≤ x.getD 1 0) → actM n (2 ^ i) l = rowM n i l := by
      intro l
      induction l with
      | nil => intro _; rfl
      | cons x l ih =>
        intro hx
        rw [actM, rowM, ih fun y hy => hx y (List.mem_cons_of_mem _ hy)]
        congr 1
        have h0 := hx x (List.mem_cons_self ..)
        unfold hitM
        rw [Nat.testBit_two_pow]
        clear hx ih
        generalize x.getD 0 0 = y0 at *
        generalize x.getD 1 0 = y1 at *
        generalize x.getD 2 0 = y2 at *
        by_cases e : y1 = (i : Int)
        · have e2 : decide (i = y1.toNat) = true := decide_eq_true (by omega)
          rw [e2]; simp [e]
        · have e2 : decide (i = y1.toNat) = false := decide_eq_false (by omega)
          rw [e2, if_neg (by simp), if_neg (fun h => e h.2)]
    exact key act fun x hx => (modT_cell h x hx).2.2.1
/-- The rows that the reference writes. -/
def tRow (q n b : Nat) : Nat → List (List Int)
  | 0 => []
  | c + 1 => tRow q n b c ++ (if q.testBit c then [[(n : Int), (b : Int), (c : Int)]] else [])
def tCol (Q : Nat → Nat → Nat) (N b : Nat) : Nat → List (List Int)
  | 0 => []
  | k + 1 => tCol Q N b k ++ tRow (Q (k + 1) b) (k + 1) b N
def tAll (Q : Nat → Nat → Nat) (N : Nat) : Nat → List (List Int)
  | 0 => []
  | b + 1 => tAll Q N b ++ tCol Q N b 20
theorem tRow_mem (q n b : Nat) (x : List Int) : ∀ C, x ∈ tRow q n b C ↔ ∃ c, c < C ∧ q.testBit c = true ∧ x = [(n : Int), (b : Int), (c : Int)]
  | 0 => by simp [tRow]
  | C + 1 => by
    rw [tRow, List.mem_append, tRow_mem q n b x C]
    constructor
    · rintro (⟨c, h1, h2, h3⟩ | h)
      · exact ⟨c, by omega, h2, h3⟩
      · split at h
        · rename_i hq; exact ⟨C, by omega, hq, by simpa using h⟩
        · simp at h
    · rintro ⟨c, h1, h2, h3⟩
      by_cases e : c = C
      · subst e; right; rw [if_pos h2, h3]; simp
      · left; exact ⟨c, by omega, h2, h3⟩
theorem tCol_mem (Q : Nat → Nat → Nat) (N b : Nat) (x : List Int) : ∀ k, x ∈ tCol Q N b k ↔ ∃ n c : Nat, 1 ≤ n ∧ n ≤ k ∧ c < N ∧ (Q n b).testBit c = true ∧ x = [(n : Int), (b : Int), (c : Int)]
  | 0 => by
    simp only [tCol, List.not_mem_nil, false_iff]
    rintro ⟨n, c, h1, h2, _⟩; omega
  | k + 1 => by
    rw [tCol, List.mem_append, tCol_mem Q N b x k, tRow_mem]
    constructor
    · rintro (⟨n, c, h1, h2, h3⟩ | ⟨c, h1, h2, h3⟩)
      · exact ⟨n, c, h1, by omega, h3⟩
      · exact ⟨k + 1, c, by omega, by omega, h1, h2, h3⟩
    · rintro ⟨n, c, h1, h2, h3, h4, h5⟩
      by_cases e : n = k + 1
      · subst e; right; exact ⟨c, h3, h4, h5⟩
      · left; exact ⟨n, c, h1, by omega, h3, h4, h5⟩
theorem tAll_mem (Q : Nat → Nat → Nat) (N : Nat) (x : List Int) : ∀ B, x ∈ tAll Q N B ↔ ∃ n b c : Nat, 1 ≤ n ∧ n ≤ 20 ∧ b < B ∧ c < N ∧ (Q n b).testBit c = true ∧ x = [(n : Int), (b : Int), (c : Int)]
  | 0 => by
    simp only [tAll, List.not_mem_nil, false_iff]
    rintro ⟨n, b, c, h1, h2, h3, _⟩; omega
  | B + 1 => by
    rw [tAll, List.mem_append, tAll_mem Q N x B, tCol_mem]
    constructor
    · rintro (⟨n, b, c, h1, h2, h3, h4⟩ | ⟨n, c, h1, h2, h3⟩)
      · exact ⟨n, b, c, h1, h2, by omega, h4⟩
      · exact ⟨n, B, c, h1, h2, by omega, h3⟩
    · rintro ⟨n, b, c, h1, h2, h3, h4⟩
      by_cases e : b = B
      · subst e; right; exact ⟨n, c, h1, h2, h4⟩
      · left; exact ⟨n, b, c, h1, h2, by omega, h4⟩
theorem trip_inj {a b c a' b' c' : Nat} (h : [(a : Int), (b : Int), (c : Int)] = [(a' : Int), (b' : Int), (c' : Int)]) : a = a' ∧ b = b' ∧ c = c' := by
  simp only [List.cons.injEq, and_true] at h; omega
theorem tRow_nodup (q n b : Nat) : ∀ C, (tRow q n b C).Nodup
  | 0 => List.nodup_nil
  | C + 1 => by
    rw [tRow, List.nodup_append]
    refine ⟨tRow_nodup q n b C, ?_, fun x hx y hy e => ?_⟩
    · split <;> simp
    · obtain ⟨c, h1, h2, rfl⟩ := (tRow_mem ..).1 hx
      split at hy
      · have := trip_inj (e.trans (by simpa using hy)); omega
      · simp at hy
theorem tCol_nodup (Q : Nat → Nat → Nat) (N b : Nat) : ∀ k, (tCol Q N b k).Nodup
  | 0 => List.nodup_nil
  | k + 1 => by
    rw [tCol, List.nodup_append]
    refine ⟨tCol_nodup Q N b k, tRow_nodup .., fun x hx y hy e => ?_⟩
    obtain ⟨n, c, h1, h2, _, _, rfl⟩ := (tCol_mem ..).1 hx
    obtain ⟨c', _, _, rfl⟩ := (tRow_mem ..).1 hy
    have := trip_inj e; omega
theorem tAll_nodup (Q : Nat → Nat → Nat) (N : Nat) : ∀ B, (tAll Q N B).Nodup
  | 0 => List.nodup_nil
  | B + 1 => by
    rw [tAll, List.nodup_append]
    refine ⟨tAll_nodup Q N B, tCol_nodup .., fun x hx y hy e => ?_⟩
    obtain ⟨n, b, c, _, _, h1, _, _, rfl⟩ := (tAll_mem ..).1 hx
    obtain ⟨n', c', _, _, _, _, rfl⟩ := (tCol_mem ..).1 hy
    have := trip_inj e; omega
theorem tRow_len (q n b : Nat) : ∀ C, (tRow q n b C).length ≤ C
  | 0 => by simp [tRow]
  | C + 1 => by
    have := tRow_len q n b C
    rw [tRow, List.length_append]; split <;> simp <;> omega
theorem tCol_len (Q : Nat → Nat → Nat) (N b : Nat) : ∀ k, (tCol Q N b k).length ≤ k * N
  | 0 => by simp [tCol]
  | k + 1 => by
    have := tCol_len Q N b k; have := tRow_len (Q (k + 1) b) (k + 1) b N
    rw [tCol, List.length_append, Nat.add_mul]; omega
theorem tAll_len (Q : Nat → Nat → Nat) (N : Nat) : ∀ B, (tAll Q N B).length ≤ B * (20 * N)
  | 0 => by simp [tAll]
  | B + 1 => by
    have := tAll_len Q N B; have := tCol_len Q N B 20
    rw [tAll, List.length_append, Nat.add_mul]; omega
theorem tAll_rows (Q : Nat → Nat → Nat) (N : Nat) : ∀ x ∈ tAll Q N N, x.length = 3 ∧ (0 ≤ x.getD 1 0 ∧ x.getD 1 0 < N) ∧ 0 ≤ x.getD 2 0 ∧ x.getD 2 0 < N := fun x hx => by
  obtain ⟨n, b, c, _, _, h1, h2, _, rfl⟩ := (tAll_mem ..).1 hx
  simp only [List.length_cons, List.length_nil, List.getD_cons_zero, List.getD_cons_succ]
  exact ⟨trivial, by omega, by omega, by omega⟩
theorem ten_mod {d1 d2 : List Int} (a1 a2 : List (List Int)) (hs : Stems (tenD d1 d2)) (hl : (tenD d1 d2).length ≤ 16) :
    oddL ((tAll (tenQ d1 d2 a1 a2) (tenD d1 d2).length (tenD d1 d2).length).map (plcR (tenD d1 d2))) = modN (oSq (tenD d1 d2) (tenQ d1 d2 a1 a2)) (tenD d1 d2).length 20 :=
  ord_mod hs hl _ _ (tAll_nodup ..) fun x => tAll_mem _ _ x _
/-- What TensorOfModules answers. -/
def tenOk (d1 d2 : List Int) : Bool := decide (d1.length * d2.length ≤ 16) && (tenD d1 d2).all stemB
def tenC (d1 : List Int) (a1 : List (List Int)) (d2 : List Int) (a2 : List (List Int)) : Int := if sumOk d1 a1 d2 a2 then (if tenOk d1 d2 then 0 else 3) else 1
def tenDD (d1 : List Int) (a1 : List (List Int)) (d2 : List Int) (a2 : List (List Int)) : List Int := if sumOk d1 a1 d2 a2 && tenOk d1 d2 then srtD (tenD d1 d2) else []
def tenA (d1 : List Int) (a1 : List (List Int)) (d2 : List Int) (a2 : List (List Int)) : List (List Int) := if sumOk d1 a1 d2 a2 && tenOk d1 d2 then modN (oSq (tenD d1 d2) (tenQ d1 d2 a1 a2)) (tenD d1 d2).length 20 else []
theorem stems_all {ds : List Int} (h : ds.all stemB = true) : Stems ds := fun i hi => by
  rw [List.all_eq_true] at h
  have := h (ds.getD i 0) (by rw [show ds.getD i 0 = ds[i] by simp [hi]]; exact List.getElem_mem _)
  simpa only [stemB, Bool.and_eq_true, decide_eq_true_eq] using this
theorem tenOk_both {d1 d2 : List Int} (h : tenOk d1 d2 = true) : (tenD d1 d2).length ≤ 16 ∧ Stems (tenD d1 d2) := by
  simp only [tenOk, Bool.and_eq_true, decide_eq_true_eq] at h
  exact ⟨by rw [tenD_len]; exact h.1, stems_all h.2⟩
theorem ten_bounds (d1 : List Int) (a1 : List (List Int)) (d2 : List Int) (a2 : List (List Int)) : (tenDD d1 a1 d2 a2).length ≤ 16 ∧ cnt (tenA d1 a1 d2 a2) ≤ 15360 := by
  unfold tenDD tenA
  cases h : sumOk d1 a1 d2 a2 && tenOk d1 d2
  · simp [cnt]
  · rw [Bool.and_eq_true] at h
    obtain ⟨h3, hs⟩ := tenOk_both h.2
    have q := (modN_len (oSq (tenD d1 d2) (tenQ d1 d2 a1 a2)) (tenD d1 d2).length 20).2
    have q2 : (tenD d1 d2).length * (tenD d1 d2).length ≤ 16 * 16 := Nat.mul_le_mul h3 h3
    simp only [if_true]
    rw [srtD_len hs]
    exact ⟨h3, by omega⟩
theorem stems_degs {d1 d2 : List Int} {a1 a2 : List (List Int)} (h1 : modT d1 a1 = true) (h2 : modT d2 a2 = true) (x : Int) (hx : x ∈ tenD d1 d2) : 0 ≤ x ∧ x ≤ 40 := by
  obtain ⟨d, hd, e, he, rfl⟩ := (tenD_mem x).1 hx
  have key : ∀ {ds : List Int} {act : List (List Int)}, modT ds act = true → ∀ y ∈ ds, 0 ≤ y ∧ y ≤ 20 := fun {ds act} h y hy => by
    obtain ⟨i, hi, rfl⟩ := List.getElem_of_mem hy
    have := modT_stem h i
    rwa [show ds.getD i 0 = ds[i] by simp [hi]] at this
  have := key h1 d hd; have := key h2 e he; omega
end Go.Proofs.Ytljfpkhgijangaa

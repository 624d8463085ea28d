/- The sum of two modules (plain). -/
import Derived.Test.YtljfpkhgijangaaLOrd
namespace Go.Proofs.Ytljfpkhgijangaa

def Trip (x : List Int) : Prop := ∃ a b d : Nat, x = [(a : Int), (b : Int), (d : Int)]
theorem rowM_has (n i c : Nat) : ∀ (act : List (List Int)), act.Nodup → (∀ x ∈ act, Trip x) → [(n : Int), (i : Int), (c : Int)] ∈ act → (rowM n i act).testBit c = true
  | [], _, _, h => by simp at h
  | x :: a, hn, ht, h => by
    rw [List.nodup_cons] at hn
    obtain ⟨p, q, r, rfl⟩ := ht x (List.mem_cons_self ..)
    have ht2 : ∀ y ∈ a, Trip y := fun y hy => ht y (List.mem_cons_of_mem _ hy)
    rw [rowM, Nat.testBit_xor]
    simp only [List.getD_cons_zero, List.getD_cons_succ, Int.toNat_natCast]
    rcases List.mem_cons.1 h with e | h
    · simp only [List.cons.injEq, and_true] at e
      have e1 : (p : Int) = n := by omega
      have e2 : (q : Int) = i := by omega
      have e3 : r = c := by omega
      rw [if_pos ⟨e1, e2⟩, e3, Nat.testBit_two_pow_self]
      cases hb : (rowM n i a).testBit c
      · rfl
      · obtain ⟨y, hy, h0, h1, h2⟩ := rowM_bit _ _ _ _ hb
        obtain ⟨p', q', r', rfl⟩ := ht2 y hy
        simp only [List.getD_cons_zero, List.getD_cons_succ, Int.toNat_natCast] at h0 h1 h2
        refine absurd ?_ hn.1
        rw [show [(p : Int), (q : Int), (r : Int)] = [(p' : Int), (q' : Int), (r' : Int)] by rw [e1, e2, e3, h0, h1, h2]]
        exact hy
    · rw [rowM_has n i c a hn.2 ht2 h]
      have : (if (p : Int) = n ∧ (q : Int) = i then 2 ^ r else 0 : Nat).testBit c = false := by
        split
        · rename_i e
          rw [Nat.testBit_two_pow]
          refine decide_eq_false fun e3 => hn.1 ?_
          rw [show [(p : Int), (q : Int), (r : Int)] = [(n : Int), (i : Int), (c : Int)] by rw [e.1, e.2, e3]]
          exact h
        · simp
      rw [this]; rfl
theorem modT_trp {ds : List Int} {act : List (List Int)} (h : modT ds act = true) (x : List Int) (hx : x ∈ act) : ∃ n b c : Nat, 1 ≤ n ∧ n ≤ 20 ∧ b < ds.length ∧ c < ds.length ∧ x = [(n : Int), (b : Int), (c : Int)] := by
  obtain ⟨hl, h1, h2, h3, h4, h5, _⟩ := modT_cell h x hx
  have h6 := modT_top h x hx
  match x, hl with
  | [p, q, r], _ =>
    simp only [List.getD_cons_zero, List.getD_cons_succ] at h1 h2 h3 h4 h5 h6
    exact ⟨p.toNat, q.toNat, r.toNat, by omega, by omega, by omega, by omega, by simp; omega⟩
theorem modT_nodup {ds : List Int} {act : List (List Int)} (h : modT ds act = true) : act.Nodup := List.Pairwise.imp (fun h => ltL_ne h) (modT_asc h)
theorem rowM_mem {ds : List Int} {act : List (List Int)} (h : modT ds act = true) (n b c : Nat) : (rowM n b act).testBit c = true ↔ [(n : Int), (b : Int), (c : Int)] ∈ act := by
  constructor
  · intro hb
    obtain ⟨x, hx, h0, h1, h2⟩ := rowM_bit _ _ _ _ hb
    obtain ⟨n', b', c', _, _, _, _, rfl⟩ := modT_trp h x hx
    simp only [List.getD_cons_zero, List.getD_cons_succ, Int.toNat_natCast] at h0 h1 h2
    rw [← h0, ← h1, ← h2]; exact hx
  · exact rowM_has n b c act (modT_nodup h) fun x hx => by
      obtain ⟨n', b', c', _, _, _, _, rfl⟩ := modT_trp h x hx
      exact ⟨n', b', c', rfl⟩
def shfR (s : Nat) (x : List Int) : List Int := [x.getD 0 0, x.getD 1 0 + s, x.getD 2 0 + s]
def sumL (d1 : List Int) (a1 a2 : List (List Int)) : List (List Int) := a1 ++ a2.map (shfR d1.length)
/-- The mask of Sq^n of an element of the sum. -/
def sumQ (d1 : List Int) (a1 a2 : List (List Int)) (n b : Nat) : Nat := if b < d1.length then rowZ a1 n b else rowZ a2 n (b - d1.length) <<< d1.length
theorem rowZ_pos (act : List (List Int)) (n b : Nat) (h : 1 ≤ n) : rowZ act n b = rowM n b act := by unfold rowZ; rw [if_neg (by omega)]
theorem sum_rows {d1 d2 : List Int} {a1 a2 : List (List Int)} (h1 : modT d1 a1 = true) (h2 : modT d2 a2 = true) : ∀ x ∈ sumL d1 a1 a2, x.length = 3 ∧ (0 ≤ x.getD 1 0 ∧ x.getD 1 0 < (d1 ++ d2).length) ∧ 0 ≤ x.getD 2 0 ∧ x.getD 2 0 < (d1 ++ d2).length := fun x hx => by
  rw [List.length_append]
  rcases List.mem_append.1 hx with hx | hx
  · obtain ⟨n, b, c, _, _, hb, hc, rfl⟩ := modT_trp h1 x hx
    simp only [List.length_cons, List.length_nil, List.getD_cons_zero, List.getD_cons_succ]
    exact ⟨trivial, by omega, by omega, by omega⟩
  · obtain ⟨y, hy, rfl⟩ := List.mem_map.1 hx
    obtain ⟨n, b, c, _, _, hb, hc, rfl⟩ := modT_trp h2 y hy
    simp only [shfR, List.length_cons, List.length_nil, List.getD_cons_zero, List.getD_cons_succ]
    exact ⟨trivial, by omega, by omega, by omega⟩
theorem sum_nodup {d1 d2 : List Int} {a1 a2 : List (List Int)} (h1 : modT d1 a1 = true) (h2 : modT d2 a2 = true) : (sumL d1 a1 a2).Nodup := by
  unfold sumL
  rw [List.nodup_append]
  refine ⟨modT_nodup h1, ?_, fun x hx y hy e => ?_⟩
  · rw [List.Nodup, List.pairwise_map]
    refine List.Pairwise.imp_of_mem (fun {x y} hx hy hne e => hne ?_) (modT_nodup h2)
    obtain ⟨n, b, c, _, _, hb, hc, rfl⟩ := modT_trp h2 x hx
    obtain ⟨n', b', c', _, _, hb', hc', rfl⟩ := modT_trp h2 y hy
    simp only [shfR, List.getD_cons_zero, List.getD_cons_succ, List.cons.injEq, and_true] at e
    rw [show n = n' by omega, show b = b' by omega, show c = c' by omega]
  · subst e
    obtain ⟨n, b, c, _, _, hb, hc, e⟩ := modT_trp h1 x hx
    obtain ⟨y, hy, e2⟩ := List.mem_map.1 hy
    obtain ⟨n', b', c', _, _, hb', hc', rfl⟩ := modT_trp h2 y hy
    rw [e] at e2
    simp only [shfR, List.getD_cons_zero, List.getD_cons_succ, List.cons.injEq, and_true] at e2
    omega
theorem sum_mem {d1 d2 : List Int} {a1 a2 : List (List Int)} (h1 : modT d1 a1 = true) (h2 : modT d2 a2 = true) (x : List Int) :
    x ∈ sumL d1 a1 a2 ↔ ∃ n b c : Nat, 1 ≤ n ∧ n ≤ 20 ∧ b < (d1 ++ d2).length ∧ c < (d1 ++ d2).length ∧ (sumQ d1 a1 a2 n b).testBit c = true ∧ x = [(n : Int), (b : Int), (c : Int)] := by
  rw [List.length_append]
  constructor
  · intro hx
    rcases List.mem_append.1 hx with hx | hx
    · obtain ⟨n, b, c, hn1, hn2, hb, hc, rfl⟩ := modT_trp h1 x hx
      refine ⟨n, b, c, hn1, hn2, by omega, by omega, ?_, rfl⟩
      unfold sumQ
      rw [if_pos hb, rowZ_pos _ _ _ hn1]
      exact (rowM_mem h1 n b c).2 hx
    · obtain ⟨y, hy, rfl⟩ := List.mem_map.1 hx
      obtain ⟨n, b, c, hn1, hn2, hb, hc, rfl⟩ := modT_trp h2 y hy
      refine ⟨n, b + d1.length, c + d1.length, hn1, hn2, by omega, by omega, ?_, by simp [shfR]⟩
      unfold sumQ
      rw [if_neg (by omega), rowZ_pos _ _ _ hn1, Nat.add_sub_cancel, Nat.testBit_shiftLeft]
      simp only [ge_iff_le, Nat.le_add_left, decide_true, Bool.true_and, Nat.add_sub_cancel]
      exact (rowM_mem h2 n b c).2 hy
  · rintro ⟨n, b, c, hn1, hn2, hb, hc, ht, rfl⟩
    unfold sumQ at ht
    by_cases hlt : b < d1.length
    · rw [if_pos hlt, rowZ_pos _ _ _ hn1] at ht
      exact List.mem_append_left _ ((rowM_mem h1 n b c).1 ht)
    · rw [if_neg hlt, rowZ_pos _ _ _ hn1, Nat.testBit_shiftLeft] at ht
      simp only [ge_iff_le, Bool.and_eq_true, decide_eq_true_eq] at ht
      refine List.mem_append_right _ (List.mem_map.2 ⟨_, (rowM_mem h2 n (b - d1.length) (c - d1.length)).1 ht.2, ?_⟩)
      simp only [shfR, List.getD_cons_zero, List.getD_cons_succ]
      rw [show (((b - d1.length : Nat) : Int) + (d1.length : Int)) = b by omega, show (((c - d1.length : Nat) : Int) + (d1.length : Int)) = c by omega]
theorem stems_append {d1 d2 : List Int} {a1 a2 : List (List Int)} (h1 : modT d1 a1 = true) (h2 : modT d2 a2 = true) : Stems (d1 ++ d2) := fun i hi => by
  rw [List.length_append] at hi
  by_cases h : i < d1.length
  · rw [List.getD_eq_getElem?_getD, List.getElem?_append_left h, ← List.getD_eq_getElem?_getD]; exact modT_stem h1 i
  · rw [List.getD_eq_getElem?_getD, List.getElem?_append_right (by omega), ← List.getD_eq_getElem?_getD]; exact modT_stem h2 _
theorem sum_mod {d1 d2 : List Int} {a1 a2 : List (List Int)} (h1 : modT d1 a1 = true) (h2 : modT d2 a2 = true) (hl : (d1 ++ d2).length ≤ 16) :
    oddL ((sumL d1 a1 a2).map (plcR (d1 ++ d2))) = modN (oSq (d1 ++ d2) (sumQ d1 a1 a2)) (d1 ++ d2).length 20 :=
  ord_mod (stems_append h1 h2) hl _ _ (sum_nodup h1 h2) (sum_mem h1 h2)
theorem rowZ_small {ds : List Int} {act : List (List Int)} (h : modT ds act = true) (n b : Nat) (hn : 1 ≤ n) : rowZ act n b < 2 ^ ds.length := by
  rw [rowZ_pos _ _ _ hn]
  apply Nat.lt_pow_two_of_testBit
  intro c hc
  cases e : (rowM n b act).testBit c
  · rfl
  · obtain ⟨n', b', c', _, _, _, h4, e2⟩ := modT_trp h _ ((rowM_mem h n b c).1 e)
    simp only [List.cons.injEq, and_true] at e2
    omega
theorem sumQ_lt {d1 d2 : List Int} {a1 a2 : List (List Int)} (h1 : modT d1 a1 = true) (h2 : modT d2 a2 = true) (hl : (d1 ++ d2).length ≤ 16) (n b : Nat) (hn : 1 ≤ n) : sumQ d1 a1 a2 n b < 65536 := by
  rw [List.length_append] at hl
  unfold sumQ
  split
  · exact Nat.lt_of_lt_of_le (rowZ_small h1 n b hn) (Nat.le_trans (Nat.pow_le_pow_right (by decide) (show d1.length ≤ 16 by omega)) (by decide))
  · have := rowZ_small h2 n (b - d1.length) hn
    rw [Nat.shiftLeft_eq]
    have h3 : rowZ a2 n (b - d1.length) * 2 ^ d1.length < 2 ^ d2.length * 2 ^ d1.length := Nat.mul_lt_mul_of_pos_right this (Nat.two_pow_pos _)
    rw [← Nat.pow_add] at h3
    exact Nat.lt_of_lt_of_le h3 (Nat.le_trans (Nat.pow_le_pow_right (by decide) (show d2.length + d1.length ≤ 16 by omega)) (by decide))
/-- What SumOfModules answers. -/
def sumOk (d1 : List Int) (a1 : List (List Int)) (d2 : List Int) (a2 : List (List Int)) : Bool := isMod d1 a1 && isMod d2 a2
def sumC (d1 : List Int) (a1 : List (List Int)) (d2 : List Int) (a2 : List (List Int)) : Int := if sumOk d1 a1 d2 a2 then (if (d1 ++ d2).length ≤ 16 then 0 else 3) else 1
def sumD (d1 : List Int) (a1 : List (List Int)) (d2 : List Int) (a2 : List (List Int)) : List Int := if sumOk d1 a1 d2 a2 && decide ((d1 ++ d2).length ≤ 16) then srtD (d1 ++ d2) else []
def sumA (d1 : List Int) (a1 : List (List Int)) (d2 : List Int) (a2 : List (List Int)) : List (List Int) := if sumOk d1 a1 d2 a2 && decide ((d1 ++ d2).length ≤ 16) then modN (oSq (d1 ++ d2) (sumQ d1 a1 a2)) (d1 ++ d2).length 20 else []
theorem isMod_T2 {ds : List Int} {act : List (List Int)} (h : isMod ds act = true) : modT ds act = true := by simp only [isMod, Bool.and_eq_true] at h; exact h.1
theorem sum_bounds (d1 : List Int) (a1 : List (List Int)) (d2 : List Int) (a2 : List (List Int)) : (sumD d1 a1 d2 a2).length ≤ 16 ∧ cnt (sumA d1 a1 d2 a2) ≤ 15360 := by
  unfold sumD sumA
  cases h : sumOk d1 a1 d2 a2 && decide ((d1 ++ d2).length ≤ 16)
  · simp [cnt]
  · simp only [sumOk, Bool.and_eq_true, decide_eq_true_eq] at h
    obtain ⟨⟨h1, h2⟩, h3⟩ := h
    have hs := stems_append (isMod_T2 h1) (isMod_T2 h2)
    have q := (modN_len (oSq (d1 ++ d2) (sumQ d1 a1 a2)) (d1 ++ d2).length 20).2
    have q2 : (d1 ++ d2).length * (d1 ++ d2).length ≤ 16 * 16 := Nat.mul_le_mul h3 h3
    simp only [if_true]
    rw [srtD_len hs]
    exact ⟨h3, by omega⟩
end Go.Proofs.Ytljfpkhgijangaa

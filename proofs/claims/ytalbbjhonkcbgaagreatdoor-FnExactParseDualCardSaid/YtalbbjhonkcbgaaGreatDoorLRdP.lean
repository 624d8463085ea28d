/- Texts that are read: their parts and their numbers. Plain Lean; no program. -/
import Derived.Test.YtalbbjhonkcbgaaGreatDoorLTx
import Derived.Lib.SplitLaws
import Derived.Lib.ParseIntBTie
import Derived.Lib.ItoaNum
namespace Go.Proofs.YtalbbjhonkcbgaaGreatDoor

/-- The parts of a text between the bytes c. -/
def spl (c : UInt8) : List UInt8 → List (List UInt8)
  | [] => [[]]
  | b :: l => if b = c then [] :: spl c l else (b :: (spl c l).headD []) :: (spl c l).tail
theorem spl_ne (c : UInt8) : ∀ l : List UInt8, spl c l ≠ []
  | [] => by simp [spl]
  | b :: l => by rw [spl]; split <;> simp
theorem spl_snoc (c b : UInt8) : ∀ (l : List UInt8) (out : List (List UInt8)) (cur : List UInt8), spl c l = out ++ [cur] → spl c (l ++ [b]) = if b = c then out ++ [cur] ++ [[]] else out ++ [cur ++ [b]]
  | [], out, cur, h => by
    cases out with
    | nil =>
      have hc : cur = [] := by simpa [spl] using h.symm
      subst hc
      by_cases e : b = c <;> simp [spl, e]
    | cons o out => simp [spl] at h
  | a :: l, out, cur, h => by
    rw [List.cons_append, spl]
    rw [spl] at h
    have hne := spl_ne c l
    by_cases e : a = c
    · rw [if_pos e] at h ⊢
      cases out with
      | nil => simp at h; exact absurd h.2 hne
      | cons o out =>
        simp only [List.cons_append, List.cons.injEq] at h
        rw [spl_snoc c b l out cur h.2, ← h.1]
        split <;> simp
    · rw [if_neg e] at h ⊢
      cases out with
      | nil =>
        simp only [List.nil_append, List.cons.injEq] at h
        have hs : spl c l = [] ++ [(spl c l).headD []] := by
          cases hq : spl c l with
          | nil => exact absurd hq hne
          | cons x r => rw [hq] at h; simp at h; simp [h.2]
        rw [spl_snoc c b l [] _ hs]
        obtain ⟨h1, h2⟩ := h
        subst h1
        split <;> simp
      | cons o out =>
        simp only [List.cons_append, List.cons.injEq] at h
        have hs : spl c l = ((spl c l).headD [] :: out) ++ [cur] := by
          cases hq : spl c l with
          | nil => exact absurd hq hne
          | cons x r => rw [hq] at h; simp at h; simp [h.2]
        rw [spl_snoc c b l _ _ hs]
        split
        · simp [← h.1]
        · simp [← h.1]
/-- The program's strings.Split at one byte. -/
theorem splitK_spl (c : UInt8) : ∀ s : List UInt8, Go.Lib.splitK [c] 0 (Go.Lib.count s [c]) s = spl c s
  | [] => by rw [Go.Lib.count_one]; rfl
  | b :: l => by
    have ih := splitK_spl c l
    rw [spl]
    by_cases e : b = c
    · subst e
      rw [Go.Lib.count_cons_eq, if_pos rfl, Nat.add_comm 1, Go.Lib.splitK]
      have hix : Go.Lib.index (b :: l) [b] = 0 := by rw [Go.Lib.index]; simp [List.isPrefixOf]
      rw [hix, if_neg (by decide), ← ih]
      simp
    · rw [Go.Lib.count_cons_ne b c l e, if_neg e, ← ih]
      have hp : ([c] : List UInt8).isPrefixOf (b :: l) = false := by simp [List.isPrefixOf, Ne.symm e]
      have hix : Go.Lib.index (b :: l) [c] = if Go.Lib.index l [c] == -1 then -1 else Go.Lib.index l [c] + 1 := by rw [Go.Lib.index, hp]; simp
      by_cases hm : Go.Lib.index l [c] = -1
      · rw [Go.Lib.count_miss hm]; simp [Go.Lib.splitK]
      · have hge := Go.Lib.index_ge l [c]
        obtain ⟨j, hj⟩ : ∃ j : Nat, Go.Lib.index l [c] = j := ⟨(Go.Lib.index l [c]).toNat, by omega⟩
        rw [Go.Lib.count_hit (by simp) hj, Nat.add_comm 1, Go.Lib.splitK, Go.Lib.splitK, hix, if_neg (fun e => hm (beq_iff_eq.1 e)), if_neg (by rw [beq_iff_eq]; omega), if_neg (fun e => hm (beq_iff_eq.1 e)), hj]
        have e1 : ((j : Int) + 1).toNat = j + 1 := by omega
        have e2 : ((j : Int)).toNat = j := by omega
        rw [e1, e2]
        simp
theorem splitB_spl (c : UInt8) (s : List UInt8) : Go.Lib.splitB ⟨#[c]⟩ 0 (Go.Lib.countB (bs s) ⟨#[c]⟩) (bs s) = (spl c s).map bs := by
  have h := Go.Lib.splitB_data ⟨#[c]⟩ 0 (Go.Lib.countB (bs s) ⟨#[c]⟩) (bs s)
  have e : Go.Lib.countB (bs s) ⟨#[c]⟩ = Go.Lib.count s [c] := by show Go.Lib.count (bs s).data.toList [c] = _; rw [bs_data]
  rw [bs_data, e] at h
  have h2 := splitK_spl c s
  rw [show (ByteArray.mk #[c]).data.toList = [c] from rfl, h2] at h
  rw [e]
  have h3 := congrArg (List.map bs) h
  rw [List.map_map] at h3
  rw [← h3]
  conv => lhs; rw [← List.map_id (Go.Lib.splitB _ _ _ _)]
  apply List.map_congr_left
  intro x _
  exact (Go.Lib.mk_data x).symm
theorem spl_len (c : UInt8) (s : List UInt8) : (spl c s).length = Go.Lib.countB (bs s) ⟨#[c]⟩ + 1 := by
  have h := congrArg List.length (splitB_spl c s)
  rw [List.length_map] at h
  rw [← h, Go.Lib.splitB_all ⟨#[c]⟩ (Nat.le_refl 1) 0 _ (bs s) rfl]
theorem spl_le (c : UInt8) (s : List UInt8) : (spl c s).length ≤ s.length + 1 := by
  rw [spl_len]
  have := Go.Lib.countB_le ⟨#[c]⟩ (Nat.le_refl 1) _ (bs s) (Nat.le_refl _)
  rw [bs_size] at this
  omega
theorem spl_part (c : UInt8) : ∀ (s : List UInt8), ∀ w ∈ spl c s, w.length ≤ s.length ∧ c ∉ w
  | [], w, hw => by simp [spl] at hw; subst hw; simp
  | b :: l, w, hw => by
    have hne := spl_ne c l
    rw [spl] at hw
    by_cases e : b = c
    · rw [if_pos e] at hw
      rcases List.mem_cons.1 hw with rfl | hw
      · simp
      · have := spl_part c l w hw
        exact ⟨by simp; omega, this.2⟩
    · rw [if_neg e] at hw
      cases hq : spl c l with
      | nil => exact absurd hq hne
      | cons x r =>
        rw [hq] at hw
        rcases List.mem_cons.1 hw with rfl | hw
        · have := spl_part c l x (by rw [hq]; exact List.mem_cons_self ..)
          simp at this ⊢
          exact ⟨this.1, Ne.symm e, this.2⟩
        · have := spl_part c l w (by rw [hq]; exact List.mem_cons_of_mem _ hw)
          exact ⟨by simp; omega, this.2⟩
/-- A digit. -/
def digB (b : UInt8) : Bool := decide (48 ≤ b.toNat) && decide (b.toNat ≤ 57)
/-- What digits spell. -/
def valN (w : List UInt8) : Nat := w.foldl (fun a b => a * 10 + (b.toNat - 48)) 0
theorem valN_snoc (w : List UInt8) (b : UInt8) : valN (w ++ [b]) = valN w * 10 + (b.toNat - 48) := by simp [valN, List.foldl_append]
theorem valN_lt : ∀ (k : Nat) (w : List UInt8), w.length = k → w.all digB = true → valN w < 10 ^ k
  | 0, w, hk, _ => by rw [List.eq_nil_of_length_eq_zero hk]; decide
  | k + 1, w, hk, h => by
    have hne : w ≠ [] := by intro e; subst e; simp at hk
    rw [← List.dropLast_concat_getLast hne] at h ⊢
    have hl : w.dropLast.length = k := by simp; omega
    rw [List.all_append, Bool.and_eq_true] at h
    have := valN_lt k _ hl h.1
    have h2 := h.2
    simp only [List.all_cons, List.all_nil, Bool.and_true, digB, Bool.and_eq_true, decide_eq_true_eq] at h2
    rw [valN_snoc, Nat.pow_succ]
    omega
/-- A numeral: digits, without a 0 ahead of others. -/
def canB (w : List UInt8) : Bool := !w.isEmpty && w.all digB && (decide (w.length ≤ 1) || w.headD 0 != 48)
theorem canB_one (b : UInt8) : canB [b] = digB b := by simp [canB]
theorem canB_snoc {w : List UInt8} (hw : w ≠ []) (b : UInt8) : canB (w ++ [b]) = (w.all digB && digB b && w.headD 0 != 48) := by
  cases w with
  | nil => exact absurd rfl hw
  | cons x r => simp [canB, Bool.and_assoc]
theorem valN_pos : ∀ (w : List UInt8), w ≠ [] → w.all digB = true → w.headD 0 ≠ 48 → 1 ≤ valN w
  | [], h, _, _ => absurd rfl h
  | x :: r, _, h, h0 => by
    have key : ∀ (r : List UInt8) (a : Nat), 1 ≤ a → 1 ≤ r.foldl (fun a (b : UInt8) => a * 10 + (b.toNat - 48)) a := by
      intro r
      induction r with
      | nil => intro a ha; exact ha
      | cons y r ih => intro a ha; exact ih _ (by show 1 ≤ a * 10 + (y.toNat - 48); omega)
    simp only [List.all_cons, digB, Bool.and_eq_true, decide_eq_true_eq] at h
    have h1 : x.toNat ≠ 48 := fun e => h0 (UInt8.toNat_inj.1 e)
    exact key r _ (by show 1 ≤ 0 * 10 + (x.toNat - 48); omega)
theorem dec_can : ∀ n : Nat, canB (Go.Lib.decDigits n) = true ∧ valN (Go.Lib.decDigits n) = n ∧ (1 ≤ n → (Go.Lib.decDigits n).headD 0 ≠ 48) := by
  intro n
  induction n using Nat.strongRecOn with
  | _ n ih =>
    by_cases h : n < 10
    · rw [Go.Lib.decDigits, dif_pos h]
      have e : (UInt8.ofNat (48 + n)).toNat = 48 + n := by simp; omega
      refine ⟨by rw [canB_one]; simp only [digB, e, Bool.and_eq_true, decide_eq_true_eq]; omega, by simp only [valN, List.foldl_cons, List.foldl_nil, e]; omega, fun h1 e2 => ?_⟩
      have e3 : UInt8.ofNat (48 + n) = 48 := e2
      have := congrArg UInt8.toNat e3
      rw [e] at this
      have : 48 + n = 48 := this
      omega
    · obtain ⟨h1, h2, h3⟩ := ih (n / 10) (by omega)
      rw [Go.Lib.decDigits, dif_neg h]
      have e : (UInt8.ofNat (48 + n % 10)).toNat = 48 + n % 10 := by simp; omega
      have hne : Go.Lib.decDigits (n / 10) ≠ [] := by intro e; rw [e] at h1; simp [canB] at h1
      have hd : (Go.Lib.decDigits (n / 10) ++ [UInt8.ofNat (48 + n % 10)]).headD 0 = (Go.Lib.decDigits (n / 10)).headD 0 := by
        cases hq : Go.Lib.decDigits (n / 10) with
        | nil => exact absurd hq hne
        | cons x r => rfl
      have h30 := h3 (by omega)
      refine ⟨?_, by rw [valN_snoc, h2, e]; omega, fun _ => by rw [hd]; exact h30⟩
      rw [canB_snoc hne]
      simp only [canB, Bool.and_eq_true] at h1
      simp only [Bool.and_eq_true, bne_iff_ne]
      exact ⟨⟨h1.1.2, by simp only [digB, e, Bool.and_eq_true, decide_eq_true_eq]; omega⟩, h30⟩
theorem can_dec : ∀ (k : Nat) (w : List UInt8), w.length = k → canB w = true → Go.Lib.decDigits (valN w) = w
  | 0, w, hk, h => by rw [List.eq_nil_of_length_eq_zero hk] at h; simp [canB] at h
  | k + 1, w, hk, h => by
    have hne : w ≠ [] := by intro e; subst e; simp at hk
    rw [← List.dropLast_concat_getLast hne] at h ⊢
    have hl : w.dropLast.length = k := by simp; omega
    generalize w.dropLast = p at *
    generalize w.getLast hne = b at *
    rw [valN_snoc]
    by_cases hp : p = []
    · subst hp
      rw [List.nil_append, canB_one] at h
      simp only [digB, Bool.and_eq_true, decide_eq_true_eq] at h
      rw [Go.Lib.decDigits, dif_pos (by simp [valN]; omega)]
      simp only [valN, List.foldl_nil, Nat.zero_mul, Nat.zero_add, List.nil_append, List.cons.injEq, and_true]
      rw [show 48 + (b.toNat - 48) = b.toNat by omega]
      simp
    · rw [canB_snoc hp] at h
      simp only [Bool.and_eq_true, bne_iff_ne] at h
      have hpos := valN_pos p hp h.1.1 h.2
      have hb := h.1.2
      simp only [digB, Bool.and_eq_true, decide_eq_true_eq] at hb
      have hc : canB p = true := by
        cases p with
        | nil => exact absurd rfl hp
        | cons x r => simp only [canB, Bool.and_eq_true, Bool.or_eq_true, bne_iff_ne]; exact ⟨⟨by simp, h.1.1⟩, .inr h.2⟩
      have ih := can_dec k p hl hc
      rw [Go.Lib.decDigits, dif_neg (by omega), show (valN p * 10 + (b.toNat - 48)) / 10 = valN p by omega, ih, show (valN p * 10 + (b.toNat - 48)) % 10 = b.toNat - 48 by omega, show 48 + (b.toNat - 48) = b.toNat by omega]
      simp
theorem can_iff (w : List UInt8) (n : Nat) : Go.Lib.decDigits n = w ↔ canB w = true ∧ n = valN w := by
  constructor
  · rintro rfl
    have := dec_can n
    exact ⟨this.1, this.2.1.symm⟩
  · rintro ⟨h, rfl⟩
    exact can_dec _ w rfl h
theorem parseM_can : ∀ (w : List UInt8) (a : Nat), w.all digB = true → w.length ≤ 15 → a * 10 ^ w.length + 10 ^ w.length ≤ 10 ^ 15 → Go.Lib.parseUintM 18446744073709551615 a w = .ok (w.foldl (fun a (b : UInt8) => a * 10 + (b.toNat - 48)) a)
  | [], a, _, _, _ => rfl
  | c :: r, a, h, hl, ha => by
    simp only [List.all_cons, digB, Bool.and_eq_true, decide_eq_true_eq] at h
    simp only [List.length_cons] at hl ha
    have hp : 1 ≤ 10 ^ r.length := Nat.one_le_pow _ _ (by decide)
    rw [Nat.pow_succ] at ha
    have ha2 : (a * 10 + (c.toNat - 48)) * 10 ^ r.length + 10 ^ r.length ≤ 10 ^ 15 := by
      have : (a * 10 + (c.toNat - 48)) * 10 ^ r.length ≤ (a * 10 + 9) * 10 ^ r.length := Nat.mul_le_mul_right _ (by omega)
      have e : (a * 10 + 9) * 10 ^ r.length + 10 ^ r.length = a * (10 ^ r.length * 10) + 10 ^ r.length * 10 := by
        generalize 10 ^ r.length = q
        rw [Nat.add_mul, Nat.mul_comm q 10, Nat.mul_assoc]; omega
      omega
    have hb : a * 10 + (c.toNat - 48) < 10 ^ 15 := by
      have : a * 10 + (c.toNat - 48) ≤ (a * 10 + (c.toNat - 48)) * 10 ^ r.length := Nat.le_mul_of_pos_right _ hp
      omega
    rw [Go.Lib.parseUintM, if_pos ⟨h.1.1, h.1.2⟩, if_neg (by omega), if_neg (by omega), List.foldl_cons]
    exact parseM_can r _ h.2 (by omega) ha2
theorem parse_can {w : List UInt8} (h : canB w = true) (hl : w.length ≤ 15) : Go.Lib.parseIntB 64 w = .ok (valN w : Int) := by
  simp only [canB, Bool.and_eq_true] at h
  cases w with
  | nil => simp at h
  | cons c r =>
    have hd := h.1.2
    have hd1 := hd
    simp only [List.all_cons, digB, Bool.and_eq_true, decide_eq_true_eq] at hd1
    have hv := valN_lt _ _ rfl hd
    have hp : 10 ^ (c :: r).length ≤ 10 ^ 15 := Nat.pow_le_pow_right (by decide) hl
    rw [Go.Lib.parseIntB_plain 64 c r (by omega) (by omega), Go.Lib.parseUintB, if_neg (by simp), show (2 : Nat) ^ 64 - 1 = 18446744073709551615 by decide, parseM_can (c :: r) 0 hd hl (by omega)]
    show Go.Lib.signlessC _ (.ok (valN (c :: r))) = _
    rw [Go.Lib.signlessC, if_neg (by omega)]
/-- A number that the program reads. -/
def readB (w : List UInt8) : Bool := decide (w.length ≤ 15) && canB w
/-- What the reference reads. -/
def valW (w : List UInt8) : Int := if decide (w.length ≤ 9) && canB w then (valN w : Int) else -1
theorem valN_small {w : List UInt8} (h : readB w = true) : valN w < 1000000000000000 := by
  simp only [readB, Bool.and_eq_true, decide_eq_true_eq, canB] at h
  have hv := valN_lt _ _ rfl h.2.1.2
  have hp : 10 ^ w.length ≤ 10 ^ 15 := Nat.pow_le_pow_right (by decide) h.1
  omega
theorem valW_in {w : List UInt8} (h : 0 ≤ valW w) : readB w = true ∧ valW w = valN w := by
  unfold valW at h ⊢
  split at h
  · rename_i e
    rw [if_pos e]
    simp only [Bool.and_eq_true, decide_eq_true_eq] at e
    exact ⟨by simp only [readB, e.2, Bool.and_true, decide_eq_true_eq]; omega, rfl⟩
  · omega
theorem valW_of {w : List UInt8} (h : readB w = true) (hs : valN w ≤ 999999999) : valW w = valN w := by
  simp only [readB, Bool.and_eq_true, decide_eq_true_eq] at h
  unfold valW
  rw [if_pos]
  simp only [h.2, Bool.and_true, decide_eq_true_eq]
  have e := can_dec _ w rfl h.2
  have hn := Go.Lib.decDigits_length (valN w)
  rw [e] at hn
  rw [hn]
  by_cases h10 : Go.Lib.nDigits (valN w) ≤ 9
  · exact h10
  · exfalso
    by_cases h0 : valN w = 0
    · rw [h0, Go.Lib.nDigits_small (by decide)] at h10; omega
    · have key : ∀ (k u : Nat), 1 ≤ u → u < 10 ^ k → Go.Lib.nDigits u ≤ k := by
        intro k
        induction k with
        | zero => intro u h1 h2; omega
        | succ k ih =>
          intro u h1 h2
          by_cases hu : u < 10
          · rw [Go.Lib.nDigits_small hu]; omega
          · rw [Go.Lib.nDigits_big hu]
            have := ih (u / 10) (by omega) (by rw [Nat.pow_succ] at h2; omega)
            omega
      exact h10 (key 9 (valN w) (by omega) (by omega))
end Go.Proofs.YtalbbjhonkcbgaaGreatDoor

/- ParseDual: what the program and the reference read. Plain Lean; no program. -/
import Derived.Test.YtalbbjhonkcbgaaGreatDoorLRdC
import Derived.Test.YtalbbjhonkcbgaaGreatDoorLRdM
import Derived.Test.YtalbbjhonkcbgaaGreatDoorLRdI
import Derived.Test.YtalbbjhonkcbgaaGreatDoorLTxE
import Derived.Test.YtalbbjhonkcbgaaGreatDoorLJoin
namespace Go.Proofs.YtalbbjhonkcbgaaGreatDoor

def exaW (w : List UInt8) : Bool := (Go.Lib.cut (Go.Lib.trimPrefix w [120]) [94]).2.2
def plcW (w : List UInt8) : List UInt8 := (Go.Lib.cut (Go.Lib.trimPrefix w [120]) [94]).1
def powW (w : List UInt8) : List UInt8 := (Go.Lib.cut (Go.Lib.trimPrefix w [120]) [94]).2.1
/-- A word that the program reads. -/
def wOk (w : List UInt8) : Bool := Go.Lib.hasPrefix w [120] && readB (plcW w) && (!exaW w || readB (powW w))
def wI (w : List UInt8) : Nat := valN (plcW w)
def wN (w : List UInt8) : Nat := if exaW w then valN (powW w) else 1
def padTo (out : List Int) (n : Nat) : List Int := out ++ List.replicate (n - out.length) 0
def stepB (w : List UInt8) (out : List Int) : Bool := wOk w && decide (out.length < wI w) && decide (wI w ≤ 20)
def rdF : List (List UInt8) → List Int → Option (List Int)
  | [], out => some out
  | w :: ws, out => if stepB w out then rdF ws (padTo out (wI w - 1) ++ [(wN w : Int)]) else none
def rmOk (s : List UInt8) : Bool := (s == [49]) || (match rdF (spl 32 s) [] with | some r => mtW r == s | none => false)
def rmV (s : List UInt8) : List Int := if s = [49] then [] else (rdF (spl 32 s) []).getD []
/-- The reference's. -/
def lN (w : List UInt8) : Int := if 1 < ((spl 94 w).getD 0 []).length ∧ ((spl 94 w).getD 0 []).headD 0 = 120 then valW (((spl 94 w).getD 0 []).drop 1) else -1
def lK (w : List UInt8) : Int := if (spl 94 w).length = 2 then valW ((spl 94 w).getD 1 []) else 1
def lOk (w : List UInt8) : Bool := decide ((spl 94 w).length ≤ 2) && (decide (1 ≤ lN w) && decide (lN w ≤ 10)) && (decide (1 ≤ lK w) && decide (lK w ≤ 40))
def pwR (n : Nat) (e : Int) : List Int := List.replicate (n - 1) 0 ++ [e]
def lrF : List (List UInt8) → List Int → List Int
  | [], out => out
  | w :: ws, out => if lOk w then lrF ws (joinL out (pwR (lN w).toNat (lK w))) else [0]
def lrd (s : List UInt8) : List Int := if s = [49] then [] else lrF (spl 32 s) []
def rfT (t : List UInt8) : List (List Int) := if t = [48] then [] else ((spl 43 t).take 2001).map lrd
def pduB (t : List UInt8) : Bool := arT (rfT t) && (sumW mtW (rfT t) == t)
def pduL (t : List UInt8) : List (List Int) := if pduB t then rfT t else []
def pduC (t : List UInt8) : Int := if pduB t then 0 else 6
theorem spl_join (c : UInt8) : ∀ (ws : List (List UInt8)), ws ≠ [] → (∀ w ∈ ws, c ∉ w) → spl c (Go.Lib.join ws [c]) = ws
  | [], h, _ => absurd rfl h
  | [w], _, h => by rw [Go.Lib.join_one]; exact spl_none w (h w (List.mem_cons_self ..))
  | w :: v :: ws, _, h => by
    have e : Go.Lib.join (w :: v :: ws) [c] = w ++ c :: Go.Lib.join (v :: ws) [c] := by
      rw [Go.Lib.join_cons, Go.Lib.join_cons]
      simp [Go.Lib.joinTail]
    rw [e, spl_cut w _ (h w (List.mem_cons_self ..)), spl_join c (v :: ws) (by simp) fun x hx => h x (List.mem_cons_of_mem _ hx)]
theorem dec_dig (n : Nat) : ∀ b ∈ dec (n : Int), digB b = true := by
  have := (dec_can n).1
  simp only [canB, Bool.and_eq_true, List.all_eq_true] at this
  unfold dec
  rw [Int.toNat_natCast]
  exact this.1.2
theorem dec_no (n : Nat) (c : UInt8) (hc : digB c = false) : c ∉ dec (n : Int) := fun h => by
  have := dec_dig n c h
  rw [hc] at this; cases this
theorem nDig_le : ∀ (k u : Nat), 1 ≤ k → u < 10 ^ k → Go.Lib.nDigits u ≤ k
  | 0, u, h, _ => by omega
  | k + 1, u, _, h2 => by
    by_cases hu : u < 10
    · rw [Go.Lib.nDigits_small hu]; omega
    · rw [Go.Lib.nDigits_big hu]
      by_cases hk : k = 0
      · subst hk; simp at h2; omega
      · have := nDig_le k (u / 10) (by omega) (by rw [Nat.pow_succ] at h2; omega)
        omega
theorem dec_lenG (n : Nat) (h : n < 1000000000000000) : (dec (n : Int)).length ≤ 15 := by
  unfold dec
  rw [Int.toNat_natCast, Go.Lib.decDigits_length]
  exact nDig_le 15 n (by decide) (by simpa using h)
theorem dec_read (n : Nat) (h : n < 1000000000000000) : readB (dec (n : Int)) = true ∧ valN (dec (n : Int)) = n := by
  have h1 := dec_lenG n h
  have h2 := dec_can n
  unfold dec at h1 ⊢
  rw [Int.toNat_natCast] at h1 ⊢
  exact ⟨by simp only [readB, h2.1, Bool.and_true, decide_eq_true_eq]; exact h1, h2.2.1⟩
theorem dec_ne (n : Nat) : dec (n : Int) ≠ [] := fun e => by
  have := (dec_can n).1
  unfold dec at e
  rw [Int.toNat_natCast] at e
  rw [e] at this; simp [canB] at this
theorem cut_yes (p l : List UInt8) (c : UInt8) (h : c ∉ p) : Go.Lib.cut (p ++ c :: l) [c] = (p, l, true) := by
  rcases cut_c c (p ++ c :: l) with ⟨h1, _⟩ | ⟨p', l', h1, h2, h3⟩
  · exact absurd (List.mem_append_right _ (List.mem_cons_self ..)) h1
  · have e1 := spl_cut p l h
    have e2 := spl_cut p' l' h2
    rw [← h1, e1] at e2
    simp only [List.cons.injEq] at e2
    rw [h3, ← e2.1]
    have : l' = l := by
      rw [← e2.1] at h1
      simpa using h1.symm
    rw [this]
theorem cut_no (p : List UInt8) (c : UInt8) (h : c ∉ p) : Go.Lib.cut p [c] = (p, [], false) := by
  rcases cut_c c p with ⟨_, h2⟩ | ⟨p', l', h1, _, _⟩
  · exact h2
  · exact absurd (by rw [h1]; exact List.mem_append_right _ (List.mem_cons_self ..)) h
theorem mfW_rest (k n : Nat) : Go.Lib.hasPrefix (mfW k (n : Int)) [120] = true ∧ Go.Lib.trimPrefix (mfW k (n : Int)) [120] = dec ((k : Int) + 1) ++ (if 1 < (n : Int) then [94] ++ dec (n : Int) else []) := by
  have h1 : Go.Lib.hasPrefix (mfW k (n : Int)) [120] = true := by
    unfold mfW Go.Lib.hasPrefix
    simp [List.isPrefixOf]
  refine ⟨h1, ?_⟩
  unfold Go.Lib.trimPrefix
  rw [h1]
  unfold mfW
  simp
theorem mfW_read (k n : Nat) (hk : k < 20) (h1 : 1 ≤ n) (hn : n < 1000000000000000) : wOk (mfW k (n : Int)) = true ∧ wI (mfW k (n : Int)) = k + 1 ∧ wN (mfW k (n : Int)) = n := by
  obtain ⟨e1, e2⟩ := mfW_rest k n
  have hd := dec_read (k + 1) (by omega)
  rw [Int.natCast_succ] at hd
  have hd0 : (94 : UInt8) ∉ dec ((k : Int) + 1) := by
    have := dec_no (k + 1) 94 (by decide)
    rwa [Int.natCast_succ] at this
  have hn2 := dec_read n hn
  by_cases h : 1 < (n : Int)
  · rw [if_pos h] at e2
    have hc := cut_yes (dec ((k : Int) + 1)) (dec (n : Int)) 94 hd0
    have hcut : Go.Lib.cut (Go.Lib.trimPrefix (mfW k (n : Int)) [120]) [94] = (dec ((k : Int) + 1), dec (n : Int), true) := by rw [e2]; exact hc
    unfold wOk wI wN plcW powW exaW
    rw [hcut, e1]
    exact ⟨by simp [hd.1, hn2.1], hd.2, by simp [hn2.2]⟩
  · rw [if_neg h, List.append_nil] at e2
    have hc := cut_no _ 94 hd0
    have hcut : Go.Lib.cut (Go.Lib.trimPrefix (mfW k (n : Int)) [120]) [94] = (dec ((k : Int) + 1), [], false) := by rw [e2]; exact hc
    unfold wOk wI wN plcW powW exaW
    rw [hcut, e1]
    exact ⟨by simp [hd.1], hd.2, by simp; omega⟩
theorem valW_dec (n : Nat) (h : n < 100) : valW (dec (n : Int)) = n := by
  have h1 := dec_read n (by omega)
  rw [valW_of h1.1 (by omega), h1.2]
theorem mfW_lread (k n : Nat) (hk : k < 10) (h1 : 1 ≤ n) (hn : n ≤ 40) : lOk (mfW k (n : Int)) = true ∧ lN (mfW k (n : Int)) = k + 1 ∧ lK (mfW k (n : Int)) = n := by
  have hd0 : (94 : UInt8) ∉ [120] ++ dec ((k : Int) + 1) := by
    have := dec_no (k + 1) 94 (by decide)
    rw [Int.natCast_succ] at this
    simp [this]
  have hlen : 1 ≤ (dec ((k : Int) + 1)).length := by
    have := dec_ne (k + 1)
    rw [Int.natCast_succ] at this
    exact List.length_pos_iff.2 this
  have hv := valW_dec (k + 1) (by omega)
  rw [Int.natCast_succ] at hv
  by_cases h : 1 < (n : Int)
  · have hs : spl 94 (mfW k (n : Int)) = [[120] ++ dec ((k : Int) + 1), dec (n : Int)] := by
      unfold mfW
      rw [if_pos h]
      show spl 94 (([120] ++ dec ((k : Int) + 1)) ++ 94 :: dec (n : Int)) = _
      rw [spl_cut _ _ hd0, spl_none _ (dec_no n 94 (by decide))]
    have e1 : lN (mfW k (n : Int)) = k + 1 := by
      unfold lN
      rw [hs]
      show (if 1 < ([120] ++ dec ((k : Int) + 1)).length ∧ ([120] ++ dec ((k : Int) + 1)).headD 0 = 120 then valW (([120] ++ dec ((k : Int) + 1)).drop 1) else -1) = _
      rw [if_pos ⟨by simp; omega, by simp⟩]
      simpa using hv
    have e2 : lK (mfW k (n : Int)) = n := by
      unfold lK
      rw [hs]
      show valW (dec (n : Int)) = _
      exact valW_dec n (by omega)
    refine ⟨?_, e1, e2⟩
    unfold lOk
    rw [e1, e2, hs]
    simp; omega
  · have hn1 : n = 1 := by omega
    have hs : spl 94 (mfW k (n : Int)) = [[120] ++ dec ((k : Int) + 1)] := by
      unfold mfW
      rw [if_neg h, List.append_nil, spl_none _ hd0]
    have e1 : lN (mfW k (n : Int)) = k + 1 := by
      unfold lN
      rw [hs]
      show (if 1 < ([120] ++ dec ((k : Int) + 1)).length ∧ ([120] ++ dec ((k : Int) + 1)).headD 0 = 120 then valW (([120] ++ dec ((k : Int) + 1)).drop 1) else -1) = _
      rw [if_pos ⟨by simp; omega, by simp⟩]
      simpa using hv
    have e2 : lK (mfW k (n : Int)) = n := by
      unfold lK
      rw [hs, hn1]
      rfl
    refine ⟨?_, e1, e2⟩
    unfold lOk
    rw [e1, e2, hs]
    simp; omega
/-- What has been read behind the words of the first k letters. -/
def stR (r : List Int) : Nat → List Int
  | 0 => []
  | k + 1 => if r.getD k 0 = 0 then stR r k else padTo (stR r k) k ++ [r.getD k 0]
theorem stR_succ (r : List Int) (k : Nat) : stR r (k + 1) = if r.getD k 0 = 0 then stR r k else padTo (stR r k) k ++ [r.getD k 0] := rfl
theorem padTo_len (out : List Int) (n : Nat) (h : out.length ≤ n) : (padTo out n).length = n := by simp [padTo]; omega
theorem padTo_step (out : List Int) (n : Nat) (h : out.length ≤ n) : padTo out (n + 1) = padTo out n ++ [0] := by
  unfold padTo
  rw [show n + 1 - out.length = (n - out.length) + 1 by omega, List.replicate_succ', List.append_assoc]
theorem padTo_self (out : List Int) (n : Nat) (h : out.length = n) : padTo out n = out := by unfold padTo; rw [h]; simp
theorem stR_ok (r : List Int) : ∀ k, k ≤ r.length → (stR r k).length ≤ k ∧ padTo (stR r k) k = r.take k
  | 0, _ => ⟨Nat.le_refl _, by simp [stR, padTo]⟩
  | k + 1, hk => by
    obtain ⟨h1, h2⟩ := stR_ok r k (by omega)
    have hg : r.getD k 0 = r[k] := by simp [show k < r.length by omega]
    unfold stR
    by_cases h : r.getD k 0 = 0
    · rw [if_pos h]
      refine ⟨by omega, ?_⟩
      rw [padTo_step _ _ h1, h2, List.take_succ_eq_append_getElem (by omega), ← hg, h]
    · rw [if_neg h]
      have hl : (padTo (stR r k) k ++ [r.getD k 0]).length = k + 1 := by rw [List.length_append, padTo_len _ _ h1]; rfl
      refine ⟨by omega, ?_⟩
      rw [padTo_self _ _ hl, h2, List.take_succ_eq_append_getElem (by omega), hg]
theorem stR_end {r : List Int} (h : lastOk r = true) : stR r r.length = r := by
  cases hr : r.length with
  | zero => rw [List.eq_nil_of_length_eq_zero hr]; rfl
  | succ m =>
    have hne : r.getD m 0 ≠ 0 := by
      simp only [lastOk, Bool.or_eq_true, decide_eq_true_eq, bne_iff_ne, ne_eq] at h
      rcases h with h | h
      · omega
      · rw [hr] at h; exact h
    have h2 := (stR_ok r m (by omega)).2
    have hg : r.getD m 0 = r[m] := by simp [show m < r.length by omega]
    rw [stR, if_neg hne, h2, hg, ← List.take_succ_eq_append_getElem (by omega), ← hr, List.take_length]
/-- Numbers that the texts are made of. -/
structure Mono (r : List Int) : Prop where
  len : r.length ≤ 10
  num : ∀ x ∈ r, 0 ≤ x ∧ x ≤ 40
  last : lastOk r = true
theorem Mono.at {r : List Int} (h : Mono r) (k : Nat) (hk : k < r.length) : ∃ n : Nat, r.getD k 0 = (n : Int) ∧ n ≤ 40 := by
  have h1 := h.num _ (List.getElem_mem hk)
  have hg : r.getD k 0 = r[k] := by simp [hk]
  exact ⟨r[k].toNat, by omega, by omega⟩
theorem mono_of {xss : List (List Int)} (h : arT xss = true) : ∀ r ∈ xss, Mono r := fun r hr => by
  have h1 := arT_row h r hr
  have h2 := exp_len h1.1
  refine ⟨h2, fun x hx => ?_, ?_⟩
  · have h3 := exp_num h1.1 x hx
    have h4 := (degA_top r 0 fun y hy => (exp_num h1.1 y hy).1).2 x hx
    have h5 := h1.2.2
    unfold deg at h5
    exact ⟨h3.1, by omega⟩
  · have := h1.1
    simp only [isExp, Bool.and_eq_true] at this
    exact this.2
theorem rdF_mfL {r : List Int} (h : Mono r) : ∀ (k : Nat), k ≤ r.length → ∀ ws, rdF (mfL r k ++ ws) [] = rdF ws (stR r k)
  | 0, _, ws => by simp [mfL, stR]
  | k + 1, hk, ws => by
    obtain ⟨n, hn, hn40⟩ := h.at k (by omega)
    rw [mfL, List.append_assoc, rdF_mfL h k (by omega), stR_succ]
    by_cases h0 : r.getD k 0 = 0
    · rw [if_pos h0, if_pos h0, List.nil_append]
    · rw [if_neg h0, if_neg h0, hn]
      have hl := h.len
      obtain ⟨e1, e2, e3⟩ := mfW_read k n (by omega) (by omega) (by omega)
      have h1 := (stR_ok r k (by omega)).1
      show rdF (mfW k (n : Int) :: ws) (stR r k) = _
      rw [rdF, if_pos (by unfold stepB; rw [e1, e2]; simp; omega), e2, e3]
      rfl
theorem joinL_pw (out : List Int) (k : Nat) (n : Int) (h : out.length ≤ k) : joinL out (pwR (k + 1) n) = padTo out k ++ [n] := by
  have hl : (pwR (k + 1) n).length = k + 1 := by simp [pwR]
  have hl2 : (padTo out k ++ [n]).length = k + 1 := by rw [List.length_append, padTo_len _ _ h]; rfl
  apply List.ext_getElem
  · rw [joinL_length, hl, hl2]; omega
  · intro i h1 h2
    rw [hl2] at h2
    have hj : (joinL out (pwR (k + 1) n))[i] = out.getD i 0 + (pwR (k + 1) n).getD i 0 := by simp [joinL]
    rw [hj]
    have e1 : (pwR (k + 1) n).getD i 0 = if i < k then 0 else n := by
      unfold pwR
      rw [List.getD_eq_getElem?_getD]
      by_cases hi : i < k
      · rw [List.getElem?_append_left (by simp; omega), if_pos hi]; simp [show i < k by omega]
      · rw [List.getElem?_append_right (by simp; omega), if_neg hi]; simp [show i = k by omega]
    have e2 : (padTo out k ++ [n])[i] = if i < k then out.getD i 0 else n := by
      by_cases hi : i < k
      · rw [List.getElem_append_left (by rw [padTo_len _ _ h]; exact hi), if_pos hi]
        unfold padTo
        by_cases ho : i < out.length
        · rw [List.getElem_append_left ho]; simp [ho]
        · rw [List.getElem_append_right (by omega), List.getElem_replicate]; simp [show out.length ≤ i by omega]
      · rw [List.getElem_append_right (by rw [padTo_len _ _ h]; omega), if_neg hi]; simp
    rw [e1, e2]
    by_cases hi : i < k
    · rw [if_pos hi, if_pos hi]; omega
    · rw [if_neg hi, if_neg hi]
      have : out.getD i 0 = 0 := by simp [show out.length ≤ i by omega]
      omega
theorem lrF_mfL {r : List Int} (h : Mono r) : ∀ (k : Nat), k ≤ r.length → ∀ ws, lrF (mfL r k ++ ws) [] = lrF ws (stR r k)
  | 0, _, ws => by simp [mfL, stR]
  | k + 1, hk, ws => by
    obtain ⟨n, hn, hn40⟩ := h.at k (by omega)
    rw [mfL, List.append_assoc, lrF_mfL h k (by omega), stR_succ]
    by_cases h0 : r.getD k 0 = 0
    · rw [if_pos h0, if_pos h0, List.nil_append]
    · rw [if_neg h0, if_neg h0, hn]
      have hl := h.len
      obtain ⟨e1, e2, e3⟩ := mfW_lread k n (by omega) (by omega) (by omega)
      have h1 := (stR_ok r k (by omega)).1
      show lrF (mfW k (n : Int) :: ws) (stR r k) = _
      rw [lrF, if_pos e1, e2, e3, show ((k : Int) + 1).toNat = k + 1 by omega, joinL_pw _ _ _ h1]
theorem mfW_bytes (k n : Nat) : ∀ b ∈ mfW k (n : Int), b = 120 ∨ b = 94 ∨ digB b = true := fun b hb => by
  unfold mfW at hb
  rcases List.mem_append.1 hb with hb | hb
  · rcases List.mem_append.1 hb with hb | hb
    · left; simpa using hb
    · have := dec_dig (k + 1) b (by rw [Int.natCast_succ]; exact hb)
      exact .inr (.inr this)
  · split at hb
    · rcases List.mem_append.1 hb with hb | hb
      · right; left; simpa using hb
      · exact .inr (.inr (dec_dig n b hb))
    · cases hb
theorem mfL_bytes {r : List Int} (h : Mono r) : ∀ (k : Nat), k ≤ r.length → ∀ w ∈ mfL r k, (∀ b ∈ w, b = 120 ∨ b = 94 ∨ digB b = true) ∧ w.headD 0 = 120
  | 0, _, w, hw => by simp [mfL] at hw
  | k + 1, hk, w, hw => by
    obtain ⟨n, hn, _⟩ := h.at k (by omega)
    unfold mfL at hw
    rcases List.mem_append.1 hw with hw | hw
    · exact mfL_bytes h k (by omega) w hw
    · split at hw
      · cases hw
      · rw [List.mem_singleton] at hw
        rw [hw, hn]
        exact ⟨mfW_bytes k n, by unfold mfW; simp⟩
theorem join_head (c : UInt8) (w : List UInt8) (ws : List (List UInt8)) (hw : w ≠ []) : (Go.Lib.join (w :: ws) [c]).headD 0 = w.headD 0 := by
  rw [Go.Lib.join_cons]
  cases w with
  | nil => exact absurd rfl hw
  | cons a l => rfl
theorem mfL_nil {r : List Int} (h : Mono r) (e : mfL r r.length = []) : r = [] := by
  have h1 := rdF_mfL h r.length (Nat.le_refl _) []
  rw [e, stR_end h.last] at h1
  simp [rdF] at h1
  exact h1
/-- Each reader takes a monomial's own text back. -/
theorem mono_read {r : List Int} (h : Mono r) : rmOk (mtW r) = true ∧ rmV (mtW r) = r ∧ lrd (mtW r) = r ∧ (43 : UInt8) ∉ mtW r ∧ mtW r ≠ [48] := by
  by_cases e : mfL r r.length = []
  · have hr := mfL_nil h e
    subst hr
    exact ⟨rfl, rfl, rfl, by decide, by decide⟩
  · have hm : mtW r = Go.Lib.join (mfL r r.length) [32] := if_neg e
    have hb := mfL_bytes h r.length (Nat.le_refl _)
    have hs : spl 32 (mtW r) = mfL r r.length := by
      rw [hm]
      exact spl_join 32 _ e fun w hw hc => by
        rcases (hb w hw).1 32 hc with h1 | h1 | h1
        · exact absurd h1 (by decide)
        · exact absurd h1 (by decide)
        · exact absurd h1 (by decide)
    have h1 := rdF_mfL h r.length (Nat.le_refl _) []
    have h2 := lrF_mfL h r.length (Nat.le_refl _) []
    rw [List.append_nil, stR_end h.last] at h1 h2
    have hhd : (mtW r).headD 0 = 120 := by
      cases hq : mfL r r.length with
      | nil => exact absurd hq e
      | cons w ws =>
        have h3 := (hb w (by rw [hq]; exact List.mem_cons_self ..)).2
        rw [hm, hq, join_head 32 w ws (fun e => by rw [e] at h3; exact absurd h3 (by decide)), h3]
    have n49 : mtW r ≠ [49] := fun e => by rw [e] at hhd; exact absurd hhd (by decide)
    refine ⟨?_, ?_, ?_, fun hc => ?_, fun e => by rw [e] at hhd; exact absurd hhd (by decide)⟩
    · unfold rmOk; rw [hs, h1]; simp [rdF]
    · unfold rmV; rw [if_neg n49, hs, h1]; rfl
    · unfold lrd; rw [if_neg n49, hs, h2]; rfl
    · obtain ⟨w, hw, hbw⟩ := mem_spl (c := 32) (b := 43) (by decide) _ hc
      rw [hs] at hw
      rcases (hb w hw).1 43 hbw with h1 | h1 | h1
      · exact absurd h1 (by decide)
      · exact absurd h1 (by decide)
      · exact absurd h1 (by decide)
theorem sum_read {xss : List (List Int)} (h : arT xss = true) : rsOk rmOk (sumW mtW xss) = true ∧ rsV rmV (sumW mtW xss) = xss ∧ rfT (sumW mtW xss) = xss := by
  have hM := mono_of h
  by_cases e : xss = []
  · subst e; exact ⟨rfl, rfl, rfl⟩
  · have hm : sumW mtW xss = Go.Lib.join (xss.map mtW) [43] := if_neg e
    have hs : spl 43 (sumW mtW xss) = xss.map mtW := by
      rw [hm]
      refine spl_join 43 _ (by simpa using e) fun w hw => ?_
      obtain ⟨r, hr, rfl⟩ := List.mem_map.1 hw
      exact (mono_read (hM r hr)).2.2.2.1
    have n48 : sumW mtW xss ≠ [48] := fun e2 => by
      rw [e2] at hs
      have h3 : [48] ∈ xss.map mtW := by rw [← hs]; simp [spl]
      obtain ⟨r, hr, hre⟩ := List.mem_map.1 h3
      exact (mono_read (hM r hr)).2.2.2.2 hre
    have hl := arT_len h
    have hid : ∀ (f : List UInt8 → List Int), (∀ r ∈ xss, f (mtW r) = r) → (xss.map mtW).map f = xss := fun f hf => by
      rw [List.map_map]
      conv => rhs; rw [← List.map_id xss]
      exact List.map_congr_left fun r hr => hf r hr
    refine ⟨?_, ?_, ?_⟩
    · unfold rsOk
      rw [hs]
      have : ((xss.map mtW).all rmOk) = true := by
        rw [List.all_eq_true]
        intro w hw
        obtain ⟨r, hr, rfl⟩ := List.mem_map.1 hw
        exact (mono_read (hM r hr)).1
      rw [this]
      simp [hl]
    · unfold rsV
      rw [if_neg n48, hs]
      exact hid _ fun r hr => (mono_read (hM r hr)).2.1
    · unfold rfT
      rw [if_neg n48, hs, List.take_of_length_le (by rw [List.length_map]; omega)]
      exact hid _ fun r hr => (mono_read (hM r hr)).2.2.1
theorem rm_text {s : List UInt8} (h : rmOk s = true) : mtW (rmV s) = s := by
  unfold rmV
  by_cases e : s = [49]
  · rw [if_pos e, e]; rfl
  · rw [if_neg e]
    unfold rmOk at h
    have e0 : (s == [49]) = false := by simpa using e
    rw [e0, Bool.false_or] at h
    cases hq : rdF (spl 32 s) [] with
    | none => rw [hq] at h; cases h
    | some r => rw [hq] at h; simpa using h
theorem rs_text {t : List UInt8} (h : rsOk rmOk t = true) : sumW mtW (rsV rmV t) = t := by
  unfold rsV
  by_cases e : t = [48]
  · rw [if_pos e, e]; rfl
  · rw [if_neg e]
    unfold rsOk at h
    have e0 : (t == [48]) = false := by simpa using e
    rw [e0, Bool.false_or, Bool.and_eq_true, List.all_eq_true] at h
    have hne := spl_ne 43 t
    have hm : ((spl 43 t).map rmV) ≠ [] := by simpa using hne
    rw [show sumW mtW ((spl 43 t).map rmV) = Go.Lib.join (((spl 43 t).map rmV).map mtW) [43] from if_neg hm, List.map_map]
    have : (spl 43 t).map (mtW ∘ rmV) = spl 43 t := by
      conv => rhs; rw [← List.map_id (spl 43 t)]
      exact List.map_congr_left fun w hw => rm_text (h.2 w hw)
    rw [this]
    exact join_spl 43 t
/-- They agree. -/
theorem pdu_same (t : List UInt8) : (rsOk rmOk t && arT (rsV rmV t)) = pduB t ∧ (pduB t = true → rsV rmV t = rfT t) := by
  have k1 : (rsOk rmOk t && arT (rsV rmV t)) = true → pduB t = true ∧ rsV rmV t = rfT t := fun h => by
    rw [Bool.and_eq_true] at h
    have h1 := rs_text h.1
    have h2 := (sum_read h.2).2.2
    rw [h1] at h2
    refine ⟨?_, h2.symm⟩
    unfold pduB
    rw [h2, h.2, h1]; simp
  have k2 : pduB t = true → (rsOk rmOk t && arT (rsV rmV t)) = true ∧ rsV rmV t = rfT t := fun h => by
    unfold pduB at h
    rw [Bool.and_eq_true, beq_iff_eq] at h
    obtain ⟨h1, h2, _⟩ := sum_read h.1
    rw [h.2] at h1 h2
    rw [h1, h2, h.1]
    exact ⟨rfl, rfl⟩
  refine ⟨?_, fun h => (k2 h).2⟩
  cases hb : pduB t
  · cases hp : (rsOk rmOk t && arT (rsV rmV t))
    · rfl
    · rw [(k1 hp).1] at hb; cases hb
  · exact (k2 hb).1
end Go.Proofs.YtalbbjhonkcbgaaGreatDoor

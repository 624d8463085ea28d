/- The pairs of Cartan's formula. Plain Lean; no program. -/
import Derived.Test.YtljfpkhgijangaaLPrA
import Derived.Test.YtljfpkhgijangaaLBound
import Derived.Test.YtljfpkhgijangaaLCount
import Derived.Test.YtljfpkhgijangaaLMil
import Derived.Test.YtljfpkhgijangaaLPair
namespace Go.Proofs.Ytljfpkhgijangaa

/-- One number split in two, behind a pair. -/
def spl1 (n : Int) (p : List (List Int)) : List (List (List Int)) := (List.range (n.toNat + 1)).map fun x : Nat => [p.getD 0 [] ++ [(x : Int)], p.getD 1 [] ++ [n - (x : Int)]]
def splF (r : List Int) (out : List (List (List Int))) : List (List (List Int)) := r.foldl (fun o n => o.flatMap (spl1 n)) out
def trimP (p : List (List Int)) : List (List Int) := [trim (p.getD 0 []), trim (p.getD 1 [])]
/-- The same by recursion. -/
def dfsP : List Int → List Int → List Int → List (List (List Int))
  | [], a, b => [[a, b]]
  | n :: r, a, b => (List.range (n.toNat + 1)).flatMap fun x : Nat => dfsP r (a ++ [(x : Int)]) (b ++ [n - (x : Int)])
def splT (r : List Int) : List (List (List Int)) := (dfsP r [] []).map trimP
def cartL (xss : List (List Int)) : List (List (List Int)) := xss.flatMap splT
theorem two_self : ∀ (out : List (List (List Int))), (∀ p ∈ out, ∃ a b, p = [a, b]) → out.flatMap (fun p => [[p.getD 0 [], p.getD 1 []]]) = out
  | [], _ => rfl
  | p :: out, h => by
    obtain ⟨a, b, rfl⟩ := h p (List.mem_cons_self ..)
    rw [List.flatMap_cons, two_self out fun q hq => h q (List.mem_cons_of_mem _ hq)]; rfl
theorem spl1_two (n : Int) (p q : List (List Int)) (h : q ∈ spl1 n p) : ∃ a b, q = [a, b] := by
  unfold spl1 at h
  obtain ⟨x, _, rfl⟩ := List.mem_map.1 h
  exact ⟨_, _, rfl⟩
theorem splF_dfs : ∀ (r : List Int) (out : List (List (List Int))), (∀ p ∈ out, ∃ a b, p = [a, b]) → splF r out = out.flatMap fun p => dfsP r (p.getD 0 []) (p.getD 1 [])
  | [], out, h => (two_self out h).symm
  | n :: r, out, h => by
    show splF r (out.flatMap (spl1 n)) = _
    rw [splF_dfs r _ (fun q hq => by obtain ⟨p, _, hq⟩ := List.mem_flatMap.1 hq; exact spl1_two n p q hq), List.flatMap_assoc]
    congr 1
    funext p
    rw [spl1, List.flatMap_map]
    rfl
theorem splF_one (r : List Int) : splF r [[[], []]] = dfsP r [] [] := by
  rw [splF_dfs r _ fun p hp => ⟨[], [], by simpa using hp⟩]; simp
theorem splF_snoc (r : List Int) (n : Int) (out : List (List (List Int))) : splF (r ++ [n]) out = (splF r out).flatMap (spl1 n) := by simp [splF, List.foldl_append]
theorem dfsP_mem : ∀ (r a b : List Int) (p : List (List Int)), p ∈ dfsP r a b → ∃ c d : List Int, p = [a ++ c, b ++ d] ∧ c.length = r.length ∧ d.length = r.length ∧ (∀ i, i < r.length → c.getD i 0 + d.getD i 0 = r.getD i 0) ∧ ((∀ x ∈ r, 0 ≤ x) → (∀ x ∈ c, 0 ≤ x) ∧ ∀ x ∈ d, 0 ≤ x)
  | [], a, b, p, h => ⟨[], [], by simpa [dfsP] using h, rfl, rfl, fun i hi => by simp at hi, fun _ => ⟨fun x hx => (by simp at hx), fun x hx => (by simp at hx)⟩⟩
  | n :: r, a, b, p, h => by
    unfold dfsP at h
    obtain ⟨x, hx, h⟩ := List.mem_flatMap.1 h
    rw [List.mem_range] at hx
    obtain ⟨c, d, rfl, h1, h2, h3, h4⟩ := dfsP_mem r _ _ p h
    refine ⟨(x : Int) :: c, (n - (x : Int)) :: d, by simp, by simp [h1], by simp [h2], fun i hi => ?_, fun h0 => ?_⟩
    · cases i with
      | zero => simp only [List.getD_cons_zero]; omega
      | succ i => simp only [List.getD_cons_succ]; exact h3 i (by simpa using hi)
    · have hn := h0 n (List.mem_cons_self ..)
      obtain ⟨h5, h6⟩ := h4 fun y hy => h0 y (List.mem_cons_of_mem _ hy)
      refine ⟨fun y hy => ?_, fun y hy => ?_⟩
      · rcases List.mem_cons.1 hy with rfl | hy
        · omega
        · exact h5 y hy
      · rcases List.mem_cons.1 hy with rfl | hy
        · omega
        · exact h6 y hy
theorem dfsP_nodup : ∀ (r a b : List Int), (dfsP r a b).Nodup
  | [], a, b => by simp [dfsP]
  | n :: r, a, b => by
    unfold dfsP
    rw [List.Nodup, List.pairwise_flatMap]
    refine ⟨fun x _ => dfsP_nodup r _ _, List.Pairwise.imp (fun {x x'} hlt p hp q hq e => ?_) (List.pairwise_lt_range (n := n.toNat + 1))⟩
    obtain ⟨c, d, rfl, -⟩ := dfsP_mem r _ _ p hp
    obtain ⟨c', d', rfl, -⟩ := dfsP_mem r _ _ q hq
    simp only [List.cons.injEq, List.append_assoc, List.append_cancel_left_eq, List.singleton_append] at e
    have := e.1.1
    omega
theorem trim_getD' (l : List Int) (i : Nat) : (trim l).getD i 0 = l.getD i 0 := by
  by_cases h : i < l.length
  · exact trim_getD l i h
  · have h1 : (trim l).length ≤ l.length := by rw [trim_length]; exact trimN_le _ _
    rw [List.getD_eq_getElem?_getD, List.getD_eq_getElem?_getD, List.getElem?_eq_none (by omega), List.getElem?_eq_none (by omega)]
theorem getD_ext {a b : List Int} (hl : a.length = b.length) (h : ∀ i, a.getD i 0 = b.getD i 0) : a = b := by
  apply List.ext_getElem hl
  intro i h1 h2
  have := h i
  rwa [show a.getD i 0 = a[i] by simp [h1], show b.getD i 0 = b[i] by simp [h2]] at this
theorem lastOk_ext {a b : List Int} (ha : lastOk a = true) (hb : lastOk b = true) (h : ∀ i, a.getD i 0 = b.getD i 0) : a = b := by
  have key : ∀ {a b : List Int}, lastOk b = true → (∀ i, a.getD i 0 = b.getD i 0) → ¬ a.length < b.length := fun {a b} hb h hlt => by
    simp only [lastOk, Bool.or_eq_true, decide_eq_true_eq, bne_iff_ne, ne_eq] at hb
    rcases hb with hb | hb
    · omega
    · refine hb ?_
      rw [← h, List.getD_eq_getElem?_getD, List.getElem?_eq_none (by omega)]; rfl
  refine getD_ext ?_ h
  have h1 := key hb h
  have h2 := key ha fun i => (h i).symm
  omega
theorem splT_mem {r : List Int} {p : List (List Int)} (h : p ∈ splT r) : ∃ c d : List Int, p = [trim c, trim d] ∧ c.length = r.length ∧ d.length = r.length ∧ (∀ i, (trim c).getD i 0 + (trim d).getD i 0 = r.getD i 0) ∧ ((∀ x ∈ r, 0 ≤ x) → (∀ x ∈ c, 0 ≤ x) ∧ ∀ x ∈ d, 0 ≤ x) := by
  unfold splT at h
  obtain ⟨q, hq, rfl⟩ := List.mem_map.1 h
  obtain ⟨c, d, rfl, h1, h2, h3, h4⟩ := dfsP_mem r _ _ q hq
  refine ⟨c, d, rfl, h1, h2, fun i => ?_, h4⟩
  rw [trim_getD', trim_getD']
  by_cases hi : i < r.length
  · exact h3 i hi
  · rw [List.getD_eq_getElem?_getD, List.getD_eq_getElem?_getD, List.getD_eq_getElem?_getD, List.getElem?_eq_none (by omega), List.getElem?_eq_none (by omega), List.getElem?_eq_none (by omega)]; rfl
theorem splT_nodup (r : List Int) : (splT r).Nodup := by
  unfold splT
  rw [List.Nodup, List.pairwise_map]
  refine List.Pairwise.imp_of_mem (fun {p q} hp hq hne e => hne ?_) (dfsP_nodup r [] [])
  obtain ⟨c, d, rfl, h1, h2, -⟩ := dfsP_mem r _ _ p hp
  obtain ⟨c', d', rfl, h1', h2', -⟩ := dfsP_mem r _ _ q hq
  simp only [trimP, List.nil_append, List.getD_cons_zero, List.getD_cons_succ, List.cons.injEq, and_true] at e
  have e1 : c = c' := getD_ext (by omega) fun i => by rw [← trim_getD' c, ← trim_getD' c', e.1]
  have e2 : d = d' := getD_ext (by omega) fun i => by rw [← trim_getD' d, ← trim_getD' d', e.2]
  rw [e1, e2]
theorem cartL_nodup : ∀ (xss : List (List Int)), xss.Nodup → (∀ r ∈ xss, lastOk r = true) → (cartL xss).Nodup
  | [], _, _ => by simp [cartL]
  | r :: xss, hn, hl => by
    rw [List.nodup_cons] at hn
    unfold cartL
    rw [List.flatMap_cons, List.nodup_append]
    refine ⟨splT_nodup r, cartL_nodup xss hn.2 fun s hs => hl s (List.mem_cons_of_mem _ hs), fun p hp q hq e => hn.1 ?_⟩
    subst e
    obtain ⟨s, hs, hq⟩ := List.mem_flatMap.1 hq
    obtain ⟨c, d, rfl, -, -, h3, -⟩ := splT_mem hp
    obtain ⟨c', d', e, -, -, h3', -⟩ := splT_mem hq
    simp only [List.cons.injEq, and_true] at e
    rw [lastOk_ext (hl r (List.mem_cons_self ..)) (hl s (List.mem_cons_of_mem _ hs)) fun i => by rw [← h3 i, ← h3' i, e.1, e.2]]
    exact hs
theorem splT_pr {r : List Int} (h0 : ∀ x ∈ r, 0 ≤ x) {p : List (List Int)} (h : p ∈ splT r) : IsPr p := by
  obtain ⟨c, d, rfl, -, -, -, h4⟩ := splT_mem h
  exact ⟨_, _, rfl, fun x hx => (h4 h0).1 x (List.mem_of_mem_take hx)⟩
theorem exp_nn {r : List Int} (h : isExp r = true) : ∀ x ∈ r, 0 ≤ x := fun x hx => by
  simp only [isExp, Bool.and_eq_true, List.all_eq_true] at h
  have := h.1.2 x hx
  simp only [numB, Bool.and_eq_true, decide_eq_true_eq] at this
  exact this.1
theorem cartL_pr {xss : List (List Int)} (h : arT xss = true) : ∀ p ∈ cartL xss, IsPr p := fun p hp => by
  obtain ⟨r, hr, hp⟩ := List.mem_flatMap.1 hp
  exact splT_pr (exp_nn (arT_row h r hr).1) hp
theorem cartL_nd {xss : List (List Int)} (h : arT xss = true) : (cartL xss).Nodup :=
  cartL_nodup xss (List.Pairwise.imp (fun h => ltL_ne h) (arT_asc h)) fun r hr => isExp_last (arT_row h r hr).1
/-- What is in order and has no pair twice is the odd ones. -/
theorem sorted_odd {l m : List (List (List Int))} (hn : l.Nodup) (hl : ∀ x ∈ l, IsPr x) (hp : m.Perm l) (hs : m.Pairwise (fun a b => ltL (encP b) (encP a) = false)) : m = oddP l := by
  have hm : ∀ x ∈ m, IsPr x := fun x hx => hl x (hp.mem_iff.1 hx)
  refine oddP_of hl hm ?_
  rw [← oddL_perm (hp.map encP)]
  refine (Asc.odd ?_).symm
  unfold Asc
  rw [List.pairwise_map]
  have hmn : m.Nodup := hp.nodup_iff.2 hn
  refine List.Pairwise.imp_of_mem (fun {a b} ha hb h => ?_) (List.Pairwise.and hs hmn)
  cases e : ltL (encP a) (encP b)
  · exact absurd (encP_inj (hm a ha) (hm b hb) (ltL_total _ _ e h.1)) h.2
  · rfl
theorem dfsP_len (M : Nat) : ∀ (r a b : List Int), (∀ x ∈ r, x ≤ M) → (dfsP r a b).length ≤ (M + 1) ^ r.length
  | [], a, b, _ => by simp [dfsP]
  | n :: r, a, b, h => by
    have hn := h n (List.mem_cons_self ..)
    have key : ∀ k : Nat, ((List.range k).flatMap fun x : Nat => dfsP r (a ++ [(x : Int)]) (b ++ [n - (x : Int)])).length ≤ k * (M + 1) ^ r.length := by
      intro k
      induction k with
      | zero => simp
      | succ k ih =>
        have := dfsP_len M r (a ++ [(k : Int)]) (b ++ [n - (k : Int)]) fun x hx => h x (List.mem_cons_of_mem _ hx)
        rw [List.range_succ, List.flatMap_append, List.length_append, Nat.add_mul]
        simp only [List.flatMap_cons, List.flatMap_nil, List.append_nil]
        omega
    have h1 := key (n.toNat + 1)
    unfold dfsP
    refine Nat.le_trans h1 ?_
    rw [List.length_cons, Nat.pow_succ, Nat.mul_comm]
    exact Nat.mul_le_mul_left _ (by omega)
theorem exp_le40 {r : List Int} (h : isExp r = true) (hd : 0 ≤ deg r ∧ deg r ≤ 40) : ∀ x ∈ r, x ≤ 40 := fun x hx => by
  have hl := exp_len5 h hd.2
  have h0 := exp_nn h
  have h5 := deg_five hl
  obtain ⟨i, hi, rfl⟩ := List.getElem_of_mem hx
  have nn : ∀ j, 0 ≤ r.getD j 0 := fun j => by
    by_cases hj : j < r.length
    · rw [show r.getD j 0 = r[j] by simp [hj]]; exact h0 _ (List.getElem_mem hj)
    · rw [List.getD_eq_getElem?_getD, List.getElem?_eq_none (by omega)]; simp
  have n0 := nn 0; have n1 := nn 1; have n2 := nn 2; have n3 := nn 3; have n4 := nn 4
  rw [show r[i] = r.getD i 0 by simp [hi]]
  have : i = 0 ∨ i = 1 ∨ i = 2 ∨ i = 3 ∨ i = 4 := by omega
  rcases this with e | e | e | e | e <;> subst e <;> omega
theorem splT_len {r : List Int} (h : isExp r = true) (hd : 0 ≤ deg r ∧ deg r ≤ 40) : (splT r).length ≤ 115856201 := by
  unfold splT
  rw [List.length_map]
  refine Nat.le_trans (dfsP_len 40 r [] [] fun x hx => exp_le40 h hd x hx) ?_
  exact Nat.le_trans (Nat.pow_le_pow_right (by decide) (exp_len5 h hd.2)) (by decide)
theorem cartL_take (xss : List (List Int)) (k : Nat) (hk : k < xss.length) : cartL (xss.take (k + 1)) = cartL (xss.take k) ++ splT xss[k] := by
  unfold cartL; rw [List.take_succ_eq_append_getElem hk, List.flatMap_append]; simp
theorem cartL_len {xss : List (List Int)} (h : arT xss = true) : ∀ k, k ≤ xss.length → (cartL (xss.take k)).length ≤ k * 115856201
  | 0, _ => by simp [cartL]
  | k + 1, hk => by
    have h1 := cartL_len h k (by omega)
    have h2 := arT_row h xss[k] (List.getElem_mem (by omega))
    have h3 := splT_len h2.1 h2.2
    rw [cartL_take xss k (by omega), List.length_append, Nat.add_mul]; omega
/-- What CartanPairs answers. -/
def carB (xss : List (List Int)) : Bool := arT xss && decide (degT xss ≤ 24)
def carC (xss : List (List Int)) : Int := if arT xss then (if degT xss ≤ 24 then 0 else 2) else 1
def carL (xss : List (List Int)) : List (List (List Int)) := if carB xss then oddP (cartL xss) else []
end Go.Proofs.Ytljfpkhgijangaa

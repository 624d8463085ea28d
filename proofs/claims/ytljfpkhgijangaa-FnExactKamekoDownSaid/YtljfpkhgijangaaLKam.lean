/- Kameko's map down (plain): the terms with odd exponents only, halved. -/
import Derived.Test.YtljfpkhgijangaaLPol
namespace Go.Proofs.Ytljfpkhgijangaa
open Go.RowKit Go.Sort

def oddB (x : Int) : Bool := x.tmod 2 == 1
def halfR (r : List Int) : List Int := r.map fun x => x.tdiv 2
def kamL (xss : List (List Int)) : List (List Int) := (xss.filter fun r => r.all oddB).map halfR
def kamT (k : Int) (xss : List (List Int)) : List (List Int) := if polT k xss then kamL xss else []
def kamK (k : Int) (xss : List (List Int)) : Int := if polT k xss then k else 0
def kamC (k : Int) (xss : List (List Int)) : Int := if polT k xss then 0 else 1
theorem ltL_half : ∀ (r s : List Int), (∀ x ∈ r, 0 ≤ x ∧ oddB x = true) → (∀ x ∈ s, 0 ≤ x ∧ oddB x = true) → ltL r s = true → ltL (halfR r) (halfR s) = true
  | [], [], _, _, h => by simp [ltL] at h
  | [], _ :: _, _, _, _ => by simp [halfR, ltL]
  | _ :: _, [], _, _, h => by simp [ltL] at h
  | x :: r, y :: s, hr, hs, h => by
    have hx := hr x (List.mem_cons_self ..); have hy := hs y (List.mem_cons_self ..)
    have ih := ltL_half r s (fun z hz => hr z (List.mem_cons_of_mem _ hz)) (fun z hz => hs z (List.mem_cons_of_mem _ hz))
    simp only [oddB, beq_iff_eq] at hx hy
    have e1 : x.tmod 2 = x % 2 := Int.tmod_eq_emod_of_nonneg hx.1
    have e2 : y.tmod 2 = y % 2 := Int.tmod_eq_emod_of_nonneg hy.1
    have e3 : x.tdiv 2 = x / 2 := Int.tdiv_eq_ediv_of_nonneg hx.1
    have e4 : y.tdiv 2 = y / 2 := Int.tdiv_eq_ediv_of_nonneg hy.1
    show ltL (x.tdiv 2 :: halfR r) (y.tdiv 2 :: halfR s) = true
    rw [e3, e4]
    have hx2 := hx.2; have hy2 := hy.2
    rw [e1] at hx2; rw [e2] at hy2
    rw [ltL] at h ⊢
    by_cases h1 : x < y
    · rw [if_pos (by omega)]
    · rw [if_neg h1] at h
      by_cases h2 : y < x
      · rw [if_pos h2] at h; cases h
      · rw [if_neg h2] at h
        obtain rfl : x = y := by omega
        rw [if_neg (by omega), if_neg (by omega)]
        exact ih h
theorem kam_asc {xss : List (List Int)} (h : Asc xss) (hp : ∀ r ∈ xss, ∀ x ∈ r, (0 : Int) ≤ x) : Asc (kamL xss) := by
  have h1 : (xss.filter fun r => r.all oddB).Pairwise fun a b => ltL a b = true := List.Pairwise.filter _ h
  have h2 : (xss.filter fun r => r.all oddB).Pairwise fun a b => ltL (halfR a) (halfR b) = true := by
    refine List.Pairwise.imp_of_mem (fun {a b} ha hb hab => ?_) h1
    rw [List.mem_filter, List.all_eq_true] at ha hb
    exact ltL_half a b (fun x hx => ⟨hp a ha.1 x hx, ha.2 x hx⟩) (fun x hx => ⟨hp b hb.1 x hx, hb.2 x hx⟩) hab
  exact List.pairwise_map.2 h2
theorem kam_snoc (xss : List (List Int)) (r : List Int) : kamL (xss ++ [r]) = if r.all oddB then kamL xss ++ [halfR r] else kamL xss := by
  unfold kamL
  rw [List.filter_append, List.map_append]
  cases h : r.all oddB <;> simp [h]
theorem kam_take (xss : List (List Int)) (j : Nat) (hj : j < xss.length) : kamL (xss.take (j + 1)) = if xss[j].all oddB then kamL (xss.take j) ++ [halfR xss[j]] else kamL (xss.take j) := by
  rw [List.take_succ_eq_append_getElem hj, kam_snoc]
theorem kam_len (xss : List (List Int)) : (kamL xss).length ≤ xss.length := by
  unfold kamL; rw [List.length_map]; exact List.length_filter_le _ _
theorem kam_row {xss : List (List Int)} {n : Nat} (h : ∀ r ∈ xss, r.length ≤ n) : ∀ r ∈ kamL xss, r.length ≤ n := fun r hr => by
  unfold kamL at hr
  obtain ⟨s, hs, rfl⟩ := List.mem_map.1 hr
  rw [List.mem_filter] at hs
  unfold halfR; rw [List.length_map]; exact h s hs.1
theorem asc_take {xss : List (List Int)} (h : Asc xss) (j : Nat) : Asc (xss.take j) := List.Pairwise.sublist (List.take_sublist _ _) h
/-- One step of the reference: a sum with one term that is the greatest. -/
theorem kam_mrg {xss : List (List Int)} (h : Asc xss) (hp : ∀ r ∈ xss, ∀ x ∈ r, (0 : Int) ≤ x) (j : Nat) (hj : j < xss.length) (ho : xss[j].all oddB = true) : mrg (kamL (xss.take j)) [halfR xss[j]] = kamL (xss.take (j + 1)) := by
  have hA : Asc (kamL (xss.take (j + 1))) := kam_asc (asc_take h _) fun r hr => hp r (List.mem_of_mem_take hr)
  have hB : Asc (kamL (xss.take j)) := kam_asc (asc_take h _) fun r hr => hp r (List.mem_of_mem_take hr)
  have e := kam_take xss j hj
  rw [ho, if_pos rfl] at e
  rw [mrg_odd hB (List.pairwise_singleton ..), ← e, hA.odd]
theorem cnt_le_len {n : Nat} : ∀ (xss : List (List Int)), (∀ r ∈ xss, r.length ≤ n) → cnt xss ≤ xss.length * n
  | [], _ => by simp [cnt]
  | r :: xss, h => by
    have ih := cnt_le_len xss fun s hs => h s (List.mem_cons_of_mem _ hs)
    have h0 := h r (List.mem_cons_self ..)
    have : cnt (r :: xss) = r.length + cnt xss := by simp [cnt]
    rw [this, List.length_cons, Nat.succ_mul]; omega
theorem kam_cnt (k : Int) (xss : List (List Int)) : cnt (kamT k xss) ≤ 1048576 := by
  unfold kamT
  cases h : polT k xss
  · simp [cnt]
  · rw [if_pos rfl]
    have h1 := cnt_le_len (n := 4) (kamL xss) (kam_row fun r hr => (polT_rows h r hr).1)
    have h2 := kam_len xss
    have h3 := polT_len h
    omega
end Go.Proofs.Ytljfpkhgijangaa

/- SuspendModule of the program and of the reference. -/
import Derived.Test.YtljfpkhgijangaaLCnt
import Derived.Test.YtljfpkhgijangaaLCopy
import Derived.Test.YtljfpkhgijangaaLStep
import Derived.Test.YtljfpkhgijangaaLGen
namespace Go.Proofs.Ytljfpkhgijangaa
open Go.RowKit Go.Sort

def susB (ds : List Int) (n : Int) : Bool := ds.all fun d => stemB (d + n)
def susOk (ds : List Int) (act : List (List Int)) (n : Int) : Bool := isMod ds act && (decide (-20 ≤ n) && decide (n ≤ 20)) && susB ds n
def susD (ds : List Int) (act : List (List Int)) (n : Int) : List Int := if susOk ds act n then ds.map (· + n) else []
def susA (ds : List Int) (act : List (List Int)) (n : Int) : List (List Int) := if susOk ds act n then act else []
def susC (ds : List Int) (act : List (List Int)) (n : Int) : Int := if isMod ds act then (if (decide (-20 ≤ n) && decide (n ≤ 20)) then (if susB ds n then 0 else 3) else 2) else 1
theorem susB_false {ds : List Int} {n : Int} (k : Nat) (hk : k < ds.length) (h : stemB (ds[k] + n) = false) : susB ds n = false := by
  cases e : susB ds n
  · rfl
  · rw [susB, List.all_eq_true] at e; rw [e _ (List.getElem_mem hk)] at h; cases h
theorem susB_true {ds : List Int} {n : Int} (h : ∀ i (hi : i < ds.length), stemB (ds[i] + n) = true) : susB ds n = true := by
  rw [susB, List.all_eq_true]
  intro x hx
  obtain ⟨i, hi, rfl⟩ := List.getElem_of_mem hx
  exact h i hi
def encT (x : List Int) : Int := x.getD 0 0 * 256 + x.getD 1 0 * 16 + x.getD 2 0
def trip (x : List Int) : Prop := x.length = 3 ∧ 0 ≤ x.getD 0 0 ∧ x.getD 0 0 ≤ 20 ∧ 0 ≤ x.getD 1 0 ∧ x.getD 1 0 < 16 ∧ 0 ≤ x.getD 2 0 ∧ x.getD 2 0 < 16
theorem ltL_enc {x y : List Int} (hx : trip x) (hy : trip y) (h : ltL x y = true) : encT x < encT y := by
  obtain ⟨a, b, c, rfl⟩ : ∃ a b c, x = [a, b, c] := by
    match x, hx.1 with
    | [a, b, c], _ => exact ⟨a, b, c, rfl⟩
  obtain ⟨d, e, f, rfl⟩ : ∃ a b c, y = [a, b, c] := by
    match y, hy.1 with
    | [a, b, c], _ => exact ⟨a, b, c, rfl⟩
  simp only [trip, List.getD_cons_zero, List.getD_cons_succ] at hx hy
  simp only [encT, List.getD_cons_zero, List.getD_cons_succ]
  simp only [ltL] at h
  split at h
  · omega
  · split at h
    · cases h
    · split at h
      · omega
      · split at h
        · cases h
        · split at h
          · omega
          · split at h <;> cases h
theorem asc_len : ∀ (l : List (List Int)) (lo : Int), Asc l → (∀ x ∈ l, trip x ∧ lo ≤ encT x) → 0 ≤ lo → (l.length : Int) + lo ≤ 5376 ∨ l = []
  | [], _, _, _, _ => .inr rfl
  | x :: l, lo, h, hx, h0 => by
    left
    obtain ⟨t, hlo⟩ := hx x (List.mem_cons_self ..)
    have hE : encT x < 5376 := by
      have := t; unfold trip at this; unfold encT; omega
    rcases asc_len l (encT x + 1) h.tail (fun y hy => ⟨(hx y (List.mem_cons_of_mem _ hy)).1, by
      have := ltL_enc t (hx y (List.mem_cons_of_mem _ hy)).1 (h.head y hy); omega⟩) (by omega) with h2 | h2
    · simp only [List.length_cons]; omega
    · subst h2; simp; omega
theorem modT_trip {ds : List Int} {act : List (List Int)} (h : modT ds act = true) (x : List Int) (hx : x ∈ act) : trip x := by
  have h1 := modT_cell h x hx; have h2 := modT_top h x hx; have h3 := modT_len h
  unfold trip; omega
theorem modT_actlen {ds : List Int} {act : List (List Int)} (h : modT ds act = true) : act.length ≤ 5376 := by
  rcases asc_len act 0 (modT_asc h) (fun x hx => ⟨modT_trip h x hx, by have := modT_trip h x hx; unfold trip at this; unfold encT; omega⟩) (Int.le_refl _) with h2 | h2
  · omega
  · rw [h2]; simp
theorem cnt_trip : ∀ (act : List (List Int)), (∀ x ∈ act, x.length = 3) → cnt act = 3 * act.length
  | [], _ => rfl
  | x :: a, h => by
    have := cnt_trip a fun y hy => h y (List.mem_cons_of_mem _ hy)
    have := h x (List.mem_cons_self ..)
    simp only [cnt, List.map_cons, List.sum_cons, List.length_cons] at *; omega
theorem modT_cnt {ds : List Int} {act : List (List Int)} (h : modT ds act = true) : cnt act ≤ 16128 := by
  rw [cnt_trip act fun x hx => (modT_cell h x hx).1]; have := modT_actlen h; omega
theorem sus_bounds (ds : List Int) (act : List (List Int)) (n : Int) : (susD ds act n).length ≤ 16 ∧ cnt (susA ds act n) ≤ 16128 := by
  unfold susD susA
  split
  · rename_i h
    simp only [susOk, Bool.and_eq_true] at h
    have hT := isMod_T h.1.1
    exact ⟨by rw [List.length_map]; exact modT_len hT, modT_cnt hT⟩
  · simp [cnt]
/-- The module of a variable, its degrees made since. -/
theorem ownM_of {w w2 : World} {B : Nat} {d a : Value} {us : List Value} {ds : List Int} {act : List (List Int)} (hd : OwnI w w2.heap.size d ds) (ha : OwnU w2 B a us act) (hB : B ≤ w2.heap.size) (k : Below w2.heap.size w2 w) : OwnM w B d a us ds act :=
  ⟨own_base hd hB, ha.same k.block, fun u hu => by
    cases e : d.ownBlock with
    | none => exact .inl rfl
    | some b =>
      right
      intro e2
      have h1 := (hd.range b e).1
      have h2 := (ha.range.2 u hu b e2.symm).2
      omega⟩
end Go.Proofs.Ytljfpkhgijangaa

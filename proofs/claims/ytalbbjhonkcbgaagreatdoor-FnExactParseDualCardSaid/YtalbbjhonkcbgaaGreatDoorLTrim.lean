/- trimmed: a list without zeros at its end. -/
import Derived.Test.YtalbbjhonkcbgaaGreatDoorBase
namespace Go.Proofs.YtalbbjhonkcbgaaGreatDoor
open Go.RowKit Go.Sort

/-- How many numbers are left of the first n if zeros at the end go. -/
def trimN (l : List Int) : Nat → Nat
  | 0 => 0
  | n + 1 => if l.getD n 0 = 0 then trimN l n else n + 1
def trim (l : List Int) : List Int := l.take (trimN l l.length)
theorem trimN_le (l : List Int) (n : Nat) : trimN l n ≤ n := by
  induction n with
  | zero => exact Nat.le_refl _
  | succ n ih => unfold trimN; split <;> omega
theorem trim_length (l : List Int) : (trim l).length = trimN l l.length := by
  have := trimN_le l l.length
  simp [trim]; omega
theorem trimN_congr (l l' : List Int) (n : Nat) (h : ∀ i, i < n → l.getD i 0 = l'.getD i 0) : trimN l n = trimN l' n := by
  induction n with
  | zero => rfl
  | succ n ih => unfold trimN; rw [h n (by omega), ih fun i hi => h i (by omega)]
/-- Zeros behind the first k do not count. -/
theorem trimN_zeros (l : List Int) (k n : Nat) (hk : k ≤ n) (h : ∀ i, k ≤ i → i < n → l.getD i 0 = 0) : trimN l n = trimN l k := by
  induction n with
  | zero => rw [show k = 0 by omega]
  | succ n ih =>
    by_cases e : k = n + 1
    · rw [e]
    · rw [trimN, if_pos (h n (by omega) (by omega)), ih (by omega) fun i h1 h2 => h i h1 (by omega)]

theorem slAt_take {h : Array Obj} {e : Nat} {ao : Option Addr} {c : Nat} {us : List Value} (a : SlAt h e (.slice ao us.length c) us) (m : Nat) (hm : m ≤ us.length) : SlAt h e (.slice ao m c) (us.take m) := by
  rcases a with ⟨hv, rfl⟩ | ⟨b, off, cap, cur, hv, hb, h1, h2, h3, h4⟩
  · simp only [Value.slice.injEq, List.length_nil] at hv
    obtain ⟨rfl, -, rfl⟩ := hv
    simp at hm; subst hm
    exact .inl ⟨rfl, by simp⟩
  · simp only [Value.slice.injEq, true_and] at hv
    obtain ⟨rfl, rfl⟩ := hv
    refine .inr ⟨b, off, c, cur, by rw [List.length_take, Nat.min_eq_left hm], hb, by rw [List.length_take]; omega, h2, h3, ?_⟩
    rw [List.length_take, Nat.min_eq_left hm]
    conv => rhs; rw [← h4]
    rw [List.take_take, Nat.min_eq_left hm]
theorem IntS.take {h : Array Obj} {ao : Option Addr} {c : Nat} {xs : List Int} (a : IntS h (.slice ao xs.length c) xs) (m : Nat) (hm : m ≤ xs.length) : IntS h (.slice ao m c) (xs.take m) := by
  unfold IntS at *
  have := slAt_take (us := xs.map (Value.int .i64)) (by simpa using a) m (by simpa using hm)
  rwa [← List.map_take] at this
theorem OwnI.take {w : World} {B : Nat} {ao : Option Addr} {c : Nat} {xs : List Int} (a : OwnI w B (.slice ao xs.length c) xs) (m : Nat) (hm : m ≤ xs.length) : OwnI w B (.slice ao m c) (xs.take m) := by
  obtain ⟨h1, h2⟩ := a
  refine ⟨by simp, ?_⟩
  rw [List.length_take, Nat.min_eq_left hm]
  rcases h2 with ⟨hv, h0⟩ | ⟨g, cap, cur, hv, hb, hg, h3, h4, h5, h6⟩
  · simp only [Value.slice.injEq] at hv
    obtain ⟨rfl, -, rfl⟩ := hv
    exact .inl ⟨by rw [show m = 0 by omega], by omega⟩
  · simp only [Value.slice.injEq, true_and] at hv
    obtain ⟨rfl, rfl⟩ := hv
    refine .inr ⟨g, c, cur, rfl, hb, hg, by omega, h4, h5, ?_⟩
    rw [Nat.mul_one] at *
    rw [List.map_take, ← h6, List.take_take, Nat.min_eq_left hm]

end Go.Proofs.YtalbbjhonkcbgaaGreatDoor

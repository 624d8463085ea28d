/- Texts of elements: of the program. -/
import Derived.Test.YtalbbjhonkcbgaaGreatDoorLTx
import Derived.Test.YtalbbjhonkcbgaaGreatDoorLTxLay
import Derived.Test.YtalbbjhonkcbgaaGreatDoorLTerm
import Derived.Test.YtalbbjhonkcbgaaGreatDoorLMil
import Derived.Test.YtalbbjhonkcbgaaGreatDoorLProf
namespace Go.Proofs.YtalbbjhonkcbgaaGreatDoor
open Go.RowKit Go.Sort

theorem decimal_c (n : Nat) (hn : n < 100) (w : World) : Calls Tryz.prog 60 #[.int .i64 n] w fun e w' => e = .returned (.string (bs (dec n))) ∧ w = w' := by
  have C := Lib.hid (Go.Proofs.Tryz.strconv_FormatInt_10_small n hn)
  have hd : bs (dec (n : Int)) = ⟨(Go.Lib.decDigits n).toArray⟩ := by unfold bs dec; rw [Int.toNat_natCast]
  rw [hd]
  clear hd
  go_enter Tryz.func60, Tryz.ntmps60
  go_wp2_with (go_at_call 90; refine (C.out _).mono ?_; rintro e w1 ⟨rfl, rfl⟩)
  go_ret
  exact ⟨rfl, rfl⟩
theorem joinW_c (v : Value) (xs : List (List UInt8)) (sep : List UInt8) (B : Nat) (w : World) (h : OwnW w B v xs) (hl : xs.length ≤ 100000) (hm : ∀ x ∈ xs, x.length ≤ 100000) (hs : sep.length ≤ 10) :
    Calls Tryz.prog 53 #[v, .string (bs sep)] w fun e w' => e = .returned (.string (bs (Go.Lib.join xs sep))) ∧ Below w.heap.size w w' := by
  have h0 := h
  unfold OwnW at h
  rcases h.2 with ⟨rfl, h1⟩ | ⟨g, cap, cur, rfl, hgB, hg, h2, h3, h4, h5⟩
  · have hx : xs = [] := List.eq_nil_of_length_eq_zero h1
    subst hx
    exact (Go.Proofs.Tryz.strings_Join_none none 0 (bs sep) w).mono fun e w' ⟨he, hw⟩ => ⟨he, by rw [hw]; exact Below.refl _ _⟩
  · have hj := join_len sep xs hm
    have hj2 : xs.length * (100000 + sep.length) ≤ 100000 * 100010 := Nat.mul_le_mul hl (by omega)
    have hmap : (xs.map bs).map (fun s => s.data.toList) = xs := by
      rw [List.map_map]
      conv => rhs; rw [← List.map_id xs]
      exact List.map_congr_left fun x _ => bs_data x
    have C := Go.Proofs.Tryz.strings_Join g 0 cap (xs.map bs) (bs sep) w (fun j x hx => by
      have hj : j < xs.length := by have := (List.getElem?_eq_some_iff.1 hx).1; simpa using this
      rw [Nat.zero_add, World.ownsRow.cellAt h j (by omega)]
      simp only [List.getElem?_map, List.getElem?_eq_getElem hj, Option.map_some, Option.some.injEq] at hx ⊢
      rw [hx]) (Array.getElem?_eq_some_iff.1 hg).1 (by rw [List.length_map]; omega) (by rw [List.length_map]; omega) (by rw [hmap, bs_data]; omega)
    rw [List.length_map, hmap, bs_data] at C
    exact C
/-- The text of an exponent list. -/
def expW (r : List Int) : List UInt8 := 40 :: (Go.Lib.join (r.map dec) [44] ++ [41])
def Deg2 (r : List Int) : Prop := r.length ≤ 1000 ∧ ∀ x ∈ r, 0 ≤ x ∧ x < 100
theorem Deg2.row {r : List Int} (h : Deg2 r) (i : Nat) (hi : i < r.length) : ∃ n : Nat, r[i] = (n : Int) ∧ n < 100 := by
  have := h.2 _ (List.getElem_mem hi)
  exact ⟨r[i].toNat, by omega, by omega⟩
theorem Deg2.dec {r : List Int} (h : Deg2 r) : ∀ x ∈ r.map dec, x.length ≤ 2 := fun x hx => by
  obtain ⟨y, hy, rfl⟩ := List.mem_map.1 hx
  have := h.2 y hy
  obtain ⟨n, rfl⟩ := Int.eq_ofNat_of_zero_le this.1
  exact dec_len n (by omega)
theorem expW_len {r : List Int} (h : Deg2 r) : (expW r).length ≤ 3002 := by
  unfold expW
  have := join_len [44] (r.map Go.Proofs.YtalbbjhonkcbgaaGreatDoor.dec) h.dec
  rw [List.length_map] at this
  have h1 := h.1
  simp only [List.length_cons, List.length_append, List.length_nil] at this ⊢
  omega
theorem map_take_succ {α β : Type} (f : α → β) (r : List α) (k : Nat) (hk : k < r.length) : (r.take (k + 1)).map f = (r.take k).map f ++ [f r[k]] := by
  rw [List.take_succ_eq_append_getElem hk, List.map_append]; rfl
/-- The text of a sum. -/
def sumW (f : List Int → List UInt8) (xss : List (List Int)) : List UInt8 := if xss = [] then [48] else Go.Lib.join (xss.map f) [43]
def milW (xss : List (List Int)) : List UInt8 := if arT xss then sumW expW xss else []
def milC (xss : List (List Int)) : Int := if arT xss then 0 else 1
theorem arT_deg2 {xss : List (List Int)} (h : arT xss = true) : ∀ r ∈ xss, Deg2 r := fun r hr => by
  have hx := (arT_row h r hr).1
  refine ⟨?_, fun x hxm => ?_⟩
  · simp only [isExp, Bool.and_eq_true, decide_eq_true_eq] at hx; omega
  · obtain ⟨i, hi, rfl⟩ := List.getElem_of_mem hxm
    have := arT_num h r hr i hi
    rw [show r.getD i 0 = r[i] by simp [hi]] at this
    omega
end Go.Proofs.YtalbbjhonkcbgaaGreatDoor

/- Texts of dual elements: of the program. -/
import Derived.Test.YtalbbjhonkcbgaaGreatDoorLTxI
namespace Go.Proofs.YtalbbjhonkcbgaaGreatDoor
open Go.RowKit Go.Sort

/-- The text of a power of a letter. -/
def mfW (i : Nat) (n : Int) : List UInt8 := ([120] ++ dec ((i : Int) + 1)) ++ (if 1 < n then [94] ++ dec n else [])
/-- The words of the first k letters. -/
def mfL (r : List Int) : Nat → List (List UInt8)
  | 0 => []
  | k + 1 => mfL r k ++ if r.getD k 0 = 0 then [] else [mfW k (r.getD k 0)]
/-- The text of a monomial. -/
def mtW (r : List Int) : List UInt8 := if mfL r r.length = [] then [49] else Go.Lib.join (mfL r r.length) [32]
def Deg3 (r : List Int) : Prop := r.length ≤ 10 ∧ ∀ x ∈ r, 0 ≤ x ∧ x < 100
theorem Deg3.at {r : List Int} (h : Deg3 r) (i : Nat) (hi : i < r.length) : ∃ n : Nat, r[i] = (n : Int) ∧ n < 100 := by
  have := h.2 _ (List.getElem_mem hi)
  exact ⟨r[i].toNat, by omega, by omega⟩
theorem mfW_len (i n : Nat) (hi : i < 10) (hn : n < 100) : (mfW i (n : Int)).length ≤ 6 := by
  unfold mfW
  have h1 := dec_len (i + 1) (by omega)
  rw [Int.natCast_succ] at h1
  have h2 := dec_len n hn
  simp only [List.length_append, List.length_cons, List.length_nil]
  split
  · simp only [List.length_append, List.length_cons, List.length_nil]; omega
  · simp only [List.length_nil]; omega
theorem mfL_len (r : List Int) : ∀ k, (mfL r k).length ≤ k
  | 0 => Nat.le_refl _
  | k + 1 => by
    have := mfL_len r k
    unfold mfL
    rw [List.length_append]
    split <;> simp <;> omega
theorem mfL_word {r : List Int} (h : Deg3 r) : ∀ k, k ≤ r.length → ∀ x ∈ mfL r k, x.length ≤ 6 ∧ x ≠ []
  | 0, _, x, hx => by simp [mfL] at hx
  | k + 1, hk, x, hx => by
    unfold mfL at hx
    rcases List.mem_append.1 hx with hx | hx
    · exact mfL_word h k (by omega) x hx
    · split at hx
      · simp at hx
      · rw [List.mem_singleton] at hx
        obtain ⟨n, hn, hn2⟩ := h.at k (by omega)
        have e : r.getD k 0 = (n : Int) := by rw [show r.getD k 0 = r[k]'(by omega) by simp [show k < r.length by omega]]; exact hn
        rw [hx, e]
        exact ⟨mfW_len k n (by have := h.1; omega) hn2, by unfold mfW; simp⟩
theorem mfL_join {r : List Int} (h : Deg3 r) (k : Nat) (hk : k ≤ r.length) : (Go.Lib.join (mfL r k) [32]).length ≤ 70 := by
  have h1 := join_len (m := 6) [32] (mfL r k) (fun x hx => (mfL_word h k hk x hx).1)
  have h2 := mfL_len r k
  have h3 := h.1
  have h4 : (mfL r k).length * (6 + [(32 : UInt8)].length) ≤ 10 * 7 := Nat.mul_le_mul (by omega) (by simp)
  omega
theorem mtW_len {r : List Int} (h : Deg3 r) : (mtW r).length ≤ 70 := by
  unfold mtW
  split
  · simp
  · exact mfL_join h _ (Nat.le_refl _)
theorem arT_deg3 {xss : List (List Int)} (h : arT xss = true) : ∀ r ∈ xss, Deg3 r := fun r hr => by
  have hx := (arT_row h r hr).1
  refine ⟨?_, (arT_deg2 h r hr).2⟩
  simp only [isExp, Bool.and_eq_true, decide_eq_true_eq] at hx; omega
theorem own_lenW {w : World} {B : Nat} {ra : Option Addr} {rn rc : Nat} {xs : List (List UInt8)} (h : OwnW w B (.slice ra rn rc) xs) : rn = xs.length := by
  unfold OwnW at h
  have h2 : w.ownsRow B 9 1 (.slice ra rn rc) (xs.map fun l => Value.string (bs l)).length (xs.map fun l => Value.string (bs l)) := by rw [List.length_map]; exact h
  obtain ⟨_, _, hv, _⟩ := SlAt.len (slAt_of_own h2)
  simp only [Value.slice.injEq, List.length_map] at hv
  exact hv.2.1
set_option maxRecDepth 100000 in
set_option maxHeartbeats 1000000 in
theorem monomialText_c (v : Value) (r : List Int) (w : World) (h : IntS w.heap v r) (hd : Deg3 r) :
    Calls Tryz.prog 43 #[v] w fun e w' => e = .returned (.string (bs (mtW r))) ∧ Below w.heap.size w w' := by
  obtain ⟨ao, c, rfl, hm⟩ := h.len
  have H := Lib.hid h; have HD := Lib.hid hd
  have hl := hd.1
  have HJ := Lib.hid (fun (v : Value) (B : Nat) (W : World) (h : OwnW W B v (mfL r r.length)) => joinW_c v (mfL r r.length) [32] B W h (by have := mfL_len r r.length; omega) (fun x hx => by have := (mfL_word hd _ (Nat.le_refl _) x hx).1; omega) (by simp))
  clear h hd
  go_enter Tryz.func43, Tryz.ntmps43
  go_wp2_with fail
  go_loopw [3, 9] (fun y i wr => ∃ m : Nat, m ≤ r.length ∧ i = .int .i64 m ∧ OwnW wr w.heap.size y (mfL r m) ∧ Below w.heap.size w wr) (fun _ i _ => r.length - (intOf i).toNat)
  case atStart => exact ⟨0, Nat.zero_le _, rfl, ownW_empty (Nat.le_refl _), (Below.refl _ _).alloc (Nat.le_refl _) _⟩
  case round =>
    obtain ⟨m, hm2, rfl, hy, hb3⟩ := hrel
    obtain ⟨ya, yn, yc, rfl⟩ := own_shape hy
    have HY := Lib.hid hy; have HB3 := Lib.hid hb3
    have hsz3 := hb3.size
    by_cases hml : m < r.length
    · obtain ⟨b4, o4, q4, hv4, hc4, -⟩ := H.out.at m hml
      simp only [Value.slice.injEq, true_and] at hv4
      obtain ⟨rfl, rfl⟩ := hv4
      have hc := (HB3.out.cell (World.block_lt_of_cell? _ _ hc4)).trans hc4
      obtain ⟨n, hn, hn2⟩ := HD.out.at m hml
      have hg : r.getD m 0 = (n : Int) := by rw [show r.getD m 0 = r[m] by simp [hml]]; exact hn
      have HLN := Lib.hid (show (mfL r m).length ≤ 4398046511104 by have := mfL_len r m; omega)
      rw [hn] at hc
      have hdi := dec_len (m + 1) (by omega)
      have hdn := dec_len n hn2
      rw [Int.natCast_succ] at hdi
      have D1 := Lib.hid (fun W => decimal_c (m + 1) (by omega) W)
      rw [Int.natCast_succ] at D1
      have D2 := Lib.hid (fun W => decimal_c n hn2 W)
      clear hc4 hn hy hb3
      by_cases h0 : n = 0
      · subst h0
        have HTK : Hid (mfL r (m + 1) = mfL r m) := by show _ = _; rw [mfL, hg, if_pos (by rfl), List.append_nil]
        clear hg D1 D2 hdi hdn
        go_wp2_with fail
        go_roundw
        case rel => exact ⟨m + 1, by omega, by go_num, by rw [HTK.out]; exact HY.out, HB3.out⟩
        case measure => simp [intOf]; omega
      · by_cases h1 : n = 1
        · subst h1
          have HTK : Hid (mfL r (m + 1) = mfL r m ++ [[120] ++ dec ((m : Int) + 1)]) := by
            show _ = _
            rw [mfL, hg, if_neg (by decide)]
            simp [mfW]
          have hadd : ∀ W, (Op.stringOp .add ⟨#[120]⟩ (bs (dec ((m : Int) + 1)))).run Tryz.prog W = .ok (.string (bs ([120] ++ dec ((m : Int) + 1)))) W := fun W => cat_run [120] _ (by simp only [List.length_cons, List.length_nil]; omega) Tryz.prog W
          clear hg hdi hdn D2
          generalize [120] ++ dec ((m : Int) + 1) = R at *
          generalize dec ((m : Int) + 1) = di at *
          go_wp2_with (first | (go_at_call 60; refine (D1.out _).mono ?_; rintro e w1 ⟨rfl, rfl⟩) | (at_builtin; refine append_word (w := wr) rfl _ _ rfl _ _ _ _ HY.out rfl HB3.out hsz3 _ rfl (by simp) HLN.out ?_; intro v' w' hown' hbl' _ _; obtain ⟨pv, nv, cv, rfl⟩ := own_shape hown'))
          go_roundw
          case rel => exact ⟨m + 1, by omega, by go_num, by rw [HTK.out]; exact hown', hbl'⟩
          case measure => simp [intOf]; omega
        · have t1 : ((n : Int) == 1) = false := by simp; omega
          have t2 : decide ((1 : Int) < (n : Int)) = true := by simp; omega
          have HTK : Hid (mfL r (m + 1) = mfL r m ++ [(([120] ++ dec ((m : Int) + 1)) ++ [94]) ++ dec (n : Int)]) := by
            show _ = _
            rw [mfL, hg, if_neg (by omega)]
            unfold mfW
            rw [if_pos (by omega)]
            simp
          have hadd1 : ∀ W, (Op.stringOp .add ⟨#[120]⟩ (bs (dec ((m : Int) + 1)))).run Tryz.prog W = .ok (.string (bs ([120] ++ dec ((m : Int) + 1)))) W := fun W => cat_run [120] _ (by simp only [List.length_cons, List.length_nil]; omega) Tryz.prog W
          have hadd2 : ∀ W, (Op.stringOp .add (bs ([120] ++ dec ((m : Int) + 1))) ⟨#[94]⟩).run Tryz.prog W = .ok (.string (bs (([120] ++ dec ((m : Int) + 1)) ++ [94]))) W := fun W => cat_run ([120] ++ dec ((m : Int) + 1)) [94] (by simp only [List.length_append, List.length_cons, List.length_nil]; omega) Tryz.prog W
          have hadd3 := fun W => cat_run (([120] ++ dec ((m : Int) + 1)) ++ [94]) (dec (n : Int)) (by simp only [List.length_append, List.length_cons, List.length_nil]; omega) Tryz.prog W
          clear hg hdi hdn
          generalize (([120] ++ dec ((m : Int) + 1)) ++ [94]) ++ dec (n : Int) = R3 at *
          generalize ([120] ++ dec ((m : Int) + 1)) ++ [94] = R2 at *
          generalize [120] ++ dec ((m : Int) + 1) = R at *
          generalize dec ((m : Int) + 1) = di at *
          generalize dec (n : Int) = dn at *
          go_wp2_with (first | (go_at_call 60; first | ((with_reducible refine Calls.mono (D1.out _) ?_); (rintro e w1 ⟨rfl, rfl⟩)) | ((with_reducible refine Calls.mono (D2.out _) ?_); (rintro e w1 ⟨rfl, rfl⟩))) | (at_builtin; refine append_word (w := wr) rfl _ _ rfl _ _ _ _ HY.out rfl HB3.out hsz3 _ rfl (by simp) HLN.out ?_; intro v' w' hown' hbl' _ _; obtain ⟨pv, nv, cv, rfl⟩ := own_shape hown'))
          go_roundw
          case rel => exact ⟨m + 1, by omega, by go_num, by rw [HTK.out]; exact hown', hbl'⟩
          case measure => simp [intOf]; omega
    · obtain rfl : m = r.length := by omega
      have hyn := own_lenW hy
      clear hy hb3
      by_cases hz : mfL r r.length = []
      · have HE : Hid (mtW r = [49]) := by show _ = _; unfold mtW; rw [if_pos hz]
        have hy0 : yn = 0 := by rw [hyn, hz]; rfl
        subst hy0
        clear hyn hz
        go_wp2_with fail
        go_ret
        exact ⟨by rw [HE.out]; rfl, HB3.out⟩
      · have HE : Hid (mtW r = Go.Lib.join (mfL r r.length) [32]) := by show _ = _; unfold mtW; rw [if_neg hz]
        have hp : 0 < yn := by rw [hyn]; exact List.length_pos_iff.2 hz
        have t1 : ((yn : Int) == 0) = false := by simp; omega
        clear hyn hz
        go_wp2_with (go_at_call 53; refine (HJ.out _ _ _ HY.out).mono ?_; rintro e w1 ⟨rfl, hb⟩)
        go_ret
        exact ⟨by rw [HE.out]; rfl, HB3.out.trans (hb.mono hsz3)⟩
theorem enters_monomialText : Enters Tryz.prog 43 := fun args w => by kernel_rfl
def dtxW (xss : List (List Int)) : List UInt8 := if arT xss then sumW mtW xss else []
def dtxC (xss : List (List Int)) : Int := if arT xss then 0 else 1
end Go.Proofs.YtalbbjhonkcbgaaGreatDoor

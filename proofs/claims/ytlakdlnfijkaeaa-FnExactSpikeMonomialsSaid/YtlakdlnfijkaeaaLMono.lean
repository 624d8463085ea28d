/- All lists of exponents with a sum: of the program and of the reference. -/
import Derived.Test.YtlakdlnfijkaeaaBase4
import Derived.Test.YtlakdlnfijkaeaaL10
namespace Go.Proofs.Ytlakdlnfijkaeaa
open Go.RowKit Go.Sort

/-- The lists of k + 1 exponents with the sum d. -/
def mons : Nat → Nat → List (List Int)
  | 0, d => [[(d : Int)]]
  | k + 1, d => (List.range (d + 1)).flatMap fun n => (mons k (d - n)).map ((n : Int) :: ·)
def monsP (k d n : Nat) : List (List Int) := (List.range n).flatMap fun m => (mons k (d - m)).map ((m : Int) :: ·)
theorem mons_succ (k d : Nat) : mons (k + 1) d = monsP k d (d + 1) := rfl
theorem monsP_succ (k d n : Nat) : monsP k d (n + 1) = monsP k d n ++ (mons k (d - n)).map ((n : Int) :: ·) := by simp [monsP, List.range_succ]
theorem monsP_mono (k d : Nat) {n m : Nat} (h : n ≤ m) : (monsP k d n).length ≤ (monsP k d m).length := by
  induction m with
  | zero => rw [show n = 0 by omega]; exact Nat.le_refl _
  | succ m ih =>
    by_cases e : n = m + 1
    · rw [e]; exact Nat.le_refl _
    · rw [monsP_succ, List.length_append]; have := ih (by omega); omega
theorem monsP_len_of (k d m : Nat) (h : ∀ e, e ≤ d → (mons k e).length ≤ m) (n : Nat) : (monsP k d n).length ≤ n * m := by
  induction n with
  | zero => simp [monsP]
  | succ n ih => rw [monsP_succ, List.length_append, List.length_map, Nat.succ_mul]; have := h (d - n) (by omega); omega
theorem mons_len (k : Nat) : ∀ d, d ≤ 40 → (mons k d).length ≤ 41 ^ k := by
  induction k with
  | zero => intro d _; simp [mons]
  | succ k ih =>
    intro d hd
    rw [mons_succ, Nat.pow_succ, Nat.mul_comm]
    exact Nat.le_trans (monsP_len_of k d (41 ^ k) (fun e he => ih e (by omega)) (d + 1)) (Nat.mul_le_mul_right _ (by omega))
theorem mons_row (k : Nat) : ∀ d, ∀ r ∈ mons k d, r.length = k + 1 := by
  induction k with
  | zero => intro d r hr; simp [mons] at hr; simp [hr]
  | succ k ih =>
    intro d r hr
    simp only [mons, List.mem_flatMap, List.mem_map] at hr
    obtain ⟨n, _, r', h', rfl⟩ := hr
    simp [ih _ r' h']
theorem ownI_lit1 {w : World} {B : Nat} (hB : B ≤ w.heap.size) (x : Int) : OwnI (w.alloc (.cells #[.int .i64 x] 2)) B (.slice (some ⟨w.heap.size, 0, none⟩) 1 1) [x] :=
  World.ownsRow_lit (e := 2) (size := 1) w #[.int .i64 x] 1 hB (by unfold maxLen; omega) rfl
/-- What lies between two sizes of the heap is kept: so is what lies whole in there. -/
theorem OwnU.range {w w' : World} {B : Nat} {v : Value} {us : List Value} {xss : List (List Int)} (h : OwnU w B v us xss) (k : ∀ b, B ≤ b → b < w.heap.size → w'.heap[b]? = w.heap[b]?) : OwnU w' B v us xss :=
  ⟨own_kept h.row fun b hb => k b (World.ownsRow.lt h.row b hb).1 (World.ownsRow.lt h.row b hb).2, fun i u xs hu hx => own_kept (h.each i u xs hu hx) fun b hb => k b (World.ownsRow.lt (h.each i u xs hu hx) b hb).1 (World.ownsRow.lt (h.each i u xs hu hx) b hb).2, h.apart⟩
theorem OwnU.cast {w : World} {B : Nat} {v : Value} {us : List Value} {xss yss : List (List Int)} (h : OwnU w B v us xss) (e : xss = yss) : OwnU w B v us yss := e ▸ h
theorem ownU_lit1 {w : World} {B : Nat} {u : Value} {xs : List Int} (hB : B ≤ w.heap.size) (hu : OwnI w B u xs) : OwnU (w.alloc (.cells #[u] 25)) B (.slice (some ⟨w.heap.size, 0, none⟩) 1 1) [u] [xs] := by
  refine ⟨World.ownsRow_lit (e := 25) (size := 1) w #[u] 1 hB (by unfold maxLen; omega) rfl, fun i x ys hx hy => ?_, fun i j x x' hij hx hx' => ?_⟩
  · match i, hx with
    | 0, hx => simp at hx hy; subst hx; subst hy; exact hu.same (alloc_old _ _)
  · match i, j, hx' with
    | 0, 0, _ => omega
theorem monomials_c (k : Nat) : k ≤ 3 → ∀ (d : Nat), d ≤ 40 → ∀ (w : World),
    Calls Try.prog 73 #[.int .i64 ((k : Int) + 1), .int .i64 d] w fun e w' => ∃ v us, e = .returned v ∧ OwnU w' w.heap.size v us (mons k d) ∧ Below w.heap.size w w' := by
  induction k with
  | zero =>
    intro _ d hd w
    go_enter Try.func73, Try.ntmps73
    go_wp2_with fail
    go_ret
    have h1 := World.ownsRow_lit (e := 2) (size := 1) w #[.int .i64 (d : Int)] 1 (Nat.le_refl _) (by unfold maxLen; omega) rfl
    refine ⟨_, [.slice (some ⟨w.heap.size, 0, none⟩) 1 1], rfl, ?_, ((Below.refl _ w).alloc (Nat.le_refl _) _).alloc (by simp) _⟩
    have hu : OwnI (w.alloc (.cells #[.int .i64 (d : Int)] 2)) w.heap.size (.slice (some ⟨w.heap.size, 0, none⟩) 1 1) [(d : Int)] := h1
    have := ownU_lit1 (w := w.alloc (.cells #[.int .i64 (d : Int)] 2)) (B := w.heap.size) (by simp) hu
    simpa [mons] using this
  | succ k ih =>
    intro hk d hd w
    have IH := Lib.hid ih; clear ih
    have t10 : ((k : Int) + 1 + 1 == 1) = false := by simp; omega
    rw [show ((k + 1 : Nat) : Int) = (k : Int) + 1 by omega]
    go_enter Try.func73, Try.ntmps73
    go_wp2_with fail
    go_loopw [5, 17] (fun v i wr => ∃ (n : Nat) (us : List Value), n ≤ d + 1 ∧ i = .int .i64 n ∧ OwnU wr w.heap.size v us (monsP k d n) ∧ Below w.heap.size w wr) (fun _ i _ => d + 1 - (intOf i).toNat)
    case atStart =>
      exact ⟨0, [], Nat.zero_le _, rfl, ⟨World.ownsRow_made w #[] 0 (Nat.le_refl _) (Nat.zero_le _) rfl, fun i u xs hu => by simp at hu, fun i j u u' _ hu => by simp at hu⟩, (Below.refl _ w).alloc (Nat.le_refl _) _⟩
    case round =>
      obtain ⟨n, us, hn, rfl, hU, hbl⟩ := hrel
      by_cases hlt : n < d + 1
      · have hs := hbl.size
        have hsub : ((d - n : Nat) : Int) = (d : Int) - n := by omega
        have C := IH.out (by omega) (d - n) (by omega) wr
        rw [hsub] at C
        have HC := Lib.hid C; have HU := Lib.hid hU; have HB := Lib.hid hbl; clear C hU hbl hsub
        have t18 : decide ((n : Int) < (d : Int) + 1) = true := by simp; omega
        have t18b : decide (n < d + 1) = true := by simp; omega
        go_wp2_with (first | (go_at_call 73; refine HC.out.mono ?_; rintro e w1 ⟨lv, lus, rfl, hL, hb1⟩; obtain ⟨ao, lc, rfl, hmx⟩ := hL.ints.len; have HL := Lib.hid hL; have HB1 := Lib.hid hb1; clear hL hb1))
        clear t18 t18b HC
        have hms := mons_len k (d - n) (by omega)
        have hrow := mons_row k (d - n)
        have hpl := monsP_len_of k d (41 ^ k) (fun e he => mons_len k e (by omega)) n
        have hst := monsP_succ k d n
        have hp1 : 41 ^ k ≤ 41 ^ 3 := Nat.pow_le_pow_right (by omega) (by omega)
        have hp2 : n * 41 ^ k ≤ 40 * 41 ^ 3 := Nat.mul_le_mul (by omega) hp1
        have hpl' : (monsP k d n).length ≤ 40 * 68921 := by omega
        have hms' : (mons k (d - n)).length ≤ 68921 := by omega
        have HST := Lib.hid hst; have HROW := Lib.hid hrow
        clear hst hrow hp1 hp2 hpl hms
        generalize mons k (d - n) = ms at *
        have hz1 : wr.heap.size ≤ w1.heap.size := HB1.out.size
        obtain ⟨wo, rfl⟩ : ∃ wo : World, wo = wr := ⟨_, rfl⟩
        go_loopw [5, 27] (fun v i wr => ∃ (j : Nat) (us : List Value), j ≤ ms.length ∧ i = .int .i64 j ∧ OwnU wr w.heap.size v us (monsP k d n ++ (ms.take j).map ((n : Int) :: ·)) ∧ Below w.heap.size w wr ∧ w1.heap.size ≤ wr.heap.size ∧ (∀ b, wo.heap.size ≤ b → b < w1.heap.size → wr.heap[b]? = w1.heap[b]?) ∧ (∀ b, v.ownBlock = some b → b < wo.heap.size ∨ w1.heap.size ≤ b)) (fun _ i _ => ms.length - (intOf i).toNat)
        case atStart =>
          refine ⟨0, us, Nat.zero_le _, rfl, (HU.out.same HB1.out.block).cast (by simp), HB.out.trans (HB1.out.mono hs), Nat.le_refl _, fun _ _ _ => rfl, fun b hb => .inl (World.ownsRow.lt HU.out.row b hb).2⟩
        case round =>
          clear HU HB
          obtain ⟨j, us, hj, rfl, hU, hbl, hz2, hk, ha⟩ := hrel
          by_cases hlt2 : j < ms.length
          · obtain ⟨b1, o1, c1, u, hv1, hc1, hu1, -⟩ := (HL.out.range hk).ints.at j hlt2
            simp only [Value.slice.injEq, true_and] at hv1
            obtain ⟨rfl, rfl⟩ := hv1
            obtain ⟨ro, rc, rfl, hrl⟩ := hu1.len
            have hrl2 : ms[j].length = k + 1 := HROW.out _ (List.getElem_mem hlt2)
            have hstep : ms.take (j + 1) = ms.take j ++ [ms[j]] := by rw [List.take_succ_eq_append_getElem hlt2]
            have hln : (monsP k d n ++ (ms.take j).map ((n : Int) :: ·)).length ≤ 4398046511104 := by
              rw [List.length_append, List.length_map, List.length_take]; omega
            have hsx := hbl.size
            have HSTEP := Lib.hid hstep; have HLN := Lib.hid hln; have HU := Lib.hid hU; have HB := Lib.hid hbl; have HK := Lib.hid hk; have HA := Lib.hid ha; have HU1 := Lib.hid hu1
            clear hstep hln hU hbl hk ha hu1
            have HRL := Lib.hid hrl2
            clear hrl2
            generalize ms[j] = r at *
            go_wp2_with (first | (at_builtin; refine append_ints (w0 := wr) rfl _ _ rfl wr.heap.size _ _ [(n : Int)] r (ownI_lit1 (w := wr) (Nat.le_refl _) _) rfl (HU1.out.same (alloc_old _ _)) rfl ((Below.refl _ _).alloc (Nat.le_refl _) _) (by simp) (by have := HRL.out; simp; omega) ?_; intro v2 w2 hown2 hbl2 _ _; obtain ⟨qa, qn, qc, rfl⟩ := own_shape hown2) | (at_builtin; refine append_rowU rfl _ _ rfl _ _ _ _ _ _ HU.out rfl (by assumption) (by assumption) HB.out hsx _ rfl (by simp) HLN.out ?_; intro v' w' hU' hbl' _ hz' hk' hw'))
            go_roundw
            case rel =>
              have hz3 := hbl2.size
              refine ⟨j + 1, _, by omega, by go_num, hU'.cast ?_, hbl', by omega, fun b hb1 hb2 => ?_, fun b hb => ?_⟩
              · rw [HSTEP.out]; simp
              · rw [hk' b (by omega) (fun e => by rcases HA.out b e.symm with h | h <;> omega), hbl2.block b (by omega), HK.out b hb1 hb2]
              · rcases hw' with e | ⟨q, hq, e⟩
                · exact HA.out b (e ▸ hb)
                · rw [e] at hb; cases hb; right; omega
            case measure => simp [intOf]; omega
          · obtain rfl : j = ms.length := by omega
            have HU := Lib.hid hU; have HB := Lib.hid hbl; clear hU hbl hk ha
            go_wp2_with fail
            go_roundw
            case rel => exact ⟨n + 1, us, by omega, by go_num, HU.out.cast (by rw [HST.out]; simp), HB.out⟩
            case measure => simp [intOf]; omega
      · obtain rfl : n = d + 1 := by omega
        go_wp2_with fail
        go_ret
        exact ⟨_, us, rfl, by rw [mons_succ]; exact hU, hbl⟩
theorem l08Monomials_c (k : Nat) : k ≤ 3 → ∀ (d : Nat), d ≤ 40 → ∀ (B B2 : Nat) (sv v : Value) (ss : List Int) (us : List Value) (xss : List (List Int)) (w : World), OwnI w B2 sv ss → OwnU w B v us xss → B ≤ w.heap.size → ss.length + k ≤ 100 → xss.length + (mons k d).length ≤ 4398046511104 →
    Calls Try.prog 81 #[.int .i64 ((k : Int) + 1), .int .i64 d, sv, v] w fun e w' => ∃ v' us', e = .returned v' ∧ OwnU w' B v' us' (xss ++ (mons k d).map (ss ++ ·)) ∧ KeepI w w' ∧ Below B w w' := by
  induction k with
  | zero =>
    intro _ d hd B B2 sv v ss us xss w hS hU hB hsl hxl
    obtain ⟨sa, sn, sc, rfl⟩ := own_shape hS
    obtain ⟨va, vn, vc, rfl⟩ := own_shape hU.row
    have HS := Lib.hid hS; have HU := Lib.hid hU; clear hS hU
    simp only [mons, List.length_singleton] at hxl
    go_enter Try.func81, Try.ntmps81
    go_wp2_with (first | (go_at_call 84; refine (l01Own_c _ _ _ HS.out.ints (by omega)).mono ?_; rintro e w1 ⟨r, rfl, hR, hb1⟩; obtain ⟨ra, rn, rc, rfl⟩ := own_shape hR; have hsz := hb1.size) | (at_builtin; refine append_int rfl _ _ rfl _ _ _ _ hR rfl hb1 hsz _ rfl (by simp) (by omega) ?_; intro v2 w2 hown2 hbl2 _ _; obtain ⟨qa, qn, qc, rfl⟩ := own_shape hown2) | (at_builtin; refine append_rowU rfl _ _ rfl _ _ _ _ _ _ HU.out rfl (by assumption) (by assumption) (Below.refl _ _) hB _ rfl (by simp) (by omega) ?_; intro v' w' hU' hbl' hkp _ _ _))
    go_ret
    refine ⟨_, _, rfl, hU'.cast (by simp [mons]), ?_, hbl'⟩
    exact (KeepI.of_same hbl2.block).trans hkp
  | succ k ih =>
    intro hk d hd B B2 sv v ss us xss w hS hU hB hsl hxl
    obtain ⟨sa, sn, sc, rfl⟩ := own_shape hS
    obtain ⟨va, vn, vc, rfl⟩ := own_shape hU.row
    have IH := Lib.hid ih; clear ih
    have HS := Lib.hid hS; have HU := Lib.hid hU; clear hS hU
    have t10 : ((k : Int) + 1 + 1 == 1) = false := by simp; omega
    rw [show ((k + 1 : Nat) : Int) = (k : Int) + 1 by omega]
    go_enter Try.func81, Try.ntmps81
    go_wp2_with fail
    go_loopw [3, 9] (fun v i wr => ∃ (n : Nat) (us : List Value), n ≤ d + 1 ∧ i = .int .i64 n ∧ OwnU wr B v us (xss ++ (monsP k d n).map (ss ++ ·)) ∧ KeepI w wr ∧ Below B w wr) (fun _ i _ => d + 1 - (intOf i).toNat)
    case atStart => exact ⟨0, us, Nat.zero_le _, rfl, HU.out.cast (by simp [monsP]), KeepI.refl _, Below.refl _ _⟩
    case round =>
      clear HU
      obtain ⟨n, us, hn, rfl, hU, hkp, hbl⟩ := hrel
      obtain ⟨va, vn, vc, rfl⟩ := own_shape hU.row
      by_cases hlt : n < d + 1
      · have hs0 := hbl.size
        have hs : B ≤ wr.heap.size := by omega
        have hsub : ((d - n : Nat) : Int) = (d : Int) - n := by omega
        have C := fun (B2 : Nat) (sv v : Value) (ss : List Int) (us : List Value) (xss : List (List Int)) (w : World) => IH.out (by omega) (d - n) (by omega) B B2 sv v ss us xss w
        simp only [hsub] at C
        have t18 : decide ((n : Int) ≤ (d : Int)) = true := by simp; omega
        have t18b : decide (n ≤ d) = true := by simp; omega
        have hst := monsP_succ k d n
        have hm := monsP_mono k d (show n + 1 ≤ d + 1 by omega)
        have hxl2 : (xss ++ (monsP k d n).map (ss ++ ·)).length + (mons k (d - n)).length ≤ 4398046511104 := by
          rw [mons_succ] at hxl
          rw [hst, List.length_append, List.length_map] at hm
          rw [List.length_append, List.length_map]; omega
        have hS2 := HS.out.keep hkp
        have HX := Lib.hid hxl2; have HST := Lib.hid hst; have HC := Lib.hid C; have HS2 := Lib.hid hS2; have HU := Lib.hid hU; have HB := Lib.hid hbl; have HK := Lib.hid hkp; clear C hU hbl hsub hkp hS2 hst hm hxl2
        go_wp2_with (first | (go_at_call 84; refine (l01Own_c _ _ _ HS2.out.ints (by omega)).mono ?_; rintro e w1 ⟨r, rfl, hR, hb1⟩; obtain ⟨ra, rn, rc, rfl⟩ := own_shape hR; have hsz := hb1.size) | (at_builtin; refine append_int rfl _ _ rfl _ _ _ _ hR rfl hb1 hsz _ rfl (by simp) (by omega) ?_; intro v2 w2 hown2 hbl2 _ _; obtain ⟨qa, qn, qc, rfl⟩ := own_shape hown2) | (go_at_call 81; refine (HC.out wr.heap.size _ _ (ss ++ [(n : Int)]) us _ w2 (by assumption) (HU.out.same hbl2.block) (Nat.le_trans hs hbl2.size) (by simp; omega) HX.out).mono ?_; rintro e w3 ⟨v3, us3, rfl, hU3, hK3, hB3⟩))
        go_roundw
        case rel =>
          refine ⟨n + 1, _, by omega, by go_num, hU3.cast ?_, (HK.out.trans (KeepI.of_same hbl2.block)).trans hK3, (HB.out.trans (hbl2.mono hs)).trans hB3⟩
          rw [HST.out]; simp
        case measure => simp [intOf]; omega
      · obtain rfl : n = d + 1 := by omega
        have t18 : decide ((d : Int) + 1 ≤ (d : Int)) = false := by simp; omega
        have t18b : decide (d + 1 ≤ d) = false := by simp
        have HU := Lib.hid hU; have HB := Lib.hid hbl; have HK := Lib.hid hkp; clear hU hbl hkp
        go_wp2_with fail
        go_ret
        exact ⟨_, us, rfl, HU.out.cast (by rw [mons_succ]), HK.out, HB.out⟩
end Go.Proofs.Ytlakdlnfijkaeaa

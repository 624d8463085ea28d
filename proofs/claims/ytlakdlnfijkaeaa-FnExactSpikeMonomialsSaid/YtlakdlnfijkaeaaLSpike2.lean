/- SpikeMonomials of the reference. -/
import Derived.Test.YtlakdlnfijkaeaaLSpike
namespace Go.Proofs.Ytlakdlnfijkaeaa
open Go.RowKit Go.Sort

/-- A row of references of the call's own: what they refer to reads as told in a heap h. -/
structure RefS (w : World) (B : Nat) (h : Array Obj) (v : Value) (us : List Value) (xss : List (List Int)) : Prop where
  row : w.ownsRow B 25 1 v xss.length us
  each : ∀ (i : Nat) u xs, us[i]? = some u → xss[i]? = some xs → IntS h u xs
theorem RefS.drewN {w : World} {B : Nat} {h : Array Obj} {v : Value} {us : List Value} {xss : List (List Int)} (n : Nat) (a : RefS w B h v us xss) : RefS (w.drewN n) B h v us xss := ⟨a.row, a.each⟩
theorem RefS.cast {w : World} {B : Nat} {h : Array Obj} {v : Value} {us : List Value} {xss yss : List (List Int)} (a : RefS w B h v us xss) (e : xss = yss) : RefS w B h v us yss := e ▸ a
theorem RefS.ints {w : World} {B : Nat} {h : Array Obj} {v : Value} {us : List Value} {xss : List (List Int)} (a : RefS w B h v us xss) (k : ∀ b, b < h.size → w.heap[b]? = h[b]?) : IntSS w.heap v xss :=
  ⟨us, slAt_of_own a.row, by simpa using a.row.1, fun i u xs hu hx => (a.each i u xs hu hx).same k⟩
section
variable {ops : Array Oper} {rest : List Oper} {o : Oper} {a : Act} {Q : Exit → Act → World → Prop}
theorem append_ref {w w0 : World} (hg : o.guard = none) (s x : Operand)
    (ho : o.op = .call { callee := .builtin .append, args := #[s, x], argTypes := #[32, 32] })
    (B : Nat) (h : Array Obj) (v u : Value) (us : List Value) (xss : List (List Int)) (xs : List Int) (hR : RefS w B h v us xss) (hs : a.eval s = v) (hu : IntS h u xs) (hu1 : u.oneCell' = true) (hbl : Below B w0 w) (hB : B ≤ w.heap.size)
    (b : Nat) (hx : a.eval x = .slice (some ⟨b, 0, none⟩) 1 1) (hb : b = w.heap.size) (hn : xss.length ≤ 4398046511104)
    (hK : ∀ v' w', RefS w' B h v' (us ++ [u]) (xss ++ [xs]) → Below B w0 w' → wpList Try.prog ops Q rest (a.put o.dst v') w') :
    wpList Try.prog ops Q (o :: rest) a (w.alloc (.cells #[u] 25)) := by
  obtain ⟨i0, hi, hz0, hz1, hz2⟩ := info_parts info_slI
  refine append_one hg s x _ ho B _ i0 _ 24 Try.underlying32 hi hz0 hz1 hz2 rfl (by omega) v _ _ u hR.row hs hbl hB _ hx hb hu1 hn ?_
  intro v' w' h1 h2 _ _
  refine hK v' w' ⟨by simpa using h1, fun i y ys hy hz => ?_⟩ h2
  have hl : us.length = xss.length := by simpa using hR.row.1
  by_cases hi : i < us.length
  · rw [List.getElem?_append_left hi] at hy
    rw [List.getElem?_append_left (by omega)] at hz
    exact hR.each i y ys hy hz
  · rw [List.getElem?_append_right (by omega)] at hy hz
    rw [← hl] at hz
    by_cases e : i - us.length = 0
    · rw [e] at hy hz; simp at hy hz; subst hy; subst hz; exact hu
    · obtain ⟨q, hq⟩ : ∃ q, i - us.length = q + 1 := ⟨i - us.length - 1, by omega⟩
      rw [hq] at hy; simp at hy
end
theorem skL_bounds (k d : Int) : (skL k d).length ≤ 100 ∧ cnt (skL k d) ≤ 400 := by
  unfold skL
  split
  · rename_i h
    obtain ⟨h1, h2, h3, h4, h5⟩ := h
    have hl : ((mons (k - 1).toNat d.toNat).filter (fun r => r.all spB)).length ≤ 100 := Nat.le_trans (List.length_filter_le _ _) (by rw [mons_lenM]; exact h5)
    refine ⟨hl, ?_⟩
    have hr : ∀ l : List (List Int), (∀ r ∈ l, r.length ≤ 4) → cnt l ≤ 4 * l.length := by
      intro l
      induction l with
      | nil => intro _; simp [cnt]
      | cons r l ih => intro h; rw [cnt_cons, List.length_cons]; have := ih (fun x hx => h x (List.mem_cons_of_mem _ hx)); have := h r (List.mem_cons_self ..); omega
    have := hr ((mons (k - 1).toNat d.toNat).filter (fun r => r.all spB)) (fun r hm => by rw [mons_row (k - 1).toNat d.toNat r (List.mem_filter.1 hm).1]; omega)
    omega
  · simp [cnt]
theorem specSpikeMonomials_c (k d : Int) (w : World) :
    Calls Try.prog 47 #[.int .i64 k, .int .i64 d] w fun e w' => ∃ v, e = .returned (.tuple #[v, .int .i64 (skC k d)]) ∧ IntSS w'.heap v (skL k d) ∧ Below w.heap.size w w' := by
  by_cases hr : 1 ≤ k ∧ k ≤ 4 ∧ 0 ≤ d ∧ d ≤ 40 ∧ lenM (k - 1).toNat d.toNat ≤ 100
  · obtain ⟨h1, h2, h3, h4, h5⟩ := hr
    have e1 : skC k d = 0 := by rw [skC, if_pos ⟨h1, h2, h3, h4⟩, if_pos h5]
    have e2 : skL k d = (mons (k - 1).toNat d.toNat).filter (fun r => r.all spB) := by rw [skL, if_pos ⟨h1, h2, h3, h4, h5⟩]
    have HC := Lib.hid (l09Code_c k d w)
    rw [e1] at HC
    rw [e1, e2]; clear e1 e2
    obtain ⟨q, hq⟩ := Int.eq_ofNat_of_zero_le (show 0 ≤ k - 1 by omega)
    obtain ⟨e, he⟩ := Int.eq_ofNat_of_zero_le h3
    obtain rfl : k = (q : Int) + 1 := by omega
    subst he
    rw [show ((q : Int) + 1 - 1).toNat = q by omega, show ((e : Int)).toNat = e by omega] at h5 ⊢
    have HA := Lib.hid (l08All_c q e w (by omega) (by omega))
    have hlen : (mons q e).length ≤ 100 := by rw [mons_lenM]; exact h5
    have HB0 := Lib.hid (mons_bound q e)
    have hd2 : e ≤ 40 := by omega
    clear h1 h2 h3 h4 h5 hq
    generalize mons q e = ms at *
    go_enter Try.func47, Try.ntmps47
    go_wp2_with (first | (go_at_call 69; refine HC.out.mono ?_; rintro e w' ⟨rfl, rfl⟩) | (go_at_call 70; refine HA.out.mono ?_; rintro e w1 ⟨lv, lus, rfl, hL, hb1⟩; obtain ⟨ao, lc, rfl, hmx⟩ := hL.ints.len; have HL := Lib.hid hL; have HB1 := Lib.hid hb1; clear hL hb1))
    go_loopw [8, 9] (fun v i wr => ∃ (j : Nat) (us : List Value), j ≤ ms.length ∧ i = .int .i64 j ∧ RefS wr w1.heap.size w1.heap v us ((ms.take j).filter fun r => r.all spB) ∧ Below w1.heap.size w1 wr) (fun _ i _ => ms.length - (intOf i).toNat)
    case atStart => exact ⟨0, [], Nat.zero_le _, rfl, ⟨World.ownsRow_made w1 #[] 0 (Nat.le_refl _) (Nat.zero_le _) rfl, fun i u xs hu => by simp at hu⟩, (Below.refl _ _).alloc (Nat.le_refl _) _⟩
    case round =>
      obtain ⟨j, us, hj, rfl, hR, hbl⟩ := hrel
      obtain ⟨va, vn, vc, rfl⟩ := own_shape hR.row
      by_cases hlt : j < ms.length
      · obtain ⟨b1, o1, c1, u, hv1, hc1, hu1, -⟩ := (HL.out.ints.same hbl.block).at j hlt
        obtain ⟨b2, o2, c2, u2, hv2, hc2, hu2, -⟩ := HL.out.ints.at j hlt
        simp only [Value.slice.injEq, true_and] at hv1 hv2
        obtain ⟨rfl, rfl⟩ := hv1
        obtain ⟨hv2, -⟩ := hv2
        simp only [Option.some.injEq, Addr.mk.injEq, and_true] at hv2
        obtain ⟨rfl, rfl⟩ := hv2
        have hb2 : wr.cell? ⟨b1, o1 + j, none⟩ = some u2 := by
          have hlt3 : b1 < w1.heap.size := by
            cases hq : w1.heap[b1]? with
            | none => rw [World.cell?] at hc2; simp [hq] at hc2
            | some _ => exact (Array.getElem?_eq_some_iff.1 hq).1
          rw [World.cell?_of_block (hbl.block b1 hlt3)]; exact hc2
        obtain rfl : u = u2 := by rw [hc1] at hb2; exact Option.some.inj hb2
        clear hc2 hb2
        obtain ⟨ra, rc, rfl, hrl⟩ := hu1.len
        have hrb := HB0.out _ (List.getElem_mem hlt)
        have hst : (ms.take (j + 1)).filter (fun r => r.all spB) = (ms.take j).filter (fun r => r.all spB) ++ if ms[j].all spB then [ms[j]] else [] := by
          rw [List.take_succ_eq_append_getElem hlt, List.filter_append]; simp [List.filter_cons]
        have hln : ((ms.take j).filter fun r => r.all spB).length ≤ 4398046511104 := Nat.le_trans (List.length_filter_le _ _) (by rw [List.length_take]; omega)
        have S := Lib.hid (l09Spike_c _ _ wr hu1 (fun x hx => by have := hrb x hx; omega))
        have hs := hbl.size
        have HST := Lib.hid hst; have HLN := Lib.hid hln; have HU1 := Lib.hid hu1; have HU2 := Lib.hid hu2; have HR := Lib.hid hR; have HB := Lib.hid hbl
        clear hst hln hu1 hu2 hR hbl hrb
        generalize ms[j] = r at *
        cases hp : r.all spB
        · rw [hp] at S HST
          clear hp
          go_wp2_with (first | (go_at_call 71; refine S.out.mono ?_; rintro e w' ⟨rfl, nq, rfl⟩))
          go_roundw
          case rel => exact ⟨j + 1, us, by omega, by go_num, (HR.out.drewN nq).cast (by rw [HST.out]; simp), below_drewN nq HB.out⟩
          case measure => simp [intOf]; omega
        · rw [hp] at S HST
          clear hp
          go_wp2_with (first | (go_at_call 71; refine S.out.mono ?_; rintro e w' ⟨rfl, nq, rfl⟩) | (at_builtin; refine append_ref (w := wr.drewN nq) rfl _ _ rfl _ _ _ _ _ _ _ (HR.out.drewN nq) rfl HU2.out rfl (below_drewN nq HB.out) hs _ rfl (by simp) HLN.out ?_; intro v' w' hR' hbl'))
          go_roundw
          case rel => exact ⟨j + 1, _, by omega, by go_num, hR'.cast (by rw [HST.out]; simp), hbl'⟩
          case measure => simp [intOf]; omega
      · obtain rfl : j = ms.length := by omega
        have HR := Lib.hid hR; have HB := Lib.hid hbl; clear hR hbl
        go_wp2_with fail
        go_ret2
        exact ⟨_, rfl, (HR.out.cast (yss := ms.filter fun r => r.all spB) (by rw [List.take_length])).ints HB.out.block, HB1.out.trans (HB.out.mono HB1.out.size)⟩
  · have HC := Lib.hid (l09Code_c k d w)
    have e2 : skL k d = [] := by rw [skL, if_neg hr]
    have e1 : skC k d ≠ 0 := by
      rw [skC]; split
      · split
        · rename_i x y; exact absurd ⟨x.1, x.2.1, x.2.2.1, x.2.2.2, y⟩ hr
        · decide
      · decide
    rw [e2]; clear e2 hr
    have t1 := (neB e1).1
    have t2 := (neB e1).2
    generalize skC k d = c at *
    clear e1
    go_enter Try.func47, Try.ntmps47
    go_wp2_with (first | (go_at_call 69; refine HC.out.mono ?_; rintro e w' ⟨rfl, rfl⟩))
    go_ret2
    exact ⟨_, rfl, IntSS.nil _, Below.refl _ _⟩
end Go.Proofs.Ytlakdlnfijkaeaa

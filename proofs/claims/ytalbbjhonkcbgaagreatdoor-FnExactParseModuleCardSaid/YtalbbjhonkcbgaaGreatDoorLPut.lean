/- A list put into a term list: of the reference. -/
import Derived.Test.YtalbbjhonkcbgaaGreatDoorLRef
import Derived.Test.YtalbbjhonkcbgaaGreatDoorLCmp
namespace Go.Proofs.YtalbbjhonkcbgaaGreatDoor
open Go.RowKit Go.Sort

theorem put_split (x : List Int) (l : List (List Int)) (k : Nat) (hk : k ≤ l.length) (h1 : ∀ j, j < k → ltL (l.getD j []) x = true) (h2 : k < l.length → ltL (l.getD k []) x = false) :
    put x l = l.take k ++ (if k < l.length ∧ l.getD k [] = x then l.drop (k + 1) else x :: l.drop k) := by
  induction l generalizing k with
  | nil =>
    obtain rfl : k = 0 := by simpa using hk
    simp [put]
  | cons y r ih =>
    rcases k with _ | k
    · have h3 := h2 (by simp)
      simp only [List.getD_cons_zero] at h3
      rw [put]
      cases h4 : ltL x y
      · have e := ltL_total _ _ h3 h4
        subst e
        simp [ltL_irrefl]
      · have e : y ≠ x := fun e => by subst e; rw [ltL_irrefl] at h4; cases h4
        simp [e]
    · have h3 := h1 0 (by omega)
      simp only [List.getD_cons_zero] at h3
      rw [put, if_neg (by rw [ltL_asymm _ _ h3]; decide), if_pos h3, ih k (by simpa using hk) (fun j hj => by have := h1 (j + 1) (by omega); simpa using this) (fun hh => by have := h2 (by simpa using hh); simpa using this)]
      simp
theorem put_length (x : List Int) (l : List (List Int)) : (put x l).length ≤ l.length + 1 := by
  induction l with
  | nil => simp [put]
  | cons y r ih => rw [put]; split; simp; split; simp; exact ih; simp; omega
set_option maxRecDepth 100000 in
set_option maxHeartbeats 2000000 in
theorem l01PutR_c (v u : Value) (xss : List (List Int)) (xs : List Int) (w : World) (h : IntSS w.heap v xss) (hu : IntS w.heap u xs) (hl : xss.length < 4398046511104) (hx : xs.length ≤ 4398046511104) :
    Calls Tryz.prog 120 #[v, u] w fun e w' => ∃ r, e = .returned r ∧ (∃ us, RefR w' w.heap.size w'.heap r us (put xs xss)) ∧ Below w.heap.size w w' := by
  have OW := Lib.hid (fun (W : World) (hu : IntS W.heap u xs) => l01Own_c u xs W hu hx)
  have LS := Lib.hid (fun (y : Value) (ys : List Int) (W : World) (h1 : IntS W.heap y ys) (h2 : IntS W.heap u xs) => l01Less_c y u ys xs W h1 h2)
  have SM := Lib.hid (fun (y : Value) (ys : List Int) (W : World) (h1 : IntS W.heap y ys) (h2 : IntS W.heap u xs) => l01Same_c y u ys xs W h1 h2)
  obtain ⟨ao, c, hv, hm⟩ := h.len
  subst hv
  obtain ⟨bo, d, hv2, hm2⟩ := hu.len
  subst hv2
  have hcap : xss.length ≤ c := by
    obtain ⟨us, h1, h2, _⟩ := h
    obtain ⟨a', c', hv', h3, _⟩ := SlAt.len h1
    simp only [Value.slice.injEq] at hv'
    omega
  have H := Lib.hid h; have HU := Lib.hid hu; clear h hu
  go_enter Tryz.func120, Tryz.ntmps120
  go_wp2_with fail
  go_loopw [5] (fun i wr => ∃ k n : Nat, k ≤ xss.length ∧ i = .int .i64 k ∧ wr = w.drewN n ∧ ∀ j, j < k → ltL (xss.getD j []) xs = true) (fun i _ => xss.length - (intOf i).toNat)
  case atStart => exact ⟨0, 0, Nat.zero_le _, rfl, rfl, fun j hj => by omega⟩
  case round =>
    obtain ⟨k, n, hk, rfl, rfl, hpre⟩ := hrel
    have HP := Lib.hid hpre; clear hpre
    by_cases hlt : k < xss.length
    · obtain ⟨b1', o1, c1, uk, hv1, hc1, huk, -⟩ := H.out.at k hlt
      simp only [Value.slice.injEq, true_and] at hv1
      obtain ⟨rfl, rfl⟩ := hv1
      obtain ⟨qa, qc, rfl, -⟩ := huk.len
      rw [show xss[k] = xss.getD k [] by simp [hlt]] at huk hc1
      have HUK := Lib.hid huk
      have hki : (k : Int) < xss.length := by omega
      clear huk
      cases hL : ltL (xss.getD k []) xs
      · have L1 := Lib.hid (LS.out (.slice qa (xss.getD k []).length qc) _ (w.drewN n) HUK.out HU.out)
        rw [hL] at L1
        by_cases heq : xss.getD k [] = xs
        · have HS : Hid (put xs xss = xss.take k ++ xss.drop (k + 1)) := by
            show _ = _
            rw [put_split xs xss k hk HP.out (fun _ => hL), if_pos ⟨hlt, heq⟩]
          have M1 := Lib.hid (fun (W : World) (h : IntS W.heap (.slice qa (xss.getD k []).length qc) (xss.getD k [])) (h2 : IntS W.heap (.slice bo xs.length d) xs) => SM.out _ _ W h h2)
          rw [show decide (xss.getD k [] = xs) = true by simpa using heq] at M1
          clear hL heq
          generalize xss.getD k [] = ys at *
          go_wp2_with (first | (go_at_call 86; refine L1.out.mono ?_; rintro e W2 ⟨rfl, n2, rfl⟩) | (go_at_call 69; refine (M1.out _ (by exact HUK.out) (by exact HU.out)).mono ?_; rintro e W3 ⟨rfl, n3, rfl⟩))
          have b0 : (0 : Int) ≤ k := by omega
          have b1 : (k : Int) ≤ c := by omega
          have b2 : (0 : Int) ≤ (k : Int) + 1 := by omega
          have b3 : (k : Int) + 1 ≤ xss.length := by omega
          have b4 : ((k : Int) + 1).toNat = k + 1 := by omega
          have b5 : IntKind.i64.wrap ((k : Int) + 1) = (k : Int) + 1 := IntWalk.i64_in _ (by omega)
          go_region_held3 (fun _ => True) (trivial) (first | (refine step_append_refs (by rfl) _ _ (by rfl) w.heap.size w.heap (.slice (some ⟨w.heap.size, 0, none⟩) 0 0) (.slice (some ⟨b1', o1, none⟩) k c) [] [] (xss.take k) (by exact ref_empty (w := w.drewN (n + n2 + n3 + 1)) _ (by exact Nat.le_refl _)) (by rfl) (by exact ((H.out.at2 (fun _ _ => rfl)).take k hk).same (alloc_old w _)) (by rfl) (by exact (below_drewN _ (Below.refl _ w)).alloc (by simp) _) (by simp) (by simp; omega) ?_; intro v3 us3 w3 hR3 hb3 hs3 hk3; obtain ⟨sa, sn, sc, rfl⟩ := own_shape hR3.row) | (refine step_append_refs (by rfl) _ _ (by rfl) w.heap.size w.heap (.slice sa sn sc) (.slice (dropA (some ⟨b1', o1, none⟩) c (k + 1)) (xss.length - (k + 1)) (c - (k + 1))) us3 _ (xss.drop (k + 1)) hR3 (by rfl) (by exact (H.out.at2 hb3.block).drop (k + 1) (by omega)) (by rfl) hb3 hb3.size (by simp; omega) ?_; intro v4 us4 w4 hR4 hb4 _ _; obtain ⟨ta, tn, tc, rfl⟩ := own_shape hR4.row))
          go_wp2_with fail
          all_goals
            go_ret
            exact ⟨_, rfl, ⟨us4, by rw [HS.out]; exact hR4.grow hb4.block⟩, hb4⟩
        · have HS : Hid (put xs xss = xss.take k ++ xs :: xss.drop k) := by
            show _ = _
            rw [put_split xs xss k hk HP.out (fun _ => hL), if_neg (fun x => heq x.2)]
          have M1 := Lib.hid (fun (W : World) (h : IntS W.heap (.slice qa (xss.getD k []).length qc) (xss.getD k [])) (h2 : IntS W.heap (.slice bo xs.length d) xs) => SM.out _ _ W h h2)
          rw [show decide (xss.getD k [] = xs) = false by simpa using heq] at M1
          have HD : Hid (dropA (some ⟨b1', o1, none⟩) c k = some ⟨b1', o1 + k, none⟩) := by
            show _ = _
            have : c ≠ k := by omega
            simp [dropA, this, Addr.add]
          clear hL heq
          generalize xss.getD k [] = ys at *
          have b0 : (0 : Int) ≤ k := by omega
          have b1 : (k : Int) ≤ c := by omega
          have b6 : (k : Int) ≤ xss.length := by omega
          go_wp2_with (first | (go_at_call 86; refine L1.out.mono ?_; rintro e W2 ⟨rfl, n2, rfl⟩) | (go_at_call 69; refine (M1.out _ (by exact HUK.out) (by exact HU.out)).mono ?_; rintro e W3 ⟨rfl, n3, rfl⟩))
          go_region_held3 (fun _ => True) (trivial) (first | (go_at_call 124; refine (OW.out _ (by exact HU.out)).mono ?_; rintro e w2 ⟨ru, rfl, hru, hb2⟩; obtain ⟨ra, rn, rc, rfl⟩ := own_shape hru; have HB2 := Lib.hid ((below_drewN (n + n2 + n3 + 1) (Below.refl _ w)).trans hb2); have HRU := Lib.hid hru.ints; clear hru hb2) | (refine step_append_refs (by rfl) _ _ (by rfl) w2.heap.size w2.heap (.slice (some ⟨w2.heap.size, 0, none⟩) 1 1) (.slice (some ⟨b1', o1 + k, none⟩) (xss.length - k) (c - k)) [.slice ra rn rc] [xs] (xss.drop k) (by exact ref_one HRU.out (Nat.le_refl _)) (by rfl) (by have := (((H.out.same HB2.out.block).at2 (fun _ _ => rfl)).drop k hk).same (alloc_old _ (.cells #[.slice ra rn rc] 30)); rw [HD.out] at this; exact this) (by rfl) (by exact (Below.refl _ _).alloc (Nat.le_refl _) _) (by simp) (by simp; omega) ?_; intro v3 us3 w3 hR3 hb3 _ _; obtain ⟨sa, sn, sc, rfl⟩ := own_shape hR3.row))
          have HR3 := Lib.hid hR3; have HB3 := Lib.hid hb3; clear hR3 hb3
          go_wp2_with (first | (at_builtin; refine append_refs rfl _ _ rfl w2.heap.size w2.heap (.slice (some ⟨w3.heap.size, 0, none⟩) 0 0) (.slice (some ⟨b1', o1, none⟩) k c) [] [] (xss.take k) (ref_empty _ HB3.out.size) rfl ((((H.out.same HB2.out.block).at2 HB3.out.block).take k hk).same (alloc_old _ _)) rfl (HB3.out.alloc HB3.out.size _) (by have := HB3.out.size; simp; omega) (by simp; omega) ?_; intro v4 us4 w4 hR4 hb4 hs4 hk4; obtain ⟨ta, tn, tc, rfl⟩ := own_shape hR4.row; have HR4 := Lib.hid hR4; have HB4 := Lib.hid hb4; have HR34 := Lib.hid (HR3.out.at2.same (fun b hb => (hk4 b (by simp; omega) (fun e => by simp [Value.ownBlock] at e; omega)).trans (alloc_old _ _ b hb))); clear hR4 hb4 hs4 hk4) | (at_builtin; refine append_refs rfl _ _ rfl w2.heap.size w2.heap (.slice ta tn tc) (.slice sa sn sc) us4 _ ([xs] ++ xss.drop k) HR4.out rfl HR34.out rfl HB4.out HB4.out.size (by simp; omega) ?_; intro v5 us5 w5 hR5 hb5 _ _; obtain ⟨pa, pn, pc, rfl⟩ := own_shape hR5.row))
          go_ret
          exact ⟨_, rfl, ⟨us5, by rw [HS.out]; exact RefR.base (RefR.grow (by simpa using hR5) hb5.block) HB2.out.size⟩, HB2.out.trans (hb5.mono HB2.out.size)⟩
      · have HPS : Hid (∀ j, j < k + 1 → ltL (xss.getD j []) xs = true) := fun j hj => by
          by_cases e : j = k
          · rw [e]; exact hL
          · exact HP.out j (by omega)
        have L1 := Lib.hid (LS.out (.slice qa (xss.getD k []).length qc) _ (w.drewN n) HUK.out HU.out)
        rw [hL] at L1
        clear hL
        generalize xss.getD k [] = ys at *
        go_wp2_with (go_at_call 86; refine L1.out.mono ?_; rintro e W2 ⟨rfl, n2, rfl⟩)
        go_roundw
        case rel => exact ⟨k + 1, _, by omega, by go_num, by first | rfl | (simp only [World.drewN_drewN]; rfl), HPS.out⟩
        case measure => simp [intOf]; omega
    · have HS : Hid (put xs xss = xss.take k ++ xs :: xss.drop k) := by
        show _ = _
        rw [put_split xs xss k hk HP.out (fun h => absurd h hlt), if_neg (fun x => hlt x.1)]
      by_cases hck : c = k
      · obtain rfl : k = c := hck.symm
        have HD : Hid (dropA ao k k = ao) := by show _ = _; rw [dropA, if_pos rfl]
        have b0 : (0 : Int) ≤ k := by omega
        have b6 : (k : Int) ≤ xss.length := by omega
        go_wp2_with fail
        go_region_held3 (fun _ => True) (trivial) (first | (go_at_call 124; refine (OW.out _ (by exact HU.out)).mono ?_; rintro e w2 ⟨ru, rfl, hru, hb2⟩; obtain ⟨ra, rn, rc, rfl⟩ := own_shape hru; have HB2 := Lib.hid ((below_drewN (n + 1) (Below.refl _ w)).trans hb2); have HRU := Lib.hid hru.ints; clear hru hb2) | (refine step_append_refs (by rfl) _ _ (by rfl) w2.heap.size w2.heap (.slice (some ⟨w2.heap.size, 0, none⟩) 1 1) (.slice ao 0 0) [.slice ra rn rc] [xs] (xss.drop k) (by exact ref_one HRU.out (Nat.le_refl _)) (by rfl) (by have := (((H.out.same HB2.out.block).at2 (fun _ _ => rfl)).drop k hk).same (alloc_old _ (.cells #[.slice ra rn rc] 30)); rw [HD.out, Nat.sub_self, show xss.length - k = 0 by omega] at this; exact this) (by rfl) (by exact (Below.refl _ _).alloc (Nat.le_refl _) _) (by simp) (by simp; omega) ?_; intro v3 us3 w3 hR3 hb3 _ _; obtain ⟨sa, sn, sc, rfl⟩ := own_shape hR3.row))
        have HR3 := Lib.hid hR3; have HB3 := Lib.hid hb3; clear hR3 hb3
        go_wp2_with (first | (at_builtin; refine append_refs rfl _ _ rfl w2.heap.size w2.heap (.slice (some ⟨w3.heap.size, 0, none⟩) 0 0) (.slice ao k k) [] [] (xss.take k) (ref_empty _ HB3.out.size) rfl ((((H.out.same HB2.out.block).at2 HB3.out.block).take k hk).same (alloc_old _ _)) rfl (HB3.out.alloc HB3.out.size _) (by have := HB3.out.size; simp; omega) (by simp; omega) ?_; intro v4 us4 w4 hR4 hb4 hs4 hk4; obtain ⟨ta, tn, tc, rfl⟩ := own_shape hR4.row; have HR4 := Lib.hid hR4; have HB4 := Lib.hid hb4; have HR34 := Lib.hid (HR3.out.at2.same (fun b hb => (hk4 b (by simp; omega) (fun e => by simp [Value.ownBlock] at e; omega)).trans (alloc_old _ _ b hb))); clear hR4 hb4 hs4 hk4) | (at_builtin; refine append_refs rfl _ _ rfl w2.heap.size w2.heap (.slice ta tn tc) (.slice sa sn sc) us4 _ ([xs] ++ xss.drop k) HR4.out rfl HR34.out rfl HB4.out HB4.out.size (by simp; omega) ?_; intro v5 us5 w5 hR5 hb5 _ _; obtain ⟨pa, pn, pc, rfl⟩ := own_shape hR5.row))
        go_ret
        exact ⟨_, rfl, ⟨us5, by rw [HS.out]; exact RefR.base (RefR.grow (by simpa using hR5) hb5.block) HB2.out.size⟩, HB2.out.trans (hb5.mono HB2.out.size)⟩
      · have HD : Hid (dropA ao c k = ao.map (·.add k)) := by show _ = _; rw [dropA, if_neg hck]
        have b0 : (0 : Int) ≤ k := by omega
        have b1 : (k : Int) ≤ c := by omega
        have b6 : (k : Int) ≤ xss.length := by omega
        go_wp2_with fail
        go_region_held3 (fun _ => True) (trivial) (first | (go_at_call 124; refine (OW.out _ (by exact HU.out)).mono ?_; rintro e w2 ⟨ru, rfl, hru, hb2⟩; obtain ⟨ra, rn, rc, rfl⟩ := own_shape hru; have HB2 := Lib.hid ((below_drewN (n + 1) (Below.refl _ w)).trans hb2); have HRU := Lib.hid hru.ints; clear hru hb2) | (refine step_append_refs (by rfl) _ _ (by rfl) w2.heap.size w2.heap (.slice (some ⟨w2.heap.size, 0, none⟩) 1 1) (.slice (ao.map (·.add k)) (xss.length - k) (c - k)) [.slice ra rn rc] [xs] (xss.drop k) (by exact ref_one HRU.out (Nat.le_refl _)) (by rfl) (by have := (((H.out.same HB2.out.block).at2 (fun _ _ => rfl)).drop k hk).same (alloc_old _ (.cells #[.slice ra rn rc] 30)); rw [HD.out] at this; exact this) (by rfl) (by exact (Below.refl _ _).alloc (Nat.le_refl _) _) (by simp) (by simp; omega) ?_; intro v3 us3 w3 hR3 hb3 _ _; obtain ⟨sa, sn, sc, rfl⟩ := own_shape hR3.row))
        have HR3 := Lib.hid hR3; have HB3 := Lib.hid hb3; clear hR3 hb3
        go_wp2_with (first | (at_builtin; refine append_refs rfl _ _ rfl w2.heap.size w2.heap (.slice (some ⟨w3.heap.size, 0, none⟩) 0 0) (.slice ao k c) [] [] (xss.take k) (ref_empty _ HB3.out.size) rfl ((((H.out.same HB2.out.block).at2 HB3.out.block).take k hk).same (alloc_old _ _)) rfl (HB3.out.alloc HB3.out.size _) (by have := HB3.out.size; simp; omega) (by simp; omega) ?_; intro v4 us4 w4 hR4 hb4 hs4 hk4; obtain ⟨ta, tn, tc, rfl⟩ := own_shape hR4.row; have HR4 := Lib.hid hR4; have HB4 := Lib.hid hb4; have HR34 := Lib.hid (HR3.out.at2.same (fun b hb => (hk4 b (by simp; omega) (fun e => by simp [Value.ownBlock] at e; omega)).trans (alloc_old _ _ b hb))); clear hR4 hb4 hs4 hk4) | (at_builtin; refine append_refs rfl _ _ rfl w2.heap.size w2.heap (.slice ta tn tc) (.slice sa sn sc) us4 _ ([xs] ++ xss.drop k) HR4.out rfl HR34.out rfl HB4.out HB4.out.size (by simp; omega) ?_; intro v5 us5 w5 hR5 hb5 _ _; obtain ⟨pa, pn, pc, rfl⟩ := own_shape hR5.row))
        go_ret
        exact ⟨_, rfl, ⟨us5, by rw [HS.out]; exact RefR.base (RefR.grow (by simpa using hR5) hb5.block) HB2.out.size⟩, HB2.out.trans (hb5.mono HB2.out.size)⟩
theorem l01Put_c (v u : Value) (xss : List (List Int)) (xs : List Int) (w : World) (h : IntSS w.heap v xss) (hu : IntS w.heap u xs) (hl : xss.length < 4398046511104) (hx : xs.length ≤ 4398046511104) :
    Calls Tryz.prog 120 #[v, u] w fun e w' => ∃ r, e = .returned r ∧ IntSS w'.heap r (put xs xss) ∧ Below w.heap.size w w' :=
  (l01PutR_c v u xss xs w h hu hl hx).mono fun _ _ ⟨r, h1, ⟨_, h2⟩, h3⟩ => ⟨r, h1, h2.ints (fun _ _ => rfl), h3⟩
end Go.Proofs.YtalbbjhonkcbgaaGreatDoor

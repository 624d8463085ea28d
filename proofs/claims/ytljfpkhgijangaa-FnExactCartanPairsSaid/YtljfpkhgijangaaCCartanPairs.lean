/- What is proved: for every input the law FnExactCartanPairs returns true and its arguments read behind the call as before: the program's CartanPairs and the reference's agree, and the result is the call's own. No condition. -/
import Derived.Test.YtljfpkhgijangaaLRef
import Derived.Test.YtljfpkhgijangaaLCmp
import Derived.Test.YtljfpkhgijangaaLPrS
import Derived.Test.YtljfpkhgijangaaLib4
import Derived.Test.YtljfpkhgijangaaLOdd2
import Derived.Test.YtljfpkhgijangaaLStep
import Derived.Lib.SliceRun
import Derived.Test.YtljfpkhgijangaaLJoin
import Derived.Test.YtljfpkhgijangaaLMulD
import Derived.Test.YtljfpkhgijangaaLGen
import Derived.Deep.DeepCutAuto
import Derived.Test.YtljfpkhgijangaaLPair
import Derived.Test.YtljfpkhgijangaaLMilArg
import Derived.Test.YtljfpkhgijangaaLCaP
import Derived.Test.YtljfpkhgijangaaLCaJ
import Derived.Test.YtljfpkhgijangaaLCaQ
import Derived.Test.YtljfpkhgijangaaLTrim
import Derived.Test.YtljfpkhgijangaaLSum
import Derived.Test.YtljfpkhgijangaaLSss
import Derived.Test.YtljfpkhgijangaaLib3
import Derived.Test.YtljfpkhgijangaaBase2
import Derived.Test.YtljfpkhgijangaaLAdd
import Derived.Test.YtljfpkhgijangaaBaseC
import Derived.Test.YtljfpkhgijangaaRows
import Derived.Test.YtljfpkhgijangaaLHeld2
import Derived.OpenShut
import Derived.ShutString
import Derived.ChangeOld
namespace Go.Proofs.Ytljfpkhgijangaa
section
open Go.RowKit Go.Sort

theorem put_split (x : List Int) (l : List (List Int)) (k : Nat) (hk : k ≤ l.length) (h1 : ∀ j, j < k → ltL (l.getD j []) x = true) (h2 : k < l.length → ltL (l.getD k []) x = false) :
    put x l = l.take k ++ (if k < l.length ∧ l.getD k [] = x then l.drop (k + 1) else x :: l.drop k) := by
  induction l generalizing k with
  | nil =>
    obtain rfl : k = 0 := by simpa using hk
    simp [put]
  | cons y r ih =>
    rcases k with _ | k
    · have h3 := h2 (by simp)
      simp only [List.getD_cons_zero] at h3
      rw [put]
      cases h4 : ltL x y
      · have e := ltL_total _ _ h3 h4
        subst e
        simp [ltL_irrefl]
      · have e : y ≠ x := fun e => by subst e; rw [ltL_irrefl] at h4; cases h4
        simp [e]
    · have h3 := h1 0 (by omega)
      simp only [List.getD_cons_zero] at h3
      rw [put, if_neg (by rw [ltL_asymm _ _ h3]; decide), if_pos h3, ih k (by simpa using hk) (fun j hj => by have := h1 (j + 1) (by omega); simpa using this) (fun hh => by have := h2 (by simpa using hh); simpa using this)]
      simp
theorem put_length (x : List Int) (l : List (List Int)) : (put x l).length ≤ l.length + 1 := by
  induction l with
  | nil => simp [put]
  | cons y r ih => rw [put]; split; simp; split; simp; exact ih; simp; omega
set_option maxRecDepth 100000 in
set_option maxHeartbeats 2000000 in
theorem l01PutR_c (v u : Value) (xss : List (List Int)) (xs : List Int) (w : World) (h : IntSS w.heap v xss) (hu : IntS w.heap u xs) (hl : xss.length < 4398046511104) (hx : xs.length ≤ 4398046511104) :
    Calls Try.prog 151 #[v, u] w fun e w' => ∃ r, e = .returned r ∧ (∃ us, RefR w' w.heap.size w'.heap r us (put xs xss)) ∧ Below w.heap.size w w' := by
  have OW := Lib.hid (fun (W : World) (hu : IntS W.heap u xs) => l01Own_c u xs W hu hx)
  have LS := Lib.hid (fun (y : Value) (ys : List Int) (W : World) (h1 : IntS W.heap y ys) (h2 : IntS W.heap u xs) => l01Less_c y u ys xs W h1 h2)
  have SM := Lib.hid (fun (y : Value) (ys : List Int) (W : World) (h1 : IntS W.heap y ys) (h2 : IntS W.heap u xs) => l01Same_c y u ys xs W h1 h2)
  obtain ⟨ao, c, hv, hm⟩ := h.len
  subst hv
  obtain ⟨bo, d, hv2, hm2⟩ := hu.len
  subst hv2
  have hcap : xss.length ≤ c := by
    obtain ⟨us, h1, h2, _⟩ := h
    obtain ⟨a', c', hv', h3, _⟩ := SlAt.len h1
    simp only [Value.slice.injEq] at hv'
    omega
  have H := Lib.hid h; have HU := Lib.hid hu; clear h hu
  go_enter Try.func151, Try.ntmps151
  go_wp2_with fail
  go_loopw [5] (fun i wr => ∃ k n : Nat, k ≤ xss.length ∧ i = .int .i64 k ∧ wr = w.drewN n ∧ ∀ j, j < k → ltL (xss.getD j []) xs = true) (fun i _ => xss.length - (intOf i).toNat)
  case atStart => exact ⟨0, 0, Nat.zero_le _, rfl, rfl, fun j hj => by omega⟩
  case round =>
    obtain ⟨k, n, hk, rfl, rfl, hpre⟩ := hrel
    have HP := Lib.hid hpre; clear hpre
    by_cases hlt : k < xss.length
    · obtain ⟨b1', o1, c1, uk, hv1, hc1, huk, -⟩ := H.out.at k hlt
      simp only [Value.slice.injEq, true_and] at hv1
      obtain ⟨rfl, rfl⟩ := hv1
      obtain ⟨qa, qc, rfl, -⟩ := huk.len
      rw [show xss[k] = xss.getD k [] by simp [hlt]] at huk hc1
      have HUK := Lib.hid huk
      have hki : (k : Int) < xss.length := by omega
      clear huk
      cases hL : ltL (xss.getD k []) xs
      · have L1 := Lib.hid (LS.out (.slice qa (xss.getD k []).length qc) _ (w.drewN n) HUK.out HU.out)
        rw [hL] at L1
        by_cases heq : xss.getD k [] = xs
        · have HS : Hid (put xs xss = xss.take k ++ xss.drop (k + 1)) := by
            show _ = _
            rw [put_split xs xss k hk HP.out (fun _ => hL), if_pos ⟨hlt, heq⟩]
          have M1 := Lib.hid (fun (W : World) (h : IntS W.heap (.slice qa (xss.getD k []).length qc) (xss.getD k [])) (h2 : IntS W.heap (.slice bo xs.length d) xs) => SM.out _ _ W h h2)
          rw [show decide (xss.getD k [] = xs) = true by simpa using heq] at M1
          clear hL heq
          generalize xss.getD k [] = ys at *
          go_wp2_with (first | (go_at_call 155; refine L1.out.mono ?_; rintro e W2 ⟨rfl, n2, rfl⟩) | (go_at_call 189; refine (M1.out _ (by exact HUK.out) (by exact HU.out)).mono ?_; rintro e W3 ⟨rfl, n3, rfl⟩))
          have b0 : (0 : Int) ≤ k := by omega
          have b1 : (k : Int) ≤ c := by omega
          have b2 : (0 : Int) ≤ (k : Int) + 1 := by omega
          have b3 : (k : Int) + 1 ≤ xss.length := by omega
          have b4 : ((k : Int) + 1).toNat = k + 1 := by omega
          have b5 : IntKind.i64.wrap ((k : Int) + 1) = (k : Int) + 1 := IntWalk.i64_in _ (by omega)
          go_region_held3 (fun _ => True) (trivial) (first | (refine step_append_refs (by rfl) _ _ (by rfl) w.heap.size w.heap (.slice (some ⟨w.heap.size, 0, none⟩) 0 0) (.slice (some ⟨b1', o1, none⟩) k c) [] [] (xss.take k) (by exact ref_empty (w := w.drewN (n + n2 + n3 + 1)) _ (by exact Nat.le_refl _)) (by rfl) (by exact ((H.out.at2 (fun _ _ => rfl)).take k hk).same (alloc_old w _)) (by rfl) (by exact (below_drewN _ (Below.refl _ w)).alloc (by simp) _) (by simp) (by simp; omega) ?_; intro v3 us3 w3 hR3 hb3 hs3 hk3; obtain ⟨sa, sn, sc, rfl⟩ := own_shape hR3.row) | (refine step_append_refs (by rfl) _ _ (by rfl) w.heap.size w.heap (.slice sa sn sc) (.slice (dropA (some ⟨b1', o1, none⟩) c (k + 1)) (xss.length - (k + 1)) (c - (k + 1))) us3 _ (xss.drop (k + 1)) hR3 (by rfl) (by exact (H.out.at2 hb3.block).drop (k + 1) (by omega)) (by rfl) hb3 hb3.size (by simp; omega) ?_; intro v4 us4 w4 hR4 hb4 _ _; obtain ⟨ta, tn, tc, rfl⟩ := own_shape hR4.row))
          go_wp2_with fail
          all_goals
            go_ret
            exact ⟨_, rfl, ⟨us4, by rw [HS.out]; exact hR4.grow hb4.block⟩, hb4⟩
        · have HS : Hid (put xs xss = xss.take k ++ xs :: xss.drop k) := by
            show _ = _
            rw [put_split xs xss k hk HP.out (fun _ => hL), if_neg (fun x => heq x.2)]
          have M1 := Lib.hid (fun (W : World) (h : IntS W.heap (.slice qa (xss.getD k []).length qc) (xss.getD k [])) (h2 : IntS W.heap (.slice bo xs.length d) xs) => SM.out _ _ W h h2)
          rw [show decide (xss.getD k [] = xs) = false by simpa using heq] at M1
          have HD : Hid (dropA (some ⟨b1', o1, none⟩) c k = some ⟨b1', o1 + k, none⟩) := by
            show _ = _
            have : c ≠ k := by omega
            simp [dropA, this, Addr.add]
          clear hL heq
          generalize xss.getD k [] = ys at *
          have b0 : (0 : Int) ≤ k := by omega
          have b1 : (k : Int) ≤ c := by omega
          have b6 : (k : Int) ≤ xss.length := by omega
          go_wp2_with (first | (go_at_call 155; refine L1.out.mono ?_; rintro e W2 ⟨rfl, n2, rfl⟩) | (go_at_call 189; refine (M1.out _ (by exact HUK.out) (by exact HU.out)).mono ?_; rintro e W3 ⟨rfl, n3, rfl⟩))
          go_region_held3 (fun _ => True) (trivial) (first | (go_at_call 123; refine (OW.out _ (by exact HU.out)).mono ?_; rintro e w2 ⟨ru, rfl, hru, hb2⟩; obtain ⟨ra, rn, rc, rfl⟩ := own_shape hru; have HB2 := Lib.hid ((below_drewN (n + n2 + n3 + 1) (Below.refl _ w)).trans hb2); have HRU := Lib.hid hru.ints; clear hru hb2) | (refine step_append_refs (by rfl) _ _ (by rfl) w2.heap.size w2.heap (.slice (some ⟨w2.heap.size, 0, none⟩) 1 1) (.slice (some ⟨b1', o1 + k, none⟩) (xss.length - k) (c - k)) [.slice ra rn rc] [xs] (xss.drop k) (by exact ref_one HRU.out (Nat.le_refl _)) (by rfl) (by have := (((H.out.same HB2.out.block).at2 (fun _ _ => rfl)).drop k hk).same (alloc_old _ (.cells #[.slice ra rn rc] 27)); rw [HD.out] at this; exact this) (by rfl) (by exact (Below.refl _ _).alloc (Nat.le_refl _) _) (by simp) (by simp; omega) ?_; intro v3 us3 w3 hR3 hb3 _ _; obtain ⟨sa, sn, sc, rfl⟩ := own_shape hR3.row))
          have HR3 := Lib.hid hR3; have HB3 := Lib.hid hb3; clear hR3 hb3
          go_wp2_with (first | (at_builtin; refine append_refs rfl _ _ rfl w2.heap.size w2.heap (.slice (some ⟨w3.heap.size, 0, none⟩) 0 0) (.slice (some ⟨b1', o1, none⟩) k c) [] [] (xss.take k) (ref_empty _ HB3.out.size) rfl ((((H.out.same HB2.out.block).at2 HB3.out.block).take k hk).same (alloc_old _ _)) rfl (HB3.out.alloc HB3.out.size _) (by have := HB3.out.size; simp; omega) (by simp; omega) ?_; intro v4 us4 w4 hR4 hb4 hs4 hk4; obtain ⟨ta, tn, tc, rfl⟩ := own_shape hR4.row; have HR4 := Lib.hid hR4; have HB4 := Lib.hid hb4; have HR34 := Lib.hid (HR3.out.at2.same (fun b hb => (hk4 b (by simp; omega) (fun e => by simp [Value.ownBlock] at e; omega)).trans (alloc_old _ _ b hb))); clear hR4 hb4 hs4 hk4) | (at_builtin; refine append_refs rfl _ _ rfl w2.heap.size w2.heap (.slice ta tn tc) (.slice sa sn sc) us4 _ ([xs] ++ xss.drop k) HR4.out rfl HR34.out rfl HB4.out HB4.out.size (by simp; omega) ?_; intro v5 us5 w5 hR5 hb5 _ _; obtain ⟨pa, pn, pc, rfl⟩ := own_shape hR5.row))
          go_ret
          exact ⟨_, rfl, ⟨us5, by rw [HS.out]; exact RefR.base (RefR.grow (by simpa using hR5) hb5.block) HB2.out.size⟩, HB2.out.trans (hb5.mono HB2.out.size)⟩
      · have HPS : Hid (∀ j, j < k + 1 → ltL (xss.getD j []) xs = true) := fun j hj => by
          by_cases e : j = k
          · rw [e]; exact hL
          · exact HP.out j (by omega)
        have L1 := Lib.hid (LS.out (.slice qa (xss.getD k []).length qc) _ (w.drewN n) HUK.out HU.out)
        rw [hL] at L1
        clear hL
        generalize xss.getD k [] = ys at *
        go_wp2_with (go_at_call 155; refine L1.out.mono ?_; rintro e W2 ⟨rfl, n2, rfl⟩)
        go_roundw
        case rel => exact ⟨k + 1, _, by omega, by go_num, by first | rfl | (simp only [World.drewN_drewN]; rfl), HPS.out⟩
        case measure => simp [intOf]; omega
    · have HS : Hid (put xs xss = xss.take k ++ xs :: xss.drop k) := by
        show _ = _
        rw [put_split xs xss k hk HP.out (fun h => absurd h hlt), if_neg (fun x => hlt x.1)]
      by_cases hck : c = k
      · obtain rfl : k = c := hck.symm
        have HD : Hid (dropA ao k k = ao) := by show _ = _; rw [dropA, if_pos rfl]
        have b0 : (0 : Int) ≤ k := by omega
        have b6 : (k : Int) ≤ xss.length := by omega
        go_wp2_with fail
        go_region_held3 (fun _ => True) (trivial) (first | (go_at_call 123; refine (OW.out _ (by exact HU.out)).mono ?_; rintro e w2 ⟨ru, rfl, hru, hb2⟩; obtain ⟨ra, rn, rc, rfl⟩ := own_shape hru; have HB2 := Lib.hid ((below_drewN (n + 1) (Below.refl _ w)).trans hb2); have HRU := Lib.hid hru.ints; clear hru hb2) | (refine step_append_refs (by rfl) _ _ (by rfl) w2.heap.size w2.heap (.slice (some ⟨w2.heap.size, 0, none⟩) 1 1) (.slice ao 0 0) [.slice ra rn rc] [xs] (xss.drop k) (by exact ref_one HRU.out (Nat.le_refl _)) (by rfl) (by have := (((H.out.same HB2.out.block).at2 (fun _ _ => rfl)).drop k hk).same (alloc_old _ (.cells #[.slice ra rn rc] 27)); rw [HD.out, Nat.sub_self, show xss.length - k = 0 by omega] at this; exact this) (by rfl) (by exact (Below.refl _ _).alloc (Nat.le_refl _) _) (by simp) (by simp; omega) ?_; intro v3 us3 w3 hR3 hb3 _ _; obtain ⟨sa, sn, sc, rfl⟩ := own_shape hR3.row))
        have HR3 := Lib.hid hR3; have HB3 := Lib.hid hb3; clear hR3 hb3
        go_wp2_with (first | (at_builtin; refine append_refs rfl _ _ rfl w2.heap.size w2.heap (.slice (some ⟨w3.heap.size, 0, none⟩) 0 0) (.slice ao k k) [] [] (xss.take k) (ref_empty _ HB3.out.size) rfl ((((H.out.same HB2.out.block).at2 HB3.out.block).take k hk).same (alloc_old _ _)) rfl (HB3.out.alloc HB3.out.size _) (by have := HB3.out.size; simp; omega) (by simp; omega) ?_; intro v4 us4 w4 hR4 hb4 hs4 hk4; obtain ⟨ta, tn, tc, rfl⟩ := own_shape hR4.row; have HR4 := Lib.hid hR4; have HB4 := Lib.hid hb4; have HR34 := Lib.hid (HR3.out.at2.same (fun b hb => (hk4 b (by simp; omega) (fun e => by simp [Value.ownBlock] at e; omega)).trans (alloc_old _ _ b hb))); clear hR4 hb4 hs4 hk4) | (at_builtin; refine append_refs rfl _ _ rfl w2.heap.size w2.heap (.slice ta tn tc) (.slice sa sn sc) us4 _ ([xs] ++ xss.drop k) HR4.out rfl HR34.out rfl HB4.out HB4.out.size (by simp; omega) ?_; intro v5 us5 w5 hR5 hb5 _ _; obtain ⟨pa, pn, pc, rfl⟩ := own_shape hR5.row))
        go_ret
        exact ⟨_, rfl, ⟨us5, by rw [HS.out]; exact RefR.base (RefR.grow (by simpa using hR5) hb5.block) HB2.out.size⟩, HB2.out.trans (hb5.mono HB2.out.size)⟩
      · have HD : Hid (dropA ao c k = ao.map (·.add k)) := by show _ = _; rw [dropA, if_neg hck]
        have b0 : (0 : Int) ≤ k := by omega
        have b1 : (k : Int) ≤ c := by omega
        have b6 : (k : Int) ≤ xss.length := by omega
        go_wp2_with fail
        go_region_held3 (fun _ => True) (trivial) (first | (go_at_call 123; refine (OW.out _ (by exact HU.out)).mono ?_; rintro e w2 ⟨ru, rfl, hru, hb2⟩; obtain ⟨ra, rn, rc, rfl⟩ := own_shape hru; have HB2 := Lib.hid ((below_drewN (n + 1) (Below.refl _ w)).trans hb2); have HRU := Lib.hid hru.ints; clear hru hb2) | (refine step_append_refs (by rfl) _ _ (by rfl) w2.heap.size w2.heap (.slice (some ⟨w2.heap.size, 0, none⟩) 1 1) (.slice (ao.map (·.add k)) (xss.length - k) (c - k)) [.slice ra rn rc] [xs] (xss.drop k) (by exact ref_one HRU.out (Nat.le_refl _)) (by rfl) (by have := (((H.out.same HB2.out.block).at2 (fun _ _ => rfl)).drop k hk).same (alloc_old _ (.cells #[.slice ra rn rc] 27)); rw [HD.out] at this; exact this) (by rfl) (by exact (Below.refl _ _).alloc (Nat.le_refl _) _) (by simp) (by simp; omega) ?_; intro v3 us3 w3 hR3 hb3 _ _; obtain ⟨sa, sn, sc, rfl⟩ := own_shape hR3.row))
        have HR3 := Lib.hid hR3; have HB3 := Lib.hid hb3; clear hR3 hb3
        go_wp2_with (first | (at_builtin; refine append_refs rfl _ _ rfl w2.heap.size w2.heap (.slice (some ⟨w3.heap.size, 0, none⟩) 0 0) (.slice ao k c) [] [] (xss.take k) (ref_empty _ HB3.out.size) rfl ((((H.out.same HB2.out.block).at2 HB3.out.block).take k hk).same (alloc_old _ _)) rfl (HB3.out.alloc HB3.out.size _) (by have := HB3.out.size; simp; omega) (by simp; omega) ?_; intro v4 us4 w4 hR4 hb4 hs4 hk4; obtain ⟨ta, tn, tc, rfl⟩ := own_shape hR4.row; have HR4 := Lib.hid hR4; have HB4 := Lib.hid hb4; have HR34 := Lib.hid (HR3.out.at2.same (fun b hb => (hk4 b (by simp; omega) (fun e => by simp [Value.ownBlock] at e; omega)).trans (alloc_old _ _ b hb))); clear hR4 hb4 hs4 hk4) | (at_builtin; refine append_refs rfl _ _ rfl w2.heap.size w2.heap (.slice ta tn tc) (.slice sa sn sc) us4 _ ([xs] ++ xss.drop k) HR4.out rfl HR34.out rfl HB4.out HB4.out.size (by simp; omega) ?_; intro v5 us5 w5 hR5 hb5 _ _; obtain ⟨pa, pn, pc, rfl⟩ := own_shape hR5.row))
        go_ret
        exact ⟨_, rfl, ⟨us5, by rw [HS.out]; exact RefR.base (RefR.grow (by simpa using hR5) hb5.block) HB2.out.size⟩, HB2.out.trans (hb5.mono HB2.out.size)⟩
theorem l01Put_c (v u : Value) (xss : List (List Int)) (xs : List Int) (w : World) (h : IntSS w.heap v xss) (hu : IntS w.heap u xs) (hl : xss.length < 4398046511104) (hx : xs.length ≤ 4398046511104) :
    Calls Try.prog 151 #[v, u] w fun e w' => ∃ r, e = .returned r ∧ IntSS w'.heap r (put xs xss) ∧ Below w.heap.size w w' :=
  (l01PutR_c v u xss xs w h hu hl hx).mono fun _ _ ⟨r, h1, ⟨_, h2⟩, h3⟩ => ⟨r, h1, h2.ints (fun _ _ => rfl), h3⟩
end
section
open Go.RowKit Go.Sort

theorem put_last {R : List (List Int)} {p : List Int} (hA : Asc R) (h : ∀ z ∈ R, ltL p z = false) :
    put p R = if 0 < R.length ∧ R.getD (R.length - 1) [] = p then R.take (R.length - 1) else R ++ [p] := by
  have hasc : ∀ i j, i < j → j < R.length → ltL (R.getD i []) (R.getD j []) = true := fun i j hij hj => asc_getD hA i j hij hj
  have hle : ∀ j, j < R.length → ltL p (R.getD j []) = false := fun j hj => h _ (by rw [show R.getD j [] = R[j] by simp [hj]]; exact List.getElem_mem _)
  by_cases h0 : 0 < R.length ∧ R.getD (R.length - 1) [] = p
  · rw [if_pos h0, put_split p R (R.length - 1) (by omega) (fun j hj => by rw [← h0.2]; exact hasc _ _ hj (by omega)) (fun _ => by rw [h0.2]; exact ltL_irrefl _), if_pos ⟨by omega, h0.2⟩, List.drop_of_length_le (by omega), List.append_nil]
  · rw [if_neg h0, put_split p R R.length (Nat.le_refl _) (fun j hj => ?_) (fun hh => absurd hh (Nat.lt_irrefl _)), if_neg (fun hh => absurd hh.1 (Nat.lt_irrefl _)), List.take_length, List.drop_length]
    have hl : ltL (R.getD (R.length - 1) []) p = true := by
      cases e : ltL (R.getD (R.length - 1) []) p
      · exact absurd ⟨by omega, ltL_total _ _ e (hle _ (by omega))⟩ h0
      · rfl
    by_cases e : j = R.length - 1
    · rw [e]; exact hl
    · exact ltL_trans _ _ _ (hasc j (R.length - 1) (by omega) (by omega)) hl
theorem getD_enc (l : List (List (List Int))) (i : Nat) (h : i < l.length) : (l.map encP).getD i [] = encP (l.getD i []) := by simp [h]
theorem oddP_asc (l : List (List (List Int))) : Asc ((oddP l).map encP) := by rw [oddP_enc]; exact asc_oddL _
theorem oddP_step {ys : List (List (List Int))} (hs : ys.Pairwise fun a b => ltL (encP b) (encP a) = false) (hp : ∀ y ∈ ys, IsPr y) (x : Nat) (hx : x < ys.length) :
    oddP (ys.take (x + 1)) = if 0 < (oddP (ys.take x)).length ∧ encP ((oddP (ys.take x)).getD ((oddP (ys.take x)).length - 1) []) = encP ys[x] then (oddP (ys.take x)).take ((oddP (ys.take x)).length - 1) else oddP (ys.take x) ++ [ys[x]] := by
  have hpt : ∀ (k : Nat), ∀ y ∈ oddP (ys.take k), IsPr y := fun k y hy => hp y (List.mem_of_mem_take (oddP_mem hy))
  have hy := hp _ (List.getElem_mem hx)
  have hle : ∀ z ∈ (oddP (ys.take x)).map encP, ltL (encP ys[x]) z = false := fun z hz => by
    obtain ⟨q, hq, rfl⟩ := List.mem_map.1 hz
    obtain ⟨i, hi, rfl⟩ := List.getElem_of_mem (oddP_mem hq)
    rw [List.length_take] at hi
    rw [List.getElem_take]
    exact List.pairwise_iff_getElem.1 hs i x _ _ (by omega)
  have hput := put_last (oddP_asc (ys.take x)) hle
  have e1 : (oddP (ys.take (x + 1))).map encP = put (encP ys[x]) ((oddP (ys.take x)).map encP) := by
    rw [List.take_succ_eq_append_getElem hx, oddP_snoc, putP_enc]
  rw [hput, List.length_map] at e1
  refine enc_map_inj (hpt (x + 1)) (fun y hy2 => ?_) ?_
  · split at hy2
    · exact hpt x y (List.mem_of_mem_take hy2)
    · rcases List.mem_append.1 hy2 with h | h
      · exact hpt x y h
      · rw [List.mem_singleton.1 h]; exact hy
  · rw [e1]
    by_cases h0 : 0 < (oddP (ys.take x)).length
    · rw [getD_enc _ _ (by omega)]
      split
      · rw [List.map_take]
      · rw [List.map_append]; rfl
    · rw [if_neg (fun h => h0 h.1), if_neg (fun h => h0 h.1), List.map_append]; rfl
theorem own_upto {w : World} {B e n : Nat} {ao : Option Addr} {c : Nat} {us : List Value} (a : w.ownsRow B e 1 (.slice ao n c) n us) (m : Nat) (hm : m ≤ n) : w.ownsRow B e 1 (.slice ao m c) m (us.take m) := by
  obtain ⟨h1, h2⟩ := a
  rw [Nat.mul_one] at h1
  refine ⟨by rw [List.length_take]; omega, ?_⟩
  rcases h2 with ⟨hv, h0⟩ | ⟨g, cap, cur, hv, hb, hg, h3, h4, h5, h6⟩
  · simp only [Value.slice.injEq] at hv
    obtain ⟨rfl, -, rfl⟩ := hv
    exact .inl ⟨by rw [show m = 0 by omega], by omega⟩
  · simp only [Value.slice.injEq, true_and] at hv
    obtain ⟨rfl, rfl⟩ := hv
    refine .inr ⟨g, c, cur, rfl, hb, hg, by omega, h4, h5, ?_⟩
    rw [Nat.mul_one] at *
    rw [← h6, List.take_take, Nat.min_eq_left hm]
theorem RefSS.take {w : World} {B n c : Nat} {h : Array Obj} {ao : Option Addr} {us : List Value} {xsss : List (List (List Int))} (a : RefSS w B h (.slice ao n c) us xsss) (hn : xsss.length = n) (m : Nat) (hm : m ≤ n) : RefSS w B h (.slice ao m c) (us.take m) (xsss.take m) := by
  refine ⟨?_, fun i u xss hu hx => ?_⟩
  · have := a.row
    rw [hn] at this
    rw [List.length_take, hn, Nat.min_eq_left hm]
    exact own_upto this m hm
  · rw [List.getElem?_take] at hu hx
    split at hu
    · rename_i hi
      rw [if_pos hi] at hx
      exact a.each i u xss hu hx
    · cases hu
end
section
open Go.RowKit Go.Sort

theorem own_oneI {w : World} {B : Nat} {v : Value} {xs : List Int} (h : OwnI w B v xs) : v.oneCell' = true := own_oneCell h
section
variable {ops : Array Oper} {o : Oper} {a : Act} {Q : Exit → Act → World → Prop} {K : Act → World → Prop} {E : Prop}
/-- 'append(out, row)' at a step of a region that draws: out the call's own down to the rows at an earlier world wE; the row has been made since. -/
theorem step_append_rowU {w w0 wE : World} (hg : o.guard = none) (s x : Operand)
    (ho : o.op = .call { callee := .builtin .append, args := #[s, x], argTypes := #[36, 36] })
    (B : Nat) (v u : Value) (us : List Value) (xss : List (List Int)) (xs : List Int) (hU : OwnU wE B v us xss) (hs : a.eval s = v) (hu : OwnI w wE.heap.size u xs) (hE : Below wE.heap.size wE w) (hbl : Below B w0 wE) (hB : B ≤ wE.heap.size)
    (b : Nat) (hx : a.eval x = .slice (some ⟨b, 0, none⟩) 1 1) (hb : w.heap[b]? = some (.cells #[u] 27 (0, 0))) (hn : xss.length < 4398046511104)
    (hK : ∀ v' w', OwnU w' B v' (us ++ [u]) (xss ++ [xs]) → Below B w0 w' → w.heap.size ≤ w'.heap.size → (∀ b, b < w.heap.size → some b ≠ v.ownBlock → w'.heap[b]? = w.heap[b]?) → K (a.put o.dst v') w') :
    if Region.wanted o (yielded ops a.tmps) = true then Oper.wp Try.prog o a w K Q else E := by
  obtain ⟨i0, hi, hz0, hz1, hz2⟩ := info_parts info_slI
  refine step_append_all hg s x _ ho B _ i0 _ 24 Try.underlying36 hi hz0 hz1 hz2 rfl (by omega) v _ _ _ [u] (own_same hU.row hE.block) hs (slAt_one hb) hx (hbl.trans (hE.mono hB)) (Nat.le_trans hB hE.size) (fun z hz => ?_) (by simp; omega) ?_
  · rw [List.mem_singleton] at hz; rw [hz]; exact own_oneCell hu
  · intro v' w' h1 h2 h3 h4
    exact hK v' w' (OwnU.append hU hE hB hu (by simpa using h1) h4) h2 h3 h4
end
section
variable {P : Program} {ops : Array Oper} {o : Oper} {a : Act} {Q : Exit → Act → World → Prop} {K : Act → World → Prop} {E : Prop}
/-- A call of a Go function of one argument at a step of a region that draws. -/
theorem step_call1 {w : World} (hg : o.guard = none) (f : FuncId) (s : Operand) (t : TypeId)
    (ho : o.op = .call { callee := .value (.func f), args := #[s], argTypes := #[t] }) (v : Value)
    (hE : Enters P f) (hC : Calls P f #[a.eval s] w fun e w' => e = .returned v ∧ w = w') (hK : K (a.put o.dst v) w) :
    if Region.wanted o (yielded ops a.tmps) = true then Oper.wp P o a w K Q else E := by
  have hw : Region.wanted o (yielded ops a.tmps) = true := by simp [Region.wanted, hg]
  rw [if_pos hw]
  unfold Oper.wp
  have hE' : ∀ args, Sem.run P (callFunc f args) w = .ok (.enter f args) w := fun args => hE args w
  have hf : a.eval (.func f) = .func (.func f) #[] #[] := rfl
  simp [execOp, ho, resolve, invoke, hf, Deferred.ofValue, hE']
  exact Calls.mono hC fun e w' ⟨he, hw⟩ => by subst he; subst hw; exact hK
end
section
variable {P : Program} {ops : Array Oper} {o : Oper} {a : Act} {Q : Exit → Act → World → Prop} {K : Act → World → Prop} {E : Prop}
/-- A call of a Go function of one argument that makes memory, at a step of a region that draws. -/
theorem step_callR {w : World} (hg : o.guard = none) (f : FuncId) (s : Operand) (t : TypeId)
    (ho : o.op = .call { callee := .value (.func f), args := #[s], argTypes := #[t] }) (R : Value → World → Prop)
    (hE : Enters P f) (hC : Calls P f #[a.eval s] w fun e w' => ∃ v, e = .returned v ∧ R v w') (hK : ∀ v w', R v w' → K (a.put o.dst v) w') :
    if Region.wanted o (yielded ops a.tmps) = true then Oper.wp P o a w K Q else E := by
  have hw : Region.wanted o (yielded ops a.tmps) = true := by simp [Region.wanted, hg]
  rw [if_pos hw]
  unfold Oper.wp
  have hE' : ∀ args, Sem.run P (callFunc f args) w = .ok (.enter f args) w := fun args => hE args w
  have hf : a.eval (.func f) = .func (.func f) #[] #[] := rfl
  simp [execOp, ho, resolve, invoke, hf, Deferred.ofValue, hE']
  exact Calls.mono hC fun e w' ⟨v, he, hw⟩ => by subst he; exact hK v w' hw
end
theorem held1G {x1 : Value} {g1 : Addr} {W W' : World} {ob : Option Nat} (h : W.cell? g1 = some x1) (k : ∀ b, b < W.heap.size → some b ≠ ob → W'.heap[b]? = W.heap[b]?) (n1 : some g1.block ≠ ob) : W'.cell? g1 = some x1 :=
  (World.cell?_of_block (k _ (World.block_lt_of_cell? _ _ h) n1)).trans h
theorem held1S {x1 u : Value} {g1 p : Addr} {W : World} (h : W.cell? g1 = some x1) (n1 : p.block ≠ g1.block) : (W.setCell p u).cell? g1 = some x1 :=
  (World.cell?_of_block (Below.heap_setCell _ _ _ _ n1.symm)).trans h
end
section
open Go.RowKit Go.Sort

/-- A pair of lists of numbers of at least 0 that are not great. -/
def PrS (b : Int) (l : Nat) (q : List (List Int)) : Prop := ∃ x y, q = [x, y] ∧ (Sm b x ∧ x.length ≤ l) ∧ Sm b y ∧ y.length ≤ l
theorem PrS.pr {b : Int} {l : Nat} {q : List (List Int)} (h : PrS b l q) : IsPr q := by
  obtain ⟨x, y, rfl, h1, h2⟩ := h
  exact ⟨x, y, rfl, fun z hz => (h1.1 z hz).1⟩
theorem PrS.mono {b c : Int} {l m : Nat} {q : List (List Int)} (h : PrS b l q) (hb : b ≤ c) (hl : l ≤ m) : PrS c m q := by
  obtain ⟨x, y, rfl, ⟨h1, h2⟩, h3, h4⟩ := h
  exact ⟨x, y, rfl, ⟨fun z hz => ⟨(h1 z hz).1, Int.le_trans (h1 z hz).2 hb⟩, by omega⟩, fun z hz => ⟨(h3 z hz).1, Int.le_trans (h3 z hz).2 hb⟩, by omega⟩
def pjoin (p q : List (List Int)) : List (List Int) := [joinL (p.getD 0 []) (q.getD 0 []), joinL (p.getD 1 []) (q.getD 1 [])]
def prodP (A B : List (List (List Int))) : List (List (List Int)) := A.flatMap fun p => B.map fun q => pjoin p q
theorem prodP_take (A B : List (List (List Int))) (i : Nat) (h : i < A.length) : prodP (A.take (i + 1)) B = prodP (A.take i) B ++ B.map (pjoin A[i]) := by
  unfold prodP
  rw [List.take_succ_eq_append_getElem h, List.flatMap_append]
  simp
theorem prodP_length (A B : List (List (List Int))) : (prodP A B).length = A.length * B.length := by
  induction A with
  | nil => simp [prodP]
  | cons p A ih =>
    show (B.map (pjoin p) ++ prodP A B).length = _
    rw [List.length_append, ih, List.length_map, List.length_cons, Nat.add_mul]; omega
theorem pjoin_pr {b c : Int} {l m : Nat} {p q : List (List Int)} (hp : PrS b l p) (hq : PrS c m q) : IsPr (pjoin p q) := by
  obtain ⟨x, y, rfl, h1, h2⟩ := hp
  obtain ⟨z, t, rfl, h3, h4⟩ := hq
  refine ⟨_, _, rfl, fun n hn => ?_⟩
  unfold joinL at hn
  obtain ⟨i, hi, rfl⟩ := List.mem_map.1 hn
  have a1 : 0 ≤ x.getD i 0 := by
    by_cases hi : i < x.length
    · rw [show x.getD i 0 = x[i] by simp [hi]]; exact (h1.1 _ (List.getElem_mem hi)).1
    · rw [show x.getD i 0 = 0 by simp [hi]]; omega
  have a2 : 0 ≤ z.getD i 0 := by
    by_cases hi : i < z.length
    · rw [show z.getD i 0 = z[i] by simp [hi]]; exact (h3.1 _ (List.getElem_mem hi)).1
    · rw [show z.getD i 0 = 0 by simp [hi]]; omega
  show 0 ≤ x.getD i 0 + z.getD i 0
  omega
theorem prodP_pr {b c : Int} {l m : Nat} {A B : List (List (List Int))} (hA : ∀ p ∈ A, PrS b l p) (hB : ∀ q ∈ B, PrS c m q) : ∀ x ∈ prodP A B, IsPr x := fun x hx => by
  obtain ⟨p, hp, hx⟩ := List.mem_flatMap.1 hx
  obtain ⟨q, hq, rfl⟩ := List.mem_map.1 hx
  exact pjoin_pr (hA p hp) (hB q hq)
theorem IntSS.two {w : World} {v : Value} {x y : List Int} (a : IntSS w.heap v [x, y]) :
    ∃ g off cap xa xc ya yc, v = .slice (some ⟨g, off, none⟩) 2 cap ∧ w.cell? ⟨g, off, none⟩ = some (.slice xa x.length xc) ∧ w.cell? ⟨g, off + 1, none⟩ = some (.slice ya y.length yc) ∧ IntS w.heap (.slice xa x.length xc) x ∧ IntS w.heap (.slice ya y.length yc) y := by
  obtain ⟨b, off, cap, u, hv, hc, hu, -⟩ := a.at 0 (by simp)
  obtain ⟨b2, off2, cap2, u2, hv2, hc2, hu2, -⟩ := a.at 1 (by simp)
  subst hv
  simp only [Value.slice.injEq, Option.some.injEq, Addr.mk.injEq, true_and, and_true] at hv2
  obtain ⟨⟨rfl, rfl⟩, rfl⟩ := hv2
  have e1 : ([x, y] : List (List Int))[0] = x := rfl
  have e2 : ([x, y] : List (List Int))[1] = y := rfl
  rw [e1] at hu; rw [e2] at hu2
  obtain ⟨xa, xc, rfl, -⟩ := hu.len
  obtain ⟨ya, yc, rfl, -⟩ := hu2.len
  exact ⟨b, off, cap, xa, xc, ya, yc, rfl, hc, hc2, hu, hu2⟩
theorem two_row {W : World} {u v : Value} {x y : List Int} (h : IntS W.heap u x) (k : IntS W.heap v y) : IntSS (W.alloc (.cells #[u, v] 27)).heap (.slice (some ⟨W.heap.size, 0, none⟩) 2 2) [x, y] := by
  refine ⟨[u, v], .inr ⟨W.heap.size, 0, 2, #[u, v], rfl, heap_alloc_new W _, by simp, by unfold maxLen; omega, by simp, by simp⟩, rfl, fun i z zs hz hzs => ?_⟩
  match i, hz, hzs with
  | 0, hz, hzs =>
    simp at hz hzs
    subst hz; subst hzs; exact h.same (alloc_old W _)
  | 1, hz, hzs =>
    simp at hz hzs
    subst hz; subst hzs; exact k.same (alloc_old W _)
theorem pair_in {W : World} {u v : Value} {o : Obj} {x y : List Int} (h : IntS W.heap u x) (k : IntS W.heap v y) : IntSS ((W.alloc (.cells #[u, v] 27)).alloc o).heap (.slice (some ⟨W.heap.size, 0, none⟩) 2 2) [x, y] :=
  (two_row h k).same (alloc_old _ _)
theorem below_calls {wr W2 W3 : World} {o o' : Obj} (h0 : Below wr.drew.heap.size wr.drew W2) (h1 : Below W2.heap.size W2 W3) : Below wr.heap.size wr ((W3.alloc o).alloc o') := by
  have hz : wr.heap.size ≤ W2.heap.size := h0.size
  have hb : Below wr.heap.size wr W3 := ((Below.refl wr.heap.size wr).drew.trans h0).trans (h1.mono hz)
  exact (hb.alloc hb.size _).alloc (Nat.le_trans hb.size (by simp)) _
theorem heap_alloc2 (W : World) (o o' : Obj) : ((W.alloc o).alloc o').heap[W.heap.size + 1]? = some o' := by
  have := heap_alloc_new (W.alloc o) o'
  rwa [show (W.alloc o).heap.size = W.heap.size + 1 by simp] at this
theorem heldC4T {x1 x2 x3 x4 : Value} {g1 g2 g3 g4 : Addr} {w0 W W' : World} {B : Nat} (h : W.cell? g1 = some x1 ∧ W.cell? g2 = some x2 ∧ W.cell? g3 = some x3 ∧ W.cell? g4 = some x4 ∧ Below B w0 W) (hb : Below W.heap.size W W') (hB : B ≤ W.heap.size) : W'.cell? g1 = some x1 ∧ W'.cell? g2 = some x2 ∧ W'.cell? g3 = some x3 ∧ W'.cell? g4 = some x4 ∧ Below B w0 W' :=
  ⟨(hb.cell (World.block_lt_of_cell? _ _ h.1)).trans h.1, (hb.cell (World.block_lt_of_cell? _ _ h.2.1)).trans h.2.1, (hb.cell (World.block_lt_of_cell? _ _ h.2.2.1)).trans h.2.2.1, (hb.cell (World.block_lt_of_cell? _ _ h.2.2.2.1)).trans h.2.2.2.1, h.2.2.2.2.trans (hb.mono hB)⟩
theorem heldC4U {x1 x2 x3 x4 : Value} {g1 g2 g3 g4 : Addr} {w0 W W' : World} {B : Nat} (h : W.cell? g1 = some x1 ∧ W.cell? g2 = some x2 ∧ W.cell? g3 = some x3 ∧ W.cell? g4 = some x4 ∧ Below B w0 W) (hb : Below W.heap.size W W') (hB : B ≤ w0.heap.size) : W'.cell? g1 = some x1 ∧ W'.cell? g2 = some x2 ∧ W'.cell? g3 = some x3 ∧ W'.cell? g4 = some x4 ∧ Below B w0 W' :=
  heldC4T h hb (Nat.le_trans hB h.2.2.2.2.size)
theorem heldC4Y {x1 x2 x3 x4 : Value} {g1 g2 g3 g4 : Addr} {w0 W : World} {B : Nat} (h : W.cell? g1 = some x1 ∧ W.cell? g2 = some x2 ∧ W.cell? g3 = some x3 ∧ W.cell? g4 = some x4 ∧ Below B w0 W) : Below B w0 W := h.2.2.2.2
section
variable {ops : Array Oper} {rest : List Oper} {o : Oper} {a : Act} {Q : Exit → Act → World → Prop} {K : Act → World → Prop} {E : Prop}
theorem RefSS.append {w w' wE : World} {B : Nat} {v v' u : Value} {us : List Value} {xsss : List (List (List Int))} {xss : List (List Int)} (hR : RefSS wE B wE.heap v us xsss) (hE : Below wE.heap.size wE w) (hu : IntSS w.heap u xss)
    (h1 : w'.ownsRow B 36 1 v' (xsss.length + 1) (us ++ [u])) (h4 : ∀ b, b < w.heap.size → some b ≠ v.ownBlock → w'.heap[b]? = w.heap[b]?) : RefSS w' B w'.heap v' (us ++ [u]) (xsss ++ [xss]) := by
  have hk := KeepT.grown (own_same hR.row hE.block) h4
  refine ⟨by simpa using h1, fun i y ys hy hz => ?_⟩
  have hl := hR.len
  by_cases hi : i < us.length
  · rw [List.getElem?_append_left hi] at hy
    rw [List.getElem?_append_left (by omega)] at hz
    exact ((hR.each i y ys hy hz).same hE.block).keepT (by decide) (by decide) hk
  · rw [List.getElem?_append_right (by omega)] at hy hz
    rw [← hl] at hz
    obtain ⟨m, hm⟩ : ∃ m, i - us.length = m := ⟨_, rfl⟩
    rw [hm] at hy hz
    match m, hy, hz with
    | 0, hy, hz =>
      simp at hy hz
      subst hy; subst hz; exact hu.keepT (by decide) (by decide) hk
/-- 'append(out, x)' at a step of a region that draws. -/
theorem step_append_refSS {w w0 wE : World} (hg : o.guard = none) (s x : Operand)
    (ho : o.op = .call { callee := .builtin .append, args := #[s, x], argTypes := #[47, 47] })
    (B : Nat) (v u : Value) (us : List Value) (xsss : List (List (List Int))) (xss : List (List Int)) (hR : RefSS wE B wE.heap v us xsss) (hs : a.eval s = v) (hu : IntSS w.heap u xss) (hE : Below wE.heap.size wE w) (hbl : Below B w0 wE) (hB : B ≤ wE.heap.size)
    (b : Nat) (hx : a.eval x = .slice (some ⟨b, 0, none⟩) 1 1) (hb : w.heap[b]? = some (.cells #[u] 36 (0, 0))) (hn : xsss.length < 4398046511104)
    (hK : ∀ v' us' w', RefSS w' B w'.heap v' us' (xsss ++ [xss]) → Below B w0 w' → w.heap.size ≤ w'.heap.size → (∀ b, b < w.heap.size → some b ≠ v.ownBlock → w'.heap[b]? = w.heap[b]?) → K (a.put o.dst v') w') :
    if Region.wanted o (yielded ops a.tmps) = true then Oper.wp Try.prog o a w K Q else E := by
  obtain ⟨i0, hi, hz0, hz1, hz2⟩ := info_parts info_slSS
  refine step_append_all hg s x _ ho B _ i0 _ 24 Try.underlying47 hi hz0 hz1 hz2 rfl (by omega) v _ _ _ [u] (own_same hR.row hE.block) hs (slAt_one hb) hx (hbl.trans (hE.mono hB)) (Nat.le_trans hB hE.size) (fun z hz => ?_) (by simp; omega) ?_
  · rw [List.mem_singleton] at hz; rw [hz]; exact intSS_oneCell hu
  · intro v' w' h1 h2 h3 h4
    exact hK v' _ w' (hR.append hE hu (by simpa using h1) h4) h2 h3 h4
end
end
section
open Go.RowKit Go.Sort

theorem degreeOfT_c (v : Value) (xss : List (List Int)) (w : World) (h : IntSS w.heap v xss) (hT : arT xss = true) :
    Calls Try.prog 108 #[v] w fun e w' => e = .returned (.int .i64 (degT xss)) ∧ w = w' := by
  refine (degreeOf_c v xss w h).mono fun _ _ ⟨⟨d, he, hd⟩, hw⟩ => ⟨?_, hw⟩
  rw [he, hd]
  by_cases h0 : xss.length = 0
  · obtain rfl : xss = [] := List.eq_nil_of_length_eq_zero h0
    rfl
  · exact (arT_row hT _ (by rw [show xss.getD 0 [] = xss[0]'(by omega) by simp [show 0 < xss.length by omega]]; exact List.getElem_mem _)).1
theorem degT_bound {xss : List (List Int)} (hT : arT xss = true) : 0 ≤ degT xss ∧ degT xss ≤ 40 := by
  by_cases h0 : xss.length = 0
  · obtain rfl : xss = [] := List.eq_nil_of_length_eq_zero h0
    exact ⟨Int.le_refl 0, by decide⟩
  · exact (arT_row hT _ (by rw [show xss.getD 0 [] = xss[0]'(by omega) by simp [show 0 < xss.length by omega]]; exact List.getElem_mem _)).2
end
section
open Go.RowKit Go.Sort Go.Deep

section
variable {ops : Array Oper} {o : Oper} {a : Act} {Q : Exit → Act → World → Prop} {K : Act → World → Prop} {E : Prop}
theorem step_append_ownQ {w w0 wE : World} (hg : o.guard = none) (s x : Operand)
    (ho : o.op = .call { callee := .builtin .append, args := #[s, x], argTypes := #[47, 47] })
    (B : Nat) (v u : Value) (us q : List Value) (qs : List (List Value)) (xsss : List (List (List Int))) (xss : List (List Int)) (hR : OwnQ wE B v us qs xsss) (hs : a.eval s = v) (hu : OwnU w wE.heap.size u q xss) (hE : Below wE.heap.size wE w) (hbl : Below B w0 wE) (hB : B ≤ wE.heap.size)
    (b : Nat) (hx : a.eval x = .slice (some ⟨b, 0, none⟩) 1 1) (hb : w.heap[b]? = some (.cells #[u] 36 (0, 0))) (hn : xsss.length < 4398046511104)
    (hK : ∀ v' w', OwnQ w' B v' (us ++ [u]) (qs ++ [q]) (xsss ++ [xss]) → Below B w0 w' → w.heap.size ≤ w'.heap.size → (∀ b, b < w.heap.size → some b ≠ v.ownBlock → w'.heap[b]? = w.heap[b]?) → K (a.put o.dst v') w') :
    if Region.wanted o (yielded ops a.tmps) = true then Oper.wp Try.prog o a w K Q else E := by
  obtain ⟨i0, hi, hz0, hz1, hz2⟩ := info_parts info_slSS
  refine step_append_all hg s x _ ho B _ i0 _ 24 Try.underlying47 hi hz0 hz1 hz2 rfl (by omega) v _ _ _ [u] (own_same hR.row hE.block) hs (slAt_one hb) hx (hbl.trans (hE.mono hB)) (Nat.le_trans hB hE.size) (fun z hz => ?_) (by simp; omega) ?_
  · rw [List.mem_singleton] at hz; rw [hz]; exact intSS_oneCell hu.ints
  · intro v' w' h1 h2 h3 h4
    exact hK v' w' (hR.append hE hB hu (by simpa using h1) h4) h2 h3 h4
end
/-- The pairs lie in blocks of their own. -/
def ApU (us : List Value) : Prop := us.Pairwise fun u u' => ∀ g, u.ownBlock = some g → u'.ownBlock ≠ some g
theorem ApU.nil : ApU [] := List.Pairwise.nil
theorem ApU.snoc {wE W : World} {B : Nat} {v u : Value} {us q : List Value} {qs : List (List Value)} {xsss : List (List (List Int))} {xss : List (List Int)} (h : ApU us) (hR : OwnQ wE B v us qs xsss) (hu : OwnU W wE.heap.size u q xss) : ApU (us ++ [u]) := by
  unfold ApU
  rw [List.pairwise_append]
  refine ⟨h, List.pairwise_singleton .., fun y hy z hz g e e2 => ?_⟩
  rw [List.mem_singleton] at hz
  subst hz
  obtain ⟨i, hi, rfl⟩ := List.getElem_of_mem hy
  have hl := hR.len
  have hql := hR.qlen
  have h1 := hR.each i _ _ _ (List.getElem?_eq_getElem hi) (List.getElem?_eq_getElem (show i < qs.length by omega)) (List.getElem?_eq_getElem (show i < xsss.length by omega))
  have h2 := (World.ownsRow.lt h1.row g e).2
  have h3 := (World.ownsRow.lt hu.row g e2).1
  omega
theorem ownQ_first (w : World) : OwnQ ((((w.alloc (.cells #[] 2)).alloc (.cells #[] 2)).alloc (.cells #[.slice (some ⟨w.heap.size, 0, none⟩) 0 0, .slice (some ⟨w.heap.size + 1, 0, none⟩) 0 0] 27)).alloc (.cells #[.slice (some ⟨w.heap.size + 1 + 1, 0, none⟩) 2 2] 36)) w.heap.size
    (.slice (some ⟨w.heap.size + 1 + 1 + 1, 0, none⟩) 1 1) [.slice (some ⟨w.heap.size + 1 + 1, 0, none⟩) 2 2] [[.slice (some ⟨w.heap.size, 0, none⟩) 0 0, .slice (some ⟨w.heap.size + 1, 0, none⟩) 0 0]] [[[], []]] := by
  have s1 : (w.alloc (.cells #[] 2)).heap.size = w.heap.size + 1 := by simp
  have s2 : ((w.alloc (.cells #[] 2)).alloc (.cells #[] 2)).heap.size = w.heap.size + 1 + 1 := by simp
  have s3 : (((w.alloc (.cells #[] 2)).alloc (.cells #[] 2)).alloc (.cells #[.slice (some ⟨w.heap.size, 0, none⟩) 0 0, .slice (some ⟨w.heap.size + 1, 0, none⟩) 0 0] 27)).heap.size = w.heap.size + 1 + 1 + 1 := by simp
  have o1 : OwnI ((w.alloc (.cells #[] 2)).alloc (.cells #[] 2)) w.heap.size (.slice (some ⟨w.heap.size, 0, none⟩) 0 0) [] := own_same (ownI_empty (Nat.le_refl _)) (alloc_old _ _)
  have o2 : OwnI ((w.alloc (.cells #[] 2)).alloc (.cells #[] 2)) w.heap.size (.slice (some ⟨w.heap.size + 1, 0, none⟩) 0 0) [] := by
    have := ownI_empty (w := w.alloc (.cells #[] 2)) (B := w.heap.size) (by simp)
    rwa [s1] at this
  have oU : OwnU (((w.alloc (.cells #[] 2)).alloc (.cells #[] 2)).alloc (.cells #[.slice (some ⟨w.heap.size, 0, none⟩) 0 0, .slice (some ⟨w.heap.size + 1, 0, none⟩) 0 0] 27)) w.heap.size (.slice (some ⟨w.heap.size + 1 + 1, 0, none⟩) 2 2) [.slice (some ⟨w.heap.size, 0, none⟩) 0 0, .slice (some ⟨w.heap.size + 1, 0, none⟩) 0 0] [[], []] := by
    have hr := World.ownsRow_lit (e := 27) (size := 1) ((w.alloc (.cells #[] 2)).alloc (.cells #[] 2)) #[.slice (some ⟨w.heap.size, 0, none⟩) 0 0, .slice (some ⟨w.heap.size + 1, 0, none⟩) 0 0] 2 (base := w.heap.size) (by simp; omega) (by unfold maxLen; omega) rfl
    rw [s2] at hr
    refine ⟨hr, fun i u xs hu hx => ?_, fun i j u u' hij hu hu' => ?_⟩
    · match i, hu, hx with
      | 0, hu, hx => simp at hu hx; subst hu; subst hx; exact own_same o1 (alloc_old _ _)
      | 1, hu, hx => simp at hu hx; subst hu; subst hx; exact own_same o2 (alloc_old _ _)
    · match i, j, hu, hu' with
      | 0, 1, hu, hu' => simp at hu hu'; subst hu; subst hu'; right; simp [Value.ownBlock]
      | 0, 0, _, _ => omega
      | 1, 0, _, _ => omega
      | 1, 1, _, _ => omega
      | _ + 2, _, hu, _ => simp at hu
      | _, j + 2, _, hu' => simp at hu'
  have hr := World.ownsRow_lit (e := 36) (size := 1) (((w.alloc (.cells #[] 2)).alloc (.cells #[] 2)).alloc (.cells #[.slice (some ⟨w.heap.size, 0, none⟩) 0 0, .slice (some ⟨w.heap.size + 1, 0, none⟩) 0 0] 27)) #[.slice (some ⟨w.heap.size + 1 + 1, 0, none⟩) 2 2] 1 (base := w.heap.size) (by simp; omega) (by unfold maxLen; omega) rfl
  rw [s3] at hr
  refine ⟨hr, rfl, fun i u q xss hu hq hx => ?_, fun i j q q' hij hq hq' => ?_⟩
  · match i, hu, hq, hx with
    | 0, hu, hq, hx =>
      simp at hu hq hx; subst hu; subst hq; subst hx
      exact oU.same (alloc_old _ _)
  · match i, j, hq, hq' with
    | 0, 0, _, _ => omega
    | _ + 1, _, hq, _ => simp at hq
    | _, j + 1, _, hq' => simp at hq'
theorem ob_slice (x : Option Addr) (n c n' c' : Nat) : (Value.slice x n c).ownBlock = (Value.slice x n' c').ownBlock := by cases x <;> rfl
/-- The rows of one pair are cut. -/
theorem OwnQ.cut {w : World} {B g m0 c0 m1 c1 n0 n1 cap k : Nat} {v : Value} {xa ya : Option Addr} {us : List Value} {qs : List (List Value)} {xsss : List (List (List Int))} {t0 t1 : List Int} (h : OwnQ w B v us qs xsss) (ha : ApU us)
    (hu : us[k]? = some (.slice (some ⟨g, 0, none⟩) 2 cap)) (hq : qs[k]? = some [.slice xa n0 c0, .slice ya n1 c1]) (h0 : OwnI w B (.slice xa m0 c0) t0) (h1 : OwnI w B (.slice ya m1 c1) t1) :
    OwnQ ((w.setCell ⟨g, 0, none⟩ (.slice xa m0 c0)).setCell ⟨g, 1, none⟩ (.slice ya m1 c1)) B v us (qs.set k [.slice xa m0 c0, .slice ya m1 c1]) (xsss.set k [t0, t1]) := by
  have hl := h.len
  have hql := h.qlen
  have hk : k < us.length := (List.getElem?_eq_some_iff.1 hu).1
  have hJ := h.each k _ _ _ hu hq (List.getElem?_eq_getElem (show k < xsss.length by omega))
  have hx2 : xsss[k].length = 2 := by have := hJ.len; simpa using this.symm
  have hrow := hJ.row
  rw [hx2] at hrow
  have hr := (((hrow.stored 0 (.slice xa m0 c0)).1).stored 1 (.slice ya m1 c1)).1
  simp only [List.set_cons_zero, List.set_cons_succ] at hr
  have far : ∀ b, b ≠ g → ((w.setCell ⟨g, 0, none⟩ (.slice xa m0 c0)).setCell ⟨g, 1, none⟩ (.slice ya m1 c1)).heap[b]? = w.heap[b]? := fun b hb => by
    rw [Below.heap_setCell _ _ _ _ hb, Below.heap_setCell _ _ _ _ hb]
  have nI : ∀ {y : Value} {ys : List Int}, OwnI w B y ys → ∀ b, y.ownBlock = some b → b ≠ g := fun {y ys} hy b hb e => by
    rcases own_ne_types hy hJ.row (by decide) with e1 | e1
    · rw [e1] at hb; cases hb
    · exact e1 (by rw [hb, e]; rfl)
  have keep : ∀ {y : Value} {ys : List Int}, OwnI w B y ys → OwnI ((w.setCell ⟨g, 0, none⟩ (.slice xa m0 c0)).setCell ⟨g, 1, none⟩ (.slice ya m1 c1)) B y ys := fun {y ys} hy => own_kept hy fun b hb => far b (nI hy b hb)
  refine ⟨?_, by simpa using hql, fun i x y xss hx hy hz => ?_, fun i j y y' hij hy hy' x hx x' hx' => ?_⟩
  · rw [List.length_set]
    refine own_kept h.row fun b hb => far b fun e => ?_
    rcases own_ne_types hJ.row h.row (by decide) with e1 | e1
    · cases e1
    · exact e1 (by rw [hb, e]; rfl)
  · rw [List.getElem?_set] at hy hz
    by_cases e : k = i
    · subst e
      rw [if_pos rfl, if_pos (by omega)] at hy hz
      rw [hu] at hx
      cases hx; cases hy; cases hz
      refine ⟨hr, fun i' u' ys' hu' hys' => ?_, fun i' j' u' u'' hij' hu' hu'' => ?_⟩
      · match i', hu', hys' with
        | 0, hu', hys' => simp at hu' hys'; subst hu'; subst hys'; exact keep h0
        | 1, hu', hys' => simp at hu' hys'; subst hu'; subst hys'; exact keep h1
      · match i', j', hu', hu'' with
        | 0, 1, hu', hu'' =>
          simp at hu' hu''; subst hu'; subst hu''
          have := hJ.apart 0 1 (.slice xa n0 c0) (.slice ya n1 c1) (by omega) rfl rfl
          rwa [ob_slice xa n0 c0 m0 c0, ob_slice ya n1 c1 m1 c1] at this
        | 0, 0, _, _ => omega
        | 1, 0, _, _ => omega
        | 1, 1, _, _ => omega
        | _ + 2, _, hu', _ => simp at hu'
        | _, j' + 2, _, hu'' => simp at hu''
    · rw [if_neg e] at hy hz
      have hI := h.each i x y xss hx hy hz
      refine ⟨own_kept hI.row fun b hb => far b fun e2 => ?_, fun i' u' ys' hu' hys' => keep (hI.each i' u' ys' hu' hys'), hI.apart⟩
      subst e2
      unfold ApU at ha
      rw [List.pairwise_iff_getElem] at ha
      obtain ⟨hi, rfl⟩ := List.getElem?_eq_some_iff.1 hx
      obtain ⟨hk', hue⟩ := List.getElem?_eq_some_iff.1 hu
      rcases Nat.lt_or_gt_of_ne e with h3 | h3
      · exact ha k i hk' hi h3 b (by rw [hue]; rfl) hb
      · exact ha i k hi hk' h3 b hb (by rw [hue]; rfl)
  · rw [List.getElem?_set] at hy hy'
    have gen : ∀ (i : Nat) (y : List Value), (if k = i then if k < qs.length then some [Value.slice xa m0 c0, Value.slice ya m1 c1] else none else qs[i]?) = some y → ∃ y0, qs[i]? = some y0 ∧ ∀ x ∈ y, ∃ x0 ∈ y0, x0.ownBlock = x.ownBlock := fun i y hy => by
      by_cases e : k = i
      · subst e
        rw [if_pos rfl, if_pos (by omega)] at hy
        cases hy
        refine ⟨_, hq, fun x hx => ?_⟩
        simp only [List.mem_cons, List.not_mem_nil, or_false] at hx
        rcases hx with rfl | rfl
        · exact ⟨_, List.mem_cons_self .., ob_slice _ _ _ _ _⟩
        · exact ⟨_, List.mem_cons_of_mem _ (List.mem_cons_self ..), ob_slice _ _ _ _ _⟩
      · rw [if_neg e] at hy
        exact ⟨y, hy, fun x hx => ⟨x, hx, rfl⟩⟩
    obtain ⟨y0, g1, g2⟩ := gen i y hy
    obtain ⟨y1, g3, g4⟩ := gen j y' hy'
    obtain ⟨x0, g5, g6⟩ := g2 x hx
    obtain ⟨x1, g7, g8⟩ := g4 x' hx'
    have := h.apart i j y0 y1 hij g1 g3 x0 g5 x1 g7
    rwa [g6, g8] at this
end
section
open Go.RowKit Go.Sort Go.Deep

theorem dfs_two {r : List Int} {p : List (List Int)} (h : p ∈ dfsP r [] []) : ∃ a b : List Int, p = [a, b] ∧ a.length = r.length ∧ b.length = r.length := by
  obtain ⟨c, d, rfl, h1, h2, -⟩ := dfsP_mem r [] [] p h
  exact ⟨c, d, rfl, h1, h2⟩
/-- The splittings of the first numbers. -/
def spk (r : List Int) (k : Nat) : List (List (List Int)) := dfsP (r.take k) [] []
theorem spk_zero (r : List Int) : spk r 0 = [[[], []]] := rfl
theorem spk_succ (r : List Int) (k : Nat) (hk : k < r.length) : spk r (k + 1) = (spk r k).flatMap (spl1 r[k]) := by
  unfold spk
  rw [← splF_one, ← splF_one, List.take_succ_eq_append_getElem hk, splF_snoc]
theorem spk_len {r : List Int} (h : ∀ x ∈ r, 0 ≤ x ∧ x ≤ 40) (hl : r.length ≤ 5) (k : Nat) : (spk r k).length ≤ 115856201 := by
  refine Nat.le_trans (dfsP_len 40 (r.take k) [] [] fun x hx => (h x (List.mem_of_mem_take hx)).2) ?_
  refine Nat.le_trans (Nat.pow_le_pow_right (by decide) (show (r.take k).length ≤ 5 by rw [List.length_take]; omega)) (by decide)
theorem spk_all (r : List Int) : (spk r r.length).map trimP = splT r := by unfold spk splT; rw [List.take_length]
def sp1 (p0 p1 : List Int) (n : Int) (x : Nat) : List (List Int) := [p0 ++ [(x : Int)], p1 ++ [n - (x : Int)]]
theorem spl1_eq (p0 p1 : List Int) (N : Nat) : spl1 (N : Int) [p0, p1] = (List.range (N + 1)).map (sp1 p0 p1 N) := by
  unfold spl1
  rw [Int.toNat_natCast]; rfl
theorem enters_trimmedS : Enters Try.prog 147 := fun args w => by kernel_rfl
theorem flat_le (f : List (List Int) → List (List (List Int))) (L : List (List (List Int))) (j : Nat) : ((L.take j).flatMap f).length ≤ (L.flatMap f).length := by
  have := congrArg (fun l : List (List (List Int)) => (l.flatMap f).length) (List.take_append_drop j L)
  simp only [List.flatMap_append, List.length_append] at this
  omega
set_option linter.unusedSimpArgs false in
set_option maxRecDepth 100000 in
set_option maxHeartbeats 4000000 in
theorem splits_c (v : Value) (r : List Int) (w : World) (h : IntS w.heap v r) (hr0 : ∀ x ∈ r, 0 ≤ x ∧ x ≤ 40) (hrl : r.length ≤ 5) :
    Calls Try.prog 161 #[v] w fun e w' => ∃ o us qs, e = .returned o ∧ OwnQ w' w.heap.size o us qs (splT r) ∧ Below w.heap.size w w' := by
  obtain ⟨va, vc, rfl, -⟩ := h.len
  have H := Lib.hid h; have HR0 := Lib.hid hr0; have HLE := Lib.hid (spk_len hr0 hrl)
  have HTW : Hid (∀ k, k ≤ r.length → ∀ p ∈ spk r k, ∃ a b : List Int, p = [a, b] ∧ a.length ≤ 5 ∧ b.length ≤ 5) := fun k hk p hp => by
    obtain ⟨a, b, e, h1, h2⟩ := dfs_two hp
    rw [List.length_take] at h1 h2
    exact ⟨a, b, e, by omega, by omega⟩
  have HS := Lib.hid (spk_succ r)
  have HFI : Hid (OwnQ _ w.heap.size _ _ _ [[[], []]]) := ownQ_first w
  have HFB : Hid (Below w.heap.size w ((((w.alloc (.cells #[] 2)).alloc (.cells #[] 2)).alloc (.cells #[.slice (some ⟨w.heap.size, 0, none⟩) 0 0, .slice (some ⟨w.heap.size + 1, 0, none⟩) 0 0] 27)).alloc (.cells #[.slice (some ⟨w.heap.size + 1 + 1, 0, none⟩) 2 2] 36))) := by
    show Below _ _ _
    exact ((((Below.refl _ _).alloc (Nat.le_refl _) _).alloc (by simp) _).alloc (by simp; omega) _).alloc (by simp; omega) _
  clear h hr0
  go_enter Try.func161, Try.ntmps161
  go_wp2_with fail
  go_loopw [3, 18] (fun o i wr => ∃ (k : Nat) (us : List Value) (qs : List (List Value)), k ≤ r.length ∧ i = .int .i64 k ∧ OwnQ wr w.heap.size o us qs (spk r k) ∧ ApU us ∧ Below w.heap.size w wr) (fun _ i _ => r.length - (intOf i).toNat)
  case atStart => exact ⟨0, _, _, Nat.zero_le _, rfl, HFI.out, List.pairwise_singleton .., HFB.out⟩
  case round =>
    rename World => WA
    obtain ⟨k, us, qs, hk, rfl, hQ, hAU, hbl⟩ := hrel
    obtain ⟨oa, on, oc, rfl⟩ := own_shape hQ.row
    have HQ := Lib.hid hQ; have HAU := Lib.hid hAU; have HBA := Lib.hid hbl
    have hsA := hbl.size
    clear hQ hAU hbl HFI HFB
    by_cases hkl : k < r.length
    · obtain ⟨b1, o1, q1, hv1, hc1, -⟩ := (H.out.same HBA.out.block).at (w := WA) k hkl
      simp only [Value.slice.injEq, true_and] at hv1
      obtain ⟨rfl, rfl⟩ := hv1
      have hx := HR0.out _ (List.getElem_mem hkl)
      have HSU := Lib.hid (HS.out k hkl)
      obtain ⟨N, hN⟩ : ∃ N : Nat, r[k] = (N : Int) := ⟨(r[k]).toNat, by omega⟩
      rw [hN] at hx hc1 HSU
      have HTK := Lib.hid (HTW.out k hk)
      have HLK := Lib.hid (HLE.out k); have HLK2 := Lib.hid (HLE.out (k + 1))
      have hki : (k : Int) < (r.length : Int) := by omega
      obtain ⟨_, _, hon, _⟩ := HQ.out.ints.len
      simp only [Value.slice.injEq] at hon
      have hon2 := hon.2.1
      have HI := Lib.hid HQ.out.ints
      clear hon HQ HAU hN HS HTW HLE
      generalize spk r k = L at *
      subst hon2
      have HLF : Hid ((L.flatMap (spl1 (N : Int))).length ≤ 115856201) := by have := HLK2.out; rw [HSU.out] at this; exact this
      go_wp2_with fail
      go_loopw [6, 25] (fun nx j wr => ∃ (m : Nat) (us : List Value) (qs : List (List Value)), m ≤ L.length ∧ j = .int .i64 m ∧ OwnQ wr WA.heap.size nx us qs ((L.take m).flatMap (spl1 (N : Int))) ∧ ApU us ∧ Below WA.heap.size WA wr) (fun _ j _ => L.length - (intOf j).toNat)
      case atStart => exact ⟨0, [], [], Nat.zero_le _, rfl, ownQ_empty (Nat.le_refl _), ApU.nil, (Below.refl _ _).alloc (Nat.le_refl _) _⟩
      case round =>
        rename World => WB
        obtain ⟨m, us, qs, hm, rfl, hQ, hAU, hbl⟩ := hrel
        obtain ⟨na, nn, nc, rfl⟩ := own_shape hQ.row
        have HQB := Lib.hid hQ; have HAB := Lib.hid hAU; have HBB := Lib.hid hbl
        have hsB := hbl.size
        clear hQ hAU hbl
        by_cases hml : m < L.length
        · obtain ⟨b2, o2, q2, u2, hv2, hc2, hu2, -⟩ := HI.out.at m hml
          simp only [Value.slice.injEq, true_and] at hv2
          obtain ⟨rfl, rfl⟩ := hv2
          obtain ⟨p0, p1, hp, hp0, hp1⟩ := HTK.out _ (List.getElem_mem hml)
          have HTM : Hid ((L.take (m + 1)).flatMap (spl1 (N : Int)) = (L.take m).flatMap (spl1 (N : Int)) ++ (List.range (N + 1)).map (sp1 p0 p1 N)) := by
            show _ = _
            rw [List.take_succ_eq_append_getElem hml, List.flatMap_append, hp, ← spl1_eq]; simp
          have HLM : Hid (((L.take (m + 1)).flatMap (spl1 (N : Int))).length ≤ 115856201) := Nat.le_trans (flat_le _ L (m + 1)) HLF.out
          rw [hp] at hu2
          obtain ⟨g, f, cap, xa, xc, ya, yc, rfl, hcx, hcy, hx0, hy0⟩ := IntSS.two hu2
          have hcc := (HBB.out.cell (World.block_lt_of_cell? _ _ hc2)).trans hc2
          have HF := Lib.hid (fun (W : World) (hW : Below WA.heap.size WA W) => (⟨(hW.cell (World.block_lt_of_cell? _ _ hcx)).trans hcx, (hW.cell (World.block_lt_of_cell? _ _ hcy)).trans hcy, hW⟩ : W.cell? ⟨g, f, none⟩ = some (.slice xa p0.length xc) ∧ W.cell? ⟨g, f + 1, none⟩ = some (.slice ya p1.length yc) ∧ Below WA.heap.size WA W))
          have HX0 := Lib.hid hx0; have HY0 := Lib.hid hy0
          have hmi : (m : Int) < (L.length : Int) := by omega
          clear hu2 hp hcx hcy hx0 hy0 hc2
          go_wp2_with fail
          go_loopw [6, 9] (fun nx i wr => ∃ (x : Nat) (us : List Value) (qs : List (List Value)), x ≤ N + 1 ∧ i = .int .i64 x ∧ OwnQ wr WA.heap.size nx us qs ((L.take m).flatMap (spl1 (N : Int)) ++ (List.range x).map (sp1 p0 p1 N)) ∧ ApU us ∧ Below WA.heap.size WA wr) (fun _ i _ => N + 1 - (intOf i).toNat)
          case atStart => exact ⟨0, us, qs, Nat.zero_le _, rfl, by simpa using HQB.out, HAB.out, HBB.out⟩
          case round =>
            rename World => WC
            obtain ⟨x, us, qs, hxx, rfl, hQ, hAU, hbl⟩ := hrel
            obtain ⟨ra, rn, rc, rfl⟩ := own_shape hQ.row
            have HQC := Lib.hid hQ; have HAC := Lib.hid hAU; have HBC := Lib.hid hbl
            have hsC := hbl.size
            clear hQ hAU hbl HQB HAB hcc
            by_cases hxN : x ≤ N
            · have hxi : (x : Int) ≤ (N : Int) := by omega
              obtain ⟨z, hz⟩ : ∃ z : Int, z = (N : Int) - (x : Int) := ⟨_, rfl⟩
              have s1 : IntKind.i64.wrap ((N : Int) - (x : Int)) = z := by rw [IntWalk.i64_in _ (by omega)]; exact hz.symm
              have HSP : Hid ((List.range (x + 1)).map (sp1 p0 p1 N) = (List.range x).map (sp1 p0 p1 N) ++ [[p0 ++ [(x : Int)], p1 ++ [z]]]) := by
                show _ = _
                rw [List.range_succ, List.map_append, hz]; rfl
              have HLX : Hid (((L.take m).flatMap (spl1 (N : Int)) ++ (List.range x).map (sp1 p0 p1 N)).length < 4398046511104) := by
                have := HLM.out
                rw [HTM.out, List.length_append, List.length_map, List.length_range] at this
                show _ < _
                rw [List.length_append, List.length_map, List.length_range]; omega
              have hf := HF.out WC.drew (HBC.out.drew)
              have HC0 := Lib.hid (fun (W : World) (hW : Below WC.heap.size WC W) => copyOf_c (.slice xa p0.length xc) p0 W (HX0.out.same (HBC.out.trans (hW.mono hsC)).block) (by omega))
              have HC1 := Lib.hid (fun (W : World) (hW : Below WC.heap.size WC W) => copyOf_c (.slice ya p1.length yc) p1 W (HY0.out.same (HBC.out.trans (hW.mono hsC)).block) (by omega))
              have x1 := hf.1; have x2 := hf.2.1
              clear hz
              go_wp2_with fail
              refine wp_region_held_drew (S := fun W => W.cell? ⟨g, f, none⟩ = some (.slice xa p0.length xc) ∧ W.cell? ⟨g, f + 1, none⟩ = some (.slice ya p1.length yc) ∧ Below WA.heap.size WA W) (by kernel_rfl) hf (fun hHeld => ?_)
              refine wpAnyH_take (i := 0) (oi := ?_) (v := ?_) ?_ (by kernel_rfl) (by kernel_rfl) (by kernel_rfl) ?_ (Or.inl ⟨?_, ?_⟩) (by assumption) ?_
              case refine_3 => (simp only [List.getElem?_toArray, List.getElem?_cons_succ, List.getElem?_cons_zero]; rfl)
              case refine_4 => exact fun _ _ _ h => h
              case refine_5 => rfl
              case refine_6 => (intro w hSw; (try dsimp only at hSw); go_simp; try with_reducible rfl)
              simp only [Act.put, List.setIfInBounds_toArray, List.set_cons_zero, List.set_cons_succ]
              refine wpAnyH_take (i := 1) (oi := ?_) (v := ?_) ?_ (by kernel_rfl) (by kernel_rfl) (by kernel_rfl) ?_ (Or.inl ⟨?_, ?_⟩) (by assumption) ?_
              case refine_3 => (simp only [List.getElem?_toArray, List.getElem?_cons_succ, List.getElem?_cons_zero]; rfl)
              case refine_4 => exact fun _ _ _ h => h
              case refine_5 => rfl
              case refine_6 => (intro w hSw; (try dsimp only at hSw); go_simp; try with_reducible rfl)
              simp only [Act.put, List.setIfInBounds_toArray, List.set_cons_zero, List.set_cons_succ]
              refine wpAnyH_take (i := 2) (oi := ?_) (v := ?_) ?_ (by kernel_rfl) (by kernel_rfl) (by kernel_rfl) ?_ (Or.inl ⟨?_, ?_⟩) (by assumption) ?_
              case refine_3 => (simp only [List.getElem?_toArray, List.getElem?_cons_succ, List.getElem?_cons_zero]; rfl)
              case refine_4 => exact fun _ _ _ h => h
              case refine_5 => rfl
              case refine_6 => (intro w hSw; (try dsimp only at hSw); go_simp; try with_reducible rfl)
              simp only [Act.put, List.setIfInBounds_toArray, List.set_cons_zero, List.set_cons_succ]
              refine wpAnyH_take (i := 3) (oi := ?_) (v := ?_) ?_ (by kernel_rfl) (by kernel_rfl) (by kernel_rfl) ?_ (Or.inl ⟨?_, ?_⟩) (by assumption) ?_
              case refine_3 => (simp only [List.getElem?_toArray, List.getElem?_cons_succ, List.getElem?_cons_zero]; rfl)
              case refine_4 => exact fun _ _ _ h => h
              case refine_5 => rfl
              case refine_6 => (intro w hSw; (try dsimp only at hSw); go_simp; try with_reducible rfl)
              simp only [Act.put, List.setIfInBounds_toArray, List.set_cons_zero, List.set_cons_succ]
              refine wpAnyH_take (i := 5) (oi := ?_) (v := ?_) ?_ (by kernel_rfl) (by kernel_rfl) (by kernel_rfl) ?_ (Or.inl ⟨?_, ?_⟩) (by assumption) ?_
              case refine_3 => (simp only [List.getElem?_toArray, List.getElem?_cons_succ, List.getElem?_cons_zero]; rfl)
              case refine_4 => exact fun _ _ _ h => h
              case refine_5 => rfl
              case refine_6 => (intro w hSw; (try dsimp only at hSw); go_simp; try with_reducible rfl)
              simp only [Act.put, List.setIfInBounds_toArray, List.set_cons_zero, List.set_cons_succ]
              refine wpAnyH_take (i := 8) (oi := ?_) (v := ?_) ?_ (by kernel_rfl) (by kernel_rfl) (by kernel_rfl) ?_ (Or.inl ⟨?_, ?_⟩) (by assumption) ?_
              case refine_3 => (simp only [List.getElem?_toArray, List.getElem?_cons_succ, List.getElem?_cons_zero]; rfl)
              case refine_4 => exact fun _ _ _ h => h
              case refine_5 => rfl
              case refine_6 => (intro w hSw; (try dsimp only at hSw); go_simp; try with_reducible rfl)
              simp only [Act.put, List.setIfInBounds_toArray, List.set_cons_zero, List.set_cons_succ]
              refine wpAnyH_take (i := 9) (oi := ?_) (v := ?_) ?_ (by kernel_rfl) (by kernel_rfl) (by kernel_rfl) ?_ (Or.inl ⟨?_, ?_⟩) (by assumption) ?_
              case refine_3 => (simp only [List.getElem?_toArray, List.getElem?_cons_succ, List.getElem?_cons_zero]; rfl)
              case refine_4 => exact fun _ _ _ h => h
              case refine_5 => rfl
              case refine_6 => (intro w hSw; (try dsimp only at hSw); go_simp; try with_reducible rfl)
              simp only [Act.put, List.setIfInBounds_toArray, List.set_cons_zero, List.set_cons_succ]
              refine wpAnyH_take (i := 10) (oi := ?_) (v := ?_) ?_ (by kernel_rfl) (by kernel_rfl) (by kernel_rfl) ?_ (Or.inl ⟨?_, ?_⟩) (by assumption) ?_
              case refine_3 => (simp only [List.getElem?_toArray, List.getElem?_cons_succ, List.getElem?_cons_zero]; rfl)
              case refine_4 => exact fun _ _ _ h => h
              case refine_5 => rfl
              case refine_6 => (intro w hSw; (try dsimp only at hSw); go_simp; try with_reducible rfl)
              simp only [Act.put, List.setIfInBounds_toArray, List.set_cons_zero, List.set_cons_succ]
              refine wpAnyH_take (i := 12) (oi := ?_) (v := ?_) ?_ (by kernel_rfl) (by kernel_rfl) (by kernel_rfl) ?_ (Or.inl ⟨?_, ?_⟩) (by assumption) ?_
              case refine_3 => (simp only [List.getElem?_toArray, List.getElem?_cons_succ, List.getElem?_cons_zero]; rfl)
              case refine_4 => exact fun _ _ _ h => h
              case refine_5 => rfl
              case refine_6 => (intro w hSw; (try dsimp only at hSw); go_simp; try with_reducible rfl)
              simp only [Act.put, List.setIfInBounds_toArray, List.set_cons_zero, List.set_cons_succ]
              refine wpAnyH_take (i := 13) (oi := ?_) (v := ?_) ?_ (by kernel_rfl) (by kernel_rfl) (by kernel_rfl) ?_ (Or.inl ⟨?_, ?_⟩) (by assumption) ?_
              case refine_3 => (simp only [List.getElem?_toArray, List.getElem?_cons_succ, List.getElem?_cons_zero]; rfl)
              case refine_4 => exact fun _ _ _ h => h
              case refine_5 => rfl
              case refine_6 => (intro w hSw; (try dsimp only at hSw); go_simp; try with_reducible rfl)
              simp only [Act.put, List.setIfInBounds_toArray, List.set_cons_zero, List.set_cons_succ]
              refine wpAnyH_take (i := 14) (oi := ?_) (v := ?_) ?_ (by kernel_rfl) (by kernel_rfl) (by kernel_rfl) ?_ (Or.inl ⟨?_, ?_⟩) (by assumption) ?_
              case refine_3 => (simp only [List.getElem?_toArray, List.getElem?_cons_succ, List.getElem?_cons_zero]; rfl)
              case refine_4 => exact fun _ _ _ h => h
              case refine_5 => rfl
              case refine_6 => (intro w hSw; (try dsimp only at hSw); go_simp; try with_reducible rfl)
              simp only [Act.put, List.setIfInBounds_toArray, List.set_cons_zero, List.set_cons_succ]
              clear x1 x2 hf
              refine wpAnyH_inv6 4 6 7 11 15 16 38 40 41 45 49 50 (fun b1 b2 b3 b4 b5 b6 => #[true, true, true, true, b1, true, b2, b3, true, true, true, b4, true, true, true, b5, b6, false, false, false, false]) (fun b1 b2 b3 b4 b5 b6 x1 x2 x3 x4 x5 x6 W => SplJ WC.heap.size p0 p1 (x : Int) z b1 b2 b3 b4 b5 b6 x1 x2 x3 x4 x5 x6 W ∧ Below WC.heap.size WC W) 4 ?_ ?_ (fun b1 b2 b3 b4 b5 b6 => (!b3 || (b1 && b2)) && (!b4 || b3) && (!b6 || (b4 && b5))) (fun _ _ _ _ _ _ _ _ _ _ _ _ _ h => h.1.reach) (by intro b1 b2 b3 b4 b5 b6; cases b1 <;> cases b2 <;> cases b3 <;> cases b4 <;> cases b5 <;> cases b6 <;> kernel_rfl) (fun _ _ _ _ _ => rfl) (fun _ _ _ _ _ => rfl) (fun _ _ _ _ _ => rfl) (fun _ _ _ _ _ => rfl) (fun _ _ _ _ _ => rfl) (fun _ _ _ _ _ => rfl) hHeld (fun _ _ _ _ _ _ => ⟨SplJ.start _, (Below.refl _ _).drew⟩) ?_ ?_ ?_ ?_ ?_ ?_ ?_
              case refine_1 => kernel_rfl
              case refine_2 =>
                refine ⟨u38, u40, u41, u45, u49, u50, ?_⟩
                simp only [putinv6, Act.put, List.setIfInBounds_toArray, List.set_cons_zero, List.set_cons_succ]
              all_goals clear hHeld
              case refine_3 =>
                intro b2 b3 b4 b5 b6 x1 x2 x3 x4 x5 x6 W hS hJ
                have HJ := Lib.hid hJ.1; have hbW := hJ.2; clear hJ
                refine wpOp_step (o := ?_) ?_ (fun K hK => ?_)
                case refine_2 => (simp only [List.getElem?_toArray, List.getElem?_cons_succ, List.getElem?_cons_zero]; rfl)
                simp only [putinv6, Act.put, List.setIfInBounds_toArray, List.set_cons_zero, List.set_cons_succ]
                have HK := Lib.hid hK
                clear hK
                go_simp
                go_at_call 146
                refine (HC0.out W hbW).mono ?_
                rintro e W7 ⟨r7, rfl, hr7, hx7⟩
                obtain ⟨ya7, yn7, yc7, rfl⟩ := own_shape hr7
                go_wp2_with fail
                exact HK.out _ _ ⟨HF.out _ (hS.2.2.trans (hx7.mono hS.2.2.size)), .slice ya7 yn7 yc7, by simp only [putinv6, Act.put, List.setIfInBounds_toArray, List.set_cons_zero, List.set_cons_succ], HJ.out.one hbW.size hr7 hx7, hbW.trans (hx7.mono hbW.size)⟩
              case refine_4 =>
                intro b1 b3 b4 b5 b6 x1 x2 x3 x4 x5 x6 W hS hJ
                have HJ := Lib.hid hJ.1; have hbW := hJ.2; clear hJ
                refine wpOp_step (o := ?_) ?_ (fun K hK => ?_)
                case refine_2 => (simp only [List.getElem?_toArray, List.getElem?_cons_succ, List.getElem?_cons_zero]; rfl)
                simp only [putinv6, Act.put, List.setIfInBounds_toArray, List.set_cons_zero, List.set_cons_succ]
                have HK := Lib.hid hK
                clear hK
                go_simp
                exact HK.out _ _ ⟨HF.out _ (hS.2.2.alloc hS.2.2.size _), .slice (some ⟨W.heap.size, 0, none⟩) 1 1, by simp only [putinv6, Act.put, List.setIfInBounds_toArray, List.set_cons_zero, List.set_cons_succ], HJ.out.two, hbW.alloc hbW.size _⟩
              case refine_5 =>
                intro b1 b2 b4 b5 b6 x1 x2 x3 x4 x5 x6 W hc hS hJ
                obtain ⟨rfl, rfl⟩ : b1 = true ∧ b2 = true := by simpa using hc
                have HJ := Lib.hid hJ.1; have hbW := hJ.2; clear hJ hc
                obtain ⟨g2, rfl, hg2, -⟩ := HJ.out.h2 rfl rfl
                refine wpOp_step (o := ?_) ?_ (fun K hK => ?_)
                case refine_2 => (simp only [List.getElem?_toArray, List.getElem?_cons_succ, List.getElem?_cons_zero]; rfl)
                have HK := Lib.hid hK
                clear hK
                refine step_append_int (w0 := WC) (by rfl) _ _ (by rfl) WC.heap.size _ p0 (HJ.out.h1 rfl rfl) (by simp only [putinv6, Act.put, List.setIfInBounds_toArray, List.set_cons_zero, List.set_cons_succ]; rfl) g2 (x : Int) (by simp only [putinv6, Act.put, List.setIfInBounds_toArray, List.set_cons_zero, List.set_cons_succ]; rfl) hg2 hbW hbW.size (by omega) ?_
                intro v' w' hown' hb' hs' hk'
                simp only [putinv6, Act.put, List.setIfInBounds_toArray, List.set_cons_zero, List.set_cons_succ]
                exact HK.out _ _ ⟨HF.out _ (HBC.out.trans (hb'.mono hsC)), v', by simp only [putinv6, Act.put, List.setIfInBounds_toArray, List.set_cons_zero, List.set_cons_succ], HJ.out.three hown' hk', hb'⟩
              case refine_6 =>
                intro b1 b2 b3 b5 b6 x1 x2 x3 x4 x5 x6 W hc hS hJ
                subst hc
                have HJ := Lib.hid hJ.1; have hbW := hJ.2; clear hJ
                refine wpOp_step (o := ?_) ?_ (fun K hK => ?_)
                case refine_2 => (simp only [List.getElem?_toArray, List.getElem?_cons_succ, List.getElem?_cons_zero]; rfl)
                simp only [putinv6, Act.put, List.setIfInBounds_toArray, List.set_cons_zero, List.set_cons_succ]
                have HK := Lib.hid hK
                clear hK
                go_simp
                go_at_call 146
                refine (HC1.out W hbW).mono ?_
                rintro e W7 ⟨r7, rfl, hr7, hx7⟩
                obtain ⟨ya7, yn7, yc7, rfl⟩ := own_shape hr7
                go_wp2_with fail
                exact HK.out _ _ ⟨HF.out _ (hS.2.2.trans (hx7.mono hS.2.2.size)), .slice ya7 yn7 yc7, by simp only [putinv6, Act.put, List.setIfInBounds_toArray, List.set_cons_zero, List.set_cons_succ], HJ.out.four hbW.size hr7 hx7, hbW.trans (hx7.mono hbW.size)⟩
              case refine_7 =>
                intro b1 b2 b3 b4 b6 x1 x2 x3 x4 x5 x6 W hS hJ
                have HJ := Lib.hid hJ.1; have hbW := hJ.2; clear hJ
                refine wpOp_step (o := ?_) ?_ (fun K hK => ?_)
                case refine_2 => (simp only [List.getElem?_toArray, List.getElem?_cons_succ, List.getElem?_cons_zero]; rfl)
                simp only [putinv6, Act.put, List.setIfInBounds_toArray, List.set_cons_zero, List.set_cons_succ]
                have HK := Lib.hid hK
                clear hK
                go_simp
                exact HK.out _ _ ⟨HF.out _ (hS.2.2.alloc hS.2.2.size _), .slice (some ⟨W.heap.size, 0, none⟩) 1 1, by simp only [putinv6, Act.put, List.setIfInBounds_toArray, List.set_cons_zero, List.set_cons_succ], HJ.out.five, hbW.alloc hbW.size _⟩
              case refine_8 =>
                intro b1 b2 b3 b4 b5 x1 x2 x3 x4 x5 x6 W hc hS hJ
                obtain ⟨rfl, rfl⟩ : b4 = true ∧ b5 = true := by simpa using hc
                have HJ := Lib.hid hJ.1; have hbW := hJ.2; clear hJ hc
                obtain rfl := HJ.out.o4 rfl
                obtain ⟨rfl, rfl⟩ := HJ.out.o3 rfl
                obtain ⟨B4, h4, hB4, hB4', h43⟩ := HJ.out.h4 rfl rfl
                obtain ⟨g5, rfl, hg5, -, -⟩ := HJ.out.h5 rfl rfl
                refine wpOp_step (o := ?_) ?_ (fun K hK => ?_)
                case refine_2 => (simp only [List.getElem?_toArray, List.getElem?_cons_succ, List.getElem?_cons_zero]; rfl)
                have HK := Lib.hid hK
                clear hK
                refine step_append_int (w0 := W) (by rfl) _ _ (by rfl) B4 _ p1 h4 (by simp only [putinv6, Act.put, List.setIfInBounds_toArray, List.set_cons_zero, List.set_cons_succ]; rfl) g5 z (by simp only [putinv6, Act.put, List.setIfInBounds_toArray, List.set_cons_zero, List.set_cons_succ]; rfl) hg5 (Below.refl _ _) hB4' (by omega) ?_
                intro v' w' hown' hb' hs' hk'
                simp only [putinv6, Act.put, List.setIfInBounds_toArray, List.set_cons_zero, List.set_cons_succ]
                exact HK.out _ _ ⟨HF.out _ (hS.2.2.trans (hb'.mono (Nat.le_trans hsC hB4))), v', by simp only [putinv6, Act.put, List.setIfInBounds_toArray, List.set_cons_zero, List.set_cons_succ], HJ.out.six hB4 h43 hown' hb', hbW.trans (hb'.mono hB4)⟩
              case refine_9 =>
                intro x1 x2 x3 x4 x5 x6 W hHeld hJ
                have hbW := hJ.2
                obtain ⟨a3, n3, c3, rfl⟩ := own_shape (hJ.1.h3 rfl)
                obtain ⟨a6, n6, c6, rfl⟩ := own_shape (hJ.1.h6 rfl).1
                have HP := Lib.hid (hJ.1.pair hbW.size)
                clear hJ
                simp only [putinv6, Act.put, List.setIfInBounds_toArray, List.set_cons_zero, List.set_cons_succ]
                refine wpAnyH_ready (rs := [17]) (by kernel_rfl) (by simp) ?_
                refine AllReadyH.cons rfl (fun K hK => ?_) AllReadyH.nil
                go_simp
                refine hK.out _ _ (HF.out _ (hHeld.2.2.alloc hHeld.2.2.size _)) (fun hHeld => ?_)
                clear hK K
                try simp only [Act.put, List.setIfInBounds_toArray, List.set_cons_zero, List.set_cons_succ]
                refine wpAnyH_ready (rs := [18]) (by kernel_rfl) (by simp) ?_
                refine AllReadyH.cons rfl (fun K hK => ?_) AllReadyH.nil
                go_simp
                refine hK.out _ _ (HF.out _ (hHeld.2.2.alloc hHeld.2.2.size _)) (fun hHeld => ?_)
                clear hK K
                try simp only [Act.put, List.setIfInBounds_toArray, List.set_cons_zero, List.set_cons_succ]
                refine wpAnyH_ready (rs := [19]) (by kernel_rfl) (by simp) ?_
                refine AllReadyH.cons rfl (fun K hK => ?_) AllReadyH.nil
                refine step_append_ownQ (w0 := WA) (wE := WC) (by rfl) _ _ (by rfl) WA.heap.size (.slice ra rn rc) (.slice (some ⟨W.heap.size, 0, none⟩) 2 2) us [.slice a3 n3 c3, .slice a6 n6 c6] qs _ [p0 ++ [(x : Int)], p1 ++ [z]] HQC.out (by rfl) (HP.out.same (alloc_old _ _)) ((hbW.alloc hbW.size _).alloc (by simp; have := hbW.size; omega) _) HBC.out hsC (W.heap.size + 1) (by rfl) (by exact heap_alloc2 _ _ _) HLX.out ?_
                intro v' w' hQ' hb' hs' hk'
                refine hK.out _ _ (HF.out _ hb') (fun hHeld => ?_)
                clear hK K
                try simp only [Act.put, List.setIfInBounds_toArray, List.set_cons_zero, List.set_cons_succ]
                refine wpAnyH_take (i := 20) (oi := ?_) (v := ?_) ?_ (by kernel_rfl) (by kernel_rfl) (by kernel_rfl) ?_ (Or.inl ⟨?_, ?_⟩) (by assumption) ?_
                case refine_3 => (simp only [List.getElem?_toArray, List.getElem?_cons_succ, List.getElem?_cons_zero]; rfl)
                case refine_4 => exact fun _ _ _ h => h
                case refine_5 => rfl
                case refine_6 => (intro w hSw; (try dsimp only at hSw); go_simp; try with_reducible rfl)
                simp only [Act.put, List.setIfInBounds_toArray, List.set_cons_zero, List.set_cons_succ]
                refine wpAnyH_done (by kernel_rfl) ?_ _
                have HQ' := Lib.hid hQ'; have HB' := Lib.hid hb'
                obtain ⟨va', vn', vc', rfl⟩ := own_shape hQ'.row
                clear hHeld hQ' hb' hk' hs'
                go_wp2_with fail
                go_roundw
                case rel => exact ⟨x + 1, _, _, by omega, by go_num, by rw [HSP.out, ← List.append_assoc]; exact HQ'.out, ApU.snoc HAC.out HQC.out HP.out, HB'.out⟩
                case measure => simp [intOf]; omega
            · obtain rfl : x = N + 1 := by omega
              have hxi : ¬ ((N : Int) + 1 ≤ (N : Int)) := by omega
              go_wp2_with fail
              go_roundw
              case rel => exact ⟨m + 1, us, qs, by omega, by go_num, by rw [HTM.out]; exact HQC.out, HAC.out, HBC.out⟩
              case measure => simp [intOf]; omega
        · obtain rfl : m = L.length := by omega
          have HQF : Hid (OwnQ WB WA.heap.size (.slice na nn nc) us qs (L.flatMap (spl1 (N : Int)))) := by have := HQB.out; rwa [List.take_length] at this
          go_wp2_with fail
          go_roundw
          case rel => exact ⟨k + 1, us, qs, by omega, by go_num, by rw [HSU.out]; exact HQF.out.base hsA, HAB.out, HBA.out.trans (HBB.out.mono hsA)⟩
          case measure => simp [intOf]; omega
    · obtain rfl : k = r.length := by omega
      have HEQ := Lib.hid (spk_all r)
      obtain ⟨_, _, hon, _⟩ := HQ.out.ints.len
      simp only [Value.slice.injEq] at hon
      have hon2 := hon.2.1
      have HTK := Lib.hid (HTW.out r.length (Nat.le_refl _))
      have HLK := Lib.hid (HLE.out r.length)
      clear hon HS HTW HLE hkl
      generalize spk r r.length = L at *
      subst hon2
      go_wp2_with fail
      go_loopw [59] (fun i wr => ∃ (m : Nat) (qs : List (List Value)), m ≤ L.length ∧ i = .int .i64 m ∧ OwnQ wr w.heap.size (.slice oa L.length oc) us qs ((L.take m).map trimP ++ L.drop m) ∧ Below w.heap.size w wr) (fun i _ => L.length - (intOf i).toNat)
      case atStart => exact ⟨0, qs, Nat.zero_le _, rfl, by simpa using HQ.out, HBA.out⟩
      case round =>
        rename World => WB
        obtain ⟨m, qs, hm, rfl, hQ, hbl⟩ := hrel
        have HQB := Lib.hid hQ; have HBB := Lib.hid hbl
        have hsB := hbl.size
        have hTL : ((L.take m).map trimP ++ L.drop m).length = L.length := by rw [List.length_append, List.length_map, List.length_take, List.length_drop]; omega
        clear hbl HQ
        by_cases hml : m < L.length
        · have hul := hQ.len
          have hql := hQ.qlen
          rw [hTL] at hul hql
          obtain ⟨p0, p1, hp, hp0, hp1⟩ := HTK.out _ (List.getElem_mem hml)
          have hpm : ((L.take m).map trimP ++ L.drop m)[m]? = some [p0, p1] := by
            rw [List.getElem?_append_right (by rw [List.length_map, List.length_take]; omega), List.length_map, List.length_take, List.getElem?_drop, Nat.min_eq_left (by omega), Nat.sub_self, Nat.add_zero, List.getElem?_eq_getElem hml, hp]
          have hum := List.getElem?_eq_getElem (show m < us.length by omega)
          have hqm := List.getElem?_eq_getElem (show m < qs.length by omega)
          have hU := hQ.each m _ _ _ hum hqm hpm
          have hcell : WB.cell? ⟨0, 0, none⟩ = WB.cell? ⟨0, 0, none⟩ := rfl
          rcases hQ.row.2 with ⟨_, h0⟩ | ⟨go, cap0, cur0, hv0, hr0', hr1, hr2, hr3, hr4, hr5⟩
          · rw [hTL] at h0; omega
          have hrow := hQ.row
          rw [hTL] at hrow hv0
          simp only [Value.slice.injEq, true_and] at hv0
          obtain ⟨rfl, rfl⟩ := hv0
          have hcm := World.ownsRow.cellAt hrow m (by omega)
          rw [hum] at hcm
          obtain ⟨y0, y1, hqe⟩ : ∃ y0 y1, qs[m] = [y0, y1] := by
            have := hU.len
            match hq : qs[m], this with
            | [y0, y1], _ => exact ⟨y0, y1, rfl⟩
          rw [hqe] at hU hqm
          have hY0 := hU.each 0 _ _ rfl rfl
          have hY1 := hU.each 1 _ _ rfl rfl
          obtain ⟨xa, xc, rfl, -⟩ := hY0.ints.len
          obtain ⟨ya, yc, rfl, -⟩ := hY1.ints.len
          rcases hU.row.2 with ⟨_, h0⟩ | ⟨g, cap, cur, hv, hg0, hg1, hg2, hg3, hg4, hg5⟩
          · simp at h0
          have hur := hU.row
          rw [hv] at hum hcm hur
          simp only [List.length_cons, List.length_nil] at hum hcm hur
          have q0 := World.ownsRow.cellAt hur 0 (by omega)
          have q1 := World.ownsRow.cellAt hur 1 (by omega)
          have f0 := World.ownsRow.frozenAt hur 0
          have f1 := World.ownsRow.frozenAt hur 1
          simp only [List.getElem?_cons_zero, List.getElem?_cons_succ] at q0 q1
          have HCUT := Lib.hid (OwnQ.cut hQ HAU.out hum hqm (OwnI.take hY0 (trimN p0 p0.length) (trimN_le _ _)) (OwnI.take hY1 (trimN p1 p1.length) (trimN_le _ _)))
          have HSET : Hid (((L.take m).map trimP ++ L.drop m).set m [p0.take (trimN p0 p0.length), p1.take (trimN p1 p1.length)] = (L.take (m + 1)).map trimP ++ L.drop (m + 1)) := by
            show _ = _
            rw [List.set_append_right _ _ (by rw [List.length_map, List.length_take]; omega), List.length_map, List.length_take, Nat.min_eq_left (by omega), Nat.sub_self, List.drop_eq_getElem_cons hml, List.set_cons_zero, List.take_succ_eq_append_getElem hml, List.map_append, hp, List.append_assoc]
            rfl
          have HT0 := Lib.hid (fun (W : World) (h : IntS W.heap (.slice xa p0.length xc) p0) => trimmed_c xa xc p0 W h)
          have HT1 := Lib.hid (fun (W : World) (h : IntS W.heap (.slice ya p1.length yc) p1) => trimmed_c ya yc p1 W h)
          have HI0 := Lib.hid hY0.ints; have HI1 := Lib.hid hY1.ints
          have hmi : (m : Int) < (L.length : Int) := by omega
          have HBG := Lib.hid hg0
          clear hv hul hql hp hpm hU hcell hrow hqe hY0 hY1 hQ hr0' hr1 hr2 hr3 hr4 hr5 hg1 hg2 hg3 hg4 hg5 hur hqm hTL
          go_wp2_with fail
          go_region_law (first | (refine step_call1 (by rfl) 147 (.tmp 67) 27 (by rfl) (.slice xa (trimN p0 p0.length) xc) enters_trimmedS (by exact HT0.out _ (by exact HI0.out.same (fun _ _ => rfl))) ?_) | (refine step_call1 (by rfl) 147 (.tmp 71) 27 (by rfl) (.slice ya (trimN p1 p1.length) yc) enters_trimmedS (by exact HT1.out _ (by exact HI1.out.same (fun _ _ => rfl))) ?_))
          all_goals
            go_wp2_with fail
            go_roundw
            case rel => exact ⟨m + 1, _, by omega, by go_num, by rw [← HSET.out]; exact HCUT.out.same (fun _ _ => rfl), below_drewN 1 ((HBB.out.setCell HBG.out _).setCell HBG.out _)⟩
            case measure => simp [intOf]; omega
        · obtain rfl : m = L.length := by omega
          go_wp2_with fail
          go_ret
          exact ⟨_, us, qs, rfl, by have := HQB.out; rw [List.take_length, List.drop_length, List.append_nil, HEQ.out] at this; exact this, HBB.out⟩
section
variable {ops : Array Oper} {rest : List Oper} {o : Oper} {a : Act} {Q : Exit → Act → World → Prop}
/-- 'append(out, list...)': the list all made since the world wE. -/
theorem append_allQ {w w0 wE : World} (hg : o.guard = none) (s x : Operand)
    (ho : o.op = .call { callee := .builtin .append, args := #[s, x], argTypes := #[47, 47] })
    (B : Nat) (v vx : Value) (us us2 : List Value) (qs qs2 : List (List Value)) (xsss ysss : List (List (List Int))) (hR : OwnQ wE B v us qs xsss) (hs : a.eval s = v) (hX : OwnQ w wE.heap.size vx us2 qs2 ysss) (hx : a.eval x = vx) (hE : Below wE.heap.size wE w) (hbl : Below B w0 wE) (hB : B ≤ wE.heap.size)
    (hn : xsss.length + ysss.length ≤ 4398046511104)
    (hK : ∀ v' w', OwnQ w' B v' (us ++ us2) (qs ++ qs2) (xsss ++ ysss) → Below B w0 w' → w.heap.size ≤ w'.heap.size → wpList Try.prog ops Q rest (a.put o.dst v') w') :
    wpList Try.prog ops Q (o :: rest) a w := by
  obtain ⟨i0, hi, hz0, hz1, hz2⟩ := info_parts info_slSS
  have hl := hR.len; have hql := hR.qlen; have hl2 := hX.len; have hql2 := hX.qlen
  have hW := hR.same hE.block
  refine append_all hg s x _ ho B _ i0 _ 24 Try.underlying47 hi hz0 hz1 hz2 rfl (by omega) v vx _ us us2 hW.row hs (slAt_of_own hX.row) hx (hbl.trans (hE.mono hB)) (Nat.le_trans hB hE.size) (fun u hu => ?_) (by omega) ?_
  · obtain ⟨i, hi, rfl⟩ := List.getElem_of_mem hu
    exact intSS_oneCell (hX.each i _ _ _ (List.getElem?_eq_getElem hi) (List.getElem?_eq_getElem (show i < qs2.length by omega)) (List.getElem?_eq_getElem (show i < ysss.length by omega))).ints
  · intro v' w' h1 h2 h3 h4
    have kt := KeepT.grown hW.row h4
    refine hK v' w' ⟨by rw [List.length_append, ← hl2]; exact h1, by rw [List.length_append, List.length_append]; omega, fun i u q xss hu hq hx => ?_, fun i j q q' hij hq hq' u hu u' hu' => ?_⟩ h2 h3
    · by_cases hi : i < us.length
      · rw [List.getElem?_append_left hi] at hu
        rw [List.getElem?_append_left (by omega)] at hq hx
        exact (hW.each i u q xss hu hq hx).keepT (by decide) (by decide) kt
      · rw [List.getElem?_append_right (by omega)] at hu hq hx
        rw [show i - qs.length = i - us.length by omega] at hq
        rw [show i - xsss.length = i - us.length by omega] at hx
        have ho := hX.each _ u q xss hu hq hx
        have ho' : OwnU w B u q xss := ⟨own_base ho.row hB, fun i u xs hu hx => own_base (ho.each i u xs hu hx) hB, ho.apart⟩
        exact ho'.keepT (by decide) (by decide) kt
    · by_cases hj : j < qs.length
      · rw [List.getElem?_append_left hj] at hq'
        rw [List.getElem?_append_left (by omega)] at hq
        exact hR.apart i j q q' hij hq hq' u hu u' hu'
      · rw [List.getElem?_append_right (by omega)] at hq'
        by_cases hi : i < qs.length
        · rw [List.getElem?_append_left hi] at hq
          cases hb : u.ownBlock with
          | none => exact .inl rfl
          | some b =>
            right
            intro e
            have h5 := (hR.range q (List.mem_of_getElem? hq) u hu b hb).2
            have h6 := (hX.range q' (List.mem_of_getElem? hq') u' hu' b e.symm).1
            omega
        · rw [List.getElem?_append_right (by omega)] at hq
          exact hX.apart _ _ q q' (by omega) hq hq' u hu u' hu'
end
set_option maxRecDepth 100000 in
theorem cartanPairs_c (v : Value) (xss : List (List Int)) (w : World) (h : IntSS w.heap v xss) (hT : arT xss = true) :
    Calls Try.prog 109 #[v] w fun e w' => ∃ o us qs, e = .returned o ∧ OwnQ w' w.heap.size o us qs (oddP (cartL xss)) ∧ Below w.heap.size w w' := by
  have hx := arT_len hT
  have HSP := Lib.hid (fun (k : Nat) (hk : k < xss.length) (v : Value) (W : World) (h : IntS W.heap v xss[k]) => splits_c v xss[k] W h (fun x hx => ⟨exp_nn (arT_row hT _ (List.getElem_mem hk)).1 x hx, exp_le40 (arT_row hT _ (List.getElem_mem hk)).1 (arT_row hT _ (List.getElem_mem hk)).2 x hx⟩) (exp_len5 (arT_row hT _ (List.getElem_mem hk)).1 (arT_row hT _ (List.getElem_mem hk)).2.2))
  have HCT := Lib.hid (fun (k : Nat) (hk : k < xss.length) => cartL_take xss k hk)
  have HCL := Lib.hid (fun (k : Nat) (hk : k ≤ xss.length) => cartL_len hT k hk)
  have HSL : Hid (∀ k (hk : k < xss.length), (splT xss[k]).length ≤ 115856201) := fun k hk => splT_len (arT_row hT _ (List.getElem_mem hk)).1 (arT_row hT _ (List.getElem_mem hk)).2
  have HSO := Lib.hid (fun (v : Value) (us : List Value) (qs : List (List Value)) (B : Nat) (W : World) (hR : OwnQ W B v us qs (cartL xss)) (hB : B ≤ W.heap.size) => sortQ_c v us qs (cartL xss) B W hR hB (by have := cartL_len hT xss.length (Nat.le_refl _); rw [List.take_length] at this; omega) (cartL_pr hT))
  have HND := Lib.hid (fun (m : List (List (List Int))) (hp : m.Perm (cartL xss)) (hs : m.Pairwise (fun a b => ltL (encP b) (encP a) = false)) => sorted_odd (cartL_nd hT) (cartL_pr hT) hp hs)
  obtain ⟨ao, c, rfl, -⟩ := h.len
  have H := Lib.hid h
  clear h hT
  go_enter Try.func109, Try.ntmps109
  go_wp2_with fail
  go_loopw [3, 9] (fun o i wr => ∃ (k : Nat) (us : List Value) (qs : List (List Value)), k ≤ xss.length ∧ i = .int .i64 k ∧ OwnQ wr w.heap.size o us qs (cartL (xss.take k)) ∧ Below w.heap.size w wr) (fun _ i _ => xss.length - (intOf i).toNat)
  case atStart => exact ⟨0, [], [], Nat.zero_le _, rfl, ownQ_empty (Nat.le_refl _), (Below.refl _ _).alloc (Nat.le_refl _) _⟩
  case round =>
    obtain ⟨k, us, qs, hk, rfl, hQ, hbl⟩ := hrel
    obtain ⟨oa, on, oc, rfl⟩ := own_shape hQ.row
    have hsz := hbl.size
    have HQ := Lib.hid hQ; have HB := Lib.hid hbl
    clear hQ hbl
    by_cases hkl : k < xss.length
    · obtain ⟨b1, o1, c1, u, hv1, hc1, hu, -⟩ := H.out.at k hkl
      simp only [Value.slice.injEq, true_and] at hv1
      obtain ⟨rfl, rfl⟩ := hv1
      have hcc := (HB.out.cell (World.block_lt_of_cell? _ _ hc1)).trans hc1
      have HU := Lib.hid (hu.same HB.out.block)
      obtain ⟨ua, uc, rfl, -⟩ := hu.len
      have hki : (k : Int) < (xss.length : Int) := by omega
      have HS1 := Lib.hid (HSP.out k hkl _ wr HU.out)
      have HT1 := Lib.hid (HCT.out k hkl); have HL1 := Lib.hid (HCL.out k hk); have HL2 := Lib.hid (HSL.out k hkl)
      clear hu hc1 HSP HCT HCL HSL
      generalize xss[k] = r at *
      go_wp2_with (first | (go_at_call 161; refine HS1.out.mono ?_; rintro e w2 ⟨o2, us2, qs2, rfl, hQ2, hb2⟩; obtain ⟨pa, pn, pc, rfl⟩ := own_shape hQ2.row; have HQ2 := Lib.hid hQ2; have HB2 := Lib.hid hb2; have hsz2 := hb2.size; clear hQ2 hb2 HS1) | (at_builtin; refine append_allQ rfl _ _ rfl w.heap.size _ _ us us2 qs qs2 _ _ HQ.out rfl HQ2.out rfl HB2.out HB.out hsz (by have := HL1.out; have := HL2.out; omega) ?_; intro v' w3 hQ3 hb3 hs3; obtain ⟨qa, qn, qc, rfl⟩ := own_shape hQ3.row; have HQ3 := Lib.hid hQ3; have HB3 := Lib.hid hb3; clear hQ3 hb3))
      go_roundw
      case rel => exact ⟨k + 1, _, _, by omega, by go_num, by rw [HT1.out]; exact HQ3.out, HB3.out⟩
      case measure => simp [intOf]; omega
    · obtain rfl : k = xss.length := by omega
      have HQF : Hid (OwnQ wr w.heap.size (.slice oa on oc) us qs (cartL xss)) := by have := HQ.out; rwa [List.take_length] at this
      go_wp2_with (go_at_call 162; refine (HSO.out _ us qs w.heap.size wr HQF.out hsz).mono ?_; rintro e w2 ⟨rfl, us2, qs2, m2, hQ2, hp, hs, hb2⟩; have HQ2 := Lib.hid hQ2; have HB2 := Lib.hid (HB.out.trans hb2); have HM := Lib.hid (HND.out m2 hp hs); clear hQ2 hp hs hb2)
      go_ret
      exact ⟨_, us2, qs2, rfl, by rw [← HM.out]; exact HQ2.out, HB2.out⟩
end
section
open Go.RowKit Go.Sort

theorem cntQ_ten : ∀ (L : List (List (List Int))), (∀ q ∈ L, cnt q ≤ 10) → cntQ L ≤ 10 * L.length
  | [], _ => by simp [cntQ]
  | q :: L, h => by
    have h1 := cntQ_ten L fun p hp => h p (List.mem_cons_of_mem _ hp)
    have h2 := h q (List.mem_cons_self ..)
    rw [cntQ_cons, List.length_cons]; omega
theorem carL_cnt (xss : List (List Int)) : 1 + (cntQ (carL xss) : Int) ≤ 4611686018427387904 := by
  unfold carL carB
  cases hT : arT xss
  · simp [cntQ]
  · split
    · have h1 := oddP_length (cartL xss)
      have h2 := cartL_len hT xss.length (Nat.le_refl _)
      rw [List.take_length] at h2
      have hx := arT_len hT
      have h3 := cntQ_ten (oddP (cartL xss)) fun q hq => by
        obtain ⟨r, hr, hq⟩ := List.mem_flatMap.1 (oddP_mem hq)
        obtain ⟨c, d, rfl, e1, e2, -⟩ := splT_mem hq
        have h5 := exp_len5 (arT_row hT r hr).1 (arT_row hT r hr).2.2
        have t1 := trim_length c; have t2 := trim_length d
        have t3 := trimN_le c c.length; have t4 := trimN_le d d.length
        simp only [cnt, List.map_cons, List.map_nil, List.sum_cons, List.sum_nil]
        omega
      omega
    · simp [cntQ]
set_option maxRecDepth 100000 in
theorem implCartanPairs_c (v : Value) (xss : List (List Int)) (w : World) (h : IntSS w.heap v xss) :
    Calls Try.prog 38 #[.agg #[v]] w fun e w' => ∃ r us qs, e = .returned (.tuple #[r, .int .i64 (carC xss)]) ∧ OwnQ w' w.heap.size r us qs (carL xss) ∧ Below w.heap.size w w' := by
  have hb : Below w.heap.size w (w.alloc (.cells #[v] 50)) := (Below.refl _ _).alloc (Nat.le_refl _) _
  have k0 := Cell1.new w v 50
  have C := Lib.hid (isMilnor_c v xss _ (h.same hb.block))
  obtain ⟨ao, c, rfl, hm⟩ := h.len
  have H := Lib.hid (h.same hb.block); clear h
  have q0 := k0.c0
  have HB0 := Lib.hid hb; have K0 := Lib.hid k0
  clear hb k0
  cases hT : arT xss
  · have e1 : carC xss = 1 := by simp [carC, hT]
    have e2 : carL xss = [] := by simp [carL, carB, hT]
    rw [e1, e2]
    rw [hT] at C
    clear e1 e2 hT
    go_enter Try.func38, Try.ntmps38
    go_wp2_with (go_at_call 107; refine C.out.mono ?_; rintro e w1 ⟨rfl, hb1⟩; have HB1 := Lib.hid (HB0.out.trans (hb1.mono HB0.out.size)); clear hb1)
    go_ret2
    exact ⟨_, [], [], rfl, OwnQ.nil _ _, HB1.out⟩
  · rw [hT] at C
    have DG := Lib.hid (fun (W : World) (h : IntSS W.heap (.slice ao xss.length c) xss) => degreeOfT_c _ xss W h hT)
    have CP := Lib.hid (fun (W : World) (h : IntSS W.heap (.slice ao xss.length c) xss) => cartanPairs_c _ xss W h hT)
    by_cases h24 : degT xss ≤ 24
    · have e1 : carC xss = 0 := by simp [carC, hT, h24]
      have e2 : carL xss = oddP (cartL xss) := by simp [carL, carB, hT, h24]
      have t24 : decide ((24 : Int) < degT xss) = false := decide_eq_false (by omega)
      rw [e1, e2]
      clear e1 e2 hT h24
      generalize degT xss = dg at *
      generalize oddP (cartL xss) = rx at *
      go_enter Try.func38, Try.ntmps38
      go_wp2_with (first | (go_at_call 107; refine C.out.mono ?_; rintro e w1 ⟨rfl, hb1⟩; have HB1 := Lib.hid (HB0.out.trans (hb1.mono HB0.out.size)); have q1 := (K0.out.kept hb1.block).c0; have H1 := Lib.hid (H.out.same hb1.block); clear hb1) | (go_at_call 108; refine (DG.out _ H1.out).mono ?_; rintro e w2 ⟨rfl, rfl⟩) | (go_at_call 109; refine (CP.out _ H1.out).mono ?_; rintro e w3 ⟨r3, us3, qs3, rfl, hQ3, hb3⟩; obtain ⟨pa, pn, pc, rfl⟩ := own_shape hQ3.row))
      go_ret2
      exact ⟨_, us3, qs3, rfl, hQ3.base HB1.out.size, HB1.out.trans (hb3.mono HB1.out.size)⟩
    · have e1 : carC xss = 2 := by simp [carC, hT, h24]
      have e2 : carL xss = [] := by simp [carL, carB, h24]
      have t24 : decide ((24 : Int) < degT xss) = true := decide_eq_true (by omega)
      rw [e1, e2]
      clear e1 e2 hT h24 CP
      generalize degT xss = dg at *
      go_enter Try.func38, Try.ntmps38
      go_wp2_with (first | (go_at_call 107; refine C.out.mono ?_; rintro e w1 ⟨rfl, hb1⟩; have HB1 := Lib.hid (HB0.out.trans (hb1.mono HB0.out.size)); have q1 := (K0.out.kept hb1.block).c0; have H1 := Lib.hid (H.out.same hb1.block); clear hb1) | (go_at_call 108; refine (DG.out _ H1.out).mono ?_; rintro e w2 ⟨rfl, rfl⟩))
      go_ret2
      exact ⟨_, [], [], rfl, OwnQ.nil _ _, HB1.out⟩
end
section
open Go.RowKit Go.Sort

theorem ltL_pairs {a c : List Int} (b d : List Int) (ha : ∀ x ∈ a, 0 ≤ x) (hc : ∀ x ∈ c, 0 ≤ x) : ltL (encP [a, b]) (encP [c, d]) = if a = c then ltL b d else ltL a c := by
  rw [encP_pair, encP_pair, ltL_enc _ _ _ _ ha hc]
  by_cases e : a = c
  · subst e; rw [if_pos rfl, ltL_irrefl]; simp
  · rw [if_neg e]
    cases h1 : ltL a c
    · cases h2 : ltL c a
      · exact absurd (ltL_total _ _ h1 h2) e
      · simp
    · simp
set_option maxRecDepth 100000 in
theorem l06Before_c (u v : Value) (p q : List (List Int)) (w : World) (h1 : IntSS w.heap u p) (h2 : IntSS w.heap v q) (hp : IsPr p) (hq : IsPr q) :
    Calls Try.prog 193 #[u, v] w fun e w' => e = .returned (.bool (ltL (encP p) (encP q))) ∧ ∃ n, w' = w.drewN n := by
  obtain ⟨a, b, rfl, ha⟩ := hp
  obtain ⟨c, d, rfl, hc⟩ := hq
  rw [ltL_pairs b d ha hc]
  obtain ⟨g1, f1, d1, xa, xc, ya, yc, rfl, k1, k2, i1, i2⟩ := h1.two
  obtain ⟨g2, f2, d2, za, zc, sa, sc, rfl, k3, k4, i3, i4⟩ := h2.two
  have I1 := Lib.hid i1; have I2 := Lib.hid i2; have I3 := Lib.hid i3; have I4 := Lib.hid i4
  have SM := Lib.hid (fun (W : World) (h : IntS W.heap (.slice xa a.length xc) a) (h2 : IntS W.heap (.slice za c.length zc) c) => l01Same_c _ _ a c W h h2)
  have LS1 := Lib.hid (fun (W : World) (h : IntS W.heap (.slice xa a.length xc) a) (h2 : IntS W.heap (.slice za c.length zc) c) => l01Less_c _ _ a c W h h2)
  have LS2 := Lib.hid (fun (W : World) (h : IntS W.heap (.slice ya b.length yc) b) (h2 : IntS W.heap (.slice sa d.length sc) d) => l01Less_c _ _ b d W h h2)
  clear h1 h2 i1 i2 i3 i4 ha hc
  by_cases e : a = c
  · rw [if_pos e]
    rw [show decide (a = c) = true from decide_eq_true e] at SM
    clear e LS1
    generalize ltL b d = lt at *
    go_enter Try.func193, Try.ntmps193
    go_wp2_with fail
    go_quiet ((go_at_call 189; first | exact quiet_behind (SM.out _ (by exact I1.out) (by exact I3.out)) | exact quiet_at (SM.out _ (by exact I1.out) (by exact I3.out)) | exact SM.out _ (by exact I1.out) (by exact I3.out)))
    go_wp2_with fail
    go_quiet ((go_at_call 155; first | exact quiet_behind (LS2.out _ (by exact I2.out) (by exact I4.out)) | exact quiet_at (LS2.out _ (by exact I2.out) (by exact I4.out)) | exact LS2.out _ (by exact I2.out) (by exact I4.out)))
    go_wp2_with fail
    go_ret
    exact ⟨rfl, _, by first | rfl | (simp only [World.drewN_drewN]; rfl)⟩
  · rw [if_neg e]
    rw [show decide (a = c) = false from decide_eq_false e] at SM
    clear e LS2
    generalize ltL a c = lt at *
    go_enter Try.func193, Try.ntmps193
    go_wp2_with fail
    go_quiet ((go_at_call 189; first | exact quiet_behind (SM.out _ (by exact I1.out) (by exact I3.out)) | exact quiet_at (SM.out _ (by exact I1.out) (by exact I3.out)) | exact SM.out _ (by exact I1.out) (by exact I3.out)))
    go_wp2_with fail
    go_quiet ((go_at_call 155; first | exact quiet_behind (LS1.out _ (by exact I1.out) (by exact I3.out)) | exact quiet_at (LS1.out _ (by exact I1.out) (by exact I3.out)) | exact LS1.out _ (by exact I1.out) (by exact I3.out)))
    go_wp2_with fail
    go_ret
    exact ⟨rfl, _, by first | rfl | (simp only [World.drewN_drewN]; rfl)⟩
theorem l01Same2_c (v1 v2 : Value) (xs ys : List (List Int)) (w : World) (h1 : IntSS w.heap v1 xs) (h2 : IntSS w.heap v2 ys) :
    Calls Try.prog 194 #[v1, v2] w fun e w' => e = .returned (.bool (decide (xs = ys))) ∧ ∃ n, w' = w.drewN n := by
  obtain ⟨a1, c1, rfl, m1⟩ := h1.len
  obtain ⟨a2, c2, rfl, m2⟩ := h2.len
  have H1 := Lib.hid h1; clear h1
  have H2 := Lib.hid h2; clear h2
  by_cases hl : xs.length = ys.length
  · have hb := (eqB (a := (xs.length : Int)) (b := ys.length) (by omega)).2
    have HL := Lib.hid hl
    clear hl
    go_enter Try.func194, Try.ntmps194
    go_wp2
    clear hb
    go_loopw [5] (fun i wr => ∃ k n : Nat, k ≤ xs.length ∧ i = .int .i64 k ∧ wr = w.drewN n ∧ ∀ j, j < k → xs[j]? = ys[j]?) (fun i _ => xs.length - (intOf i).toNat)
    case atStart => exact ⟨0, 0, Nat.zero_le _, rfl, rfl, by simp⟩
    case round =>
      obtain ⟨k, n, hk, rfl, rfl, hpre⟩ := hrel
      have HP := Lib.hid hpre; clear hpre
      by_cases hlt : k < xs.length
      · have hlt2 : k < ys.length := by have := HL.out; omega
        obtain ⟨b1, o1, c1', u1, hv1, hc1, hu1, _⟩ := (H1.out).at k hlt
        obtain ⟨b2, o2, c2', u2, hv2, hc2, hu2, _⟩ := (H2.out).at k hlt2
        simp only [Value.slice.injEq, true_and] at hv1 hv2
        obtain ⟨rfl, rfl⟩ := hv1
        obtain ⟨rfl, rfl⟩ := hv2
        have HX : Hid (xs[k]? = some xs[k] ∧ ys[k]? = some ys[k]) := ⟨List.getElem?_eq_getElem hlt, List.getElem?_eq_getElem hlt2⟩
        obtain ⟨xa, xc, rfl, -⟩ := hu1.len
        obtain ⟨ya, yc, rfl, -⟩ := hu2.len
        have I1 := Lib.hid hu1; have I2 := Lib.hid hu2
        clear hu1 hu2
        generalize xs[k] = x at *
        generalize ys[k] = y at *
        have SM := Lib.hid (fun (W : World) (h : IntS W.heap (.slice xa x.length xc) x) (h2 : IntS W.heap (.slice ya y.length yc) y) => l01Same_c _ _ x y W h h2)
        have hki : (k : Int) < xs.length := by omega
        by_cases e : x = y
        · rw [show decide (x = y) = true from decide_eq_true e] at SM
          have HN : Hid (∀ j, j < k + 1 → xs[j]? = ys[j]?) := fun j hj => by
            by_cases h : j = k
            · rw [h, HX.out.1, HX.out.2, e]
            · exact HP.out j (by omega)
          clear e
          go_wp2_with fail
          go_quiet ((go_at_call 189; first | exact quiet_behind (SM.out _ (by exact I1.out) (by exact I2.out)) | exact quiet_at (SM.out _ (by exact I1.out) (by exact I2.out)) | exact SM.out _ (by exact I1.out) (by exact I2.out)))
          go_wp2_with fail
          go_roundw
          case rel => exact ⟨k + 1, _, by omega, by go_num, by first | rfl | (simp only [World.drewN_drewN]; rfl), HN.out⟩
          case measure => simp [intOf]; omega
        · rw [show decide (x = y) = false from decide_eq_false e] at SM
          have HN : Hid (decide (xs = ys) = false) := decide_eq_false fun h => by
            have h3 := HX.out
            rw [h, h3.2] at h3
            exact e (Option.some.inj h3.1).symm
          clear e
          go_wp2_with fail
          go_quiet ((go_at_call 189; first | exact quiet_behind (SM.out _ (by exact I1.out) (by exact I2.out)) | exact quiet_at (SM.out _ (by exact I1.out) (by exact I2.out)) | exact SM.out _ (by exact I1.out) (by exact I2.out)))
          go_wp2_with fail
          go_ret
          exact ⟨by rw [HN.out]; rfl, _, by first | rfl | (simp only [World.drewN_drewN]; rfl)⟩
      · have hnlt : decide ((k : Int) < (xs.length : Int)) = false := decide_eq_false (by omega)
        go_wp2_with fail
        go_ret
        refine ⟨?_, _, rfl⟩
        have : xs = ys := List.ext_getElem? fun j => by
          by_cases hj : j < k
          · exact HP.out j hj
          · have := HL.out; rw [List.getElem?_eq_none (by omega), List.getElem?_eq_none (by omega)]
        simp [this]
  · have hd : decide (xs = ys) = false := by simp; rintro rfl; exact hl rfl
    have hb := (neB (a := (xs.length : Int)) (b := ys.length) (by omega)).2
    go_enter Try.func194, Try.ntmps194
    go_wp2
    go_ret
    exact ⟨by rw [hd]; rfl, 0, rfl⟩
end
section
open Go.RowKit Go.Sort

section
variable {ops : Array Oper} {rest : List Oper} {o : Oper} {a : Act} {Q : Exit → Act → World → Prop}
/-- 'append(out, list...)', references to slices of slices. -/
theorem append_allSS {w w0 : World} (hg : o.guard = none) (s x : Operand)
    (ho : o.op = .call { callee := .builtin .append, args := #[s, x], argTypes := #[47, 47] })
    (B : Nat) (v vx : Value) (us : List Value) (xsss ysss : List (List (List Int))) (hR : RefSS w B w.heap v us xsss) (hs : a.eval s = v) (hX : IntSSS w.heap vx ysss) (hx : a.eval x = vx) (hbl : Below B w0 w) (hB : B ≤ w.heap.size)
    (hn : xsss.length + ysss.length ≤ 4398046511104)
    (hK : ∀ v' us' w', RefSS w' B w'.heap v' us' (xsss ++ ysss) → Below B w0 w' → w.heap.size ≤ w'.heap.size → (∀ b, b < w.heap.size → some b ≠ v.ownBlock → w'.heap[b]? = w.heap[b]?) → wpList Try.prog ops Q rest (a.put o.dst v') w') :
    wpList Try.prog ops Q (o :: rest) a w := by
  obtain ⟨i0, hi, hz0, hz1, hz2⟩ := info_parts info_slSS
  obtain ⟨vs, hS, hvl, hve⟩ := hX
  refine append_all hg s x _ ho B _ i0 _ 24 Try.underlying47 hi hz0 hz1 hz2 rfl (by omega) v vx _ us vs hR.row hs hS hx hbl hB (fun u hu => ?_) (by omega) ?_
  · obtain ⟨i, hi, rfl⟩ := List.getElem_of_mem hu
    exact intSS_oneCell (hve i _ _ (List.getElem?_eq_getElem hi) (List.getElem?_eq_getElem (show i < ysss.length by omega)))
  · intro v' w' h1 h2 h3 h4
    have hk := KeepT.grown hR.row h4
    have hl := hR.len
    refine hK v' _ w' ⟨by rw [List.length_append, ← hvl]; exact h1, fun i y ys hy hz => ?_⟩ h2 h3 h4
    by_cases hi : i < us.length
    · rw [List.getElem?_append_left hi] at hy
      rw [List.getElem?_append_left (by omega)] at hz
      exact (hR.each i y ys hy hz).keepT (by decide) (by decide) hk
    · rw [List.getElem?_append_right (by omega)] at hy hz
      rw [← hl] at hz
      exact (hve _ y ys hy hz).keepT (by decide) (by decide) hk
end
end
section
open Go.RowKit Go.Sort

theorem putP_split {x : List (List Int)} {l : List (List (List Int))} (hx : IsPr x) (hl : ∀ y ∈ l, IsPr y) (k : Nat) (hk : k ≤ l.length) (h1 : ∀ j, j < k → ltL (encP (l.getD j [])) (encP x) = true) (h2 : k < l.length → ltL (encP (l.getD k [])) (encP x) = false) :
    putP x l = l.take k ++ (if k < l.length ∧ l.getD k [] = x then l.drop (k + 1) else x :: l.drop k) := by
  have hg : ∀ j, j < l.length → (l.map encP).getD j [] = encP (l.getD j []) := fun j hj => getD_enc l j hj
  have hp := put_split (encP x) (l.map encP) k (by simpa using hk) (fun j hj => by rw [hg j (by omega)]; exact h1 j hj) (fun h => by rw [List.length_map] at h; rw [hg k h]; exact h2 h)
  refine enc_map_inj (fun y hy => ?_) (fun y hy => ?_) ?_
  · rcases putP_mem _ _ _ hy with h | h
    · exact hl y h
    · rw [h]; exact hx
  · rcases List.mem_append.1 hy with h | h
    · exact hl y (List.mem_of_mem_take h)
    · split at h
      · exact hl y (List.mem_of_mem_drop h)
      · rcases List.mem_cons.1 h with h | h
        · rw [h]; exact hx
        · exact hl y (List.mem_of_mem_drop h)
  · rw [putP_enc, hp, List.map_append, List.map_take, List.length_map]
    congr 1
    by_cases hkl : k < l.length
    · rw [hg k hkl]
      have hy : IsPr (l.getD k []) := by rw [show l.getD k [] = l[k] by simp [hkl]]; exact hl _ (List.getElem_mem hkl)
      by_cases e : l.getD k [] = x
      · rw [if_pos ⟨hkl, by rw [e]⟩, if_pos ⟨hkl, e⟩, List.map_drop]
      · rw [if_neg (fun h => e (encP_inj hy hx h.2)), if_neg (fun h => e h.2), List.map_cons, List.map_drop]
    · rw [if_neg (fun h => hkl h.1), if_neg (fun h => hkl h.1), List.map_cons, List.map_drop]
theorem RefSS.drewN {w : World} {B : Nat} {v : Value} {us : List Value} {xsss : List (List (List Int))} (n : Nat) (a : RefSS w B w.heap v us xsss) : RefSS (w.drewN n) B (w.drewN n).heap v us xsss := ⟨own_same a.row (fun _ _ => rfl), a.each⟩
theorem IntSSS.drop {h : Array Obj} {ao : Option Addr} {c : Nat} {yss : List (List (List Int))} (x : IntSSS h (.slice ao yss.length c) yss) (k : Nat) (hk : k ≤ yss.length) : IntSSS h (.slice (dropA ao c k) (yss.length - k) (c - k)) (yss.drop k) := by
  obtain ⟨vs, h1, h2, h3⟩ := x
  have := slAt_drop (k := k) (by rw [h2]; exact h1) (by omega)
  rw [h2] at this
  exact ⟨_, this, by simp [h2], fun i u ys hu hy => by
    rw [List.getElem?_drop] at hu hy
    exact h3 _ u ys hu hy⟩
theorem IntSSS.take {h : Array Obj} {ao : Option Addr} {c : Nat} {yss : List (List (List Int))} (x : IntSSS h (.slice ao yss.length c) yss) (k : Nat) (hk : k ≤ yss.length) : IntSSS h (.slice ao k c) (yss.take k) := by
  obtain ⟨vs, h1, h2, h3⟩ := x
  have := slAt_take (m := k) (by rw [h2]; exact h1) (by omega)
  refine ⟨_, this, by simp [h2], fun i u ys hu hy => ?_⟩
  rw [List.getElem?_take] at hu hy
  split at hu
  · rename_i hi
    rw [if_pos hi] at hy
    exact h3 _ u ys hu hy
  · cases hu
section
variable {ops : Array Oper} {o : Oper} {a : Act} {Q : Exit → Act → World → Prop} {K : Act → World → Prop} {E : Prop}
theorem step_append_allSS {w w0 : World} (hg : o.guard = none) (s x : Operand)
    (ho : o.op = .call { callee := .builtin .append, args := #[s, x], argTypes := #[47, 47] })
    (B : Nat) (v vx : Value) (us : List Value) (xsss ysss : List (List (List Int))) (hR : RefSS w B w.heap v us xsss) (hs : a.eval s = v) (hX : IntSSS w.heap vx ysss) (hx : a.eval x = vx) (hbl : Below B w0 w) (hB : B ≤ w.heap.size)
    (hn : xsss.length + ysss.length ≤ 4398046511104)
    (hK : ∀ v' us' w', RefSS w' B w'.heap v' us' (xsss ++ ysss) → Below B w0 w' → w.heap.size ≤ w'.heap.size → (∀ b, b < w.heap.size → some b ≠ v.ownBlock → w'.heap[b]? = w.heap[b]?) → K (a.put o.dst v') w') :
    if Region.wanted o (yielded ops a.tmps) = true then Oper.wp Try.prog o a w K Q else E := by
  obtain ⟨i0, hi, hz0, hz1, hz2⟩ := info_parts info_slSS
  obtain ⟨vs, hS, hvl, hve⟩ := hX
  refine step_append_all hg s x _ ho B _ i0 _ 24 Try.underlying47 hi hz0 hz1 hz2 rfl (by omega) v vx _ us vs hR.row hs hS hx hbl hB (fun u hu => ?_) (by omega) ?_
  · obtain ⟨i, hi, rfl⟩ := List.getElem_of_mem hu
    exact intSS_oneCell (hve i _ _ (List.getElem?_eq_getElem hi) (List.getElem?_eq_getElem (show i < ysss.length by omega)))
  · intro v' w' h1 h2 h3 h4
    have hk := KeepT.grown hR.row h4
    have hl := hR.len
    refine hK v' _ w' ⟨by rw [List.length_append, ← hvl]; exact h1, fun i y ys hy hz => ?_⟩ h2 h3 h4
    by_cases hi : i < us.length
    · rw [List.getElem?_append_left hi] at hy
      rw [List.getElem?_append_left (by omega)] at hz
      exact (hR.each i y ys hy hz).keepT (by decide) (by decide) hk
    · rw [List.getElem?_append_right (by omega)] at hy hz
      rw [← hl] at hz
      exact (hve _ y ys hy hz).keepT (by decide) (by decide) hk
end
set_option maxRecDepth 100000 in
set_option maxHeartbeats 1000000 in
theorem l06Toggle_c (v u : Value) (L : List (List (List Int))) (q : List (List Int)) (w : World) (h : IntSSS w.heap v L) (hu : IntSS w.heap u q) (hL : ∀ y ∈ L, IsPr y) (hq : IsPr q) (hl : L.length < 4398046511104) :
    Calls Try.prog 158 #[v, u] w fun e w' => ∃ r us, e = .returned r ∧ RefSS w' w.heap.size w'.heap r us (putP q L) ∧ Below w.heap.size w w' := by
  have BF := Lib.hid (fun (y : Value) (ys : List (List Int)) (W : World) (h1 : IntSS W.heap y ys) (h2 : IntSS W.heap u q) (hp : IsPr ys) => l06Before_c y u ys q W h1 h2 hp hq)
  have SM := Lib.hid (fun (y : Value) (ys : List (List Int)) (W : World) (h1 : IntSS W.heap y ys) (h2 : IntSS W.heap u q) => l01Same2_c y u ys q W h1 h2)
  obtain ⟨ao, c, rfl, hm⟩ := h.len
  obtain ⟨pa, pc, rfl, hm2⟩ := hu.len
  have hcap : L.length ≤ c := by
    obtain ⟨us, h1, h2, _⟩ := h
    obtain ⟨a', c', hv', h3, _⟩ := SlAt.len h1
    simp only [Value.slice.injEq] at hv'
    omega
  have H := Lib.hid h; have HQ := Lib.hid hu; have HL := Lib.hid hL
  have PS := Lib.hid (fun k => putP_split hq hL k)
  clear h hu hL hq
  go_enter Try.func158, Try.ntmps158
  go_wp2_with fail
  go_loopw [5] (fun i wr => ∃ k n : Nat, k ≤ L.length ∧ i = .int .i64 k ∧ wr = w.drewN n ∧ ∀ j, j < k → ltL (encP (L.getD j [])) (encP q) = true) (fun i _ => L.length - (intOf i).toNat)
  case atStart => exact ⟨0, 0, Nat.zero_le _, rfl, rfl, fun j hj => by omega⟩
  case round =>
    obtain ⟨k, n, hk, rfl, rfl, hpre⟩ := hrel
    have HP := Lib.hid hpre; clear hpre
    have b0 : (0 : Int) ≤ k := by omega
    have b1 : (k : Int) ≤ c := by omega
    have b6 : (k : Int) ≤ L.length := by omega
    by_cases hlt : k < L.length
    · obtain ⟨b1', o1, c1, uk, hv1, hc1, huk, -⟩ := H.out.at k hlt
      simp only [Value.slice.injEq, true_and] at hv1
      obtain ⟨rfl, rfl⟩ := hv1
      obtain ⟨qa0, qc0, rfl, -⟩ := huk.len
      rw [show L[k] = L.getD k [] by simp [hlt]] at huk hc1
      have HPK : Hid (IsPr (L.getD k [])) := by
        show IsPr _
        rw [show L.getD k [] = L[k] by simp [hlt]]; exact HL.out _ (List.getElem_mem hlt)
      have HUK := Lib.hid huk
      have hki : (k : Int) < L.length := by omega
      clear huk
      have B1 := Lib.hid (BF.out (.slice qa0 (L.getD k []).length qc0) _ (w.drewN n) HUK.out HQ.out HPK.out)
      cases hL : ltL (encP (L.getD k [])) (encP q)
      · rw [hL] at B1
        by_cases heq : L.getD k [] = q
        · have HS : Hid (putP q L = L.take k ++ L.drop (k + 1)) := by
            show _ = _
            rw [PS.out k hk HP.out (fun _ => hL), if_pos ⟨hlt, heq⟩]
          have M1 := Lib.hid (fun (W : World) (h : IntSS W.heap (.slice qa0 (L.getD k []).length qc0) (L.getD k [])) (h2 : IntSS W.heap (.slice pa q.length pc) q) => SM.out _ _ W h h2)
          rw [show decide (L.getD k [] = q) = true by simpa using heq] at M1
          have b2 : (0 : Int) ≤ (k : Int) + 1 := by omega
          have b3 : (k : Int) + 1 ≤ L.length := by omega
          have b4 : ((k : Int) + 1).toNat = k + 1 := by omega
          have b5 : IntKind.i64.wrap ((k : Int) + 1) = (k : Int) + 1 := IntWalk.i64_in _ (by omega)
          clear hL heq
          generalize L.getD k [] = ys at *
          by_cases hck : c = k + 1
          · obtain rfl : c = k + 1 := hck
            have HDR : Hid (IntSSS w.heap (.slice (some ⟨b1', o1, none⟩) (L.length - (k + 1)) 0) (L.drop (k + 1))) := by
              have := H.out.drop (k + 1) (by omega)
              rw [dropA, if_pos rfl, Nat.sub_self] at this
              exact this
            go_wp2_with (first | (go_at_call 193; refine B1.out.mono ?_; rintro e W2 ⟨rfl, n2, rfl⟩) | (at_builtin; refine append_allSS rfl _ _ rfl w.heap.size (.slice (some ⟨w.heap.size, 0, none⟩) 0 0) (.slice (some ⟨b1', o1, none⟩) k (k + 1)) [] [] (L.take k) (refSS_empty _ (Nat.le_refl _)) rfl ((H.out.take k hk).same (alloc_old _ _)) rfl ((below_drewN _ (Below.refl _ w)).alloc (Nat.le_refl _) _) (by simp) (by simp; omega) ?_; intro v1 us1 w1 hR1 hb1 hs1 hk1; obtain ⟨sa, sn, sc, rfl⟩ := own_shape hR1.row; have hcx1 := (hb1.cell (World.block_lt_of_cell? _ _ hc1)).trans hc1; have HR1 := Lib.hid hR1; have HB1 := Lib.hid hb1; clear hR1 hb1 hs1 hk1) | (go_at_call 194; refine (M1.out _ (HUK.out.same HB1.out.block) (HQ.out.same HB1.out.block)).mono ?_; rintro e W3 ⟨rfl, n3, rfl⟩) | (at_builtin; refine append_allSS rfl _ _ rfl w.heap.size _ (.slice (some ⟨b1', o1, none⟩) (L.length - (k + 1)) 0) us1 (L.take k) (L.drop (k + 1)) (HR1.out.drewN n3) rfl (HDR.out.same HB1.out.block) rfl (below_drewN _ HB1.out) HB1.out.size (by simp; omega) ?_; intro v4 us4 w4 hR4 hb4 _ _; obtain ⟨ta, tn, tc, rfl⟩ := own_shape hR4.row) | (at_builtin; refine append_allSS rfl _ _ rfl w.heap.size _ (.slice (some ⟨b1', o1, none⟩) (L.length - (k + 1)) (k + 1 - (k + 1))) us1 (L.take k) (L.drop (k + 1)) (HR1.out.drewN n3) rfl (by have := HDR.out.same HB1.out.block; rw [Nat.sub_self]; exact this) rfl (below_drewN _ HB1.out) HB1.out.size (by simp; omega) ?_; intro v4 us4 w4 hR4 hb4 _ _; obtain ⟨ta, tn, tc, rfl⟩ := own_shape hR4.row) | (at_builtin; refine append_allSS rfl _ _ rfl w.heap.size _ (.slice (some ⟨b1', o1, none⟩) 0 0) us1 (L.take k) (L.drop (k + 1)) (HR1.out.drewN n3) rfl (by have := HDR.out.same HB1.out.block; rw [show L.length - (k + 1) = 0 by omega] at this; exact this) rfl (below_drewN _ HB1.out) HB1.out.size (by simp; omega) ?_; intro v4 us4 w4 hR4 hb4 _ _; obtain ⟨ta, tn, tc, rfl⟩ := own_shape hR4.row))
            all_goals
              go_ret
              exact ⟨_, us4, rfl, by rw [HS.out]; exact hR4, hb4⟩
          · have HDR : Hid (IntSSS w.heap (.slice (some ⟨b1', o1 + (k + 1), none⟩) (L.length - (k + 1)) (c - (k + 1))) (L.drop (k + 1))) := by
              have := H.out.drop (k + 1) (by omega)
              rw [dropA, if_neg hck] at this
              exact this
            go_wp2_with (first | (go_at_call 193; refine B1.out.mono ?_; rintro e W2 ⟨rfl, n2, rfl⟩) | (at_builtin; refine append_allSS rfl _ _ rfl w.heap.size (.slice (some ⟨w.heap.size, 0, none⟩) 0 0) (.slice (some ⟨b1', o1, none⟩) k c) [] [] (L.take k) (refSS_empty _ (Nat.le_refl _)) rfl ((H.out.take k hk).same (alloc_old _ _)) rfl ((below_drewN _ (Below.refl _ w)).alloc (Nat.le_refl _) _) (by simp) (by simp; omega) ?_; intro v1 us1 w1 hR1 hb1 hs1 hk1; obtain ⟨sa, sn, sc, rfl⟩ := own_shape hR1.row; have hcx1 := (hb1.cell (World.block_lt_of_cell? _ _ hc1)).trans hc1; have HR1 := Lib.hid hR1; have HB1 := Lib.hid hb1; clear hR1 hb1 hs1 hk1) | (go_at_call 194; refine (M1.out _ (HUK.out.same HB1.out.block) (HQ.out.same HB1.out.block)).mono ?_; rintro e W3 ⟨rfl, n3, rfl⟩) | (at_builtin; refine append_allSS rfl _ _ rfl w.heap.size _ (.slice (some ⟨b1', o1 + (k + 1), none⟩) (L.length - (k + 1)) (c - (k + 1))) us1 (L.take k) (L.drop (k + 1)) (HR1.out.drewN n3) rfl (HDR.out.same HB1.out.block) rfl (below_drewN _ HB1.out) HB1.out.size (by simp; omega) ?_; intro v4 us4 w4 hR4 hb4 _ _; obtain ⟨ta, tn, tc, rfl⟩ := own_shape hR4.row))
            all_goals
              go_ret
              exact ⟨_, us4, rfl, by rw [HS.out]; exact hR4, hb4⟩
        · have HS : Hid (putP q L = L.take k ++ q :: L.drop k) := by
            show _ = _
            rw [PS.out k hk HP.out (fun _ => hL), if_neg (fun x => heq x.2)]
          have M1 := Lib.hid (fun (W : World) (h : IntSS W.heap (.slice qa0 (L.getD k []).length qc0) (L.getD k [])) (h2 : IntSS W.heap (.slice pa q.length pc) q) => SM.out _ _ W h h2)
          rw [show decide (L.getD k [] = q) = false by simpa using heq] at M1
          have hck : c ≠ k := by omega
          have HD : Hid (dropA (some ⟨b1', o1, none⟩) c k = some ⟨b1', o1 + k, none⟩) := by
            show _ = _
            have : c ≠ k := by omega
            simp [dropA, this, Addr.add]
          clear hL heq
          generalize L.getD k [] = ys at *
          go_wp2_with (first | (go_at_call 193; refine B1.out.mono ?_; rintro e W2 ⟨rfl, n2, rfl⟩) | (at_builtin; refine append_allSS rfl _ _ rfl w.heap.size (.slice (some ⟨w.heap.size, 0, none⟩) 0 0) (.slice (some ⟨b1', o1, none⟩) k c) [] [] (L.take k) (refSS_empty _ (Nat.le_refl _)) rfl ((H.out.take k hk).same (alloc_old _ _)) rfl ((below_drewN _ (Below.refl _ w)).alloc (Nat.le_refl _) _) (by simp) (by simp; omega) ?_; intro v1 us1 w1 hR1 hb1 hs1 hk1; obtain ⟨sa, sn, sc, rfl⟩ := own_shape hR1.row; have hcx1 := (hb1.cell (World.block_lt_of_cell? _ _ hc1)).trans hc1; have HR1 := Lib.hid hR1; have HB1 := Lib.hid hb1; clear hR1 hb1 hs1 hk1) | (go_at_call 194; refine (M1.out _ (HUK.out.same HB1.out.block) (HQ.out.same HB1.out.block)).mono ?_; rintro e W3 ⟨rfl, n3, rfl⟩))
          go_region_held3 (fun _ => True) (trivial)
            (first | (refine step_append_refSS (w0 := w) (wE := w1) (by rfl) _ _ (by rfl) w.heap.size _ (.slice pa q.length pc) us1 _ q HR1.out (by rfl) ((HQ.out.same HB1.out.block).same (alloc_old _ _)) (by first | exact (below_drewN _ (Below.refl _ w1)).alloc (Nat.le_refl _) _ | exact ((Below.refl _ w1).drew).alloc (Nat.le_refl _) _) HB1.out HB1.out.size w1.heap.size (by rfl) (by exact heap_alloc_new _ _) (by simp; omega) ?_; intro v2 us2 w2 hR2 hb2 hs2 hk2; obtain ⟨ta, tn, tc, rfl⟩ := own_shape hR2.row) | (refine step_append_allSS (w0 := w) (by rfl) _ _ (by rfl) w.heap.size _ (.slice (some ⟨b1', o1 + k, none⟩) (L.length - k) (c - k)) us2 _ (L.drop k) hR2 (by rfl) (by have := (H.out.drop k hk).same hb2.block; rw [HD.out ] at this; exact this) (by rfl) hb2 hb2.size (by simp; omega) ?_; intro v3 us3 w3 hR3 hb3 _ _; obtain ⟨qa, qn, qc, rfl⟩ := own_shape hR3.row) | fail)
          go_wp2_with fail
          all_goals
            go_ret
            exact ⟨_, us3, rfl, by rw [HS.out]; simpa using hR3, hb3⟩
      · rw [hL] at B1
        have HPS : Hid (∀ j, j < k + 1 → ltL (encP (L.getD j [])) (encP q) = true) := fun j hj => by
          by_cases e : j = k
          · rw [e]; exact hL
          · exact HP.out j (by omega)
        clear hL
        generalize L.getD k [] = ys at *
        go_wp2_with (go_at_call 193; refine B1.out.mono ?_; rintro e W2 ⟨rfl, n2, rfl⟩)
        go_roundw
        case rel => exact ⟨k + 1, _, by omega, by go_num, by first | rfl | (simp only [World.drewN_drewN]; rfl), HPS.out⟩
        case measure => simp [intOf]; omega
    · have HS : Hid (putP q L = L.take k ++ q :: L.drop k) := by
        show _ = _
        rw [PS.out k hk HP.out (fun h => absurd h hlt), if_neg (fun x => hlt x.1)]
      have hnlt : decide ((k : Int) < (L.length : Int)) = false := decide_eq_false (by omega)
      by_cases hck : c = k
      · obtain rfl : k = c := hck.symm
        have HD : Hid (dropA ao k k = ao) := by show _ = _; rw [dropA, if_pos rfl]
        go_wp2_with (at_builtin; refine append_allSS rfl _ _ rfl w.heap.size (.slice (some ⟨w.heap.size, 0, none⟩) 0 0) (.slice ao k k) [] [] (L.take k) (refSS_empty _ (Nat.le_refl _)) rfl ((H.out.take k hk).same (alloc_old _ _)) rfl ((below_drewN _ (Below.refl _ w)).alloc (Nat.le_refl _) _) (by simp) (by simp; omega) ?_; intro v1 us1 w1 hR1 hb1 hs1 hk1; obtain ⟨sa, sn, sc, rfl⟩ := own_shape hR1.row; have HR1 := Lib.hid hR1; have HB1 := Lib.hid hb1; clear hR1 hb1 hs1 hk1)
        go_region_held3 (fun _ => True) (trivial)
          (first | (refine step_append_refSS (w0 := w) (wE := w1) (by rfl) _ _ (by rfl) w.heap.size _ (.slice pa q.length pc) us1 _ q HR1.out (by rfl) ((HQ.out.same HB1.out.block).same (alloc_old _ _)) (by first | exact (below_drewN _ (Below.refl _ w1)).alloc (Nat.le_refl _) _ | exact ((Below.refl _ w1).drew).alloc (Nat.le_refl _) _) HB1.out HB1.out.size w1.heap.size (by rfl) (by exact heap_alloc_new _ _) (by simp; omega) ?_; intro v2 us2 w2 hR2 hb2 hs2 hk2; obtain ⟨ta, tn, tc, rfl⟩ := own_shape hR2.row) | (refine step_append_allSS (w0 := w) (by rfl) _ _ (by rfl) w.heap.size _ (.slice ao 0 0) us2 _ (L.drop k) hR2 (by rfl) (by have := (H.out.drop k hk).same hb2.block; rw [HD.out , Nat.sub_self, show L.length - k = 0 by omega] at this; exact this) (by rfl) hb2 hb2.size (by simp; omega) ?_; intro v3 us3 w3 hR3 hb3 _ _; obtain ⟨qa, qn, qc, rfl⟩ := own_shape hR3.row) | fail)
        go_wp2_with fail
        all_goals
          go_ret
          exact ⟨_, us3, rfl, by rw [HS.out]; simpa using hR3, hb3⟩
      · have HD : Hid (dropA ao c k = ao.map (·.add k)) := by show _ = _; rw [dropA, if_neg hck]
        go_wp2_with (at_builtin; refine append_allSS rfl _ _ rfl w.heap.size (.slice (some ⟨w.heap.size, 0, none⟩) 0 0) (.slice ao k c) [] [] (L.take k) (refSS_empty _ (Nat.le_refl _)) rfl ((H.out.take k hk).same (alloc_old _ _)) rfl ((below_drewN _ (Below.refl _ w)).alloc (Nat.le_refl _) _) (by simp) (by simp; omega) ?_; intro v1 us1 w1 hR1 hb1 hs1 hk1; obtain ⟨sa, sn, sc, rfl⟩ := own_shape hR1.row; have HR1 := Lib.hid hR1; have HB1 := Lib.hid hb1; clear hR1 hb1 hs1 hk1)
        go_region_held3 (fun _ => True) (trivial)
          (first | (refine step_append_refSS (w0 := w) (wE := w1) (by rfl) _ _ (by rfl) w.heap.size _ (.slice pa q.length pc) us1 _ q HR1.out (by rfl) ((HQ.out.same HB1.out.block).same (alloc_old _ _)) (by first | exact (below_drewN _ (Below.refl _ w1)).alloc (Nat.le_refl _) _ | exact ((Below.refl _ w1).drew).alloc (Nat.le_refl _) _) HB1.out HB1.out.size w1.heap.size (by rfl) (by exact heap_alloc_new _ _) (by simp; omega) ?_; intro v2 us2 w2 hR2 hb2 hs2 hk2; obtain ⟨ta, tn, tc, rfl⟩ := own_shape hR2.row) | (refine step_append_allSS (w0 := w) (by rfl) _ _ (by rfl) w.heap.size _ (.slice (ao.map (·.add k)) (L.length - k) (c - k)) us2 _ (L.drop k) hR2 (by rfl) (by have := (H.out.drop k hk).same hb2.block; rw [HD.out ] at this; exact this) (by rfl) hb2 hb2.size (by simp; omega) ?_; intro v3 us3 w3 hR3 hb3 _ _; obtain ⟨qa, qn, qc, rfl⟩ := own_shape hR3.row) | fail)
        go_wp2_with fail
        all_goals
          go_ret
          exact ⟨_, us3, rfl, by rw [HS.out]; simpa using hR3, hb3⟩
end
section
open Go.RowKit Go.Sort

set_option maxRecDepth 100000 in
theorem l06Trim_c (v : Value) (xs : List Int) (w : World) (h : IntS w.heap v xs) (hl : xs.length ≤ 4398046511104) :
    Calls Try.prog 159 #[v] w fun e w' => ∃ r, e = .returned r ∧ OwnI w' w.heap.size r (trim xs) ∧ Below w.heap.size w w' := by
  have C := Lib.hid (fun (v : Value) (ys : List Int) (W : World) (h : IntS W.heap v ys) (hl : ys.length ≤ 4398046511104) => l01Own_c v ys W h hl)
  obtain ⟨ao, c, rfl, hm⟩ := h.len
  have hcap : xs.length ≤ c := by
    obtain ⟨a', c', hv', h1, _⟩ := SlAt.len h
    simp only [Value.slice.injEq, List.length_map] at hv' h1
    omega
  have HT : Hid (trim xs = xs.take (trimN xs xs.length)) := rfl
  have H := Lib.hid h; clear h
  go_enter Try.func159, Try.ntmps159
  go_wp2_with fail
  go_loop [3] (fun s => ∃ m : Nat, m ≤ xs.length ∧ s = .int .i64 m ∧ Hid (trimN xs xs.length = trimN xs m)) (fun s => (intOf s).toNat)
  case atStart => exact ⟨xs.length, Nat.le_refl _, rfl, rfl⟩
  case round =>
    obtain ⟨m, hml, rfl, ht⟩ := hrel
    have finish : ∀ m : Nat, m ≤ xs.length → Hid (trimN xs xs.length = m) → Hid (IntS w.heap (.slice ao m c) (trim xs)) := fun m hm ht => by
      show IntS _ _ _
      rw [HT.out, ht.out]; exact H.out.take m hm
    by_cases h0 : m = 0
    · subst h0
      have HF := finish 0 (Nat.zero_le _) ht
      have hlt : (trim xs).length ≤ 4398046511104 := by rw [trim_length]; have := trimN_le xs xs.length; omega
      have HC := Lib.hid (C.out _ _ w HF.out hlt)
      clear finish HF
      go_wp2_with (go_at_call 123; refine HC.out.mono ?_; rintro e w2 ⟨r, rfl, hr, hb⟩; obtain ⟨pa, pn, pc, rfl⟩ := own_shape hr)
      go_ret
      exact ⟨_, rfl, hr, hb⟩
    · obtain ⟨j, rfl⟩ : ∃ j, m = j + 1 := ⟨m - 1, by omega⟩
      obtain ⟨b, off, cap, hv, hc, -⟩ := (H.out).at (w := w) j (by omega)
      simp only [Value.slice.injEq, true_and] at hv
      obtain ⟨rfl, rfl⟩ := hv
      rw [← getD_at'] at hc
      by_cases hz : xs.getD j 0 = 0
      · have ht2 : Hid (trimN xs xs.length = trimN xs j) := by rw [ht.out, trimN, if_pos hz]; rfl
        rw [hz] at hc
        clear hz h0 finish
        go_wp2_with fail
        go_round
        case rel => exact ⟨j, by omega, by go_num, ht2⟩
        case measure => simp [intOf]
      · have hb := (neB hz).1
        have ht2 : Hid (trimN xs xs.length = j + 1) := by rw [ht.out, trimN, if_neg hz]; rfl
        have HF := finish (j + 1) hml ht2
        have hlt : (trim xs).length ≤ 4398046511104 := by rw [trim_length]; have := trimN_le xs xs.length; omega
        have HC := Lib.hid (C.out _ _ w HF.out hlt)
        generalize xs.getD j 0 = x at *
        clear hz h0 finish HF
        go_wp2_with (go_at_call 123; refine HC.out.mono ?_; rintro e w2 ⟨r, rfl, hr, hb⟩; obtain ⟨pa, pn, pc, rfl⟩ := own_shape hr)
        go_ret
        exact ⟨_, rfl, hr, hb⟩
def foldT (P : List (List (List Int))) (L : List (List (List Int))) : List (List (List Int)) := (P.map trimP).foldl (fun a x => putP x a) L
theorem foldT_append (P R L : List (List (List Int))) : foldT (P ++ R) L = foldT R (foldT P L) := by simp [foldT, List.foldl_append]
theorem foldT_len : ∀ (P L : List (List (List Int))), (foldT P L).length ≤ L.length + P.length
  | [], L => by simp [foldT]
  | p :: P, L => by
    have h1 := foldT_len P (putP (trimP p) L)
    have h2 := putP_length (trimP p) L
    have : foldT (p :: P) L = foldT P (putP (trimP p) L) := rfl
    rw [this, List.length_cons]; omega
theorem foldT_pr {P L : List (List (List Int))} (hP : ∀ p ∈ P, IsPr (trimP p)) (hL : ∀ y ∈ L, IsPr y) : ∀ y ∈ foldT P L, IsPr y := fun y hy => by
  rcases foldP_mem _ _ _ hy with h | h
  · exact hL y h
  · obtain ⟨p, hp, rfl⟩ := List.mem_map.1 h
    exact hP p hp
theorem trimP_pr {r a b : List Int} (h0 : ∀ x ∈ r, 0 ≤ x) (ha : ∀ x ∈ a, 0 ≤ x) : ∀ p ∈ dfsP r a b, IsPr (trimP p) := fun p hp => by
  obtain ⟨c, d, rfl, -, -, -, h⟩ := dfsP_mem r a b p hp
  refine ⟨_, _, rfl, fun x hx => ?_⟩
  have hx2 := List.mem_of_mem_take hx
  simp only [List.getD_cons_zero] at hx2
  rcases List.mem_append.1 hx2 with h1 | h1
  · exact ha x h1
  · exact (h h0).1 x h1
theorem dfsP_cons (n : Int) (r a b : List Int) : dfsP (n :: r) a b = (List.range (n.toNat + 1)).flatMap fun x : Nat => dfsP r (a ++ [(x : Int)]) (b ++ [n - (x : Int)]) := rfl
set_option maxRecDepth 100000 in
set_option maxHeartbeats 2000000 in
theorem l06Parts_c (r : List Int) (hr0 : ∀ x ∈ r, 0 ≤ x ∧ x ≤ 40) (hrl : r.length ≤ 10) : ∀ (m : Nat) (left right : List Int) (v u o : Value) (L : List (List (List Int))) (w : World), left.length + m = r.length → right.length = left.length →
    (∀ i, i < left.length → left.getD i 0 + right.getD i 0 = r.getD i 0) → (∀ x ∈ left, 0 ≤ x ∧ x ≤ 40) → IntS w.heap v r → IntS w.heap u left → IntSSS w.heap o L → (∀ y ∈ L, IsPr y) → L.length + (dfsP (r.drop left.length) left right).length < 4398046511104 →
    Calls Try.prog 105 #[v, u, o] w fun e w' => ∃ s, e = .returned s ∧ IntSSS w'.heap s (foldT (dfsP (r.drop left.length) left right) L) ∧ Below w.heap.size w w' := by
  intro m
  induction m with
  | zero =>
    intro left right v u o L w hm hrt hsum hl0 hv hu ho hL hlen
    have hll : left.length = r.length := by omega
    have e1 : dfsP (r.drop left.length) left right = [[left, right]] := by rw [hll, List.drop_length]; rfl
    rw [e1] at hlen ⊢
    have e2 : foldT [[left, right]] L = putP [trim left, trim right] L := rfl
    rw [e2]
    have TR := Lib.hid (fun (v : Value) (ys : List Int) (W : World) (h : IntS W.heap v ys) (hl : ys.length ≤ 4398046511104) => l06Trim_c v ys W h hl)
    have TG := Lib.hid (fun (u : Value) (W : World) (h1 : IntSSS W.heap o L) (h2 : IntSS W.heap u [trim left, trim right]) => l06Toggle_c o u L [trim left, trim right] W h1 h2 hL ⟨_, _, rfl, fun x hx => (hl0 x (List.mem_of_mem_take hx)).1⟩ (by simp at hlen; omega))
    obtain ⟨va, vc, rfl, -⟩ := hv.len
    obtain ⟨ua, uc, rfl, -⟩ := hu.len
    obtain ⟨oa, oc, rfl, -⟩ := ho.len
    have HV := Lib.hid hv; have HU := Lib.hid hu; have HO := Lib.hid ho; have HS := Lib.hid hsum; have HR0 := Lib.hid hr0; have HL0 := Lib.hid hl0; have HRT := Lib.hid hrt
    have t1 := (eqB (show (left.length : Int) = r.length by omega)).1
    clear hv hu ho hsum hr0 hl0 hrt e1 e2 hL
    rw [hll] at t1 HU
    have HLL := Lib.hid hll
    clear hm hll
    go_enter Try.func105, Try.ntmps105
    rw [HLL.out]
    go_wp2_with fail
    go_loopw [8, 9] (fun s i wr => ∃ k : Nat, k ≤ r.length ∧ i = .int .i64 k ∧ OwnI wr w.heap.size s (right.take k) ∧ Below w.heap.size w wr) (fun _ i _ => r.length - (intOf i).toNat)
    case atStart => exact ⟨0, Nat.zero_le _, rfl, ownI_empty (Nat.le_refl _), (Below.refl _ _).alloc (Nat.le_refl _) _⟩
    case round =>
      obtain ⟨k, hk, rfl, hown, hbl⟩ := hrel
      obtain ⟨sa, sn, sc, rfl⟩ := own_shape hown
      have hsz := hbl.size
      have HO2 := Lib.hid hown; have HB := Lib.hid hbl
      clear hown hbl
      by_cases hkl : k < r.length
      · obtain ⟨b1, o1, c1, hv1, hc1, -⟩ := HV.out.at (w := w) k hkl
        obtain ⟨b2, o2, c2, hv2, hc2, -⟩ := HU.out.at (w := w) k (by have := HLL.out; omega)
        have hx := HR0.out _ (List.getElem_mem hkl)
        have hy := HL0.out _ (List.getElem_mem (show k < left.length by have := HLL.out; omega))
        have hz := HS.out k (by have := HLL.out; omega)
        rw [HLL.out] at hv2
        simp only [Value.slice.injEq, true_and] at hv1 hv2
        obtain ⟨rfl, rfl⟩ := hv1
        obtain ⟨rfl, rfl⟩ := hv2
        have HTK : Hid (right.take (k + 1) = right.take k ++ [right.getD k 0]) := by
          have hk2 : k < right.length := by have := HRT.out; have := HLL.out; omega
          show _ = _
          rw [List.take_succ_eq_append_getElem hk2]; simp [hk2]
        rw [show r.getD k 0 = r[k] by simp [hkl], show left.getD k 0 = left[k]'(by have := HLL.out; omega) by simp [show k < left.length by have := HLL.out; omega]] at hz
        generalize r[k] = x at *
        generalize left[k]'(by have := HLL.out; omega) = y at *
        generalize right.getD k 0 = z at *
        have s1 : IntKind.i64.wrap (x - y) = z := by rw [IntWalk.i64_in _ (by omega)]; omega
        have hki : (k : Int) < (r.length : Int) := by omega
        have F := Lib.hid (fun (W : World) (hW : Below w.heap.size w W) => (⟨(hW.cell (World.block_lt_of_cell? _ _ hc1)).trans hc1, (hW.cell (World.block_lt_of_cell? _ _ hc2)).trans hc2⟩ : W.cell? ⟨b1, o1 + k, none⟩ = some (.int .i64 x) ∧ W.cell? ⟨b2, o2 + k, none⟩ = some (.int .i64 y)))
        clear hc1 hc2
        have hf := F.out wr HB.out
        have x1 := hf.1; have x2 := hf.2
        clear hf
        have hln : (right.take k).length ≤ 4398046511104 := by rw [List.length_take]; omega
        have HLN := Lib.hid hln
        have HZ := Lib.hid hz
        clear hln hz
        go_wp2_with fail
        go_region_held3 (fun W => W.cell? ⟨b1, o1 + k, none⟩ = some (.int .i64 x) ∧ W.cell? ⟨b2, o2 + k, none⟩ = some (.int .i64 y))
          (first | assumption | exact F.out _ (below_drewN 1 HB.out) | exact F.out _ (below_drewN 1 (HB.out.alloc hsz _)) | exact F.out _ hb' | fail)
          (first | (refine step_append_int (w0 := w) (by rfl) _ _ (by rfl) w.heap.size _ _ (own_same HO2.out (alloc_old _ _)) (by rfl) wr.heap.size z (by rfl) (by exact heap_alloc_new _ _) (by exact below_drewN 1 (HB.out.alloc hsz _)) (by simp; omega) (by have := HLN.out; rw [List.length_take] at this ⊢; omega) ?_; intro v' w' hown' hb' hs' hk'; obtain ⟨ta, tn, tc, rfl⟩ := own_shape hown') | fail)
        rename_i hhS
        have HO3 := Lib.hid hown'; have HB3 := Lib.hid hb'
        clear hhS hown' hb' hs' hk' x1 x2 F
        go_wp2_with fail
        go_roundw
        case rel => exact ⟨k + 1, by omega, by go_num, by rw [HTK.out]; exact HO3.out, HB3.out⟩
        case measure => simp [intOf]; omega
      · obtain rfl : k = r.length := by omega
        have HRF : Hid (OwnI wr w.heap.size (.slice sa sn sc) right) := by
          have := HO2.out
          have h1 := HRT.out; have h2 := HLL.out
          rwa [List.take_of_length_le (by omega)] at this
        have HL2 : Hid (left.length ≤ 4398046511104 ∧ right.length ≤ 4398046511104) := by
          have h1 := HRT.out; have h2 := HLL.out
          show _ ∧ _; omega
        have HUW := Lib.hid (HU.out.same HB.out.block)
        have T1 := Lib.hid (TR.out _ left wr (by have := HUW.out; exact this) HL2.out.1)
        clear HO2
        go_wp2_with (first | (go_at_call 159; refine T1.out.mono ?_; rintro e w2 ⟨r2, rfl, hr2, hb2⟩; obtain ⟨pa, pn, pc, rfl⟩ := own_shape hr2; have T2 := Lib.hid (TR.out _ right w2 (HRF.out.ints.same hb2.block) HL2.out.2); clear T1) | (go_at_call 159; refine T2.out.mono ?_; rintro e w3 ⟨r3, rfl, hr3, hb3⟩; obtain ⟨qa, qn, qc, rfl⟩ := own_shape hr3; have HP := Lib.hid (two_row (hr2.ints.same hb3.block) hr3.ints); have HB3 := Lib.hid (HB.out.trans ((hb2.trans (hb3.mono hb2.size)).mono hsz)); clear hr2 hr3 hb2 hb3 T2) | (go_at_call 158; refine (TG.out _ _ (HO.out.same (HB3.out.alloc HB3.out.size _).block) HP.out).mono ?_; rintro e w4 ⟨r4, us4, rfl, hR4, hb4⟩; obtain ⟨za, zn, zc, rfl⟩ := own_shape hR4.row))
        go_ret
        exact ⟨_, rfl, hR4.ints (fun _ _ => rfl), (HB3.out.alloc HB3.out.size _).trans (hb4.mono (by simp; have := HB3.out.size; omega))⟩
  | succ m ih =>
    intro left right v u o L w hm hrt hsum hl0 hv hu ho hL hlen
    have hll : left.length < r.length := by omega
    obtain ⟨n, hn⟩ : ∃ n, n = r[left.length] := ⟨_, rfl⟩
    have hn0 := hr0 _ (List.getElem_mem hll)
    rw [← hn] at hn0
    have hdr : r.drop left.length = n :: r.drop (left.length + 1) := by rw [List.drop_eq_getElem_cons hll, hn]
    rw [hdr, dfsP_cons] at hlen ⊢
    obtain ⟨F, hF⟩ : ∃ F : Nat → List (List (List Int)), F = fun x : Nat => dfsP (r.drop (left.length + 1)) (left ++ [(x : Int)]) (right ++ [n - (x : Int)]) := ⟨_, rfl⟩
    rw [← hF] at hlen ⊢
    have HFS : Hid (∀ k, ((List.range (k + 1)).flatMap F) = (List.range k).flatMap F ++ F k) := fun k => by rw [List.range_succ, List.flatMap_append]; simp
    have HFP : Hid (∀ k, ∀ y ∈ foldT ((List.range k).flatMap F) L, IsPr y) := fun k => foldT_pr (fun p hp => by
      obtain ⟨x, _, hp⟩ := List.mem_flatMap.1 hp
      rw [hF] at hp
      exact trimP_pr (fun y hy => (hr0 y (List.mem_of_mem_drop hy)).1) (fun y hy => by
        rcases List.mem_append.1 hy with h1 | h1
        · exact (hl0 y h1).1
        · rw [List.mem_singleton] at h1; omega) p hp) hL
    have HFL : Hid (∀ k, k < n.toNat + 1 → (foldT ((List.range k).flatMap F) L).length + (F k).length < 4398046511104) := fun k hk => by
      have h1 := foldT_len ((List.range k).flatMap F) L
      have h2 : ((List.range k).flatMap F).length + (F k).length ≤ ((List.range (n.toNat + 1)).flatMap F).length := by
        have h3 := HFS.out k
        have h4 : ∀ N, k + 1 ≤ N → ((List.range (k + 1)).flatMap F).length ≤ ((List.range N).flatMap F).length := by
          intro N hN
          induction N with
          | zero => omega
          | succ N ihN =>
            by_cases e : k + 1 = N + 1
            · rw [e]; exact Nat.le_refl _
            · have := ihN (by omega)
              rw [List.range_succ (n := N), List.flatMap_append, List.length_append]; omega
        have h5 := h4 (n.toNat + 1) (by omega)
        rw [h3, List.length_append] at h5; exact h5
      omega
    have HIH : Hid (∀ (k : Nat) (v u o : Value) (L' : List (List (List Int))) (W : World), (k : Int) ≤ n → IntS W.heap v r → IntS W.heap u (left ++ [(k : Int)]) → IntSSS W.heap o L' → (∀ y ∈ L', IsPr y) → L'.length + (F k).length < 4398046511104 → Calls Try.prog 105 #[v, u, o] W fun e w' => ∃ s, e = .returned s ∧ IntSSS w'.heap s (foldT (F k) L') ∧ Below W.heap.size W w') := fun k v u o L' W hk h1 h2 h3 h4 h5 => by
      have hlen' : (left ++ [(k : Int)]).length = left.length + 1 := by simp
      have := ih (left ++ [(k : Int)]) (right ++ [n - (k : Int)]) v u o L' W (by rw [hlen']; omega) (by simp; omega) (fun i hi => by
          rw [hlen'] at hi
          by_cases e : i = left.length
          · subst e
            rw [List.getD_eq_getElem?_getD, List.getElem?_append_right (Nat.le_refl _), List.getD_eq_getElem?_getD, List.getElem?_append_right (by omega), ← hrt, show r.getD right.length 0 = n by rw [hn]; simp [hrt, hll]]
            simp; omega
          · have := hsum i (by omega)
            rw [List.getD_eq_getElem?_getD, List.getElem?_append_left (by omega), List.getD_eq_getElem?_getD, List.getElem?_append_left (by omega), ← List.getD_eq_getElem?_getD, ← List.getD_eq_getElem?_getD]
            exact this)
        (fun y hy => by
          rcases List.mem_append.1 hy with h | h
          · exact hl0 y h
          · rw [List.mem_singleton] at h; omega)
        h1 h2 h3 h4 (by rw [hlen']; rw [hF] at h5; exact h5)
      rw [hlen'] at this
      rw [hF]; exact this
    have OW := Lib.hid (fun (W : World) (h : IntS W.heap u left) => l01Own_c u left W h (by omega))
    obtain ⟨va, vc, rfl, -⟩ := hv.len
    obtain ⟨ua, uc, rfl, -⟩ := hu.len
    obtain ⟨oa, oc, rfl, -⟩ := ho.len
    obtain ⟨b1, o1, c1, hv1, hc1, -⟩ := hv.at (w := w) left.length hll
    simp only [Value.slice.injEq, true_and] at hv1
    obtain ⟨rfl, rfl⟩ := hv1
    rw [← hn] at hc1
    have HV := Lib.hid hv; have HU := Lib.hid hu; have HO := Lib.hid ho; have HC1 := Lib.hid hc1
    have hmi : (left.length : Int) < (r.length : Int) := by omega
    have t1 := (neB (show (left.length : Int) ≠ r.length by omega)).1
    obtain ⟨N, hN⟩ : ∃ N : Nat, n = (N : Int) := ⟨n.toNat, by omega⟩
    have HNE : Hid (n.toNat + 1 = N + 1) := by show _ = _; omega
    have HNN := Lib.hid hN
    clear hv hu ho ih hrt hsum hl0 hr0 hL hlen hdr hF hc1 hn
    rw [HNE.out] at HFL
    rw [HNE.out]
    subst hN
    have hlz : left.length ≤ 10 := by omega
    generalize left.length = ll at *
    obtain ⟨G, hG⟩ : ∃ G : Nat → List (List (List Int)), ∀ k, G k = foldT ((List.range k).flatMap F) L := ⟨_, fun _ => rfl⟩
    have HG0 : Hid (G 0 = L) := by show _ = _; rw [hG]; rfl
    have HGS : Hid (∀ k, G (k + 1) = foldT (F k) (G k)) := fun k => by rw [hG, hG, HFS.out, foldT_append]
    have HGP : Hid (∀ k, ∀ y ∈ G k, IsPr y) := fun k => by rw [hG]; exact HFP.out k
    have HGL : Hid (∀ k, k < N + 1 → (G k).length + (F k).length < 4398046511104) := fun k hk => by rw [hG]; exact HFL.out k hk
    rw [← hG]
    clear hG HFS HFP HFL
    go_enter Try.func105, Try.ntmps105
    go_wp2_with fail
    go_loopw [10, 2] (fun i s wr => ∃ k : Nat, k ≤ N + 1 ∧ i = .int .i64 k ∧ IntSSS wr.heap s (G k) ∧ Below w.heap.size w wr) (fun i _ _ => N + 1 - (intOf i).toNat)
    case atStart => exact ⟨0, Nat.zero_le _, rfl, by rw [HG0.out]; exact HO.out, Below.refl _ _⟩
    case round =>
      obtain ⟨k, hk, rfl, hs, hbl⟩ := hrel
      obtain ⟨sa, sc, rfl, -⟩ := hs.len
      have hsz := hbl.size
      have c1 := (hbl.cell (World.block_lt_of_cell? _ _ HC1.out)).trans HC1.out
      have HSR := Lib.hid hs; have HB := Lib.hid hbl
      clear hs hbl
      by_cases hkN : k ≤ N
      · have hki : (k : Int) ≤ (N : Int) := by omega
        have HOW := Lib.hid (OW.out wr (HU.out.same HB.out.block))
        have HP := Lib.hid (HGP.out k); have HLN := Lib.hid (HGL.out k (by omega)); have HSU := Lib.hid (HGS.out k)
        have HK := Lib.hid (show (left.length : Nat) ≤ 4398046511104 by have := HU.out.len; obtain ⟨_, _, hv, _⟩ := this; simp only [Value.slice.injEq] at hv; omega)
        have HRC := Lib.hid (HIH.out k)
        clear HGP HGL HGS HIH OW HG0
        generalize G k = L' at *
        go_wp2_with (first | (go_at_call 123; refine HOW.out.mono ?_; rintro e w2 ⟨r2, rfl, hr2, hb2⟩; obtain ⟨pa, pn, pc, rfl⟩ := own_shape hr2; have HR2 := Lib.hid hr2; have HB2 := Lib.hid hb2; have hsz2 := hb2.size; clear hr2 hb2 HOW) | (at_builtin; refine append_int (w := w2) rfl _ _ rfl wr.heap.size _ _ (k : Int) HR2.out rfl HB2.out hsz2 _ rfl (by simp) HK.out ?_; intro v' w3 hown' hbl' _ _; obtain ⟨qa, qn, qc, rfl⟩ := own_shape hown'; have HR3 := Lib.hid hown'; have HB3 := Lib.hid hbl'; have hsz3 := hbl'.size; clear hown' hbl') | (go_at_call 105; refine (HRC.out _ _ _ L' w3 hki ((HV.out.same HB.out.block).same HB3.out.block) HR3.out.ints (HSR.out.same HB3.out.block) HP.out HLN.out).mono ?_; rintro e w4 ⟨s4, rfl, hs4, hb4⟩; obtain ⟨ta, tc, rfl, -⟩ := hs4.len; have HS4 := Lib.hid hs4; have HB4 := Lib.hid (HB.out.trans ((HB3.out.trans (hb4.mono hsz3)).mono hsz)); clear hs4 hb4))
        go_roundw
        case rel => exact ⟨k + 1, by omega, by go_num, by rw [HSU.out]; exact HS4.out, HB4.out⟩
        case measure => simp [intOf]; omega
      · obtain rfl : k = N + 1 := by omega
        have hki : ¬ ((N : Int) + 1 ≤ (N : Int)) := by omega
        go_wp2_with fail
        go_ret
        exact ⟨_, rfl, HSR.out, HB.out⟩
theorem oddP_fold (a b : List (List (List Int))) : oddP (a ++ b) = b.foldl (fun a x => putP x a) (oddP a) := by simp [oddP, List.foldl_append]
theorem cartL_takePr {xss : List (List Int)} (h : arT xss = true) (k : Nat) : ∀ p ∈ cartL (xss.take k), IsPr p := fun p hp => by
  obtain ⟨r, hr, hp⟩ := List.mem_flatMap.1 hp
  exact splT_pr (exp_nn (arT_row h r (List.mem_of_mem_take hr)).1) hp
set_option maxRecDepth 100000 in
set_option maxHeartbeats 1000000 in
theorem specCartanPairs_c (v : Value) (xss : List (List Int)) (w : World) (h : IntSS w.heap v xss) :
    Calls Try.prog 36 #[.agg #[v]] w fun e w' => ∃ r, e = .returned (.tuple #[r, .int .i64 (carC xss)]) ∧ IntSSS w'.heap r (carL xss) ∧ Below w.heap.size w w' := by
  have hb : Below w.heap.size w (w.alloc (.cells #[v] 50)) := (Below.refl _ _).alloc (Nat.le_refl _) _
  have k0 := Cell1.new w v 50
  have C := Lib.hid (l04Is_c v xss _ (h.same hb.block))
  obtain ⟨ao, c, rfl, hm⟩ := h.len
  have H := Lib.hid (h.same hb.block); clear h
  have q0 := k0.c0
  have HB0 := Lib.hid hb; have K0 := Lib.hid k0
  clear hb k0
  cases hT : arT xss
  · have e1 : carC xss = 1 := by simp [carC, hT]
    have e2 : carL xss = [] := by simp [carL, carB, hT]
    rw [e1, e2]
    rw [hT] at C
    clear e1 e2 hT
    go_enter Try.func36, Try.ntmps36
    go_wp2_with (go_at_call 104; refine C.out.mono ?_; rintro e w1 ⟨rfl, hb1⟩; have HB1 := Lib.hid (HB0.out.trans (hb1.mono HB0.out.size)); clear hb1)
    go_ret2
    exact ⟨_, rfl, ⟨[], .inl ⟨rfl, rfl⟩, rfl, fun i u xss hu => by simp at hu⟩, HB1.out⟩
  · rw [hT] at C
    have HT := Lib.hid hT
    obtain ⟨r0, hr0⟩ : ∃ r0, r0 = xss.getD 0 [] := ⟨_, rfl⟩
    have HDG : Hid (degT xss = deg r0) := by show _ = _; rw [hr0]; rfl
    have DG := Lib.hid (fun (u : Value) (W : World) (hu : IntS W.heap u r0) (h0 : 0 < xss.length) => l01DegreeE_c u r0 W hu (by rw [hr0]; exact arT_first hT h0))
    by_cases h24 : degT xss ≤ 24
    · have e1 : carC xss = 0 := by simp [carC, hT, h24]
      obtain ⟨G, hG⟩ : ∃ G : Nat → List (List (List Int)), ∀ k, G k = oddP (cartL (xss.take k)) := ⟨_, fun _ => rfl⟩
      have HG0 : Hid (G 0 = []) := by show _ = _; rw [hG]; rfl
      have HGS : Hid (∀ k (hk : k < xss.length), G (k + 1) = foldT (dfsP xss[k] [] []) (G k)) := fun k hk => by rw [hG, hG, cartL_take xss k hk, oddP_fold, foldT, splT]
      have HPT : Hid (∀ k (hk : k < xss.length) (v u o : Value) (W : World), IntS W.heap v xss[k] → IntS W.heap u [] → IntSSS W.heap o (G k) → Calls Try.prog 105 #[v, u, o] W fun e w' => ∃ s, e = .returned s ∧ IntSSS w'.heap s (foldT (dfsP xss[k] [] []) (G k)) ∧ Below W.heap.size W w') := fun k hk v u o W h1 h2 h3 => by
        have hr := arT_row hT _ (List.getElem_mem hk)
        have hnn := exp_nn hr.1
        have h40 := exp_le40 hr.1 hr.2
        have hl5 := exp_len5 hr.1 hr.2.2
        have hd := splT_len hr.1 hr.2
        rw [splT, List.length_map] at hd
        have hg1 := oddP_length (cartL (xss.take k))
        have hg2 := cartL_len hT k (Nat.le_of_lt hk)
        have hx := arT_len hT
        exact l06Parts_c xss[k] (fun x hx => ⟨hnn x hx, h40 x hx⟩) (by omega) xss[k].length [] [] v u o (G k) W (by simp) rfl (fun i hi => by simp at hi) (fun x hx => by simp at hx) h1 h2 h3 (by rw [hG]; exact oddP_pr (cartL_takePr hT k)) (by rw [hG]; simp only [List.length_nil, List.drop_zero]; omega)
      have e2 : carL xss = G xss.length := by rw [hG, List.take_length]; simp [carL, carB, hT, h24]
      rw [e1, e2]
      clear hG e1 e2 hT
      by_cases h0 : xss.length = 0
      · have t0 : decide ((0 : Int) < (xss.length : Int)) = false := decide_eq_false (by omega)
        have t1 : decide (0 < xss.length) = false := decide_eq_false (by omega)
        have t2 : ¬ (0 : Int) < (xss.length : Int) := by omega
        have t3 : ¬ 0 < xss.length := by omega
        clear h0 hr0
        go_enter Try.func36, Try.ntmps36
        go_wp2_with (go_at_call 104; refine C.out.mono ?_; rintro e w1 ⟨rfl, hb1⟩; have HB1 := Lib.hid (HB0.out.trans (hb1.mono HB0.out.size)); have K1 := Lib.hid (K0.out.kept hb1.block); have q1 := K1.out.c0; have H1 := Lib.hid (H.out.same hb1.block); clear hb1 C)
        go_loopw [4, 5] (fun o i wr => ∃ k : Nat, k ≤ xss.length ∧ i = .int .i64 k ∧ IntSSS wr.heap o (G k) ∧ Below w1.heap.size w1 wr) (fun _ i _ => xss.length - (intOf i).toNat)
        case atStart => exact ⟨0, Nat.zero_le _, rfl, by rw [HG0.out]; exact (refSS_empty (w := w1) (B := w1.heap.size) w1.heap (Nat.le_refl _)).ints (alloc_old _ _), (Below.refl _ _).alloc (Nat.le_refl _) _⟩
        case round =>
          obtain ⟨k, hk, rfl, hs, hbl⟩ := hrel
          obtain ⟨sa, sc, rfl, -⟩ := hs.len
          have hsz := hbl.size
          have HSR := Lib.hid hs; have HB := Lib.hid hbl
          have kk := (K1.out.kept hbl.block).c0
          clear hs hbl
          obtain rfl : k = xss.length := by omega
          go_wp2_with fail
          go_ret2
          exact ⟨_, rfl, HSR.out, HB1.out.trans (HB.out.mono HB1.out.size)⟩
      · have t0 : decide ((0 : Int) < (xss.length : Int)) = true := decide_eq_true (by omega)
        have hli : (0 : Int) < (xss.length : Int) := by omega
        have t24 : decide ((24 : Int) < deg r0) = false := decide_eq_false (by rw [← HDG.out]; omega)
        obtain ⟨b0, o0, q0', u0, hv0, hc0, hu0, -⟩ := H.out.at 0 (by omega)
        simp only [Value.slice.injEq, true_and] at hv0
        obtain ⟨rfl, rfl⟩ := hv0
        rw [show xss[0]'(by omega) = r0 by rw [hr0]; simp [show 0 < xss.length by omega]] at hu0
        rw [Nat.add_zero] at hc0
        have HU0 := Lib.hid hu0; have HC0 := Lib.hid hc0
        obtain ⟨ua0, uc0, rfl, -⟩ := hu0.len
        have DG1 := Lib.hid (fun (W : World) (h : IntS W.heap (.slice ua0 r0.length uc0) r0) => DG.out _ W h (by omega))
        clear h0 hu0 hc0 DG h24 hr0
        go_enter Try.func36, Try.ntmps36
        go_wp2_with (first | (go_at_call 104; refine C.out.mono ?_; rintro e w1 ⟨rfl, hb1⟩; have HB1 := Lib.hid (HB0.out.trans (hb1.mono HB0.out.size)); have K1 := Lib.hid (K0.out.kept hb1.block); have q1 := K1.out.c0; have H1 := Lib.hid (H.out.same hb1.block); have hc1 := (hb1.cell (World.block_lt_of_cell? _ _ HC0.out)).trans HC0.out; have HU1 := Lib.hid (HU0.out.same hb1.block); clear hb1 C) | (go_at_call 102; refine (DG1.out _ HU1.out).mono ?_; rintro e w2 ⟨rfl, rfl⟩))
        go_loopw [4, 5] (fun o i wr => ∃ k : Nat, k ≤ xss.length ∧ i = .int .i64 k ∧ IntSSS wr.heap o (G k) ∧ Below w1.heap.size w1 wr) (fun _ i _ => xss.length - (intOf i).toNat)
        case atStart => exact ⟨0, Nat.zero_le _, rfl, by rw [HG0.out]; exact (refSS_empty (w := w1) (B := w1.heap.size) w1.heap (Nat.le_refl _)).ints (alloc_old _ _), (Below.refl _ _).alloc (Nat.le_refl _) _⟩
        case round =>
          obtain ⟨k, hk, rfl, hs, hbl⟩ := hrel
          obtain ⟨sa, sc, rfl, -⟩ := hs.len
          have hsz := hbl.size
          have HSR := Lib.hid hs; have HB := Lib.hid hbl
          have kk := (K1.out.kept hbl.block).c0
          clear hs hbl
          by_cases hkl : k < xss.length
          · obtain ⟨b1, o1, c1, u, hv1, hc1, hu, -⟩ := H1.out.at k hkl
            first | (simp only [Value.slice.injEq, true_and] at hv1; obtain ⟨rfl, rfl⟩ := hv1) | (simp only [Value.slice.injEq, Option.some.injEq, Addr.mk.injEq, true_and, and_true] at hv1; obtain ⟨⟨rfl, rfl⟩, rfl⟩ := hv1)
            have hcc := (HB.out.cell (World.block_lt_of_cell? _ _ hc1)).trans hc1
            have HUX := Lib.hid ((hu.same HB.out.block))
            obtain ⟨ua, uc, rfl, -⟩ := hu.len
            have hki : (k : Int) < (xss.length : Int) := by omega
            have HP := Lib.hid (HPT.out k hkl); have HSU := Lib.hid (HGS.out k hkl)
            clear HPT HGS hu hc1
            generalize xss[k] = r at *
            generalize G k = L' at *
            go_wp2_with (go_at_call 105; refine (HP.out _ _ _ (wr.alloc (.cells #[] 2)) (HUX.out.same (alloc_old _ _)) (ownI_empty (B := wr.heap.size) (Nat.le_refl _)).ints (HSR.out.same (alloc_old _ _))).mono ?_; rintro e w4 ⟨s4, rfl, hs4, hb4⟩; obtain ⟨ta, tc, rfl, -⟩ := hs4.len; have HS4 := Lib.hid hs4; have HB4 := Lib.hid ((HB.out.alloc hsz _).trans (hb4.mono (by simp; omega))); clear hs4 hb4)
            go_roundw
            case rel => exact ⟨k + 1, by omega, by go_num, by rw [HSU.out]; exact HS4.out, HB4.out⟩
            case measure => simp [intOf]; omega
          · obtain rfl : k = xss.length := by omega
            go_wp2_with fail
            go_ret2
            exact ⟨_, rfl, HSR.out, HB1.out.trans (HB.out.mono HB1.out.size)⟩
    · have hne : 0 < xss.length := Nat.pos_of_ne_zero fun e => h24 (by rw [List.eq_nil_of_length_eq_zero e]; decide)
      have e1 : carC xss = 2 := by simp [carC, hT, h24]
      have e2 : carL xss = [] := by simp [carL, carB, h24]
      rw [e1, e2]
      have t0 : decide ((0 : Int) < (xss.length : Int)) = true := decide_eq_true (by omega)
      have hli : (0 : Int) < (xss.length : Int) := by omega
      have t24 : decide ((24 : Int) < deg r0) = true := decide_eq_true (by rw [← HDG.out]; omega)
      obtain ⟨b0, o0, q0', u0, hv0, hc0, hu0, -⟩ := H.out.at 0 (by omega)
      simp only [Value.slice.injEq, true_and] at hv0
      obtain ⟨rfl, rfl⟩ := hv0
      rw [show xss[0]'(by omega) = r0 by rw [hr0]; simp [show 0 < xss.length by omega]] at hu0
      rw [Nat.add_zero] at hc0
      have HU0 := Lib.hid hu0; have HC0 := Lib.hid hc0
      obtain ⟨ua0, uc0, rfl, -⟩ := hu0.len
      have DG1 := Lib.hid (fun (W : World) (h : IntS W.heap (.slice ua0 r0.length uc0) r0) => DG.out _ W h hne)
      clear hu0 hc0 DG h24 e1 e2 hT hr0
      go_enter Try.func36, Try.ntmps36
      go_wp2_with (first | (go_at_call 104; refine C.out.mono ?_; rintro e w1 ⟨rfl, hb1⟩; have HB1 := Lib.hid (HB0.out.trans (hb1.mono HB0.out.size)); have K1 := Lib.hid (K0.out.kept hb1.block); have q1 := K1.out.c0; have hc1 := (hb1.cell (World.block_lt_of_cell? _ _ HC0.out)).trans HC0.out; have HU1 := Lib.hid (HU0.out.same hb1.block); clear hb1 C) | (go_at_call 102; refine (DG1.out _ HU1.out).mono ?_; rintro e w2 ⟨rfl, rfl⟩))
      go_ret2
      exact ⟨_, rfl, ⟨[], .inl ⟨rfl, rfl⟩, rfl, fun i u xss hu => by simp at hu⟩, HB1.out⟩
end
section
open Go.RowKit Go.Sort

theorem eqInt64SSS_same (v1 v2 : Value) (xss : List (List (List Int))) (w : World) (h1 : IntSSS w.heap v1 xss) (h2 : IntSSS w.heap v2 xss) :
    Calls Try.prog 39 #[v1, v2] w fun e w' => e = .returned (.bool true) ∧ ∃ n, w' = w.drewN n := by
  obtain ⟨a1, c1, rfl, m1⟩ := h1.len
  obtain ⟨a2, c2, rfl, m2⟩ := h2.len
  have H1 := Lib.hid h1; clear h1
  have H2 := Lib.hid h2; clear h2
  have hb := (eqB (a := (xss.length : Int)) (b := xss.length) rfl).2
  go_enter Try.func39, Try.ntmps39
  go_wp2
  clear hb
  go_loopw [5] (fun i wr => ∃ k n : Nat, k ≤ xss.length ∧ i = .int .i64 k ∧ wr = w.drewN n) (fun i _ => xss.length - (intOf i).toNat)
  case atStart => exact ⟨0, 0, Nat.zero_le _, rfl, rfl⟩
  case round =>
    obtain ⟨k, n, hk, rfl, rfl⟩ := hrel
    by_cases hlt : k < xss.length
    · obtain ⟨b1, o1, c1', r1, hv1, hc1, hr1, _⟩ := (H1.out).at k hlt
      obtain ⟨b2, o2, c2', r2, hv2, hc2, hr2, _⟩ := (H2.out).at k hlt
      simp only [Value.slice.injEq, true_and] at hv1 hv2
      obtain ⟨rfl, rfl⟩ := hv1
      obtain ⟨rfl, rfl⟩ := hv2
      have HR1 := Lib.hid hr1; have HR2 := Lib.hid hr2; clear hr1 hr2
      go_wp2_with fail
      go_quiet ((go_at_call 110; exact quiet_behind (eqInt64SS_same _ _ _ _ (by exact HR1.out) (by exact HR2.out))))
      go_wp2_with fail
      go_roundw
      case rel => exact ⟨k + 1, _, by omega, by go_num, rfl⟩
      case measure => simp [intOf]; omega
    · go_wp2
      go_ret
      exact ⟨rfl, _, rfl⟩
end
open Go.ChangeShapes Go.WideShapes Go.ChangeAt Go.RowKit
open Go.ChangeMaps (open_string shut_string)

set_option maxRecDepth 100000 in
set_option maxHeartbeats 4000000 in
theorem fnExactCartanPairs_walk (w : World) (a1 : Option Addr) (l1 p1 : Nat) (t1 : List (List Int)) (h1 : IsRows w a1 l1 t1) :
    Calls Try.prog 4 #[.agg #[.slice a1 l1 p1]] w fun e w' => e = .returned (.bool true) ∧ Below w.heap.size w w' := by
  have S := Lib.hid (fun (v : Value) (W : World) (h : IntSS W.heap v t1) => specCartanPairs_c v t1 W h)
  have I := Lib.hid (fun (v : Value) (W : World) (h : IntSS W.heap v t1) => implCartanPairs_c v t1 W h)
  have HXL := Lib.hid (carL_cnt t1)
  generalize carL t1 = rp at *
  generalize carC t1 = pc at *
  have u1 : (pc != pc) = false := by simp
  obtain ⟨W0, hW0⟩ : ∃ W, W = (w.alloc (.cells #[.slice a1 l1 p1] 45)) := ⟨_, rfl⟩
  have hx : Below w.heap.size w W0 := by rw [hW0]; exact ((Below.refl _ _).alloc (by exact Nat.le_refl _) _)
  have hsz : w.heap.size + 1 ≤ W0.heap.size := by rw [hW0]; simp
  have k1 := (Cell1.new w (.slice a1 l1 p1) 45).c0
  rw [← hW0] at k1
  have BW0 := Lib.hid hx
  have Z2 := Lib.hid (hsz)
  have HW0 := Lib.hid hW0
  clear hW0 hx hsz
  have SM1 := Lib.hid (fun (left : Nat) (hl : left ≤ 1048576) (W : World) (hb : Below w.heap.size w W) => szMilnor_c a1 l1 p1 t1 left W (h1.same hb.block hb.size) hl)
  have TM10 := fun (W : World) (hb : Below w.heap.size w W) => toMilnor_c a1 l1 p1 t1 W (h1.same hb.block hb.size)
  clear h1
  go_enter Try.func4, Try.ntmps4
  go_wp2_with fail
  rw [← HW0.out]
  clear HW0
  have S0 := SM1.out 1048576 (Nat.le_refl _) _ BW0.out
  by_cases hz1 : t1.length + cnt t1 ≤ 1048576
  rotate_left
  · have e9 : szR t1 1048576 = -1 := by unfold szR; rw [if_neg hz1]
    rw [e9] at S0
    have S1 := Lib.hid S0
    clear S0 e9
    refine (S1.out).mono ?_
    rintro e W ⟨rfl, hx⟩
    have BE := Lib.hid (BW0.out.trans (hx.mono BW0.out.size))
    clear hx
    go_wp2_with fail
    go_ret
    exact ⟨rfl, BE.out⟩
  obtain ⟨left1, hl9⟩ : ∃ left : Nat, szR t1 1048576 = left := ⟨1048576 - (t1.length + cnt t1), by unfold szR; rw [if_pos hz1]; omega⟩
  have HLN : Hid (left1 ≤ 1048576) := by show _ ≤ _; unfold szR at hl9; rw [if_pos hz1] at hl9; have := Nat.le_refl 1048576; omega
  rw [hl9] at S0
  have S1 := Lib.hid S0
  clear S0 hl9
  have TM1 := Lib.hid (fun (W : World) (hb : Below w.heap.size w W) => TM10 W hb (by have := Nat.le_refl 1048576; omega))
  have HSZ1 : Hid (cnt t1 ≤ 1048576) := by show _ ≤ _; have := Nat.le_refl 1048576; omega
  clear TM10 hz1 SM1
  have HLF := HLN
  clear HLN
  refine (S1.out).mono ?_
  rintro e W3 ⟨rfl, hx⟩
  clear S1
  have Z4 := Lib.hid (hx.size)
  have k5 := (hx.cell (World.block_lt_of_cell? _ _ k1)).trans k1
  clear k1
  have B6 := Lib.hid (BW0.out.trans (hx.mono BW0.out.size))
  clear BW0
  clear hx
  go_wp2_with fail
  refine (TM1.out _ B6.out).mono ?_
  rintro e W9 ⟨v7, rfl, ⟨u8, hm⟩, hx⟩
  obtain ⟨q10, q11, q12, rfl⟩ := own_shape hm.row
  have O13 := Lib.hid hm
  have R14 := Lib.hid hm.range
  clear hm
  have Z15 := Lib.hid (hx.size)
  have k16 := (hx.cell (World.block_lt_of_cell? _ _ k5)).trans k5
  clear k5
  have B17 := Lib.hid (B6.out.trans (hx.mono B6.out.size))
  clear B6
  clear hx
  go_wp2_with fail
  refine (S.out (.slice q10 q11 q12) _ O13.out.ints).mono ?_
  rintro e W18 ⟨r1, rfl, hm, hx⟩
  have RW := Lib.hid hm
  clear hm
  have Z19 := Lib.hid (hx.size)
  have k20 := (hx.cell (World.block_lt_of_cell? _ _ k16)).trans k16
  clear k16
  have O21 := Lib.hid (O13.out.same hx.block)
  clear O13
  have B22 := Lib.hid (B17.out.trans (hx.mono B17.out.size))
  clear B17
  clear hx
  have B23 := Lib.hid (Below.refl W18.heap.size W18)
  clear O21
  go_wp2_with fail
  refine (TM1.out _ B22.out).mono ?_
  rintro e W26 ⟨v24, rfl, ⟨u25, hm⟩, hx⟩
  obtain ⟨q27, q28, q29, rfl⟩ := own_shape hm.row
  have O30 := Lib.hid hm
  have R31 := Lib.hid hm.range
  clear hm
  have Z32 := Lib.hid (hx.size)
  have k33 := (hx.cell (World.block_lt_of_cell? _ _ k20)).trans k20
  clear k20
  have B34 := Lib.hid (B22.out.trans (hx.mono B22.out.size))
  clear B22
  have B35 := Lib.hid (B23.out.trans (hx.mono B23.out.size))
  clear B23
  clear hx
  obtain ⟨W36, E370⟩ : ∃ W, W = W26.alloc (.cells #[.slice q27 q28 q29] 50) := ⟨_, rfl⟩
  have hx : Below W26.heap.size W26 W36 := by rw [E370]; exact (Below.refl _ _).alloc (Nat.le_refl _) _
  have k38 : W36.cell? ⟨W26.heap.size, 0, none⟩ = some (.slice q27 q28 q29) := by rw [E370, World.cell?]; simp only [heap_alloc_new]; rfl
  have kx0 := Go.Lib.cell?_alloc_some (.cells #[.slice q27 q28 q29] 50) k33
  have Z39 := Lib.hid (World.block_lt_of_cell? _ _ k38)
  simp only at Z39
  have Z40 := Lib.hid (hx.size)
  have k41 := (hx.cell (World.block_lt_of_cell? _ _ k33)).trans k33
  clear k33
  have O42 := Lib.hid (O30.out.same hx.block)
  clear O30
  have B43 := Lib.hid (B34.out.trans (hx.mono B34.out.size))
  clear B34
  have B44 := Lib.hid (B35.out.trans (hx.mono B35.out.size))
  clear B35
  clear hx
  have E37 := Lib.hid E370
  clear E370
  go_wp2_with fail
  rw [← E37.out]
  clear E37 kx0
  go_wp2_with fail
  refine (I.out (.slice q27 q28 q29) _ O42.out.ints).mono ?_
  rintro e W48 ⟨v45, u46, p47, rfl, hm, hx⟩
  obtain ⟨q49, q50, q51, rfl⟩ := own_shape hm.row
  have O52 := Lib.hid hm
  have R53 := Lib.hid hm.range
  clear hm
  have Z54 := Lib.hid (hx.size)
  have k55 := (hx.cell (World.block_lt_of_cell? _ _ k41)).trans k41
  clear k41
  have k56 := (hx.cell (World.block_lt_of_cell? _ _ k38)).trans k38
  clear k38
  have O57 := Lib.hid (O42.out.same hx.block)
  clear O42
  have B58 := Lib.hid (B43.out.trans (hx.mono B43.out.size))
  clear B43
  have B59 := Lib.hid (B44.out.trans (hx.mono B44.out.size))
  clear B44
  clear hx
  go_wp2_with fail
  refine (eqInt64SSS_same _ _ rp _ O52.out.ints (RW.out.same B59.out.block)).mono ?_
  rintro e W60x ⟨rfl, n61, hWn⟩
  obtain ⟨W60, hWe⟩ : ∃ W, W = W60x := ⟨_, rfl⟩
  have hx : Below W48.heap.size W48 W60 := by rw [hWe, hWn]; exact below_drewN _ (Below.refl _ _)
  rw [← hWe]
  clear hWn hWe
  have Z62 := Lib.hid (hx.size)
  have k63 := (hx.cell (World.block_lt_of_cell? _ _ k55)).trans k55
  clear k55
  have k64 := (hx.cell (World.block_lt_of_cell? _ _ k56)).trans k56
  clear k56
  have O65 := Lib.hid (O57.out.same hx.block)
  clear O57
  have O66 := Lib.hid (O52.out.same hx.block)
  clear O52
  have B67 := Lib.hid (B58.out.trans (hx.mono B58.out.size))
  clear B58
  have B68 := Lib.hid (B59.out.trans (hx.mono B59.out.size))
  clear B59
  clear hx
  go_wp2_with fail
  go_region_held3 (fun W => W.cell? ⟨W26.heap.size, 0, none⟩ = some (.slice q27 q28 q29) ∧ W.cell? ⟨w.heap.size, 0, none⟩ = some (.slice a1 l1 p1) ∧ Below W60.heap.size W60 W)
    (first | exact ⟨k64, k63, (Below.refl _ _).drew⟩ | exact heldC2 (by assumption) hx8 | exact heldC2 (by assumption) hx9)
    (first | (go_at_call 37; refine (TM1.out _ (heldC2B B67.out (by assumption) B67.out.size)).mono ?_; rintro e W9 ⟨v9, rfl, ⟨u9, hm9⟩, hx9⟩; obtain ⟨e1, e2, e3, rfl⟩ := own_shape hm9.row) | (go_at_call 40; refine (eqMilnor_same _ _ t1 _ (O65.out.ints.same (heldC2X (by assumption)).block) hm9.ints).mono ?_; rintro e W8 ⟨rfl, hx8⟩))
  all_goals
    rename_i hh
    obtain ⟨W69, hWe⟩ : ∃ W, W = W8 := ⟨_, rfl⟩
    have hx : Below W60.heap.size W60 W69 := by rw [hWe]; exact heldC2X hh
    rw [← hWe]
    clear hWe hh hx8 hx9 hm9
    have Z70 := Lib.hid (hx.size)
    have k71 := (hx.cell (World.block_lt_of_cell? _ _ k63)).trans k63
    clear k63
    have k72 := (hx.cell (World.block_lt_of_cell? _ _ k64)).trans k64
    clear k64
    have O73 := Lib.hid (O65.out.same hx.block)
    clear O65
    have O74 := Lib.hid (O66.out.same hx.block)
    clear O66
    have B75 := Lib.hid (B67.out.trans (hx.mono B67.out.size))
    clear B67
    have B76 := Lib.hid (B68.out.trans (hx.mono B68.out.size))
    clear B68
    clear hx
    go_wp2_with fail
    refine (markMilnor_c (.slice q27 q28 q29) u25 t1 1 W18.heap.size W69 O73.out (by have := Z2.out; have := Z4.out; have := Z15.out; have := Z19.out; have := Z32.out; have := Z39.out; have := Z40.out; have := Z54.out; have := Z62.out; have := Z70.out; omega) (by omega) (by have := HXL.out; have := HSZ1.out; omega)).mono ?_
    rintro e W77 ⟨rfl, hm, hlow, hfr⟩
    have RRR := R31.out
    have hhi : ∀ b, W26.heap.size ≤ b → b < W69.heap.size → W77.heap[b]? = W69.heap[b]? := fun b h1 h2 => hfr b h2 (fun u hu e => by have := RRR.2 u hu b e; omega)
    clear RRR
    have O78 := Lib.hid hm
    clear hm
    have Z79 := Lib.hid (hlow.size)
    have k80 := (hlow.cell (p := ⟨w.heap.size, 0, none⟩) (by show w.heap.size < W18.heap.size; exact (by have := Z2.out; have := Z4.out; have := Z15.out; have := Z19.out; have := Z32.out; have := Z39.out; have := Z40.out; have := Z54.out; have := Z62.out; have := Z70.out; have := Z79.out; omega))).trans k71
    clear k71
    have k81 := (World.cell?_of_block (hhi W26.heap.size (by have := Z2.out; have := Z4.out; have := Z15.out; have := Z19.out; have := Z32.out; have := Z39.out; have := Z40.out; have := Z54.out; have := Z62.out; have := Z70.out; have := Z79.out; omega) (World.block_lt_of_cell? _ _ k72))).trans k72
    clear k72
    have O82 := Lib.hid (O74.out.far fun b h1 h2 => hhi b (Nat.le_trans (by have := Z2.out; have := Z4.out; have := Z15.out; have := Z19.out; have := Z32.out; have := Z39.out; have := Z40.out; have := Z54.out; have := Z62.out; have := Z70.out; have := Z79.out; omega) h1) h2)
    clear O74
    have B83 := Lib.hid (B75.out.trans (hlow.mono (by have := Z2.out; have := Z4.out; have := Z15.out; have := Z19.out; have := Z32.out; have := Z39.out; have := Z40.out; have := Z54.out; have := Z62.out; have := Z70.out; have := Z79.out; omega)))
    clear B75
    have B84 := Lib.hid (B76.out.trans (hlow.mono (by have := Z2.out; have := Z4.out; have := Z15.out; have := Z19.out; have := Z32.out; have := Z39.out; have := Z40.out; have := Z54.out; have := Z62.out; have := Z70.out; have := Z79.out; omega)))
    clear B76
    clear hlow hhi hfr
    have t9 : decide ((1 + (cnt t1 : Int)) < 0) = false := by simp; omega
    clear O78
    clear k81
    go_wp2_with fail
    refine (eqInt64SSS_same _ _ rp _ O82.out.ints (RW.out.same B84.out.block)).mono ?_
    rintro e W85x ⟨rfl, n86, hWn⟩
    obtain ⟨W85, hWe⟩ : ∃ W, W = W85x := ⟨_, rfl⟩
    have hx : Below W77.heap.size W77 W85 := by rw [hWe, hWn]; exact below_drewN _ (Below.refl _ _)
    rw [← hWe]
    clear hWn hWe
    have Z87 := Lib.hid (hx.size)
    have k88 := (hx.cell (World.block_lt_of_cell? _ _ k80)).trans k80
    clear k80
    have O89 := Lib.hid (O82.out.same hx.block)
    clear O82
    have B90 := Lib.hid (B83.out.trans (hx.mono B83.out.size))
    clear B83
    have B91 := Lib.hid (B84.out.trans (hx.mono B84.out.size))
    clear B84
    clear hx
    go_wp2_with fail
    refine (markInt64SSS_c (.slice q49 q50 q51) u46 p47 rp 1 W36.heap.size W85 O89.out (by have := Z2.out; have := Z4.out; have := Z15.out; have := Z19.out; have := Z32.out; have := Z39.out; have := Z40.out; have := Z54.out; have := Z62.out; have := Z70.out; have := Z79.out; have := Z87.out; omega) (by omega) (by have := HXL.out; have := HSZ1.out; omega)).mono ?_
    rintro e W92 ⟨rfl, hm, -, hlow, hfr⟩
    have RRR := R53.out
    have hhi : ∀ b, W48.heap.size ≤ b → b < W85.heap.size → W92.heap[b]? = W85.heap[b]? := fun b h1 h2 => hfr b h2 (fun q hq u hu e => by have := RRR q hq u hu b e; omega)
    clear RRR
    have O93 := Lib.hid hm
    clear hm
    have Z94 := Lib.hid (hlow.size)
    have k95 := (hlow.cell (p := ⟨w.heap.size, 0, none⟩) (by show w.heap.size < W36.heap.size; exact (by have := Z2.out; have := Z4.out; have := Z15.out; have := Z19.out; have := Z32.out; have := Z39.out; have := Z40.out; have := Z54.out; have := Z62.out; have := Z70.out; have := Z79.out; have := Z87.out; have := Z94.out; omega))).trans k88
    clear k88
    have B96 := Lib.hid (B90.out.trans (hlow.mono (by have := Z2.out; have := Z4.out; have := Z15.out; have := Z19.out; have := Z32.out; have := Z39.out; have := Z40.out; have := Z54.out; have := Z62.out; have := Z70.out; have := Z79.out; have := Z87.out; have := Z94.out; omega)))
    clear B90
    have B97 := Lib.hid (B91.out.trans (hlow.mono (by have := Z2.out; have := Z4.out; have := Z15.out; have := Z19.out; have := Z32.out; have := Z39.out; have := Z40.out; have := Z54.out; have := Z62.out; have := Z70.out; have := Z79.out; have := Z87.out; have := Z94.out; omega)))
    clear B91
    clear hlow hhi hfr
    go_wp2_with fail
    refine (heldInt64SSS_c (.slice q49 q50 q51) rp 1 _ O93.out.ints (by omega) (by have := HXL.out; have := HSZ1.out; omega)).mono ?_
    rintro e W98 ⟨rfl, rfl⟩
    go_wp2_with fail
    refine (TM1.out _ B96.out).mono ?_
    rintro e W101 ⟨v99, rfl, ⟨u100, hm⟩, hx⟩
    obtain ⟨q102, q103, q104, rfl⟩ := own_shape hm.row
    have O105 := Lib.hid hm
    have R106 := Lib.hid hm.range
    clear hm
    have Z107 := Lib.hid (hx.size)
    have k108 := (hx.cell (World.block_lt_of_cell? _ _ k95)).trans k95
    clear k95
    have O109 := Lib.hid (O93.out.same hx.block)
    clear O93
    have B110 := Lib.hid (B96.out.trans (hx.mono B96.out.size))
    clear B96
    have B111 := Lib.hid (B97.out.trans (hx.mono B97.out.size))
    clear B97
    clear hx
    go_wp2_with fail
    refine (I.out (.slice q102 q103 q104) _ O105.out.ints).mono ?_
    rintro e W115 ⟨v112, u113, p114, rfl, hm, hx⟩
    obtain ⟨q116, q117, q118, rfl⟩ := own_shape hm.row
    have O119 := Lib.hid hm
    have R120 := Lib.hid hm.range
    clear hm
    have Z121 := Lib.hid (hx.size)
    have k122 := (hx.cell (World.block_lt_of_cell? _ _ k108)).trans k108
    clear k108
    have O123 := Lib.hid (O109.out.same hx.block)
    clear O109
    have O124 := Lib.hid (O105.out.same hx.block)
    clear O105
    have B125 := Lib.hid (B110.out.trans (hx.mono B110.out.size))
    clear B110
    have B126 := Lib.hid (B111.out.trans (hx.mono B111.out.size))
    clear B111
    clear hx
    clear O124
    go_wp2_with fail
    refine (eqInt64SSS_same _ _ rp _ O119.out.ints (RW.out.same B126.out.block)).mono ?_
    rintro e W127x ⟨rfl, n128, hWn⟩
    obtain ⟨W127, hWe⟩ : ∃ W, W = W127x := ⟨_, rfl⟩
    have hx : Below W115.heap.size W115 W127 := by rw [hWe, hWn]; exact below_drewN _ (Below.refl _ _)
    rw [← hWe]
    clear hWn hWe
    have Z129 := Lib.hid (hx.size)
    have k130 := (hx.cell (World.block_lt_of_cell? _ _ k122)).trans k122
    clear k122
    have O131 := Lib.hid (O123.out.same hx.block)
    clear O123
    have O132 := Lib.hid (O119.out.same hx.block)
    clear O119
    have B133 := Lib.hid (B125.out.trans (hx.mono B125.out.size))
    clear B125
    have B134 := Lib.hid (B126.out.trans (hx.mono B126.out.size))
    clear B126
    clear hx
    go_wp2_with fail
    refine (heldInt64SSS_c (.slice q49 q50 q51) rp 1 _ O131.out.ints (by omega) (by have := HXL.out; have := HSZ1.out; omega)).mono ?_
    rintro e W135 ⟨rfl, rfl⟩
    go_wp2_with fail
    go_ret
    exact ⟨rfl, B133.out⟩

namespace fnExactCartanPairs_row
theorem own : ownKnob Try.prog.godebug = none := by kernel_rfl
theorem laidOut : laidOutB Try.prog = true := by kernel_rfl
set_option linter.unusedVariables false in
set_option maxRecDepth 100000 in
theorem lifted (os : Os) (started : os.Started) (H : Type) (enc : TypeId × Value → H) :
    ReturnsInHanded {} Try.checked os 4 .any (Rows.fnExactCartanPairsSpec.pre6 enc Try.prog Try.f4 Rows.fnExactCartanPairsRow.domain false) (Rows.fnExactCartanPairsSpec.post enc Try.prog Try.f4 false true false false) := by
  refine returnsInHanded_of_change (C := Try.checked) own started (by kernel_rfl) Try.func4
    (ChangeSpec.witness6 (enc := enc) (C := Try.checked) false ⟨#[], #[.agg #[.slice none 0 0]], []⟩ 8 (by kernel_rfl) (by kernel_rfl) (by kernel_rfl) (by kernel_rfl)) ?_
  intro W base args ds gs before hval0 hW hcnd _
  have hval : ∀ (j : Nat) t v, Try.f4.params[j]? = some t → args[j]? = some v → Value.okWide Try.prog W .any base t v := hval0
  have hW' := hW
  obtain ⟨p, q, hA0, hV, rfl, hfz, hnd⟩ := hW
  have hA : DataW.TrodAll enc Try.prog W 0 (fun _ => true) true Try.f4.params.toList args.toList ds p := hA0
  rw [Try.params4] at hA hval
  obtain ⟨v0, vs0, d0, ds0, p0, q0, hargs, rfl, rfl, h0, r0⟩ := trodAll_cons hA
  obtain ⟨rfl, rfl, rfl⟩ := trodAll_nil r0
  obtain rfl : args = #[v0] := by cases args; simp_all
  obtain ⟨rfl, rfl⟩ := trodVars_none hV
  have k0 := h0
  have lt0 : ∀ x ∈ p0, x.block < W.heap.size := by obtain ⟨m, hm⟩ := k0; exact DataW.trod_lt m _ _ _ hm
  obtain ⟨x0, y0, n0, rfl, f0⟩ := open_agg1 Try.underlying45 (by kernel_rfl) (by kernel_rfl) (hval 0 45 v0 rfl rfl) h0
  obtain ⟨a0, len0, cap0, z0, e0, w0⟩ := isRows_of Try.underlying36 Try.underlying27 Try.underlying2 (by kernel_rfl) (by kernel_rfl) f0
  obtain rfl : x0 = .slice a0 len0 cap0 := by simpa using e0
  clear hA0 hval0
  refine (fnExactCartanPairs_walk W a0 len0 cap0 z0 w0).mono fun e W' ⟨he, bel⟩ => ?_
  subst he
  exact ⟨_, rfl, _, _, _, [], _, [], hW', trodAll_mk1 (shut_bool Try.underlying4 _), (trodAll_cons_mk (Below.trod laidOut (by kernel_rfl) (of_decide_eq_true (by kernel_rfl)) k0 bel lt0) trodAll_mk0), rfl, bel.frame _, fun h => by cases h⟩
theorem over : Rows.fnExactCartanPairsRow.holds Try.pinned (OpenSpec.ofChange Rows.fnExactCartanPairsSpec) :=
  OpenClaim.holds_of_wide 4 Try.f4 rfl rfl rfl rfl rfl rfl rfl ⟨rfl, rfl, rfl, rfl, rfl⟩ rfl rfl rfl rfl rfl (by kernel_rfl) Try.func4 (by kernel_rfl)
    (of_decide_eq_true (by kernel_rfl)) (by unfold Func.isWrapper; first | (rw [if_pos (by decide +kernel)]; kernel_rfl) | (rw [if_neg (by decide +kernel)]; exact ⟨rfl, rfl⟩))
    (fun os started H enc _ => lifted os started H enc)
end fnExactCartanPairs_row
/-- The statement. -/
theorem fnExactCartanPairs_proved : Rows.FnExactCartanPairsSaid := fnExactCartanPairs_row.over
#print axioms fnExactCartanPairs_proved
end Go.Proofs.Ytljfpkhgijangaa

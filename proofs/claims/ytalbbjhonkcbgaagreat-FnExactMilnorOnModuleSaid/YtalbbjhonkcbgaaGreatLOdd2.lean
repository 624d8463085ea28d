/- The terms there an odd number of times: of the program. -/
import Derived.Test.YtalbbjhonkcbgaaGreatLOdd
import Derived.Test.YtalbbjhonkcbgaaGreatLib4
import Derived.Test.YtalbbjhonkcbgaaGreatLSum
namespace Go.Proofs.YtalbbjhonkcbgaaGreat
open Go.RowKit Go.Sort

/-- What the library's sort gives. -/
def SortOk : Prop := ∀ (v : Value) (us : List Value) (xss : List (List Int)) (B : Nat) (w : World), RefR w B w.heap v us xss → B ≤ w.heap.size → xss.length < 4611686018427387904 →
    Calls Tryz.prog 79 #[v, .func (.func 75) #[] #[]] w fun e w' => e = .returned (.tuple #[]) ∧ ∃ us' xss', RefR w' B w.heap v us' xss' ∧ xss'.Perm xss ∧ xss'.Pairwise (fun a b => ltL b a = false) ∧ Below B w w' ∧ KeepI w w'
theorem odd_next {ys : List (List Int)} {x k : Nat} (hs : ys.Pairwise fun a b => ltL b a = false) (hxk : x < k) (hk : k < ys.length) (hr : ∀ t, x ≤ t → t < k → ys.getD t [] = ys.getD x []) (hlt : ∀ t, t < x → ltL (ys.getD t []) (ys.getD x []) = true) (ne : ys.getD k [] ≠ ys.getD x []) :
    ∀ t, t < k → ltL (ys.getD t []) (ys.getD k []) = true := by
  have hxl : x < ys.length := by omega
  have h1 : ltL (ys.getD x []) (ys.getD k []) = true := by
    have h2 := List.pairwise_iff_getElem.1 hs x k hxl hk hxk
    rw [show ys[k] = ys.getD k [] by simp [hk], show ys[x] = ys.getD x [] by simp [hxl]] at h2
    cases e : ltL (ys.getD x []) (ys.getD k [])
    · exact absurd (ltL_total _ _ h2 e) ne
    · rfl
  intro t ht
  by_cases e : t < x
  · exact ltL_trans _ _ _ (hlt t e) h1
  · rw [hr t (by omega) ht]; exact h1
theorem own_u_base {w : World} {B B' : Nat} {v : Value} {us : List Value} {xss : List (List Int)} (h : OwnU w B v us xss) (k : B' ≤ B) : OwnU w B' v us xss := ⟨own_base h.row k, fun i u xs hu hx => own_base (h.each i u xs hu hx) k, h.apart⟩
set_option maxRecDepth 100000 in
set_option maxHeartbeats 2000000 in
theorem oddOnes_of (SO : SortOk) (v : Value) (xss : List (List Int)) (w : World) (h : IntSS w.heap v xss) (hl : xss.length ≤ 4398046511104) (hr : ∀ x ∈ xss, x.length ≤ 4398046511104) :
    Calls Tryz.prog 50 #[v] w fun e w' => ∃ r us, e = .returned r ∧ OwnU w' w.heap.size r us (oddL xss) ∧ Below w.heap.size w w' := by
  have C := Lib.hid (copyOfSS_c v xss w h hl)
  have SO' := Lib.hid SO
  obtain ⟨ao, c, rfl, -⟩ := h.len
  clear h SO
  go_enter Tryz.func50, Tryz.ntmps50
  go_wp2_with (first | (go_at_call 78; refine C.out.mono ?_; rintro e w1 ⟨r, us, rfl, hR, hb1⟩; obtain ⟨ra, rn, rc, rfl⟩ := own_shape hR.row) | (go_at_call 79; refine (SO'.out _ us xss w.heap.size w1 (hR.grow hb1.block) hb1.size (by omega)).mono ?_; rintro e w2 ⟨rfl, us2, ys, hR2, hperm, hsort, hb2, hk2⟩))
  obtain ⟨rn', hrn⟩ : ∃ n, rn = n := ⟨_, rfl⟩
  have hlen : rn = ys.length := by
    obtain ⟨_, _, hv, _⟩ := SlAt.len (slAt_of_own hR2.row)
    simp only [Value.slice.injEq] at hv
    rw [hv.2.1, hR2.len]
  subst hlen
  clear hrn
  have hpl := hperm.length_eq
  have HRY : Hid (∀ y ∈ ys, y.length ≤ 4398046511104) := fun y hy => hr y (hperm.mem_iff.1 hy)
  have HPE := Lib.hid (oddL_perm hperm)
  have HSO := Lib.hid hsort
  have HB2 := Lib.hid (hb1.trans hb2)
  have HR := Lib.hid (show IntSS w2.heap (.slice ra ys.length rc) ys from ⟨us2, slAt_of_own hR2.row, hR2.len, fun i u xs hu hx => (hR2.each i u xs hu hx).keep hk2⟩)
  have hyl : ys.length ≤ 4398046511104 := by omega
  clear hR hb1 hR2 hperm hsort hb2 hk2 SO' C hr hpl
  go_wp2_with fail
  go_loopw [4, 5, 6] (fun o i _ wr => ∃ (x : Nat) (us : List Value), x ≤ ys.length ∧ i = .int .i64 x ∧ OwnU wr w2.heap.size o us (oddL (ys.take x)) ∧ Below w2.heap.size w2 wr ∧ Hid (∀ t, t < x → x < ys.length → ltL (ys.getD t []) (ys.getD x []) = true)) (fun _ i _ _ => ys.length - (intOf i).toNat)
  case atStart => exact ⟨0, [], Nat.zero_le _, rfl, ⟨World.ownsRow_made w2 #[] 0 (Nat.le_refl _) (Nat.zero_le _) rfl, fun i u xs hu => by simp at hu, fun i j u u' _ hu => by simp at hu⟩, (Below.refl _ _).alloc (Nat.le_refl _) _, fun t ht => by omega⟩
  case round =>
    obtain ⟨x, us, hx, rfl, hU, hbl, hlt⟩ := hrel
    obtain ⟨va, vn, vc, rfl⟩ := own_shape hU.row
    by_cases hxl : x < ys.length
    · obtain ⟨b1, o1, c1, u1, hv1, hc1, hu1, -⟩ := HR.out.at x hxl
      simp only [Value.slice.injEq, true_and] at hv1
      obtain ⟨rfl, rfl⟩ := hv1
      have hcx := (hbl.cell (World.block_lt_of_cell? _ _ hc1)).trans hc1
      have HU1 := Lib.hid (hu1.same hbl.block)
      obtain ⟨ua, uc, rfl, -⟩ := hu1.len
      have HU := Lib.hid hU; have HB := Lib.hid hbl; have hsz := hbl.size
      have HLT : Hid (∀ t, t < x → ltL (ys.getD t []) (ys.getD x []) = true) := fun t ht => hlt.out t ht hxl
      have HRX := Lib.hid (HRY.out _ (List.getElem_mem hxl))
      have hol : (oddL (ys.take x)).length ≤ 4398046511104 := by
        have := oddL_length (ys.take x); rw [List.length_take] at this; omega
      have HOL := Lib.hid hol
      clear hU hbl hlt hc1 hu1 hol
      have HX := Lib.hid (show ys.getD x [] = ys[x] by simp [hxl])
      go_wp2_with fail
      go_loopw [6] (fun j wk => ∃ k n : Nat, x ≤ k ∧ k ≤ ys.length ∧ j = .int .i64 k ∧ wk = wr.drewN n ∧ Hid (∀ t, x ≤ t → t < k → ys.getD t [] = ys.getD x [])) (fun j _ => ys.length - (intOf j).toNat)
      case atStart => exact ⟨x, 0, Nat.le_refl _, by omega, rfl, rfl, fun t h1 h2 => by omega⟩
      case round =>
        obtain ⟨k, n, hxk, hkl, rfl, rfl, hrun⟩ := hrel
        by_cases hk : k < ys.length
        · obtain ⟨b2, o2, c2, u2, hv2, hc2, hu2, -⟩ := HR.out.at k hk
          simp only [Value.slice.injEq, Option.some.injEq, Addr.mk.injEq, true_and, and_true] at hv2
          obtain ⟨⟨rfl, rfl⟩, rfl⟩ := hv2
          have hck := (HB.out.cell (World.block_lt_of_cell? _ _ hc2)).trans hc2
          have HU2 := Lib.hid (hu2.same HB.out.block)
          obtain ⟨ua2, uc2, rfl, -⟩ := hu2.len
          clear hc2 hu2
          have E := Lib.hid (fun (W : World) (h1 : IntS W.heap (.slice ua2 ys[k].length uc2) ys[k]) (h2 : IntS W.heap (.slice ua ys[x].length uc) ys[x]) => equalI_c _ _ ys[k] ys[x] W h1 h2)
          have tk : decide ((k : Int) < (ys.length : Int)) = true := decide_eq_true (by omega)
          have hki : (k : Int) < ys.length := by omega
          have hxi : (x : Int) < ys.length := by omega
          have HK := Lib.hid (show ys.getD k [] = ys[k] by simp [hk])
          by_cases he : ys[k] = ys[x]
          · have HS : Hid (∀ t, x ≤ t → t < k + 1 → ys.getD t [] = ys.getD x []) := fun t h1 h2 => by
              by_cases e : t = k
              · subst e; rw [HK.out, HX.out, he]
              · exact hrun.out t h1 (by omega)
            have e1 : decide (ys[k] = ys[x]) = true := decide_eq_true he
            rw [e1] at E
            clear he e1 HK
            generalize ys[k] = yk at *
            generalize hyx : ys[x] = yx at *
            clear hyx
            go_wp2_with fail
            go_quiet ((go_at_call 80; exact quiet_behind (E.out _ (by exact HU2.out) (by exact HU1.out))))
            go_wp2_with fail
            go_roundw
            case rel => exact ⟨k + 1, _, by omega, by omega, by go_num, by first | rfl | (simp only [World.drewN_drewN]; rfl), HS⟩
            case measure => simp [intOf]; omega
          · have e1 : decide (ys[k] = ys[x]) = false := decide_eq_false he
            rw [e1] at E
            have HXK : Hid (x < k) := by
              show _ < _
              have : x ≠ k := by rintro rfl; exact he rfl
              omega
            have HN : Hid (∀ t, t < k → k < ys.length → ltL (ys.getD t []) (ys.getD k []) = true) := fun t h1 _ => odd_next HSO.out HXK.out hk (fun t h1 h2 => hrun.out t h1 h2) HLT.out (by rw [HK.out, HX.out]; exact he) t h1
            have hxk2 := HXK.out
            clear he e1
            have HOR := Lib.hid (odd_run ys x k HXK.out hkl (fun t h1 h2 => hrun.out t h1 h2) HLT.out)
            rw [HX.out] at HOR
            have sk : IntKind.i64.wrap ((k : Int) - x) = (k : Int) - x := IntWalk.i64_in _ (by omega)
            have skp : (0 : Int) ≤ (k : Int) - x := by omega
            by_cases hodd : (k - x) % 2 = 1
            · have p1 := (eqB (show ((k : Int) - x) % 2 = 1 by omega)).1
              have p2 : (((k : Int) - x).tmod 2 == 1) = true := by rw [Int.tmod_eq_emod_of_nonneg skp]; exact p1
              rw [if_pos hodd] at HOR
              clear hodd HK
              generalize ys[k] = yk at *
              generalize hyx : ys[x] = yx at *
              clear hyx
              go_wp2_with fail
              go_quiet ((go_at_call 80; exact quiet_behind (E.out _ (by exact HU2.out) (by exact HU1.out))))
              go_wp2_with (first | (go_at_call 73; refine (copyOf_c _ _ _ (by exact HU1.out) HRX.out).mono ?_; rintro e w3 ⟨rv, rfl, hR2, hb2⟩; obtain ⟨sa0, sn0, sc0, rfl⟩ := own_shape hR2) | (at_builtin; refine append_rowU rfl _ _ rfl w2.heap.size _ _ us _ _ (HU.out.drewN _) rfl hR2 hb2 (below_drewN _ HB.out) hsz _ rfl rfl HOL.out ?_; intro v3 w4 hU3 hb3 _ _ _ _; obtain ⟨sa, sn, sc, rfl⟩ := own_shape hU3.row))
              go_roundw
              case rel => exact ⟨k, _, by omega, rfl, by rw [HOR.out]; exact hU3, hb3, HN⟩
              case measure => simp [intOf]; omega
            · have p1 := (neB (show ((k : Int) - x) % 2 ≠ 1 by omega)).1
              have p2 : (((k : Int) - x).tmod 2 == 1) = false := by rw [Int.tmod_eq_emod_of_nonneg skp]; exact p1
              rw [if_neg hodd, List.append_nil] at HOR
              clear hodd HK
              generalize ys[k] = yk at *
              generalize hyx : ys[x] = yx at *
              clear hyx
              go_wp2_with fail
              go_quiet ((go_at_call 80; exact quiet_behind (E.out _ (by exact HU2.out) (by exact HU1.out))))
              go_wp2_with fail
              go_roundw
              case rel => exact ⟨k, us, by omega, rfl, by rw [HOR.out]; exact HU.out.drewN _, below_drewN _ HB.out, HN⟩
              case measure => simp [intOf]; omega
        · have tk : decide ((k : Int) < (ys.length : Int)) = false := decide_eq_false (by omega)
          have tk2 : decide (k < ys.length) = false := decide_eq_false (by omega)
          have HXK : Hid (x < k) := by show _ < _; omega
          have HN : Hid (∀ t, t < k → k < ys.length → ltL (ys.getD t []) (ys.getD k []) = true) := fun t _ h => absurd h hk
          have hxk2 := HXK.out
          have HOR := Lib.hid (odd_run ys x k HXK.out hkl (fun t h1 h2 => hrun.out t h1 h2) HLT.out)
          rw [HX.out] at HOR
          have sk : IntKind.i64.wrap ((k : Int) - x) = (k : Int) - x := IntWalk.i64_in _ (by omega)
          have skp : (0 : Int) ≤ (k : Int) - x := by omega
          by_cases hodd : (k - x) % 2 = 1
          · have p1 := (eqB (show ((k : Int) - x) % 2 = 1 by omega)).1
            have p2 : (((k : Int) - x).tmod 2 == 1) = true := by rw [Int.tmod_eq_emod_of_nonneg skp]; exact p1
            rw [if_pos hodd] at HOR
            clear hodd
            generalize hyx : ys[x] = yx at *
            clear hyx
            go_wp2_with fail
            go_quiet (fail)
            go_wp2_with (first | (go_at_call 73; refine (copyOf_c _ _ _ (by exact HU1.out) HRX.out).mono ?_; rintro e w3 ⟨rv, rfl, hR2, hb2⟩; obtain ⟨sa0, sn0, sc0, rfl⟩ := own_shape hR2) | (at_builtin; refine append_rowU rfl _ _ rfl w2.heap.size _ _ us _ _ (HU.out.drewN _) rfl hR2 hb2 (below_drewN _ HB.out) hsz _ rfl rfl HOL.out ?_; intro v3 w4 hU3 hb3 _ _ _ _; obtain ⟨sa, sn, sc, rfl⟩ := own_shape hU3.row))
            go_roundw
            case rel => exact ⟨k, _, by omega, rfl, by rw [HOR.out]; exact hU3, hb3, HN⟩
            case measure => simp [intOf]; omega
          · have p1 := (neB (show ((k : Int) - x) % 2 ≠ 1 by omega)).1
            have p2 : (((k : Int) - x).tmod 2 == 1) = false := by rw [Int.tmod_eq_emod_of_nonneg skp]; exact p1
            rw [if_neg hodd, List.append_nil] at HOR
            clear hodd
            generalize hyx : ys[x] = yx at *
            clear hyx
            go_wp2_with fail
            go_quiet (fail)
            go_wp2_with fail
            go_roundw
            case rel => exact ⟨k, us, by omega, rfl, by rw [HOR.out]; exact HU.out.drewN _, below_drewN _ HB.out, HN⟩
            case measure => simp [intOf]; omega
    · obtain rfl : x = ys.length := by omega
      rw [List.take_length, HPE.out] at hU
      go_wp2_with fail
      go_ret
      exact ⟨_, _, rfl, own_u_base hU HB2.out.size, HB2.out.trans (hbl.mono HB2.out.size)⟩
end Go.Proofs.YtalbbjhonkcbgaaGreat

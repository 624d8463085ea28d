/- Reading texts: of the reference: numbers and parts. -/
import Derived.Test.YtalbbjhonkcbgaaGreatDoorLRdP
import Derived.Test.YtalbbjhonkcbgaaGreatDoorLTx
namespace Go.Proofs.YtalbbjhonkcbgaaGreatDoor
open Go.RowKit Go.Sort

theorem bs_get (l : List UInt8) (k : Nat) (hk : k < l.length) (h : k < (bs l).size) : (bs l)[k]'h = l[k] := by
  show (l.toArray)[k]'(by simpa using hk) = l[k]
  exact List.getElem_toArray _
theorem idx_bs {P : Program} (t : TypeId) (hu : P.underlying t = some .string) (l : List UInt8) (k : Nat) (hk : k < l.length) (W : World) :
    (Instr.index t (.string (bs l)) (.int .i64 (k : Int))).run P W = .ok (.int .u8 (l[k].toNat : Int)) W := by
  rw [run_index_string W t (bs l) .i64 k hu, dif_pos ⟨by omega, by rw [bs_size]; omega⟩]
  show Result.ok (Value.int .u8 (((bs l)[k]'(by rw [bs_size]; exact hk)).toNat : Int)) W = _
  rw [bs_get l k hk]
  rfl
theorem ext_bs (l : List UInt8) (i j : Nat) : (bs l).extract i j = bs ((l.drop i).take (j - i)) := by
  rw [← Go.Lib.mk_data ((bs l).extract i j), Go.Lib.extract_data, bs_data]
  rfl
theorem sub_bs {P : Program} (t : TypeId) (hu : P.underlying t = some .string) (l : List UInt8) (i j : Nat) (h1 : i ≤ j) (h2 : j ≤ l.length) (W : World) :
    (Instr.slice t (.string (bs l)) (some (.int .i64 (i : Int))) (some (.int .i64 (j : Int))) none).run P W = .ok (.string (bs ((l.drop i).take (j - i)))) W := by
  rw [run_slice_string W t (bs l) .i64 .i64 i j hu (by omega) (by omega) (by rw [bs_size]; omega), Int.toNat_natCast, Int.toNat_natCast, ext_bs]
theorem sub_bs_l {P : Program} (t : TypeId) (hu : P.underlying t = some .string) (l : List UInt8) (i : Nat) (h1 : i ≤ l.length) (W : World) :
    (Instr.slice t (.string (bs l)) (some (.int .i64 (i : Int))) none none).run P W = .ok (.string (bs (l.drop i))) W := by
  rw [run_slice_string_from_if W t (bs l) .i64 i hu, if_pos ⟨by omega, by rw [bs_size]; omega⟩, Int.toNat_natCast, ext_bs, bs_size, List.take_of_length_le (by simp)]
theorem take_dig {l : List UInt8} {k : Nat} (hk : k < l.length) : l.take (k + 1) = l.take k ++ [l[k]] := List.take_succ_eq_append_getElem hk
theorem dig_in {b : UInt8} : digB b = true ↔ 48 ≤ b.toNat ∧ b.toNat ≤ 57 := by simp [digB]
theorem not_dig {l : List UInt8} {k : Nat} (hk : k < l.length) (h : digB l[k] = false) : canB l = false := by
  cases e : canB l
  · rfl
  · simp only [canB, Bool.and_eq_true, List.all_eq_true] at e
    rw [e.1.2 _ (List.getElem_mem hk)] at h; cases h
set_option maxRecDepth 100000 in
set_option maxHeartbeats 1000000 in
theorem l01Value_c (l : List UInt8) (w : World) : Calls Tryz.prog 35 #[.string (bs l)] w fun e w' => e = .returned (.int .i64 (valW l)) ∧ w = w' := by
  have hz := bs_size l
  have hu := Tryz.underlying9
  by_cases h0 : l.length = 0
  · have e : valW l = -1 := by unfold valW; rw [List.eq_nil_of_length_eq_zero h0]; rfl
    have t0 := eqB (show (l.length : Int) = 0 by omega)
    obtain ⟨t1, t2⟩ := t0
    rw [e]
    generalize bs l = s at *
    generalize l.length = n at *
    clear e h0
    go_enter Tryz.func35, Tryz.ntmps35
    go_wp2_with fail
    go_ret
    exact ⟨rfl, rfl⟩
  by_cases h9 : 9 < l.length
  · have e : valW l = -1 := by unfold valW; rw [if_neg (by simp; omega)]
    have t0 := neB (show (l.length : Int) ≠ 0 by omega)
    have t3 : decide ((9 : Int) < (l.length : Int)) = true := by simp; omega
    have t4 : decide (9 < l.length) = true := by simp; omega
    obtain ⟨t1, t2⟩ := t0
    rw [e]
    clear e h0
    generalize bs l = s at *
    generalize l.length = n at *
    go_enter Tryz.func35, Tryz.ntmps35
    go_wp2_with fail
    go_ret
    exact ⟨rfl, rfl⟩
  have t0 := neB (show (l.length : Int) ≠ 0 by omega)
  have t3 : decide ((9 : Int) < (l.length : Int)) = false := by simp; omega
  have t4 : decide (9 < l.length) = false := by simp; omega
  obtain ⟨t1, t2⟩ := t0
  have hl : l.length ≤ 9 := by omega
  have h1 : 0 < l.length := by omega
  have hx0 : ∀ W, (Instr.index 9 (.string (bs l)) (.int .i64 0)).run Tryz.prog W = .ok (.int .u8 (l[0].toNat : Int)) W := fun W => idx_bs (P := Tryz.prog) 9 hu l 0 h1 W
  have HX := Lib.hid (fun k hk W => idx_bs (P := Tryz.prog) 9 hu l k hk W)
  by_cases h2 : 1 < l.length ∧ l[0].toNat = 48
  · have e : valW l = -1 := by
      unfold valW
      rw [if_neg]
      simp only [canB, Bool.and_eq_true, Bool.or_eq_true, decide_eq_true_eq, bne_iff_ne, not_and, not_or]
      intro _ _
      refine ⟨by omega, fun hn => hn (UInt8.toNat_inj.1 ?_)⟩
      rw [show l.headD 0 = l[0] by cases l with | nil => simp at h1 | cons a r => rfl]
      exact h2.2
    have t5 : decide ((1 : Int) < (l.length : Int)) = true := by simp; omega
    have t6 : decide (1 < l.length) = true := by simp; omega
    obtain ⟨t7, t8⟩ := eqB (show ((l[0].toNat : Nat) : Int) = 48 by omega)
    rw [e]
    clear e h0 HX h2
    generalize ((l[0].toNat : Nat) : Int) = x at *
    generalize bs l = s at *
    go_enter Tryz.func35, Tryz.ntmps35
    go_wp2_with fail
    go_ret
    exact ⟨rfl, rfl⟩
  have HV : Hid (l.all digB = true → valW l = valN l) := fun hd => by
    unfold valW
    rw [if_pos]
    simp only [canB, Bool.and_eq_true, Bool.or_eq_true, decide_eq_true_eq, bne_iff_ne, hd, and_true]
    refine ⟨hl, by cases l with | nil => simp at h1 | cons a r => rfl, ?_⟩
    by_cases h3 : 1 < l.length
    · right
      intro e
      apply h2
      refine ⟨h3, ?_⟩
      rw [show l.headD 0 = l[0] by cases l with | nil => simp at h1 | cons a r => rfl] at e
      rw [e]; rfl
    · left; omega
  have HN : Hid (∀ k (hk : k < l.length), digB l[k] = false → valW l = -1) := fun k hk h => by
    unfold valW
    rw [not_dig hk h]; simp
  have t5 : (decide ((1 : Int) < (l.length : Int)) = false) ∨ (decide ((1 : Int) < (l.length : Int)) = true ∧ (((l[0].toNat : Nat) : Int) == 48) = false) := by
    by_cases h3 : 1 < l.length
    · right; exact ⟨by simp; omega, (neB (fun e => h2 ⟨h3, by omega⟩)).1⟩
    · left; simp; omega
  clear h0 h2 h9
  have HL : Hid (∀ k, k ≤ l.length → (l.take k).all digB = true → valN (l.take k) < 1000000000) := fun k hk hd => by
    have h1 := valN_lt _ (l.take k) rfl hd
    have h2 : 10 ^ (l.take k).length ≤ 10 ^ 9 := Nat.pow_le_pow_right (by decide) (by rw [List.length_take]; omega)
    omega
  have hgo : ∀ Y, Y = valW l → Calls Tryz.prog 35 #[.string (bs l)] w fun e w' => e = .returned (.int .i64 Y) ∧ w = w' := by
    intro Y HY0
    have HY := Lib.hid HY0
    clear HY0
    generalize bs l = s at *
    go_enter Tryz.func35, Tryz.ntmps35
    rcases t5 with t5 | ⟨t5, t6⟩
    all_goals
      go_wp2_with fail
      clear t1 t2 t3 t4 t5 hx0
      go_loop [3, 4] (fun n i => ∃ k : Nat, k ≤ l.length ∧ i = .int .i64 k ∧ n = .int .i64 ((valN (l.take k) : Nat) : Int) ∧ (l.take k).all digB = true) (fun _ i => l.length - (intOf i).toNat)
      case atStart => exact ⟨0, Nat.zero_le _, rfl, rfl, rfl⟩
      case round =>
        obtain ⟨k, hk, rfl, rfl, hd⟩ := hrel
        have hq := HL.out k hk hd
        by_cases hkl : k < l.length
        · have hx := HX.out k hkl
          have hki : (k : Int) < (l.length : Int) := by omega
          cases hdg : digB l[k]
          · have E := Lib.hid (HY.out.trans (HN.out k hkl hdg))
            have hnd : l[k].toNat < 48 ∨ 57 < l[k].toNat := by
              by_cases h : l[k].toNat < 48
              · exact .inl h
              · by_cases h' : 57 < l[k].toNat
                · exact .inr h'
                · rw [dig_in.2 ⟨by omega, by omega⟩] at hdg; cases hdg
            clear hdg hd HV HN HY
            generalize valN (l.take k) = q at *
            rcases hnd with hnd | hnd
            · have t1 : decide (((l[k].toNat : Nat) : Int) < 48) = true := by simp; omega
              generalize ((l[k].toNat : Nat) : Int) = x at *
              go_wp2_with fail
              go_ret
              exact ⟨by rw [E.out]; rfl, rfl⟩
            · have t1 : decide (((l[k].toNat : Nat) : Int) < 48) = false := by simp; omega
              have t2 : decide ((57 : Int) < ((l[k].toNat : Nat) : Int)) = true := by simp; omega
              generalize ((l[k].toNat : Nat) : Int) = x at *
              go_wp2_with fail
              go_ret
              exact ⟨by rw [E.out]; rfl, rfl⟩
          · have hdi := dig_in.1 hdg
            have HS : Hid (valN (l.take (k + 1)) = valN (l.take k) * 10 + (l[k].toNat - 48) ∧ (l.take (k + 1)).all digB = true) := by
              rw [take_dig hkl, valN_snoc, List.all_append, hd]
              exact ⟨rfl, by simp [hdg]⟩
            have t1 : decide (((l[k].toNat : Nat) : Int) < 48) = false := by simp; omega
            have t2 : decide ((57 : Int) < ((l[k].toNat : Nat) : Int)) = false := by simp; omega
            obtain ⟨x, hxe⟩ : ∃ x : Nat, l[k].toNat = x := ⟨_, rfl⟩
            rw [hxe] at hx hdi HS t1 t2
            have s1 : IntKind.u8.wrap ((x : Int) - 48) = (x : Int) - 48 := by rw [IntKind.wrap_u8]; omega
            have s2 : IntKind.i64.wrap ((x : Int) - 48) = (x : Int) - 48 := IntWalk.i64_in _ (by omega)
            clear hdg hd hxe
            generalize valN (l.take k) = q at *
            go_wp2_with fail
            go_round
            case rel => exact ⟨k + 1, by omega, by go_num, by rw [HS.out.1]; go_num, HS.out.2⟩
            case measure => simp [intOf]; omega
        · obtain rfl : k = l.length := by omega
          have HTL := Lib.hid (List.take_length (l := l))
          have E := Lib.hid (HY.out.trans (HV.out (HTL.out ▸ hd)))
          clear hd HV HN HY
          go_wp2_with fail
          go_ret
          exact ⟨by rw [E.out]; rfl, rfl⟩
  exact hgo _ rfl
theorem spl_len6 {c : UInt8} {l : List UInt8} (h : l.length ≤ 2000000) {P : List (List UInt8)} {k : Nat} {x : List UInt8} (hp : spl c (l.take k) = P ++ [x]) : P.length ≤ 4398046511104 := by
  have h1 := spl_le c (l.take k)
  rw [hp] at h1
  simp at h1
  omega
set_option maxRecDepth 100000 in
set_option maxHeartbeats 1000000 in
theorem l01Split_c (c : UInt8) (l : List UInt8) (hl : l.length ≤ 2000000) (w : World) :
    Calls Tryz.prog 15 #[.string (bs l), .int .u8 (c.toNat : Int)] w fun e w' => ∃ v, e = .returned v ∧ OwnW w' w.heap.size v (spl c l) ∧ Below w.heap.size w w' := by
  have hz := bs_size l
  have hu := Tryz.underlying9
  have HX := Lib.hid (fun k hk W => idx_bs (P := Tryz.prog) 9 hu l k hk W)
  have HSB := Lib.hid (fun i j h1 h2 W => sub_bs (P := Tryz.prog) 9 hu l i j h1 h2 W)
  have HSL := Lib.hid (fun i h1 W => sub_bs_l (P := Tryz.prog) 9 hu l i h1 W)
  obtain ⟨R, hR⟩ : ∃ R, R = spl c l := ⟨_, rfl⟩
  have HR := Lib.hid hR
  rw [← hR]
  clear hR
  generalize bs l = s at *
  go_enter Tryz.func15, Tryz.ntmps15
  go_wp2_with fail
  go_loopw [5, 6, 7] (fun o a i wr => ∃ (k at0 : Nat) (P : List (List UInt8)), k ≤ l.length ∧ at0 ≤ k ∧ i = .int .i64 k ∧ a = .int .i64 at0 ∧ spl c (l.take k) = P ++ [(l.take k).drop at0] ∧ OwnW wr w.heap.size o P ∧ Below w.heap.size w wr) (fun _ _ i _ => l.length - (intOf i).toNat)
  case atStart => exact ⟨0, 0, [], Nat.zero_le _, Nat.le_refl _, rfl, rfl, rfl, ownW_empty (Nat.le_refl _), (Below.refl _ _).alloc (Nat.le_refl _) _⟩
  case round =>
    obtain ⟨k, at0, P, hk, hat, rfl, rfl, hsp, ho, hb⟩ := hrel
    have hsz := hb.size
    obtain ⟨ya, yn, yc, rfl⟩ := own_shape ho
    have HP := Lib.hid (spl_len6 hl hsp)
    have HSP := Lib.hid hsp; have HO := Lib.hid ho; have HB := Lib.hid hb
    clear hsp ho hb
    by_cases hkl : k < l.length
    · have hx := HX.out k hkl
      have hki : (k : Int) < (l.length : Int) := by omega
      by_cases hc : l[k] = c
      · have t1 := (eqB (show ((l[k].toNat : Nat) : Int) = (c.toNat : Int) by rw [hc])).1
        have hsb := HSB.out at0 k hat hk
        have HS : Hid (spl c (l.take (k + 1)) = (P ++ [(l.drop at0).take (k - at0)]) ++ [(l.take (k + 1)).drop (k + 1)]) := by
          have e1 : (l.take k ++ [l[k]]).drop (k + 1) = [] := List.drop_eq_nil_of_le (by simp; omega)
          show _ = _
          rw [take_dig hkl, spl_snoc c l[k] _ _ _ HSP.out, if_pos hc, e1, List.drop_take]
        clear hc
        generalize ((l[k].toNat : Nat) : Int) = x at *
        generalize (l.drop at0).take (k - at0) = q at *
        go_wp2_with (at_builtin; refine append_word (w := wr) rfl _ _ rfl _ _ _ _ HO.out rfl HB.out hsz _ rfl (by simp) HP.out ?_; intro v' w' hown' hbl' _ _; obtain ⟨pv, nv, cv, rfl⟩ := own_shape hown')
        go_roundw
        case rel => exact ⟨k + 1, k + 1, _, by omega, Nat.le_refl _, by go_num, by go_num, HS.out, hown', hbl'⟩
        case measure => simp [intOf]; omega
      · have t1 := (neB (show ((l[k].toNat : Nat) : Int) ≠ (c.toNat : Int) from fun e => hc (UInt8.toNat_inj.1 (by omega)))).1
        have HS : Hid (spl c (l.take (k + 1)) = P ++ [(l.take (k + 1)).drop at0]) := by
          show _ = _
          rw [take_dig hkl, spl_snoc c l[k] _ _ _ HSP.out, if_neg hc, List.drop_append_of_le_length (by rw [List.length_take]; omega)]
        clear hc
        generalize ((l[k].toNat : Nat) : Int) = x at *
        go_wp2_with fail
        go_roundw
        case rel => exact ⟨k + 1, at0, P, by omega, by omega, by go_num, rfl, HS.out, HO.out, HB.out⟩
        case measure => simp [intOf]; omega
    · obtain rfl : k = l.length := by omega
      have hsl := HSL.out at0 hat
      have HS : Hid (R = P ++ [l.drop at0]) := by
        show _ = _
        have := HSP.out
        rwa [List.take_length, ← HR.out] at this
      clear HSP
      generalize l.drop at0 = q at *
      go_wp2_with (at_builtin; refine append_word (w := wr) rfl _ _ rfl _ _ _ _ HO.out rfl HB.out hsz _ rfl (by simp) HP.out ?_; intro v' w' hown' hbl' _ _; obtain ⟨pv, nv, cv, rfl⟩ := own_shape hown')
      go_ret
      exact ⟨_, rfl, by rw [HS.out]; exact hown', hbl'⟩
theorem OwnW.at {w : World} {B : Nat} {v : Value} {xs : List (List UInt8)} (h : OwnW w B v xs) (h0 : 0 < xs.length) :
    ∃ g cap, v = .slice (some ⟨g, 0, none⟩) xs.length cap ∧ B ≤ g ∧ g < w.heap.size ∧ ∀ j (hj : j < xs.length), w.cell? ⟨g, j, none⟩ = some (.string (bs xs[j])) := by
  have h' := h
  unfold OwnW at h
  rcases h.2 with ⟨rfl, h1⟩ | ⟨g, cap, cur, rfl, hgB, hg, h2, h3, h4, h5⟩
  · omega
  · refine ⟨g, cap, rfl, hgB, (Array.getElem?_eq_some_iff.1 hg).1, fun j hj => ?_⟩
    rw [World.ownsRow.cellAt h j (by omega)]
    simp [hj]
theorem spl_pos (c : UInt8) (l : List UInt8) : 0 < (spl c l).length := List.length_pos_iff.2 (spl_ne c l)
theorem map_take_one {α β : Type} (f : α → β) (r : List α) (k : Nat) (hk : k < r.length) : (r.take (k + 1)).map f = (r.take k).map f ++ [f r[k]] := by
  rw [List.take_succ_eq_append_getElem hk, List.map_append]; rfl
set_option maxRecDepth 100000 in
set_option maxHeartbeats 1000000 in
theorem l01Read_c (c : UInt8) (l : List UInt8) (hl : l.length ≤ 2000000) (w : World) :
    Calls Tryz.prog 25 #[.string (bs l), .int .u8 (c.toNat : Int)] w fun e w' => ∃ v, e = .returned v ∧ OwnI w' w.heap.size v ((spl c l).map valW) ∧ Below w.heap.size w w' := by
  have C := Lib.hid (l01Split_c c l hl w)
  have hp := spl_pos c l
  have hle := spl_le c l
  generalize spl c l = ws at *
  generalize bs l = s at *
  go_enter Tryz.func25, Tryz.ntmps25
  go_wp2_with (go_at_call 15; refine C.out.mono ?_; rintro e w1 ⟨v1, rfl, hv1, hb1⟩; obtain ⟨g, cap, rfl, hgB, hgs, hcs⟩ := hv1.at hp; have HCS := Lib.hid hcs; have HB1 := Lib.hid hb1; have HZ1 := Lib.hid hb1.size; clear hv1 hcs hb1)
  go_loopw [6, 7] (fun o i wr => ∃ k : Nat, k ≤ ws.length ∧ i = .int .i64 k ∧ OwnI wr w1.heap.size o ((ws.take k).map valW) ∧ Below w1.heap.size w1 wr) (fun _ i _ => ws.length - (intOf i).toNat)
  case atStart => exact ⟨0, Nat.zero_le _, rfl, ownI_empty (Nat.le_refl _), (Below.refl _ _).alloc (Nat.le_refl _) _⟩
  case round =>
    obtain ⟨k, hk, rfl, ho, hb⟩ := hrel
    have hsz := hb.size
    obtain ⟨ya, yn, yc, rfl⟩ := own_shape ho
    have HO := Lib.hid ho; have HB := Lib.hid hb
    by_cases hkl : k < ws.length
    · have hc := (hb.cell (p := ⟨g, k, none⟩) hgs).trans (HCS.out k hkl)
      have hki : (k : Int) < (ws.length : Int) := by omega
      have V := Lib.hid (fun W => l01Value_c ws[k] W)
      have HS := Lib.hid (map_take_one valW ws k hkl)
      have HN : Hid (((ws.take k).map valW).length ≤ 4398046511104) := by show _ ≤ _; rw [List.length_map, List.length_take]; omega
      clear ho hb
      generalize ws[k] = x at *
      generalize valW x = y at *
      go_wp2_with (first | (go_at_call 35; refine (V.out _).mono ?_; rintro e w2 ⟨rfl, rfl⟩) | (at_builtin; refine append_int (w := wr) rfl _ _ rfl _ _ _ _ HO.out rfl HB.out hsz _ rfl (by simp) HN.out ?_; intro v' w' hown' hbl' _ _; obtain ⟨pv, nv, cv, rfl⟩ := own_shape hown'))
      go_roundw
      case rel => exact ⟨k + 1, by omega, by go_num, by rw [HS.out]; exact hown', hbl'⟩
      case measure => simp [intOf]; omega
    · obtain rfl : k = ws.length := by omega
      clear ho hb
      go_wp2_with fail
      go_ret
      have e : (ws.take ws.length).map valW = ws.map valW := by rw [List.take_length]
      exact ⟨_, rfl, own_base (by rw [← e]; exact HO.out) HZ1.out, HB1.out.trans (HB.out.mono HZ1.out)⟩
end Go.Proofs.YtalbbjhonkcbgaaGreatDoor

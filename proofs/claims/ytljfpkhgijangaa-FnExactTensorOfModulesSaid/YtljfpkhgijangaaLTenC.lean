/- The tensor product of two modules: what the program's ordered asks for. -/
import Derived.Test.YtljfpkhgijangaaLTenP
import Derived.Test.YtljfpkhgijangaaLOrdX
import Derived.Test.YtljfpkhgijangaaLMt4
import Derived.Test.YtljfpkhgijangaaLGen
import Derived.Test.YtljfpkhgijangaaLInv
namespace Go.Proofs.Ytljfpkhgijangaa
open Go.RowKit Go.Sort

theorem tab_row {w : World} {B g : Nat} {d : Value} {us : List Value} {size : Nat} {act : List (List Int)} (h : TabU w B g d us (tabL size act)) (n : Nat) (hn : n ≤ 20) :
    ∃ u, w.cell? ⟨g, 1 + n, none⟩ = some u ∧ IntS w.heap u ((List.range size).map fun b => ((rowZ act n b : Nat) : Int)) := by
  have hg := gridL_at (rowZ act) size 21 n (by omega)
  obtain ⟨u, hu⟩ : ∃ u, us[n]? = some u := ⟨_, List.getElem?_eq_getElem (show n < us.length by rw [h.len, tabL]; simp [gridL]; omega)⟩
  exact ⟨u, by rw [h.cell n, hu], (h.each n _ _ hu hg).ints⟩
theorem heldC4A {x1 x2 x3 x4 : Value} {g1 g2 g3 g4 : Addr} {w0 W : World} (h : W.cell? g1 = some x1 ∧ W.cell? g2 = some x2 ∧ W.cell? g3 = some x3 ∧ W.cell? g4 = some x4 ∧ Below w0.heap.size w0 W) (o : Obj) : (W.alloc o).cell? g1 = some x1 ∧ (W.alloc o).cell? g2 = some x2 ∧ (W.alloc o).cell? g3 = some x3 ∧ (W.alloc o).cell? g4 = some x4 ∧ Below w0.heap.size w0 (W.alloc o) :=
  ⟨Go.Lib.cell?_alloc_some o h.1, Go.Lib.cell?_alloc_some o h.2.1, Go.Lib.cell?_alloc_some o h.2.2.1, Go.Lib.cell?_alloc_some o h.2.2.2.1, h.2.2.2.2.alloc h.2.2.2.2.size o⟩
theorem tbit (X Y s t : Nat) (hX : X < 9223372036854775808) (hY : Y < 9223372036854775808) : bits BinOp.and IntKind.i64 (bits BinOp.and IntKind.i64 ((X : Int) / 2 ^ s) ((Y : Int) / 2 ^ t)) 1 = ((if X.testBit s && Y.testBit t then 1 else 0 : Nat) : Int) := by
  rw [show ((X : Int) / 2 ^ s) = ((X / 2 ^ s : Nat) : Int) by simp, show ((Y : Int) / 2 ^ t) = ((Y / 2 ^ t : Nat) : Int) by simp, i64_and_nat _ _ (Nat.lt_of_le_of_lt (Nat.div_le_self _ _) hX) (Nat.lt_of_le_of_lt (Nat.div_le_self _ _) hY),
    show (1 : Int) = ((1 : Nat) : Int) from rfl, i64_and_nat _ _ (Nat.lt_of_le_of_lt Nat.and_le_left (Nat.lt_of_le_of_lt (Nat.div_le_self _ _) hX)) (by omega)]
  rw [Nat.and_one_is_mod, Nat.and_mod_two_pow (n := 1) |> fun h => (by simpa using h : (X / 2 ^ s &&& Y / 2 ^ t) % 2 = (X / 2 ^ s % 2 &&& Y / 2 ^ t % 2)), Nat.testBit_eq_decide_div_mod_eq, Nat.testBit_eq_decide_div_mod_eq]
  rcases Nat.mod_two_eq_zero_or_one (X / 2 ^ s) with h | h <;> rcases Nat.mod_two_eq_zero_or_one (Y / 2 ^ t) with h' | h' <;> rw [h, h'] <;> rfl
theorem enters_ten1 : Enters Try.prog 130 := fun args w => by kernel_rfl
set_option maxRecDepth 100000 in
set_option maxHeartbeats 1000000 in
theorem ten1_c (d1 d2 : List Int) (a1 a2 : List (List Int)) (h1 : modT d1 a1 = true) (h2 : modT d2 a2 = true) (hN : d1.length * d2.length ≤ 16) (gs gz gt gd g1 g2 B1 B2 n b dc : Nat) (v1 v2 : Value) (dao : Option Addr) (u1 u2 : List Value) (w : World)
    (hs : w.cell? ⟨gs, 0, none⟩ = some (.pointer (some ⟨g1, 0, none⟩))) (hz : w.cell? ⟨gz, 0, none⟩ = some (.int .i64 d2.length)) (ht : w.cell? ⟨gt, 0, none⟩ = some (.pointer (some ⟨g2, 0, none⟩))) (hd : w.cell? ⟨gd, 0, none⟩ = some (.slice dao (d1.length * d2.length) dc))
    (t1 : TabU w B1 g1 v1 u1 (tabL d1.length a1)) (t2 : TabU w B2 g2 v2 u2 (tabL d2.length a2)) (hn1 : 1 ≤ n) (hn2 : n ≤ 20) (hb : b < d1.length * d2.length) :
    Calls Try.prog 130 #[.int .i64 n, .int .i64 b, .pointer (some ⟨gs, 0, none⟩), .pointer (some ⟨gz, 0, none⟩), .pointer (some ⟨gt, 0, none⟩), .pointer (some ⟨gd, 0, none⟩)] w fun e w' => e = .returned (.int .i64 (tenQ d1 d2 a1 a2 n b : Nat)) ∧ ∃ m, w' = w.drewN m := by
  have hl1 := modT_len h1; have hl2 := modT_len h2
  have ho : 0 < d2.length := Nat.pos_of_ne_zero fun e => by rw [e, Nat.mul_zero] at hb; omega
  have hp : b / d2.length < d1.length := (Nat.div_lt_iff_lt_mul ho).2 hb
  have hq : b % d2.length < d2.length := Nat.mod_lt _ ho
  have td : (b : Int).tdiv (d2.length : Int) = ((b / d2.length : Nat) : Int) := (Int.ofNat_tdiv b d2.length).symm
  have tm : (b : Int).tmod (d2.length : Int) = ((b % d2.length : Nat) : Int) := (Int.ofNat_tmod b d2.length).symm
  have HQ : Hid (tenQ d1 d2 a1 a2 n b = tenM a1 a2 d2.length n b (d1.length * d2.length) (n + 1)) := rfl
  have HMS : Hid (∀ k, tenM a1 a2 d2.length n b (d1.length * d2.length) (k + 1) = tenM a1 a2 d2.length n b (d1.length * d2.length) k ^^^ tenW a1 a2 d2.length n b k (d1.length * d2.length)) := fun k => rfl
  have HWS : Hid (∀ f c, tenW a1 a2 d2.length n b f (c + 1) = tenW a1 a2 d2.length n b f c ^^^ (if (rowZ a1 f (b / d2.length)).testBit (c / d2.length) && (rowZ a2 (n - f) (b % d2.length)).testBit (c % d2.length) then 2 ^ c else 0)) := fun f c => rfl
  have HLT : Hid (∀ f c, c ≤ d1.length * d2.length → tenM a1 a2 d2.length n b (d1.length * d2.length) f ^^^ tenW a1 a2 d2.length n b f c < 2 ^ 16) := fun f c hc => Nat.lt_of_lt_of_le (tenMW_lt _ _ _ _ _ _ _ _ hc) (Nat.pow_le_pow_right (by decide) hN)
  have HW0 : Hid (∀ f, tenM a1 a2 d2.length n b (d1.length * d2.length) f ^^^ tenW a1 a2 d2.length n b f 0 = tenM a1 a2 d2.length n b (d1.length * d2.length) f) := fun f => by show _ ^^^ 0 = _; simp
  have HM0 : Hid (tenM a1 a2 d2.length n b (d1.length * d2.length) 0 = 0) := rfl
  have HR1 : Hid (∀ f, f ≤ 20 → ∃ u b1 o1 c1, w.cell? ⟨g1, 1 + f, none⟩ = some u ∧ u = .slice (some ⟨b1, o1, none⟩) d1.length c1 ∧ w.cell? ⟨b1, o1 + b / d2.length, none⟩ = some (.int .i64 (rowZ a1 f (b / d2.length) : Nat))) := fun f hf => by
    obtain ⟨u, hcu, hu⟩ := tab_row t1 f hf
    obtain ⟨b1, o1, c1, hv1, hc1, -⟩ := hu.at (b / d2.length) (by simpa using hp)
    simp only [List.getElem_map, List.getElem_range] at hc1
    simp only [List.length_map, List.length_range] at hv1
    exact ⟨u, b1, o1, c1, hcu, hv1, hc1⟩
  have HR2 : Hid (∀ f, f ≤ 20 → ∃ u b1 o1 c1, w.cell? ⟨g2, 1 + f, none⟩ = some u ∧ u = .slice (some ⟨b1, o1, none⟩) d2.length c1 ∧ w.cell? ⟨b1, o1 + b % d2.length, none⟩ = some (.int .i64 (rowZ a2 f (b % d2.length) : Nat))) := fun f hf => by
    obtain ⟨u, hcu, hu⟩ := tab_row t2 f hf
    obtain ⟨b1, o1, c1, hv1, hc1, -⟩ := hu.at (b % d2.length) (by simpa using hq)
    simp only [List.getElem_map, List.getElem_range] at hc1
    simp only [List.length_map, List.length_range] at hv1
    exact ⟨u, b1, o1, c1, hcu, hv1, hc1⟩
  have HZ1 : Hid (∀ f, rowZ a1 f (b / d2.length) < 2 ^ 16) := fun f => rowZ_lt h1 f _ hp
  have HZ2 : Hid (∀ f, rowZ a2 f (b % d2.length) < 2 ^ 16) := fun f => rowZ_lt h2 f _ hq
  clear t1 t2 h1 h2
  have ho2 : (0 : Int) < (d2.length : Int) := by omega
  have HDV := Lib.hid (fun c : Nat => (Int.ofNat_tdiv c d2.length).symm)
  have HMV := Lib.hid (fun c : Nat => (Int.ofNat_tmod c d2.length).symm)
  have HPB := Lib.hid (fun (c : Nat) (hc : c < d1.length * d2.length) => (Nat.div_lt_iff_lt_mul ho).2 hc)
  have HQB := Lib.hid (fun (c : Nat) => Nat.mod_lt c ho)
  generalize tenQ d1 d2 a1 a2 n b = R at *
  generalize tenM a1 a2 d2.length n b (d1.length * d2.length) = M at *
  generalize tenW a1 a2 d2.length n b = V at *
  generalize d1.length * d2.length = N at *
  generalize b / d2.length = p at *
  generalize b % d2.length = q at *
  generalize d2.length = o at *
  generalize d1.length = l1 at *
  have hpi : (p : Int) < (l1 : Int) := by omega
  have hqi : (q : Int) < (o : Int) := by omega
  have hone : ¬ (o : Int) = 0 := by omega
  have hon3 : ¬ o = 0 := by omega
  have hone2 := (neB (show (o : Int) ≠ 0 by omega)).1
  have hwp : IntKind.i64.wrap (p : Int) = p := IntWalk.i64_in _ (by omega)
  have hwq : IntKind.i64.wrap (q : Int) = q := IntWalk.i64_in _ (by omega)
  go_enter Try.func130, Try.ntmps130
  go_wp2_with fail
  go_loopw [16, 9] (fun i out wr => ∃ k m : Nat, k ≤ n + 1 ∧ i = .int .i64 k ∧ out = .int .i64 (M k : Nat) ∧ wr = w.drewN m) (fun i _ _ => n + 1 - (intOf i).toNat)
  case atStart => exact ⟨0, 0, Nat.zero_le _, rfl, by rw [HM0.out]; rfl, rfl⟩
  case round =>
    obtain ⟨k, m, hk, rfl, rfl, rfl⟩ := hrel
    by_cases hlt : k < n + 1
    · obtain ⟨u1', b1, o1, c1, hu1, rfl, hx1⟩ := HR1.out k (by omega)
      obtain ⟨j, hj⟩ : ∃ j, j = n - k := ⟨_, rfl⟩
      obtain ⟨u2', b2, o2, c2, hu2, rfl, hx2⟩ := HR2.out j (by omega)
      have s1 : IntKind.i64.wrap ((n : Int) - (k : Int)) = (j : Int) := by rw [IntWalk.i64_in _ (by omega)]; omega
      have ki : (k : Int) < 21 := by omega
      have ji : (j : Int) < 21 := by omega
      have z1 := HZ1.out k; have z2 := HZ2.out j
      have HWK : Hid (∀ c, V k (c + 1) = V k c ^^^ (if (rowZ a1 k p).testBit (c / o) && (rowZ a2 j q).testBit (c % o) then 2 ^ c else 0)) := fun c => by rw [HWS.out k c, hj]
      have HK := Lib.hid hk
      clear hj
      go_wp2_with fail
      go_quiet (fail)
      go_wp2_with fail
      have HLK := Lib.hid (HLT.out k)
      have HMK := Lib.hid (HMS.out k)
      have e0 := HW0.out k
      generalize rowZ a1 k p = X at *
      generalize rowZ a2 j q = Y at *
      go_loopw [45, 9] (fun i out wr => ∃ c m' : Nat, c ≤ N ∧ i = .int .i64 c ∧ out = .int .i64 (M k ^^^ V k c : Nat) ∧ wr = w.drewN m') (fun i _ _ => N - (intOf i).toNat)
      case atStart => exact ⟨0, _, Nat.zero_le _, rfl, by rw [e0], by first | rfl | (simp only [World.drewN_drewN]; rfl)⟩
      case round =>
        obtain ⟨c, m', hc, rfl, rfl, rfl⟩ := hrel
        by_cases hcl : c < N
        · have hpc := HPB.out c hcl; have hqc := HQB.out c
          have td2 := HDV.out c; have tm2 := HMV.out c
          have hs := HWK.out c
          have tb := tbit X Y (c / o) (c % o) (by omega) (by omega)
          have hlt2 := HLK.out c (by omega)
          obtain ⟨c1', hc1'⟩ : ∃ x, x = c / o := ⟨_, rfl⟩
          obtain ⟨c2', hc2'⟩ : ∃ x, x = c % o := ⟨_, rfl⟩
          rw [← hc1', ← hc2'] at hs tb
          rw [← hc1'] at hpc td2
          rw [← hc2'] at hqc tm2
          have HC1 := Lib.hid hc1'; have HC2 := Lib.hid hc2'; have HSS := Lib.hid hs
          clear hc1' hc2' hs
          have hwc : IntKind.i64.wrap (c1' : Int) = c1' := IntWalk.i64_in _ (by omega)
          have sh0 : (0 : Int) ≤ c1' := by omega
          have sh1 : (0 : Int) ≤ c2' := by omega
          have sh2 : (0 : Int) ≤ c := by omega
          obtain ⟨z, hz⟩ : ∃ z : Nat, z = if X.testBit c1' && Y.testBit c2' then 1 else 0 := ⟨_, rfl⟩
          have hz1 : z = 0 ∨ z = 1 := by rw [hz]; split <;> simp
          have hzz : (if X.testBit c1' && Y.testBit c2' then 2 ^ c else 0 : Nat) = z * 2 ^ c := by rw [hz]; split <;> simp
          rw [← hz] at tb
          rw [hzz] at HSS
          obtain ⟨Z, hZ⟩ : ∃ Z, Z = z * 2 ^ c := ⟨_, rfl⟩
          have hp16 : 2 ^ c ≤ 2 ^ 15 := Nat.pow_le_pow_right (by decide) (by omega)
          have hZ2 : Z ≤ 2 ^ 15 := by rw [hZ]; rcases hz1 with e | e <;> rw [e] <;> omega
          have hw6 : wrap64 ((z : Int) * 2 ^ c) = (Z : Int) := by
            rw [show ((z : Int) * 2 ^ c) = ((z * 2 ^ c : Nat) : Int) by simp, ← hZ]
            unfold wrap64; omega
          rw [← hZ] at HSS
          have HA : Hid (M k ^^^ V k (c + 1) = (M k ^^^ V k c) ^^^ Z) := by show _ = _; rw [HSS.out, Nat.xor_assoc]
          have HW6 := Lib.hid hw6
          clear hz hzz hz1 hZ hp16 hw6 HSS
          generalize M k ^^^ V k c = A at *
          have hxr := i64_xor_nat A Z (by omega) (by omega)
          have hw6 := HW6.out
          clear HW6 hZ2
          go_wp2_with fail
          go_quiet (fail)
          go_wp2_with fail
          go_roundw
          case rel => exact ⟨c + 1, _, by omega, by go_num, by rw [HA.out], by first | rfl | (simp only [World.drewN_drewN]; rfl)⟩
          case measure => simp [intOf]; omega
        · obtain rfl : c = N := by omega
          go_wp2_with fail
          go_roundw
          case rel => exact ⟨k + 1, _, by omega, by go_num, by rw [HMK.out], rfl⟩
          case measure => simp [intOf]; omega
    · obtain rfl : k = n + 1 := by omega
      go_wp2_with fail
      go_ret
      exact ⟨by rw [HQ.out]; rfl, _, rfl⟩
end Go.Proofs.Ytljfpkhgijangaa

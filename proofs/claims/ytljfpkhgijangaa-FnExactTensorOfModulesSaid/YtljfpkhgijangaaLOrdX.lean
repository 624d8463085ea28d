/- ordered: the module with elements of some degrees put in order. -/
import Derived.Test.YtljfpkhgijangaaLByD
import Derived.Test.YtljfpkhgijangaaLMod
import Derived.Test.YtljfpkhgijangaaLMt3
namespace Go.Proofs.Ytljfpkhgijangaa
open Go.RowKit Go.Sort

theorem and_bitO (X s : Nat) (hX : X < 9223372036854775808) : bits BinOp.and IntKind.i64 ((X : Int) / 2 ^ s) 1 = if X.testBit s then 1 else 0 := by
  rw [show ((X : Int) / 2 ^ s) = ((X / 2 ^ s : Nat) : Int) by simp, show (1 : Int) = ((1 : Nat) : Int) from rfl, i64_and_nat _ _ (Nat.lt_of_le_of_lt (Nat.div_le_self _ _) hX) (by omega), Nat.and_one_is_mod,
    Nat.testBit_eq_decide_div_mod_eq]
  rcases Nat.mod_two_eq_zero_or_one (X / 2 ^ s) with h | h <;> rw [h] <;> rfl
theorem natV_at {ns : List Nat} (j : Nat) (hj : j < ns.length) : (natV ns)[j]? = some (.int .i64 (ns.getD j 0 : Nat)) := by simp [natV, hj]
/-- A slice of int, read. -/
def NatS (h : Array Obj) (v : Value) (ns : List Nat) : Prop := SlAt h 3 v (natV ns)
theorem NatS.at {h : Array Obj} {v : Value} {ns : List Nat} (a : NatS h v ns) (k : Nat) (hk : k < ns.length) :
    ∃ b off cap, v = .slice (some ⟨b, off, none⟩) ns.length cap ∧ ∀ w : World, w.heap = h → w.cell? ⟨b, off + k, none⟩ = some (.int .i64 (ns.getD k 0 : Nat)) := by
  have hln : (natV ns).length = ns.length := by simp [natV]
  rcases a with ⟨_, h0⟩ | ⟨b, off, cap, cur, rfl, hb, h1, h2, h3, h4⟩
  · have : ns.length = 0 := by rw [← hln, h0]; rfl
    omega
  · refine ⟨b, off, cap, by rw [hln], fun w hw => ?_⟩
    rw [World.cell?]
    simp only [hw, hb]
    have := congrArg (fun l : List Value => l[k]?) h4
    simp only [List.getElem?_take, hln, hk, if_true, List.getElem?_drop, natV_at k hk, Array.getElem?_toList] at this
    simpa using this
theorem OwnN.reads {w : World} {B : Nat} {v : Value} {ns : List Nat} (h : OwnN w B v ns) : NatS w.heap v ns := by
  unfold NatS
  have h2 : w.ownsRow B 3 1 v (natV ns).length (natV ns) := by have := h; unfold OwnN at this; rwa [show ns.length = (natV ns).length by simp [natV]] at this
  exact slAt_of_own h2
theorem NatS.same {h h' : Array Obj} {v : Value} {ns : List Nat} (a : NatS h v ns) (k : ∀ b, b < h.size → h'[b]? = h[b]?) : NatS h' v ns := SlAt.same a k
theorem NatS.len {h : Array Obj} {v : Value} {ns : List Nat} (a : NatS h v ns) : ∃ ao c, v = .slice ao ns.length c := by
  obtain ⟨ao, c, hv, _⟩ := SlAt.len a
  exact ⟨ao, c, by rw [hv]; simp [natV]⟩
set_option maxRecDepth 100000 in
set_option maxHeartbeats 1000000 in
theorem ordered1_c (ds : List Int) (hs : Stems ds) (hl : ds.length ≤ 16) (sq : Nat → Nat → Nat) (n b gs go K : Nat) (caps : Array Value) (o : Value) (w : World) (h1 : w.cell? ⟨gs, 0, none⟩ = some (.func (.func K) #[] caps)) (h2 : w.cell? ⟨go, 0, none⟩ = some o) (hO : NatS w.heap o (ordL ds))
    (eg : Enters Try.prog K) (hb : b < ds.length) (hq : sq n ((ordL ds).getD b 0) < 65536)
    (hf : ∀ m, Calls Try.prog K (#[.int .i64 n, .int .i64 ((ordL ds).getD b 0 : Nat)] ++ caps) (w.drewN m) fun e w' => e = .returned (.int .i64 (sq n ((ordL ds).getD b 0) : Nat)) ∧ ∃ k, w' = w.drewN k) :
    Calls Try.prog 171 #[.int .i64 n, .int .i64 b, .pointer (some ⟨gs, 0, none⟩), .pointer (some ⟨go, 0, none⟩)] w fun e w' => e = .returned (.int .i64 (oSq ds sq n b)) ∧ ∃ m, w' = w.drewN m := by
  have hol := ordL_len hs
  obtain ⟨b1, o1, c1, hv1, hc1⟩ := hO.at b (by omega)
  have hc1 := hc1 w rfl
  rw [hol] at hv1
  subst hv1
  have HO := Lib.hid hO; have HF := Lib.hid hf; have HSQ : Hid (oSq ds sq n b = ((oMask ds (sq n ((ordL ds).getD b 0)) ds.length : Nat) : Int)) := rfl
  have hb1 : (b : Int) < (ds.length : Int) := by omega
  have HA := Lib.hid (fun c hc => ordL_at hs c hc)
  have hcf := eg
  unfold Enters at hcf
  clear hO hf eg
  generalize (ordL ds).getD b 0 = ob at *
  generalize sq n ob = v at *
  go_enter Try.func171, Try.ntmps171
  go_wp2_with fail
  go_quiet (exact HF.out _)
  have HOL := Lib.hid hol
  clear hcf hc1 hol
  go_wp2_with fail
  go_loop [8, 20] (fun o i => ∃ k : Nat, k ≤ ds.length ∧ i = .int .i64 k ∧ o = .int .i64 (oMask ds v k : Nat)) (fun _ i => ds.length - (intOf i).toNat)
  case atStart => exact ⟨0, Nat.zero_le _, rfl, rfl⟩
  case round =>
    obtain ⟨k, hk, rfl, rfl⟩ := hrel
    by_cases hlt : k < ds.length
    · obtain ⟨b2, o2, c2, hv2, hc2⟩ := HO.out.at k (by rw [HOL.out]; exact hlt)
      rw [HOL.out] at hv2
      simp only [Value.slice.injEq, Option.some.injEq, Addr.mk.injEq, and_true, true_and] at hv2
      obtain ⟨⟨rfl, rfl⟩, rfl⟩ := hv2
      have hc2 := hc2 w rfl
      have ha := HA.out k hlt
      have hbit := and_bitO v ((ordL ds).getD k 0) (by omega)
      have hM := oMask_lt ds v k
      have hp : 2 ^ k ≤ 2 ^ 15 := Nat.pow_le_pow_right (by omega) (by omega)
      have HS : Hid (oMask ds v (k + 1) = oMask ds v k ||| (if v.testBit ((ordL ds).getD k 0) then 2 ^ k else 0)) := rfl
      have hor := i64_or_nat (oMask ds v k) (if v.testBit ((ordL ds).getD k 0) then 2 ^ k else 0) (by omega) (by split <;> omega)
      have hw : wrap64 ((if v.testBit ((ordL ds).getD k 0) then 1 else 0) * 2 ^ k) = (((if v.testBit ((ordL ds).getD k 0) then 2 ^ k else 0 : Nat)) : Int) := by
        split
        · rw [Int.one_mul, wrap64_pow k (by omega)]; simp
        · simp [wrap64]
      clear hM hp
      generalize (if v.testBit ((ordL ds).getD k 0) then 2 ^ k else 0 : Nat) = Z at *
      generalize (if v.testBit ((ordL ds).getD k 0) then (1 : Int) else 0) = y at *
      generalize (ordL ds).getD k 0 = bf at *
      generalize oMask ds v k = t at *
      go_wp2_with fail
      go_round
      case rel => exact ⟨k + 1, by omega, by go_num, by rw [HS.out]⟩
      case measure => simp [intOf]; omega
    · obtain rfl : k = ds.length := by omega
      go_wp2_with fail
      go_ret
      exact ⟨by rw [HSQ.out]; rfl, _, rfl⟩
theorem srtD_take (ds : List Int) (k : Nat) (hk : k < (ordL ds).length) : (srtD ds).take (k + 1) = (srtD ds).take k ++ [ds.getD ((ordL ds).getD k 0) 0] := by
  have hk2 : k < (srtD ds).length := by unfold srtD; rw [List.length_map]; exact hk
  rw [List.take_succ_eq_append_getElem hk2]
  simp [srtD, hk]
theorem enters_ordered1 : Enters Try.prog 171 := fun args w => by kernel_rfl
set_option maxRecDepth 100000 in
set_option maxHeartbeats 1000000 in
theorem ordered_c (v : Value) (ds : List Int) (K : Nat) (caps : Array Value) (sq : Nat → Nat → Nat) (w : World) (h : IntS w.heap v ds) (hs : Stems ds) (hl : ds.length ≤ 16) (eg : Enters Try.prog K) (hq : ∀ n b, 1 ≤ n → n ≤ 20 → b < ds.length → sq n b < 65536)
    (hf : ∀ w1 : World, Below w.heap.size w w1 → ∀ n b : Nat, 1 ≤ n → n ≤ 20 → b < ds.length → Calls Try.prog K (#[.int .i64 n, .int .i64 b] ++ caps) w1 fun e w' => e = .returned (.int .i64 (sq n b : Nat)) ∧ ∃ k, w' = w1.drewN k) :
    Calls Try.prog 124 #[v, .func (.func K) #[] caps] w fun e w' => ∃ d a us, e = .returned (.agg #[d, a]) ∧ OwnM w' w.heap.size d a us (srtD ds) (modN (oSq ds sq) ds.length 20) ∧ Below w.heap.size w w' := by
  have hol := ordL_len hs
  have hsl := srtD_len hs
  obtain ⟨w0, hw0⟩ : ∃ w0, w0 = (w.alloc (.cells #[.func (.func K) #[] caps] 121)).alloc (.cells #[.slice none 0 0, .slice none 0 0] 60) := ⟨_, rfl⟩
  have hb : Below w.heap.size w w0 := by rw [hw0]; exact ((Below.refl _ _).alloc (Nat.le_refl _) _).alloc (by simp) _
  have hsz : w0.heap.size = w.heap.size + 2 := by rw [hw0]; simp
  have V1 : Cell1 w0 w.heap.size (.func (.func K) #[] caps) 121 := by rw [hw0]; exact (Cell1.new w _ _).kept (alloc_old _ _)
  have V2 : Var2 w0 (w.heap.size + 1) (.slice none 0 0) (.slice none 0 0) 60 := by
    rw [hw0]
    have := Var2.new (w.alloc (.cells #[.func (.func K) #[] caps] 121)) (.slice none 0 0) (.slice none 0 0) 60
    rwa [size_alloc_w] at this
  have BD := Lib.hid (byDegrees_c v ds w0 (h.same hb.block) hs hl)
  obtain ⟨ao, c, rfl, hm⟩ := h.len
  have H0 := Lib.hid h; have HB0 := Lib.hid hb; have HSZ := Lib.hid hsz; have HV1 := Lib.hid V1; have HV2 := Lib.hid V2; have HW := Lib.hid hw0; have HF := Lib.hid hf; have HQ := Lib.hid hq; have HE := Lib.hid eg; have HS := Lib.hid hs; have HOL := Lib.hid hol; have HSL := Lib.hid hsl
  clear h hb hsz V1 V2 hw0 hf hq eg hol hsl
  go_enter Try.func124, Try.ntmps124
  go_wp2_with fail
  rw [← HW.out]
  refine BD.out.mono ?_
  rintro e w1 ⟨o, rfl, hO, hb1⟩
  obtain ⟨pa, pn, pc, rfl⟩ := own_shape hO
  obtain ⟨w2, hw2⟩ : ∃ w2, w2 = w1.alloc (.cells #[.slice pa pn pc] 150) := ⟨_, rfl⟩
  have hb2 : Below w0.heap.size w1 w2 := by rw [hw2]; exact (Below.refl _ _).alloc hb1.size _
  have V3 : Cell1 w2 w1.heap.size (.slice pa pn pc) 150 := by rw [hw2]; exact Cell1.new w1 _ _
  have hsz2 : w2.heap.size = w1.heap.size + 1 := by rw [hw2]; simp
  have HB1 := Lib.hid (hb1.trans hb2)
  have HO := Lib.hid (hO.reads.same (by rw [hw2]; exact alloc_old w1 _) : NatS w2.heap (.slice pa pn pc) (ordL ds))
  have hpn : pn = ds.length := by
    obtain ⟨_, _, hv⟩ := hO.reads.len
    simp only [Value.slice.injEq] at hv
    rw [hv.2.1, HOL.out]
  subst hpn
  have HV3 := Lib.hid V3; have HSZ2 := Lib.hid hsz2; have HW2 := Lib.hid hw2
  have HV1b := Lib.hid (HV1.out.kept HB1.out.block); have HV2b := Lib.hid (HV2.out.kept HB1.out.block); have HBB := Lib.hid (HB0.out.trans (HB1.out.mono HB0.out.size))
  clear hO hb1 hb2 V3 hsz2 hw2 BD HW
  have hs0 := HBB.out.size
  go_wp2_with fail
  rw [← HW2.out]
  clear HW2
  go_loopw [6, 14] (fun s i wr => ∃ k : Nat, k ≤ ds.length ∧ i = .int .i64 k ∧ OwnI wr w2.heap.size s ((srtD ds).take k) ∧ Below w2.heap.size w2 wr) (fun _ i _ => ds.length - (intOf i).toNat)
  case atStart => exact ⟨0, Nat.zero_le _, rfl, by rw [← HSZ2.out]; exact ownI_empty (Nat.le_refl _), (Below.refl _ _).alloc (Nat.le_refl _) _⟩
  case round =>
    obtain ⟨k, hk, rfl, hS, hbl⟩ := hrel
    obtain ⟨qa, qn, qc, rfl⟩ := own_shape hS
    have hsz3 := hbl.size
    have HSO := Lib.hid hS; have HBL := Lib.hid hbl
    clear hS hbl
    by_cases hlt : k < ds.length
    · obtain ⟨b1, o1, c1, hv1, hc1⟩ := HO.out.at k (by rw [HOL.out]; exact hlt)
      rw [HOL.out] at hv1
      simp only [Value.slice.injEq, true_and] at hv1
      obtain ⟨rfl, rfl⟩ := hv1
      have hc1 := (HBL.out.cell (World.block_lt_of_cell? _ _ (hc1 w2 rfl))).trans (hc1 w2 rfl)
      have hi := ordL_at HS.out k hlt
      have HTK := Lib.hid (srtD_take ds k (by rw [HOL.out]; exact hlt))
      generalize (ordL ds).getD k 0 = i at *
      obtain ⟨b2, o2, c2, hv2, hc2, -⟩ := H0.out.at i hi
      simp only [Value.slice.injEq, true_and] at hv2
      obtain ⟨rfl, rfl⟩ := hv2
      have hc3 := (HBB.out.cell (World.block_lt_of_cell? _ _ hc2)).trans hc2
      have hc2 := (HBL.out.cell (World.block_lt_of_cell? _ _ hc3)).trans hc3
      rw [show ds[i] = ds.getD i 0 by simp [hi]] at hc2
      clear hc3
      have hi2 : (i : Int) < (ds.length : Int) := by omega
      have hln : ((srtD ds).take k).length ≤ 4398046511104 := by rw [List.length_take]; omega
      generalize ds.getD i 0 = x at *
      go_wp2_with (at_builtin; refine append_int (w := wr) rfl _ _ rfl _ _ _ x HSO.out rfl HBL.out hsz3 _ rfl (by simp) hln ?_; intro v' w' hown' hbl' _ _; obtain ⟨pv, nv, cv, rfl⟩ := own_shape hown')
      go_roundw
      case rel => exact ⟨k + 1, by omega, by go_num, by rw [HTK.out]; exact hown', hbl'⟩
      case measure => simp [intOf]; omega
    · obtain rfl : k = ds.length := by omega
      have hS2 := HSO.out.ints
      rw [List.take_of_length_le (by rw [HSL.out]; exact Nat.le_refl _)] at hS2
      have MO := moduleOf_c _ (srtD ds) 171 #[.pointer (some ⟨w.heap.size, 0, none⟩), .pointer (some ⟨w1.heap.size, 0, none⟩)] (oSq ds sq) wr hS2 (by rw [HSL.out]; exact hl) enters_ordered1 (fun n b => Int.natCast_nonneg _)
        (fun w3 hb3 n b h1 h2 h3 => by
          rw [HSL.out] at h3
          have hB3 := HBL.out.trans (hb3.mono hsz3)
          have hB4 := HBB.out.trans (hB3.mono hs0)
          refine (ordered1_c ds HS.out hl sq n b w.heap.size w1.heap.size K caps _ w3 (HV1b.out.kept hB3.block).c0 (HV3.out.kept hB3.block).c0 (HO.out.same hB3.block) HE.out h3 (HQ.out n _ h1 h2 (ordL_at HS.out b h3)) (fun m => ?_)).mono fun e w' ⟨he, m, hw⟩ => ⟨he, by rw [hw]; exact below_drewN m (Below.refl _ _)⟩
          refine (HF.out (w3.drewN m) (below_drewN m hB4) n _ h1 h2 (ordL_at HS.out b h3)).mono fun e w' ⟨he, q, hw⟩ => ⟨he, m + q, by rw [hw, World.drewN_drewN]⟩)
      rw [HSL.out] at MO
      have HMO := Lib.hid MO
      clear MO hS2
      go_wp2_with (go_at_call 119; refine HMO.out.mono ?_; rintro e w4 ⟨d, a, us, rfl, hM, hb4⟩; obtain ⟨da, dn, dc, rfl⟩ := own_shape hM.deg; obtain ⟨aa, an, ac, rfl⟩ := own_shape hM.act.row; have VR := HV2b.out.kept (HBL.out.trans (hb4.mono hsz3)).block; have e0 := VR.c0; have e1 := VR.c1; have f0 := VR.free 0; have f1 := VR.free 1; have HR := Lib.hid VR; have HM := Lib.hid hM; have HB4 := Lib.hid (HBB.out.trans ((HBL.out.trans (hb4.mono hsz3)).mono hs0)); have hsz4 := hb4.size; clear hM VR hb4)
      have W4 := HR.out.set0 (.slice da dn dc)
      have g0 := W4.c0
      have g1 := (W4.set1 (.slice aa an ac)).c1
      exact bodyPost_ret (v := .agg #[.slice da dn dc, .slice aa an ac]) (by simp [results, Try.results124, go_sem, g0, g1]) rfl
        ⟨_, _, us, rfl, ((HM.out.setVar HR.out (by decide) (by decide) _).setVar W4 (by decide) (by decide) _).base (Nat.le_trans hs0 hsz3), (HB4.out.setCell (by show w.heap.size ≤ w.heap.size + 1; omega) _).setCell (by show w.heap.size ≤ w.heap.size + 1; omega) _⟩
end Go.Proofs.Ytljfpkhgijangaa

/- Arguments of the type Module, and whether one is a module: of the reference. -/
import Derived.Test.YtljfpkhgijangaaLArg
import Derived.Test.YtljfpkhgijangaaBaseM
import Derived.Test.YtljfpkhgijangaaLMod
import Derived.Test.YtljfpkhgijangaaLMs3
import Derived.Test.YtljfpkhgijangaaFn
namespace Go.Proofs.Ytljfpkhgijangaa
open Go.RowKit Go.Sort

def szM (len : Nat) (act : List (List Int)) (left : Nat) : Int := if len + (act.length + cnt act) ≤ left then (left : Int) - (len + (act.length + cnt act) : Nat) else -1
theorem szModule_c (a : Option Addr) (len cap : Nat) (b : Option Addr) (l2 c2 : Nat) (act : List (List Int)) (left : Nat) (w : World) (hl : len ≤ 9223372036854775807) (h : IsRows w b l2 act) (h1 : left ≤ 1048576) :
    Calls Try.prog 44 #[.agg #[.slice a len cap, .slice b l2 c2], .int .i64 left] w fun e w' => e = .returned (.int .i64 (szM len act left)) ∧ Below w.heap.size w w' := by
  have hb : Below w.heap.size w (w.alloc (.cells #[.slice a len cap, .slice b l2 c2] 58)) := (Below.refl _ _).alloc (Nat.le_refl _) _
  have S1 := Lib.hid (szInt64S_c a len cap left (w.alloc (.cells #[.slice a len cap, .slice b l2 c2] 58)) h1 hl)
  have V := two_new w (.slice a len cap) (.slice b l2 c2) 58
  have HB := Lib.hid hb
  have k1 := V.1; have k2 := V.2
  by_cases hs : len ≤ left
  · rw [if_pos hs] at S1
    have S2 := Lib.hid (szInt64SS_c b l2 c2 act (left - len) _ (h.same hb.block hb.size) (by omega))
    rw [show ((left - len : Nat) : Int) = (left : Int) - len by omega] at S2
    have t1 : decide ((left : Int) - len < 0) = false := by simp; omega
    have e : szM len act left = szR act (left - len) := by unfold szM szR; split <;> split <;> omega
    rw [e]
    by_cases hn : szR act (left - len) < 0
    · have e2 : szR act (left - len) = -1 := by unfold szR at *; split at hn <;> omega
      rw [e2] at S2 ⊢
      clear e e2 hn hs h hb V
      go_enter Try.func44, Try.ntmps44
      go_wp2_with (first | (go_at_call 113; refine S1.out.mono ?_; rintro e w1 ⟨rfl, rfl⟩) | (go_at_call 103; refine S2.out.mono ?_; rintro e w1 ⟨rfl, rfl⟩))
      go_ret
      exact ⟨rfl, HB.out⟩
    · generalize szR act (left - len) = s at *
      have t2 : decide (s < 0) = false := by simpa using hn
      clear e hs h hb V
      go_enter Try.func44, Try.ntmps44
      go_wp2_with (first | (go_at_call 113; refine S1.out.mono ?_; rintro e w1 ⟨rfl, rfl⟩) | (go_at_call 103; refine S2.out.mono ?_; rintro e w1 ⟨rfl, rfl⟩))
      go_ret
      exact ⟨rfl, HB.out⟩
  · rw [if_neg hs] at S1
    have e : szM len act left = -1 := by unfold szM; rw [if_neg (by omega)]
    rw [e]
    clear e hs h hb V
    go_enter Try.func44, Try.ntmps44
    go_wp2_with (go_at_call 113; refine S1.out.mono ?_; rintro e w1 ⟨rfl, rfl⟩)
    go_ret
    exact ⟨rfl, HB.out⟩
set_option maxRecDepth 100000 in
set_option maxHeartbeats 1000000 in
theorem toModule_c (a : Option Addr) (len cap : Nat) (zs : List Int) (b : Option Addr) (l2 c2 : Nat) (act : List (List Int)) (w : World) (hz : IsRow .i64 w a len cap zs) (h : IsRows w b l2 act) (h1 : len ≤ 1048576) (h2 : act.length + cnt act ≤ 1048576) :
    Calls Try.prog 46 #[.agg #[.slice a len cap, .slice b l2 c2]] w fun e w' => ∃ d v us, e = .returned (.agg #[d, v]) ∧ OwnM w' w.heap.size d v us (zs.take len) act ∧ Below w.heap.size w w' := by
  obtain ⟨w3, hw3⟩ : ∃ w3, w3 = ((w.alloc (.cells #[.slice a len cap, .slice b l2 c2] 58)).alloc (.cells #[.slice none 0 0, .slice none 0 0] 60)).alloc (.cells #[.slice none 0 0, .slice none 0 0] 60) := ⟨_, rfl⟩
  have hb : Below w.heap.size w w3 := by rw [hw3]; exact (((Below.refl _ _).alloc (Nat.le_refl _) _).alloc (by simp) _).alloc (by simp; omega) _
  have hsz : w3.heap.size = w.heap.size + 3 := by rw [hw3]; simp
  have V0 : Var2 w3 w.heap.size (.slice a len cap) (.slice b l2 c2) 58 := by rw [hw3]; exact ((Var2.new w _ _ _).kept (alloc_old _ _)).kept (alloc_old _ _)
  have V1 : Var2 w3 (w.heap.size + 1) (.slice none 0 0) (.slice none 0 0) 60 := by
    rw [hw3]
    have := (Var2.new (w.alloc (.cells #[.slice a len cap, .slice b l2 c2] 58)) (.slice none 0 0) (.slice none 0 0) 60).kept (alloc_old _ (.cells #[.slice none 0 0, .slice none 0 0] 60))
    rw [size_alloc_w] at this
    exact this
  have V2 : Var2 w3 (w.heap.size + 1 + 1) (.slice none 0 0) (.slice none 0 0) 60 := by
    rw [hw3]
    have := Var2.new ((w.alloc (.cells #[.slice a len cap, .slice b l2 c2] 58)).alloc (.cells #[.slice none 0 0, .slice none 0 0] 60)) (.slice none 0 0) (.slice none 0 0) 60
    rw [size_alloc_w, size_alloc_w] at this
    exact this
  have T1 := Lib.hid (toInt64S_c a len cap zs w3 (hz.same hb.block) h1)
  have T2 := Lib.hid (fun (W : World) (hW : Below w.heap.size w W) => toInt64SS_c b l2 c2 act W (h.same hW.block hW.size) h2)
  have HB := Lib.hid hb; have HSZ := Lib.hid hsz; have H0 := Lib.hid V0; have H1 := Lib.hid V1; have H2 := Lib.hid V2
  clear hb hsz V0 V1 V2 hz h h1 h2
  have HW := Lib.hid hw3
  clear hw3
  go_enter Try.func46, Try.ntmps46
  go_wp2_with fail
  rw [← HW.out]
  refine T1.out.mono ?_
  rintro e w4 ⟨d, rfl, hd, hb4⟩
  obtain ⟨da, dn, dc, rfl⟩ := own_shape hd
  have V0 := H0.out.kept hb4.block
  have V1 := H1.out.kept hb4.block
  have V2 := H2.out.kept hb4.block
  have f0 := V2.free 0; have e0 := V2.c0; have g1 := V0.c1
  have q0 := V0.lt; have q1 := V1.lt; have q2 := V2.lt
  obtain ⟨w5, hw5⟩ : ∃ w5, w5 = w4.setCell ⟨w.heap.size + 1 + 1, 0, none⟩ (.slice da dn dc) := ⟨_, rfl⟩
  have HB5 : Hid (Below w.heap.size w w5) := by show Below _ _ _; rw [hw5]; exact (HB.out.trans (hb4.mono (by have := HSZ.out; omega))).setCell (by show w.heap.size ≤ w.heap.size + 1 + 1; omega) _
  have D5 : Hid (OwnI w5 w.heap.size (.slice da dn dc) (zs.take len)) := by show OwnI _ _ _ _; rw [hw5]; exact OwnI.setVar (own_base hd (by have := HSZ.out; omega)) V2 (by decide) _
  have A0 : Hid (Var2 w5 w.heap.size (.slice a len cap) (.slice b l2 c2) 58) := by show Var2 _ _ _ _ _; rw [hw5]; exact V0.setFar _ (by show w.heap.size ≠ w.heap.size + 1 + 1; omega) _
  have A1 : Hid (Var2 w5 (w.heap.size + 1) (.slice none 0 0) (.slice none 0 0) 60) := by show Var2 _ _ _ _ _; rw [hw5]; exact V1.setFar _ (by show w.heap.size + 1 ≠ w.heap.size + 1 + 1; omega) _
  have A2 : Hid (Var2 w5 (w.heap.size + 1 + 1) (.slice da dn dc) (.slice none 0 0) 60) := by show Var2 _ _ _ _ _; rw [hw5]; exact V2.set0 _
  have HW5 := Lib.hid hw5
  clear hd hb4 V0 V1 V2 hw5 T1
  go_wp2_with fail
  rw [← HW5.out]
  clear HW5 f0 e0 g1 q0 q1 q2
  refine (T2.out _ HB5.out).mono ?_
  rintro e w6 ⟨v, rfl, ⟨us, hU⟩, hb6⟩
  obtain ⟨va, vn, vc, rfl⟩ := own_shape hU.row
  have V0 := A0.out.kept hb6.block
  have V1 := A1.out.kept hb6.block
  have V2 := A2.out.kept hb6.block
  have f1 := V2.free 1; have e1 := V2.c1; have e0 := V2.c0
  have p0 := V1.c0; have p1 := V1.c1; have pf0 := V1.free 0; have pf1 := V1.free 1
  have HU := Lib.hid hU; have HB6 := Lib.hid hb6; have D6 := Lib.hid (D5.out.same hb6.block); have K1 := Lib.hid V1; have K2 := Lib.hid V2
  have hsz5 : w.heap.size + 2 < w5.heap.size := A2.out.lt
  clear hU hb6 V0 V1 V2
  go_wp2_with fail
  have M6 : OwnM w6 w.heap.size (.slice da dn dc) (.slice va vn vc) us (zs.take len) act := by
    refine ⟨D6.out, ⟨own_base HU.out.row HB5.out.size, fun i u xs hu hx => own_base (HU.out.each i u xs hu hx) HB5.out.size, HU.out.apart⟩, ?_⟩
    intro u hu
    cases hb : (Value.slice da dn dc).ownBlock with
    | none => exact .inl rfl
    | some b =>
      right
      intro e
      obtain ⟨i, hi, rfl⟩ := List.getElem_of_mem hu
      have hl := HU.out.len
      have h1 := (World.ownsRow.lt D5.out b hb).2
      have h2 := (World.ownsRow.lt (HU.out.each i _ _ (List.getElem?_eq_getElem hi) (List.getElem?_eq_getElem (show i < act.length by omega))) b e.symm).1
      omega
  have B6 := HB5.out.trans (HB6.out.mono HB5.out.size)
  have W1 := K1.out.setFar ⟨w.heap.size + 1 + 1, 1, none⟩ (by show w.heap.size + 1 ≠ w.heap.size + 1 + 1; omega) (.slice va vn vc)
  have W2 := W1.set0 (.slice da dn dc)
  have W3 := W2.set1 (.slice va vn vc)
  have r0 := W3.c0; have r1 := W3.c1
  exact bodyPost_ret (v := .agg #[.slice da dn dc, .slice va vn vc]) (by simp [results, Try.results46, go_sem, r0, r1]) rfl
    ⟨_, _, us, rfl, ((M6.setVar K2.out (by decide) (by decide) _).setVar W1 (by decide) (by decide) _).setVar W2 (by decide) (by decide) _, ((B6.setCell (by show w.heap.size ≤ w.heap.size + 1 + 1; omega) _).setCell (by show w.heap.size ≤ w.heap.size + 1; omega) _).setCell (by show w.heap.size ≤ w.heap.size + 1; omega) _⟩
theorem own_len {w : World} {B : Nat} {ra : Option Addr} {rn rc : Nat} {xs : List Int} (h : OwnI w B (.slice ra rn rc) xs) : rn = xs.length := by
  obtain ⟨_, _, hv, _⟩ := h.ints.len
  simp only [Value.slice.injEq] at hv
  exact hv.2.1
set_option maxRecDepth 100000 in
set_option maxHeartbeats 1000000 in
theorem l11Is_c (d a : Value) (ds : List Int) (act : List (List Int)) (w : World) (h : ModS w.heap d a ds act) :
    Calls Try.prog 114 #[.agg #[d, a]] w fun e w' => e = .returned (.bool (isMod ds act)) ∧ Below w.heap.size w w' := by
  have hb : Below w.heap.size w (w.alloc (.cells #[d, a] 60)) := (Below.refl _ _).alloc (Nat.le_refl _) _
  have V := two_new w d a 60
  have hM := h.same hb.block
  have I := Lib.hid (l11Shape_c d a ds act _ hM)
  have HE : Hid (isMod ds act = (modT ds act && decide (fltL ds act = []))) := rfl
  have F := Lib.hid (fun (W : World) (h : ModS W.heap d a ds act) (hT : modT ds act = true) => l11Fault_c d a ds act W h hT)
  obtain ⟨ao, ac, hv, hm⟩ := h.1.len
  obtain ⟨bo, bc, hv2, hm2⟩ := h.2.len
  subst hv; subst hv2
  have H0 := Lib.hid h; have HB := Lib.hid hb; have HV := Lib.hid V; clear h hM hb V
  have k1 := HV.out.1; have k2 := HV.out.2
  cases hT : modT ds act
  · rw [hT] at I HE
    clear hT F
    go_enter Try.func114, Try.ntmps114
    go_wp2_with (go_at_call 164; refine I.out.mono ?_; rintro e w1 ⟨rfl, hb1⟩)
    go_ret
    exact ⟨by rw [HE.out]; rfl, HB.out.trans (hb1.mono HB.out.size)⟩
  · have HT := Lib.hid hT
    rw [hT, Bool.true_and] at HE
    rw [hT] at I
    clear hT
    have HX : Hid (∀ n, n = (fltL ds act).length → decide (fltL ds act = []) = ((n : Int) == 0)) := fun n hn => by
      subst hn
      cases fltL ds act <;> simp
      omega
    go_enter Try.func114, Try.ntmps114
    go_wp2_with (first | (go_at_call 164; refine I.out.mono ?_; rintro e w1 ⟨rfl, hb1⟩; have k3 := (hb1.cell (World.block_lt_of_cell? _ _ k1)).trans k1; have k4 := (hb1.cell (World.block_lt_of_cell? _ _ k2)).trans k2; have HB1 := Lib.hid (HB.out.trans (hb1.mono HB.out.size)); clear hb1) | (go_at_call 165; refine (F.out _ (H0.out.same HB1.out.block) HT.out).mono ?_; rintro e w2 ⟨r, rfl, hr, hb2⟩; obtain ⟨ra, rn, rc, rfl⟩ := own_shape hr; have hrn := own_len hr; have HR := Lib.hid (own_base hr HB1.out.size); have HB2 := Lib.hid (HB1.out.trans (hb2.mono HB1.out.size)); clear hr hb2))
    go_ret
    exact ⟨by rw [HE.out, HX.out _ rfl]; rfl, HB2.out⟩
end Go.Proofs.Ytljfpkhgijangaa

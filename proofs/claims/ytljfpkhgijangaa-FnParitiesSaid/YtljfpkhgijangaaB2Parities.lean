/- Texts that lie in one file here: LBas LBas2 LPty15 LPty16 LPty1 LPty2 LPty5 LPty6 LPty7 LPty8 LPty9 LPty10 LPty12 LPty13 LPty3 LPty4 LPty14 LCptP LCpt LOnesP LOnes LMsu1 LMsu2 LSort LPty17. -/
import Derived.Test.YtljfpkhgijangaaLFill
import Derived.Test.YtljfpkhgijangaaLMulD
import Derived.Test.YtljfpkhgijangaaLAdd2
import Derived.Test.YtljfpkhgijangaaLPty11
import Derived.Test.YtljfpkhgijangaaLCopy
import Derived.Test.YtljfpkhgijangaaLDeg
import Derived.Test.YtljfpkhgijangaaLTab
import Derived.Test.YtljfpkhgijangaaLBound
import Derived.Test.YtljfpkhgijangaaLGen
import Derived.Test.YtljfpkhgijangaaLMil
import Derived.Test.YtljfpkhgijangaaLSrc2
import Derived.Test.YtljfpkhgijangaaLSum
import Derived.Test.YtljfpkhgijangaaLAllS
import Derived.Test.YtljfpkhgijangaaLPart
import Derived.WalkKit
import Derived.Test.YtljfpkhgijangaaLMilArg
import Derived.Test.YtljfpkhgijangaaLHeld
import Derived.Test.YtljfpkhgijangaaLCmp
import Derived.Test.YtljfpkhgijangaaLib4
import Derived.Test.YtljfpkhgijangaaLMil2
import Derived.Test.YtljfpkhgijangaaLRef
import Derived.Test.YtljfpkhgijangaaLSortLay
import Derived.Shelf.SlSortCmp.NoneTotal
import Derived.Test.YtljfpkhgijangaaBParities
namespace Go.Proofs.Ytljfpkhgijangaa
section
open Go.RowKit Go.Sort

theorem cell_var3 {w w' : World} {g t : Nat} {a b c d : Value} (h : w'.heap[g]? = w.heap[g]?) (k : w.heap[g]? = some (.cells #[a, b, c, d] t (0, 0))) : w'.cell? ⟨g, 2, none⟩ = some c := by
  have := h.trans k
  rw [World.cell?]; simp only [this]; rfl
theorem free_var3 {w w' : World} {g t : Nat} {a b c d : Value} (h : w'.heap[g]? = w.heap[g]?) (k : w.heap[g]? = some (.cells #[a, b, c, d] t (0, 0))) : w'.frozen? ⟨g, 2, none⟩ = false := by
  have := h.trans k
  rw [World.frozen?]; simp only [this]; simp
theorem replicate_snoc {α : Type} (x : α) (k : Nat) : List.replicate (k + 1) x = List.replicate k x ++ [x] := List.replicate_succ'
theorem zero_rep (m n : Nat) : ZeroFrom n (List.replicate m (List.replicate n 0)) 0 := by
  intro i j hj _
  by_cases hi : i < m
  · simp [hi, hj]
  · simp [hi]
theorem rep_sm {b : Int} (hb : 0 ≤ b) (m n : Nat) : ∀ x ∈ List.replicate m (List.replicate n (0 : Int)), Sm b x := by
  intro x hx
  rw [(List.mem_replicate.1 hx).2]
  intro y hy
  rw [(List.mem_replicate.1 hy).2]; omega
theorem rep_len (m n : Nat) : ∀ x ∈ List.replicate m (List.replicate n (0 : Int)), x.length = n := by
  intro x hx
  rw [(List.mem_replicate.1 hx).2]; simp
end
section
open Go.RowKit Go.Sort

theorem prods_prefix (a b : List (List Int)) (i y : Nat) (hi : i < a.length) (hy : y < b.length) : (prodsL (a.take i) b).length + ((b.take y).flatMap (basL a[i])).length + (basL a[i] b[y]).length ≤ (prodsL a b).length := by
  have e1 : prodsL a b = prodsL (a.take (i + 1)) b ++ prodsL (a.drop (i + 1)) b := by
    unfold prodsL; rw [← List.flatMap_append, List.take_append_drop]
  have e2 : b.flatMap (basL a[i]) = (b.take (y + 1)).flatMap (basL a[i]) ++ (b.drop (y + 1)).flatMap (basL a[i]) := by
    rw [← List.flatMap_append, List.take_append_drop]
  have e3 : (b.take (y + 1)).flatMap (basL a[i]) = (b.take y).flatMap (basL a[i]) ++ basL a[i] b[y] := by
    rw [List.take_succ_eq_append_getElem hy, List.flatMap_append]; simp
  rw [e1, prodsL_take a b i hi, e2, e3]
  simp only [List.length_append]
  omega
theorem RefR.keep {w w' : World} {B : Nat} {v : Value} {us : List Value} {xss : List (List Int)} (a : RefR w' B w.heap v us xss) (k : KeepI w w') : RefR w' B w'.heap v us xss := ⟨a.row, fun i u xs hu hx => (a.each i u xs hu hx).keep k⟩
end
section
open Go.RowKit Go.Sort

theorem grown_below3 {w a b : World} {r : Option Nat} (h : w.grownBy a r) (k : Below w.heap.size a b) : w.grownBy b r :=
  ⟨k.os.trans h.os, k.tape.trans h.tape, k.output.trans h.output, Nat.le_trans h.size k.size, fun i hi hr => (k.block i hi).trans (h.block i hi hr)⟩
theorem grown_refl (w : World) (r : Option Nat) : w.grownBy w r := ⟨rfl, rfl, rfl, Nat.le_refl _, fun _ _ _ => rfl⟩
/-- One more row of references, at the end of a list of the call's own. -/
theorem refs_one {ops : Array Oper} {rest : List Oper} {o : Oper} {a : Act} {Q : Exit → Act → World → Prop} {w0 w W : World} {g B : Nat} {v u : Value} {us : List Value} {xss : List (List Int)} {xs : List Int} (hg : o.guard = none) (s x : Operand)
    (ho : o.op = .call { callee := .builtin .append, args := #[s, x], argTypes := #[36, 36] })
    (hR : RefR w B w.heap v us xss) (hs : a.eval s = v) (hB : B ≤ w.heap.size) (hW : Below w.heap.size w W) (hu : IntS W.heap u xs) (b : Nat) (hb : b = W.heap.size) (hx : a.eval x = .slice (some ⟨b, 0, none⟩) 1 1) (hl : xss.length ≤ 1000)
    (hS : Src w0 w g) (hgB : g < B) (hwB : w0.heap.size ≤ B)
    (hK : ∀ v' w', IntSS w'.heap v' (xss ++ [xs]) → v'.oneCell' = true → (∃ c1 c2 c3, v' = .slice c1 c2 c3) → Src w0 w' g → (∀ {w1 : World}, B ≤ w1.heap.size → B = w1.heap.size → w1.grownBy w (some g) → w1.grownBy w' (some g)) → wpList Try.prog ops Q rest (a.put o.dst v') w') :
    wpList Try.prog ops Q (o :: rest) a (W.alloc (.cells #[u] 27)) := by
  subst hb
  have hbl : Below w.heap.size w (W.alloc (.cells #[u] 27)) := hW.alloc hW.size _
  refine append_refs hg s x ho B (W.alloc (.cells #[u] 27)).heap v _ us xss [xs] ((hR.same hbl.block).grow hbl.block) hs ((one_row hu).at2 (fun _ _ => rfl)) hx (hbl.mono hB) (Nat.le_trans hB hbl.size) (by simp; omega) ?_
  intro v' us' w' h1 h2 h3 h4
  have hk : KeepI (W.alloc (.cells #[u] 27)) w' := KeepI.grown (own_same hR.row hbl.block) (by decide) h4
  have h5 := h1.keep hk
  refine hK v' w' h5.intsS (own_oneCell h5.row) (own_shape h5.row) (hS.step2 h2 hgB hwB) ?_
  intro w1 _ e hw1
  exact grown_below3 hw1 (e ▸ h2)
set_option maxRecDepth 100000 in
set_option maxHeartbeats 2000000 in
theorem l01DrawTerms_c (g : Nat) (w0 w : World) (hs : Src w0 w g) :
    Calls Try.prog 92 #[.pointer (some ⟨g, 0, none⟩)] w fun e w' => ∃ r xss, e = .returned r ∧ IntSS w'.heap r xss ∧ xss.length ≤ 100 ∧ (∀ x ∈ xss, x.length ≤ 100) ∧ Src w0 w' g ∧ w.grownBy w' (some g) := by
  have hb1 : Below w.heap.size w (w.alloc (.cells #[] 27)) := (Below.refl _ _).alloc (Nat.le_refl _) _
  have HS := Lib.hid (hs.step hb1)
  have HR := Lib.hid (ref_empty (w := w) (B := w.heap.size) (w.alloc (.cells #[] 27)).heap (Nat.le_refl _))
  have HG := Lib.hid (grownBy_below (r := some g) hb1)
  have HGL := Lib.hid hs.lt
  have HWB := Lib.hid hs.below.size
  obtain ⟨W1, hW1⟩ : ∃ W1, W1 = w.alloc (.cells #[] 27) := ⟨_, rfl⟩
  rw [← hW1] at HS HR HG
  have HW1 := Lib.hid hW1
  clear hs hb1 hW1
  go_enter Try.func92, Try.ntmps92
  go_wp2_with fail
  rw [← HW1.out]
  clear HW1
  refine (l01Next_pos g 4 w0 _ HS.out (by omega) (by omega)).mono ?_
  rintro e w2 ⟨r2, rfl, ⟨h20, h21⟩, hs2, hg2⟩
  have HR2 := Lib.hid (HR.out.past HS.out hg2)
  have HS2 := Lib.hid hs2
  have HG2 := Lib.hid (grownBy_trans HG.out hg2)
  clear hs2 hg2 HR HS HG
  go_wp2_with fail
  refine (l01Next_pos g 10 w0 _ HS2.out (by omega) (by omega)).mono ?_
  rintro e w3 ⟨r3, rfl, ⟨h30, h31⟩, hs3, hg3⟩
  have HR3 := Lib.hid (HR2.out.past HS2.out hg3)
  have HS3 := Lib.hid hs3
  have HG3 := Lib.hid (grownBy_trans HG2.out hg3)
  clear hs3 hg3 HR2 HS2 HG2
  go_wp2_with fail
  refine (pick_lit g w0 w3 [r2, r3] HS3.out (by simp) (by simp)).mono ?_
  rintro e w4 ⟨r4, rfl, hr4, hs4, hg4⟩
  obtain ⟨k0, rfl, hk0⟩ : ∃ k0 : Nat, r4 = k0 ∧ k0 ≤ 10 := ⟨r4.toNat, by simp at hr4; omega, by simp at hr4; omega⟩
  have HR4 := Lib.hid (HR3.out.past HS3.out hg4)
  have HS4 := Lib.hid hs4
  have HG4 := Lib.hid (grownBy_trans HG3.out hg4)
  clear hs4 hg4 HR3 HS3 HG3 hr4 h20 h21 h30 h31
  go_wp2_with fail
  go_loopw [3, 4] (fun o i wr => ∃ (k : Nat) (us : List Value) (xss : List (List Int)), i = .int .i64 k ∧ xss.length + k ≤ 10 ∧ RefR wr w.heap.size wr.heap o us xss ∧ (∀ x ∈ xss, x.length ≤ 10) ∧ Src w0 wr g ∧ w.grownBy wr (some g)) (fun _ i _ => (intOf i).toNat)
  case atStart => exact ⟨k0, _, [], rfl, by simpa using hk0, HR4.out, fun x hx => by simp at hx, HS4.out, HG4.out⟩
  case round =>
    clear HR4 HS4 HG4 hk0
    obtain ⟨k, us, xss, rfl, hk, hR, hx, hS, hG⟩ := hrel
    obtain ⟨pa, pn, pc, rfl⟩ := own_shape hR.row
    have HR := Lib.hid hR; have HX := Lib.hid hx; have HS := Lib.hid hS; have HG := Lib.hid hG
    clear hR hx hS hG
    by_cases hk0 : 0 < k
    · have hb5 : Below wr.heap.size wr (wr.alloc (.cells #[] 2)) := (Below.refl _ _).alloc (Nat.le_refl _) _
      have HS5 := Lib.hid (HS.out.step hb5)
      have HG5 := Lib.hid (grownBy_below (r := some g) hb5)
      have HO5 := Lib.hid (ownI_empty (w := wr) (B := wr.heap.size) (Nat.le_refl _))
      obtain ⟨W5, hW5⟩ : ∃ W5, W5 = wr.alloc (.cells #[] 2) := ⟨_, rfl⟩
      rw [← hW5] at HS5 HG5 HO5
      have HW5 := Lib.hid hW5
      clear hb5 hW5
      go_wp2_with fail
      rw [← HW5.out]
      clear HW5
      refine (l01Next_pos g 4 w0 _ HS5.out (by omega) (by omega)).mono ?_
      rintro e w6 ⟨r6, rfl, ⟨h60, h61⟩, hs6, hg6⟩
      obtain ⟨n0, rfl, hn0⟩ : ∃ n0 : Nat, r6 = n0 ∧ n0 ≤ 3 := ⟨r6.toNat, by omega, by omega⟩
      have HGB := Lib.hid (Nat.lt_of_lt_of_le HGL.out HG.out.size)
      have HO6 := Lib.hid (HO5.out.past hg6 HGB.out)
      have HS6 := Lib.hid hs6
      have HG6 := Lib.hid (grownBy_trans HG5.out hg6)
      clear hs6 hg6 h60 h61 HO5 HS5 HG5
      go_wp2_with fail
      obtain ⟨WA, rfl⟩ : ∃ W : World, W = wr := ⟨_, rfl⟩
      go_loopw [5, 6] (fun l i wr => ∃ (n : Nat) (xs : List Int), i = .int .i64 n ∧ xs.length + n ≤ 3 ∧ OwnI wr WA.heap.size l xs ∧ Src w0 wr g ∧ WA.grownBy wr (some g)) (fun _ i _ => (intOf i).toNat)
      case atStart => exact ⟨n0, [], rfl, by simpa using hn0, HO6.out, HS6.out, HG6.out⟩
      case round =>
        clear HO6 HS6 HG6 hn0
        obtain ⟨n, xs, rfl, hn, hO, hS, hG⟩ := hrel
        obtain ⟨va, vn, vc, rfl⟩ := own_shape hO
        have HO := Lib.hid hO; have HSI := Lib.hid hS; have HGI := Lib.hid hG
        clear hO hS hG
        by_cases hn0 : 0 < n
        · go_wp2_with fail
          refine (l01Next_pos g 5 w0 _ HSI.out (by omega) (by omega)).mono ?_
          rintro e w7 ⟨r7, rfl, -, hs7, hg7⟩
          have HO7 := Lib.hid (HO.out.past hg7 HGB.out)
          have HS7 := Lib.hid hs7
          have HG7 := Lib.hid (grownBy_trans HGI.out hg7)
          have hz7 := HG7.out.size
          have hln : xs.length ≤ 4398046511104 := by omega
          clear hs7 hg7 HO HSI HGI
          go_wp2_with (at_builtin; refine append_int rfl _ _ rfl WA.heap.size _ xs _ HO7.out rfl (Below.refl _ _) hz7 _ rfl rfl hln ?_; intro v9 wA hO9 hb9 hzA _; obtain ⟨qa, qn, qc, rfl⟩ := own_shape hO9)
          go_roundw
          case rel => exact ⟨n - 1, _, by go_num, by simp; omega, hO9, HS7.out.step2 hb9 HGB.out (Nat.le_trans HWB.out HG.out.size), grown_below3 HG7.out hb9⟩
          case measure => simp [intOf]; omega
        · obtain rfl : n = 0 := by omega
          have HRR := Lib.hid (HR.out.past HS.out HGI.out)
          have PT := Lib.hid (l01PutR_c (.slice pa pn pc) (.slice va vn vc) xss xs wr HRR.out.intsS HO.out.ints (by omega) (by omega))
          have HXN : Hid (∀ x ∈ put xs xss, x.length ≤ 10) := fun x hx => by
            rcases mem_put_sub xs x xss hx with h | h
            · exact HX.out x h
            · subst h; omega
          have HLN : Hid ((put xs xss).length ≤ xss.length + 1) := put_length xs xss
          go_wp2_with fail
          refine PT.out.mono ?_
          rintro e w8 ⟨r8, rfl, ⟨us8, hR8⟩, hb8⟩
          obtain ⟨qa, qn, qc, rfl⟩ := own_shape hR8.row
          have HR8 := Lib.hid (hR8.base (Nat.le_trans HG.out.size HGI.out.size))
          have HS8 := Lib.hid (HSI.out.step hb8)
          have HG8 := Lib.hid (grown_below2 (grownBy_trans HG.out HGI.out) hb8)
          clear hR8 hb8 PT
          go_wp2_with fail
          go_roundw
          case rel => exact ⟨k - 1, us8, _, by go_num, by have := HLN.out; omega, HR8.out, HXN.out, HS8.out, HG8.out⟩
          case measure => simp [intOf]; omega
    · obtain rfl : k = 0 := by omega
      go_wp2_with fail
      refine (l01Next_pos g 30 w0 _ HS.out (by omega) (by omega)).mono ?_
      rintro e w9 ⟨r9, rfl, -, hs9, hg9⟩
      have HR9 := Lib.hid (HR.out.past HS.out hg9)
      have HS9 := Lib.hid hs9
      have HG9 := Lib.hid (grownBy_trans HG.out hg9)
      clear hs9 hg9 HR HS HG
      by_cases e0 : r9 = 0
      · subst e0
        go_wp2_with (at_builtin; refine refs_one (w0 := w0) (w := w9) (W := w9.alloc (.cells #[] 2)) (g := g) (B := w.heap.size) rfl _ _ rfl HR9.out rfl HG9.out.size ((Below.refl _ _).alloc (Nat.le_refl _) _) (ownI_empty (w := w9) (B := 0) (Nat.zero_le _)).ints _ (by rw [size_alloc_w]) rfl (by omega) HS9.out HGL.out HWB.out ?_; intro v' wA hA _ hsh hSA hGA; obtain ⟨z1, z2, z3, rfl⟩ := hsh)
        go_ret
        exact ⟨_, _, rfl, hA, by simp; omega, fun x hx => by
          rcases List.mem_append.1 hx with h | h
          · have := HX.out x h; omega
          · rw [List.mem_singleton] at h; subst h; simp, hSA, hGA (Nat.le_refl _) rfl HG9.out⟩
      · by_cases e1 : r9 = 1
        · subst e1
          have hmk := fun w => make_run (P := Try.prog) 27 2 _ 8 info_int64 Try.underlying27 rfl (by omega) 21 (by omega) .i64 .i64 21 21 rfl rfl w
          have hmo : IntS (w9.alloc (.cells (madeCells #[.int .i64 0] 21) 2)).heap (.slice (some ⟨w9.heap.size, 0, none⟩) 21 21) (List.replicate 21 0) := by
            have ho := made_own w9 w9.heap.size 2 21 (.int .i64 0) (Nat.le_refl _) (by omega)
            rw [show List.replicate 21 (Value.int .i64 0) = (List.replicate 21 (0 : Int)).map (Value.int .i64) by simp] at ho
            exact slAt_of_own ho
          have HMO := Lib.hid hmo
          clear hmo
          go_wp2_with (at_builtin; refine refs_one (w0 := w0) (w := w9) (W := w9.alloc (.cells (madeCells #[.int .i64 0] 21) 2)) (g := g) (B := w.heap.size) rfl _ _ rfl HR9.out rfl HG9.out.size ((Below.refl _ _).alloc (Nat.le_refl _) _) HMO.out _ (by rw [size_alloc_w]) rfl (by omega) HS9.out HGL.out HWB.out ?_; intro v' wA hA _ hsh hSA hGA; obtain ⟨z1, z2, z3, rfl⟩ := hsh)
          go_ret
          exact ⟨_, _, rfl, hA, by simp; omega, fun x hx => by
            rcases List.mem_append.1 hx with h | h
            · have := HX.out x h; omega
            · rw [List.mem_singleton] at h; subst h; simp, hSA, hGA (Nat.le_refl _) rfl HG9.out⟩
        · have u0 := (neB e0).1
          have u1 := (neB e1).1
          go_wp2_with fail
          go_ret
          exact ⟨_, xss, rfl, HR9.out.intsS, by omega, fun x hx => by have := HX.out x hx; omega, HS9.out, HG9.out⟩
end
section
open Go.RowKit Go.Sort

set_option maxRecDepth 100000 in
set_option maxHeartbeats 2000000 in
theorem l01DrawExponents_c (g : Nat) (w0 w : World) (hs : Src w0 w g) :
    Calls Try.prog 100 #[.pointer (some ⟨g, 0, none⟩)] w fun e w' => ∃ r xs, e = .returned r ∧ IntS w'.heap r xs ∧ Src w0 w' g := by
  have hb1 : Below w.heap.size w (w.alloc (.cells #[] 2)) := (Below.refl _ _).alloc (Nat.le_refl _) _
  have HS := Lib.hid (hs.step hb1)
  have HO := Lib.hid (ownI_empty (w := w) (B := w.heap.size) (Nat.le_refl _))
  have HG := Lib.hid (grownBy_below (r := some g) hb1)
  have HGL := Lib.hid hs.lt
  have HWB := Lib.hid hs.below.size
  obtain ⟨W1, hW1⟩ : ∃ W1, W1 = w.alloc (.cells #[] 2) := ⟨_, rfl⟩
  rw [← hW1] at HS HO HG
  have HW1 := Lib.hid hW1
  clear hs hb1 hW1
  go_enter Try.func100, Try.ntmps100
  go_wp2_with fail
  rw [← HW1.out]
  clear HW1
  refine (l01Next_pos g 4 w0 _ HS.out (by omega) (by omega)).mono ?_
  rintro e w2 ⟨r2, rfl, ⟨h20, h21⟩, hs2, hg2⟩
  have HO2 := Lib.hid (HO.out.past hg2 HGL.out)
  have HS2 := Lib.hid hs2
  have HG2 := Lib.hid (grownBy_trans HG.out hg2)
  clear hs2 hg2 HO HS HG
  go_wp2_with fail
  refine (l01Next_pos g 6 w0 _ HS2.out (by omega) (by omega)).mono ?_
  rintro e w3 ⟨r3, rfl, ⟨h30, h31⟩, hs3, hg3⟩
  have HO3 := Lib.hid (HO2.out.past hg3 HGL.out)
  have HS3 := Lib.hid hs3
  have HG3 := Lib.hid (grownBy_trans HG2.out hg3)
  clear hs3 hg3 HO2 HS2 HG2
  go_wp2_with fail
  refine (pick_lit g w0 w3 [r2, r3, 10] HS3.out (by simp) (by simp)).mono ?_
  rintro e w4 ⟨r4, rfl, hr4, hs4, hg4⟩
  obtain ⟨k0, rfl, hk0⟩ : ∃ k0 : Nat, r4 = k0 ∧ k0 ≤ 10 := ⟨r4.toNat, by simp at hr4; omega, by simp at hr4; omega⟩
  have HO4 := Lib.hid (HO3.out.past hg4 HGL.out)
  have HS4 := Lib.hid hs4
  have HG4 := Lib.hid (grownBy_trans HG3.out hg4)
  clear hs4 hg4 HO3 HS3 HG3 hr4 h20 h21 h30 h31
  go_wp2_with fail
  go_loopw [3, 4] (fun o i wr => ∃ (k : Nat) (xs : List Int), i = .int .i64 k ∧ xs.length + k ≤ 10 ∧ OwnI wr w.heap.size o xs ∧ Src w0 wr g ∧ w.heap.size ≤ wr.heap.size) (fun _ i _ => (intOf i).toNat)
  case atStart => exact ⟨k0, [], rfl, by simpa using hk0, HO4.out, HS4.out, HG4.out.size⟩
  case round =>
    clear HO4 HS4 HG4 hk0
    obtain ⟨k, xs, rfl, hk, hO, hS, hz⟩ := hrel
    obtain ⟨va, vn, vc, hsv⟩ := own_shape hO
    subst hsv
    have HO := Lib.hid hO; have HS := Lib.hid hS; have HZ := Lib.hid hz
    clear hO hS hz
    by_cases hk0 : 0 < k
    · go_wp2_with fail
      refine (l01Next_pos g 8 w0 _ HS.out (by omega) (by omega)).mono ?_
      rintro e w5 ⟨r5, rfl, -, hs5, hg5⟩
      have HO5 := Lib.hid (HO.out.past hg5 HGL.out)
      have HS5 := Lib.hid hs5
      have HZ5 := Lib.hid (Nat.le_trans HZ.out hg5.size)
      clear hs5 hg5 HO HS HZ
      go_wp2_with fail
      refine (l01Next_pos g 40 w0 _ HS5.out (by omega) (by omega)).mono ?_
      rintro e w6 ⟨r6, rfl, -, hs6, hg6⟩
      have HO6 := Lib.hid (HO5.out.past hg6 HGL.out)
      have HS6 := Lib.hid hs6
      have HZ6 := Lib.hid (Nat.le_trans HZ5.out hg6.size)
      clear hs6 hg6 HO5 HS5 HZ5
      go_wp2_with fail
      refine (pick_lit g w0 w6 [0, 1, r5, r6] HS6.out (by simp) (by simp)).mono ?_
      rintro e w7 ⟨r7, rfl, -, hs7, hg7⟩
      have HO7 := Lib.hid (HO6.out.past hg7 HGL.out)
      have HS7 := Lib.hid hs7
      have hz7 := Nat.le_trans HZ6.out hg7.size
      have hln : xs.length ≤ 4398046511104 := by omega
      clear hs7 hg7 HO6 HS6 HZ6
      go_wp2_with (at_builtin; refine append_int rfl _ _ rfl w.heap.size _ xs _ HO7.out rfl (Below.refl _ _) hz7 _ rfl rfl hln ?_; intro v9 wA hO9 hb9 hzA _; obtain ⟨qa, qn, qc, rfl⟩ := own_shape hO9)
      go_roundw
      case rel => exact ⟨k - 1, _, by go_num, by simp; omega, hO9, HS7.out.step2 hb9 HGL.out HWB.out, Nat.le_trans hz7 hzA⟩
      case measure => simp [intOf]; omega
    · obtain rfl : k = 0 := by omega
      obtain ⟨oa, oc, hsh, hlx⟩ := HO.out.ints.len
      simp only [Value.slice.injEq] at hsh
      obtain ⟨rfl, rfl, rfl⟩ := hsh
      go_wp2_with fail
      refine (l01Next_pos g 8 w0 _ HS.out (by omega) (by omega)).mono ?_
      rintro e w5 ⟨r5, rfl, -, hs5, hg5⟩
      have HO5 := Lib.hid (HO.out.past hg5 HGL.out)
      have HS5 := Lib.hid hs5
      have HZ5 := Lib.hid (Nat.le_trans HZ.out hg5.size)
      clear hs5 hg5 HO HS HZ
      by_cases e5 : r5 = 0
      · subst e5
        by_cases hl0 : 0 < xs.length
        · have tl : decide (0 < xs.length) = true := by simpa using hl0
          go_wp2_with fail
          refine (l01Next_pos g (xs.length : Int) w0 _ HS5.out (by omega) (by omega)).mono ?_
          rintro e w6 ⟨r6, rfl, ⟨h60, h61⟩, hs6, hg6⟩
          obtain ⟨j, rfl⟩ := Int.eq_ofNat_of_zero_le h60
          have HO6 := Lib.hid (HO5.out.past hg6 HGL.out)
          have HS6 := Lib.hid hs6
          have HZ6 := Lib.hid (Nat.le_trans HZ5.out hg6.size)
          clear hs6 hg6 HO5 HS5 HZ5
          go_wp2_with fail
          refine (l01Large_c g w0 _ HS6.out).mono ?_
          rintro e w7 ⟨y, rfl, hs7, hg7⟩
          have HO7 := Lib.hid (HO6.out.past hg7 HGL.out)
          obtain ⟨g7, cap7, hv7, hB7, hc7, hf7, hst7⟩ := own_store HO7.out j (by omega)
          simp only [Value.slice.injEq, true_and] at hv7
          obtain ⟨rfl, rfl⟩ := hv7
          rw [show (xs.map (Value.int .i64))[j]? = some (.int .i64 (xs.getD j 0)) by simp [show j < xs.length by omega]] at hc7
          have HO8 := Lib.hid (show OwnI (w7.setCell ⟨g7, j, none⟩ (.int .i64 y)) w.heap.size (.slice (some ⟨g7, 0, none⟩) xs.length vc) (xs.set j y) from by
            have := hst7 (.int .i64 y)
            unfold OwnI
            rw [List.length_set, List.map_set]; exact this)
          have hb8 : Below w.heap.size w7 (w7.setCell ⟨g7, j, none⟩ (.int .i64 y)) := (Below.refl _ _).setCell hB7 _
          have HS8 := Lib.hid (hs7.step2 hb8 HGL.out HWB.out)
          have hji : (j : Int) < xs.length := h61
          have HXL := Lib.hid (show (xs.set j y).length = xs.length by simp)
          clear hs7 hg7 HO6 HS6 HO7 hst7 hb8 hB7 h60 h61
          go_upto_region 8 with fail
          obtain ⟨W8, hW8⟩ : ∃ W8, W8 = w7.setCell ⟨g7, j, none⟩ (.int .i64 y) := ⟨_, rfl⟩
          rw [← hW8] at HO8 HS8
          rw [← hW8]
          clear hW8 hc7 hf7
          go_wp2_with fail
          refine (l01Next_pos g 12 w0 _ HS8.out (by omega) (by omega)).mono ?_
          rintro e wT ⟨rT, rfl, ⟨hT0, hT1⟩, hsT, hgT⟩
          have HST := Lib.hid hsT
          have HIT := Lib.hid ((HO8.out.past hgT HGL.out).ints)
          clear hsT hgT HS8 HO8
          by_cases eT : 0 < rT
          · go_wp2_with fail
            go_loopw [3] (fun o wr => ∃ (m : Nat) (oa : Option Addr) (oc : Nat), m ≤ xs.length ∧ o = .slice oa m oc ∧ IntS wr.heap (.slice oa m oc) ((xs.set j y).take m) ∧ wr = wT) (fun o _ => (match o with | .slice _ n _ => n | _ => 0))
            case atStart => exact ⟨xs.length, _, _, Nat.le_refl _, rfl, by rw [List.take_of_length_le (Nat.le_of_eq HXL.out)]; exact HIT.out, rfl⟩
            case round =>
              obtain ⟨m, oa, oc, hm, rfl, hI, rfl⟩ := hrel
              by_cases hm0 : 0 < m
              · obtain ⟨m1, rfl⟩ : ∃ m1, m = m1 + 1 := ⟨m - 1, by omega⟩
                have hlen : ((xs.set j y).take (m1 + 1)).length = m1 + 1 := by rw [List.length_take, HXL.out]; omega
                obtain ⟨b1, o1, c1, hv1, hc1, hmx⟩ := hI.at m1 (by omega)
                simp only [Value.slice.injEq, hlen] at hv1
                obtain ⟨rfl, -, rfl⟩ := hv1
                have HI2 := Lib.hid (show IntS wr.heap (.slice (some ⟨b1, o1, none⟩) m1 oc) ((xs.set j y).take m1) from by
                  have := IntS.take (a := (by rw [hlen]; exact hI : IntS wr.heap (.slice (some ⟨b1, o1, none⟩) ((xs.set j y).take (m1 + 1)).length oc) ((xs.set j y).take (m1 + 1)))) m1 (by omega)
                  rwa [List.take_take, Nat.min_eq_left (by omega)] at this)
                have HIX := Lib.hid hI
                have hcap : m1 + 1 ≤ oc := by
                  obtain ⟨b9, o9, cap9, cur9, hv9, -, h99, -⟩ := SlAt.at hI m1 (by rw [List.length_map, hlen]; omega)
                  simp only [Value.slice.injEq] at hv9
                  obtain ⟨-, -, rfl⟩ := hv9
                  rw [List.length_map, hlen] at h99; exact h99
                generalize ((xs.set j y).take (m1 + 1))[m1] = y at *
                clear hI hlen hmx
                by_cases hy : y = 0
                · subst hy
                  go_wp2_with fail
                  go_roundw
                  case rel => exact ⟨m1, _, _, by omega, rfl, HI2.out, by simp⟩
                  case measure => simp
                · have v0 := (neB hy).1
                  go_wp2_with fail
                  go_ret
                  exact ⟨_, _, rfl, HIX.out, HST.out⟩
              · obtain rfl : m = 0 := by omega
                have HIX := Lib.hid hI
                clear hI
                go_wp2_with fail
                go_ret
                exact ⟨_, _, rfl, HIX.out, HST.out⟩
          · have tT : decide (0 < rT) = false := by simp; omega
            go_wp2_with fail
            go_ret
            exact ⟨_, _, rfl, HIT.out, HST.out⟩
        · have tl : decide (0 < xs.length) = false := by simpa using hl0
          obtain ⟨zs, hzs⟩ : ∃ zs, zs = xs := ⟨_, rfl⟩
          have HXL := Lib.hid (show zs.length = xs.length by rw [hzs])
          have HO8 := Lib.hid (show OwnI w5 w.heap.size (.slice va xs.length vc) zs by rw [hzs]; exact HO5.out)
          clear hzs HO5
          go_upto_region 8 with fail
          go_wp2_with fail
          refine (l01Next_pos g 12 w0 _ HS5.out (by omega) (by omega)).mono ?_
          rintro e wT ⟨rT, rfl, ⟨hT0, hT1⟩, hsT, hgT⟩
          have HST := Lib.hid hsT
          have HIT := Lib.hid ((HO8.out.past hgT HGL.out).ints)
          clear hsT hgT HS5 HO8
          by_cases eT : 0 < rT
          · go_wp2_with fail
            go_loopw [3] (fun o wr => ∃ (m : Nat) (oa : Option Addr) (oc : Nat), m ≤ xs.length ∧ o = .slice oa m oc ∧ IntS wr.heap (.slice oa m oc) (zs.take m) ∧ wr = wT) (fun o _ => (match o with | .slice _ n _ => n | _ => 0))
            case atStart => exact ⟨xs.length, _, _, Nat.le_refl _, rfl, by rw [List.take_of_length_le (Nat.le_of_eq HXL.out)]; exact HIT.out, rfl⟩
            case round =>
              obtain ⟨m, oa, oc, hm, rfl, hI, rfl⟩ := hrel
              by_cases hm0 : 0 < m
              · obtain ⟨m1, rfl⟩ : ∃ m1, m = m1 + 1 := ⟨m - 1, by omega⟩
                have hlen : (zs.take (m1 + 1)).length = m1 + 1 := by rw [List.length_take, HXL.out]; omega
                obtain ⟨b1, o1, c1, hv1, hc1, hmx⟩ := hI.at m1 (by omega)
                simp only [Value.slice.injEq, hlen] at hv1
                obtain ⟨rfl, -, rfl⟩ := hv1
                have HI2 := Lib.hid (show IntS wr.heap (.slice (some ⟨b1, o1, none⟩) m1 oc) (zs.take m1) from by
                  have := IntS.take (a := (by rw [hlen]; exact hI : IntS wr.heap (.slice (some ⟨b1, o1, none⟩) (zs.take (m1 + 1)).length oc) (zs.take (m1 + 1)))) m1 (by omega)
                  rwa [List.take_take, Nat.min_eq_left (by omega)] at this)
                have HIX := Lib.hid hI
                have hcap : m1 + 1 ≤ oc := by
                  obtain ⟨b9, o9, cap9, cur9, hv9, -, h99, -⟩ := SlAt.at hI m1 (by rw [List.length_map, hlen]; omega)
                  simp only [Value.slice.injEq] at hv9
                  obtain ⟨-, -, rfl⟩ := hv9
                  rw [List.length_map, hlen] at h99; exact h99
                generalize (zs.take (m1 + 1))[m1] = y at *
                clear hI hlen hmx
                by_cases hy : y = 0
                · subst hy
                  go_wp2_with fail
                  go_roundw
                  case rel => exact ⟨m1, _, _, by omega, rfl, HI2.out, by simp⟩
                  case measure => simp
                · have v0 := (neB hy).1
                  go_wp2_with fail
                  go_ret
                  exact ⟨_, _, rfl, HIX.out, HST.out⟩
              · obtain rfl : m = 0 := by omega
                have HIX := Lib.hid hI
                clear hI
                go_wp2_with fail
                go_ret
                exact ⟨_, _, rfl, HIX.out, HST.out⟩
          · have tT : decide (0 < rT) = false := by simp; omega
            go_wp2_with fail
            go_ret
            exact ⟨_, _, rfl, HIT.out, HST.out⟩
      · have t5 := (neB e5).1
        obtain ⟨zs, hzs⟩ : ∃ zs, zs = xs := ⟨_, rfl⟩
        have HXL := Lib.hid (show zs.length = xs.length by rw [hzs])
        have HO8 := Lib.hid (show OwnI w5 w.heap.size (.slice va xs.length vc) zs by rw [hzs]; exact HO5.out)
        clear hzs HO5
        go_upto_region 8 with fail
        go_wp2_with fail
        refine (l01Next_pos g 12 w0 _ HS5.out (by omega) (by omega)).mono ?_
        rintro e wT ⟨rT, rfl, ⟨hT0, hT1⟩, hsT, hgT⟩
        have HST := Lib.hid hsT
        have HIT := Lib.hid ((HO8.out.past hgT HGL.out).ints)
        clear hsT hgT HS5 HO8
        by_cases eT : 0 < rT
        · go_wp2_with fail
          go_loopw [3] (fun o wr => ∃ (m : Nat) (oa : Option Addr) (oc : Nat), m ≤ xs.length ∧ o = .slice oa m oc ∧ IntS wr.heap (.slice oa m oc) (zs.take m) ∧ wr = wT) (fun o _ => (match o with | .slice _ n _ => n | _ => 0))
          case atStart => exact ⟨xs.length, _, _, Nat.le_refl _, rfl, by rw [List.take_of_length_le (Nat.le_of_eq HXL.out)]; exact HIT.out, rfl⟩
          case round =>
            obtain ⟨m, oa, oc, hm, rfl, hI, rfl⟩ := hrel
            by_cases hm0 : 0 < m
            · obtain ⟨m1, rfl⟩ : ∃ m1, m = m1 + 1 := ⟨m - 1, by omega⟩
              have hlen : (zs.take (m1 + 1)).length = m1 + 1 := by rw [List.length_take, HXL.out]; omega
              obtain ⟨b1, o1, c1, hv1, hc1, hmx⟩ := hI.at m1 (by omega)
              simp only [Value.slice.injEq, hlen] at hv1
              obtain ⟨rfl, -, rfl⟩ := hv1
              have HI2 := Lib.hid (show IntS wr.heap (.slice (some ⟨b1, o1, none⟩) m1 oc) (zs.take m1) from by
                have := IntS.take (a := (by rw [hlen]; exact hI : IntS wr.heap (.slice (some ⟨b1, o1, none⟩) (zs.take (m1 + 1)).length oc) (zs.take (m1 + 1)))) m1 (by omega)
                rwa [List.take_take, Nat.min_eq_left (by omega)] at this)
              have HIX := Lib.hid hI
              have hcap : m1 + 1 ≤ oc := by
                obtain ⟨b9, o9, cap9, cur9, hv9, -, h99, -⟩ := SlAt.at hI m1 (by rw [List.length_map, hlen]; omega)
                simp only [Value.slice.injEq] at hv9
                obtain ⟨-, -, rfl⟩ := hv9
                rw [List.length_map, hlen] at h99; exact h99
              generalize (zs.take (m1 + 1))[m1] = y at *
              clear hI hlen hmx
              by_cases hy : y = 0
              · subst hy
                go_wp2_with fail
                go_roundw
                case rel => exact ⟨m1, _, _, by omega, rfl, HI2.out, by simp⟩
                case measure => simp
              · have v0 := (neB hy).1
                go_wp2_with fail
                go_ret
                exact ⟨_, _, rfl, HIX.out, HST.out⟩
            · obtain rfl : m = 0 := by omega
              have HIX := Lib.hid hI
              clear hI
              go_wp2_with fail
              go_ret
              exact ⟨_, _, rfl, HIX.out, HST.out⟩
        · have tT : decide (0 < rT) = false := by simp; omega
          go_wp2_with fail
          go_ret
          exact ⟨_, _, rfl, HIT.out, HST.out⟩
set_option maxRecDepth 100000 in
theorem drawDegreeOf_c (v : Value) (m : Nat) (w : World) (h : ByteS w v m) (hm : m ≤ 4096) :
    Calls Try.prog 33 #[v] w fun e w' => ∃ r xs, e = .returned r ∧ IntS w'.heap r xs ∧ Below w.heap.size w w' := by
  have FR := Lib.hid (l01From_c v m w h hm)
  obtain ⟨ao, c, rfl, -⟩ := h.len
  clear h
  go_enter Try.func33, Try.ntmps33
  go_wp2_with fail
  refine FR.out.mono ?_
  rintro e w2 ⟨g, rfl, hs2⟩
  have HS2 := Lib.hid hs2
  clear hs2
  go_wp2_with fail
  refine (l01DrawExponents_c g w _ HS2.out).mono ?_
  rintro e w3 ⟨r3, xs, rfl, hI, hs3⟩
  have HI := Lib.hid hI
  obtain ⟨ra, rc, rfl, -⟩ := hI.len
  clear hI
  go_wp2_with fail
  go_ret
  exact ⟨_, _, rfl, HI.out, hs3.below⟩
set_option maxRecDepth 100000 in
theorem drawSumOfTermLists_c (v : Value) (m : Nat) (w : World) (h : ByteS w v m) (hm : m ≤ 4096) :
    Calls Try.prog 28 #[v] w fun e w' => ∃ r q xss yss, e = .returned (.tuple #[r, q]) ∧ IntSS w'.heap r xss ∧ IntSS w'.heap q yss ∧ Below w.heap.size w w' := by
  have FR := Lib.hid (l01From_c v m w h hm)
  obtain ⟨ao, c, rfl, -⟩ := h.len
  clear h
  go_enter Try.func28, Try.ntmps28
  go_wp2_with fail
  refine FR.out.mono ?_
  rintro e w2 ⟨g, rfl, hs2⟩
  have HS2 := Lib.hid hs2
  clear hs2
  go_wp2_with fail
  refine (l01DrawTerms_c g w _ HS2.out).mono ?_
  rintro e w3 ⟨r3, xss, rfl, hI3, hl3, hx3, hs3, -⟩
  have HI3 := Lib.hid hI3; have HS3 := Lib.hid hs3; have HL3 := Lib.hid (And.intro hl3 hx3)
  obtain ⟨ra, rc, rfl, -⟩ := hI3.len
  generalize hn3 : xss.length = n3 at *
  clear hI3 hs3 hl3 hx3
  go_wp2_with fail
  refine (l01DrawTerms_c g w _ HS3.out).mono ?_
  rintro e w4 ⟨r4, yss, rfl, hI4, hl4, hx4, hs4, hg4⟩
  have HI34 := Lib.hid (HI3.out.past HS3.out hg4)
  have HI4 := Lib.hid hI4; have HS4 := Lib.hid hs4
  obtain ⟨qa, qc, rfl, -⟩ := hI4.len
  generalize hn4 : yss.length = n4 at *
  clear hI4 hs4 hl4 hx4 hg4 HI3
  go_wp2_with fail
  refine (l01Next_pos g 6 w _ HS4.out (by omega) (by omega)).mono ?_
  rintro e w5 ⟨r5, rfl, -, hs5, hg5⟩
  have HI5 := Lib.hid (HI34.out.past HS4.out hg5)
  have HJ5 := Lib.hid (HI4.out.past HS4.out hg5)
  have HS5 := Lib.hid hs5
  clear hs5 hg5 HI34 HI4
  by_cases e5 : r5 = 0
  · subst e5
    have CP := Lib.hid (l01Own2_c (.slice ra n3 rc) xss w5 HI5.out (by rw [hn3]; have := HL3.out.1; omega) (fun x hx => by have := HL3.out.2 x hx; omega))
    clear hn3 hn4
    go_wp2_with fail
    refine CP.out.mono ?_
    rintro e w6 ⟨r6, us6, rfl, hU, hb6⟩
    obtain ⟨ya, yn, yc, rfl⟩ := own_shape hU.row
    have HS6 := Lib.hid (HS5.out.step hb6)
    have HI6 := Lib.hid (HI5.out.same hb6.block)
    have HU := Lib.hid hU
    clear hU hb6 CP
    go_wp2_with fail
    go_ret2
    exact ⟨_, _, _, _, rfl, HI6.out, HU.out.ints, HS6.out.below⟩
  · have u0 := (neB e5).1
    clear hn3 hn4
    go_wp2_with fail
    go_ret2
    exact ⟨_, _, _, _, rfl, HI5.out, HJ5.out, HS5.out.below⟩
end
section
open Go.RowKit Go.Sort

def bpC (n k : Int) : Int := if (numB n && numB k) = true then 0 else 2
def bpV (n k : Int) : Int := if (numB n && numB k) = true then parI n k else 0
theorem numB_in {n : Int} (h : numB n = true) : 0 ≤ n ∧ n ≤ 1000000000000 := by simp only [numB, Bool.and_eq_true, decide_eq_true_eq] at h; exact h
theorem parI_gt {n k : Int} (h0 : 0 ≤ n) (h : n < k) (h1 : k ≤ 1000000000000) : parI n k = 0 := by
  obtain ⟨a, rfl⟩ : ∃ a : Nat, n = a := ⟨n.toNat, by omega⟩
  obtain ⟨b, rfl⟩ : ∃ b : Nat, k = b := ⟨k.toNat, by omega⟩
  unfold parI par
  rw [andI64 a b (by omega) (by omega)]
  have := Nat.and_le_left (n := a) (m := b)
  rw [if_neg]
  simp only [beq_iff_eq]; omega
theorem l01ParityN_c (n k : Int) (w : World) (h0 : 0 ≤ n) (hk : 0 ≤ k) (h1 : k ≤ 1000000000000) : Calls Try.prog 77 #[.int .i64 n, .int .i64 k] w fun e w' => e = .returned (.int .i64 (parI n k)) ∧ w = w' := by
  by_cases h : k ≤ n
  · exact l01Parity_c n k w hk h
  · rw [parI_gt h0 (by omega) h1]
    have t1 : decide (k < 0) = false := by simp; omega
    have t2 : decide (n < k) = true := by simp; omega
    clear h
    go_enter Try.func77, Try.ntmps77
    go_wp2
    go_ret
    exact ⟨rfl, rfl⟩
theorem implBinomialParity_c (n k : Int) (w : World) : Calls Try.prog 12 #[.int .i64 n, .int .i64 k] w fun e w' => e = .returned (.tuple #[.int .i64 (bpV n k), .int .i64 (bpC n k)]) ∧ w = w' := by
  have N1 := Lib.hid (isNumber_c n); have N2 := Lib.hid (isNumber_c k)
  have HV : Hid (bpV n k = if (numB n && numB k) = true then parI n k else 0) := rfl
  have HC : Hid (bpC n k = if (numB n && numB k) = true then 0 else 2) := rfl
  generalize bpV n k = pv at *
  generalize bpC n k = pc at *
  cases h1 : numB n
  · rw [h1] at N1 HV HC
    obtain rfl : pv = 0 := HV.out
    obtain rfl : pc = 2 := HC.out
    clear N2 HV HC h1
    go_enter Try.func12, Try.ntmps12
    go_wp2_with (go_at_call 75; refine (N1.out _).mono ?_; rintro e wx ⟨rfl, rfl⟩)
    go_ret2
    exact ⟨rfl, rfl⟩
  rw [h1] at N1 HV HC
  have B1 := numB_in h1
  cases h2 : numB k
  · rw [h2] at N2 HV HC
    obtain rfl : pv = 0 := HV.out
    obtain rfl : pc = 2 := HC.out
    clear HV HC h1 h2
    go_enter Try.func12, Try.ntmps12
    go_wp2_with fail
    refine (N1.out _).mono ?_
    rintro e wx ⟨rfl, rfl⟩
    go_wp2_with fail
    refine (N2.out _).mono ?_
    rintro e wx ⟨rfl, rfl⟩
    go_wp2_with fail
    go_ret2
    exact ⟨rfl, rfl⟩
  rw [h2] at N2 HV HC
  have hv : pv = parI n k := HV.out
  obtain rfl : pc = 0 := HC.out
  subst hv
  clear HV HC h1 h2
  cases hp : par n k
  · have hq : (bits BinOp.and IntKind.i64 n k == k) = false := hp
    have hr : parI n k = 0 := by simp [parI, hp]
    rw [hr]
    clear hr hp B1
    go_enter Try.func12, Try.ntmps12
    go_wp2_with fail
    refine (N1.out _).mono ?_
    rintro e wx ⟨rfl, rfl⟩
    go_wp2_with fail
    refine (N2.out _).mono ?_
    rintro e wx ⟨rfl, rfl⟩
    go_wp2_with fail
    go_ret2
    exact ⟨rfl, rfl⟩
  · have hq : (bits BinOp.and IntKind.i64 n k == k) = true := hp
    have hr : parI n k = 1 := by simp [parI, hp]
    rw [hr]
    clear hr hp B1
    go_enter Try.func12, Try.ntmps12
    go_wp2_with fail
    refine (N1.out _).mono ?_
    rintro e wx ⟨rfl, rfl⟩
    go_wp2_with fail
    refine (N2.out _).mono ?_
    rintro e wx ⟨rfl, rfl⟩
    go_wp2_with fail
    go_ret2
    exact ⟨rfl, rfl⟩
theorem specBinomialParity_c (n k : Int) (w : World) : Calls Try.prog 13 #[.int .i64 n, .int .i64 k] w fun e w' => e = .returned (.tuple #[.int .i64 (bpV n k), .int .i64 (bpC n k)]) ∧ w = w' := by
  have N1 := Lib.hid (fun W => l01In_c n 0 1000000000000 W); have N2 := Lib.hid (fun W => l01In_c k 0 1000000000000 W)
  have HV : Hid (bpV n k = if (numB n && numB k) = true then parI n k else 0) := rfl
  have HC : Hid (bpC n k = if (numB n && numB k) = true then 0 else 2) := rfl
  generalize bpV n k = pv at *
  generalize bpC n k = pc at *
  cases h1 : numB n
  · rw [show (decide (0 ≤ n) && decide (n ≤ 1000000000000)) = false from h1] at N1
    rw [h1] at HV HC
    obtain rfl : pv = 0 := HV.out
    obtain rfl : pc = 2 := HC.out
    clear N2 HV HC h1
    go_enter Try.func13, Try.ntmps13
    go_wp2_with fail
    refine (N1.out _).mono ?_
    rintro e wx ⟨rfl, rfl⟩
    go_wp2_with fail
    go_ret2
    exact ⟨rfl, rfl⟩
  rw [show (decide (0 ≤ n) && decide (n ≤ 1000000000000)) = true from h1] at N1
  rw [h1] at HV HC
  have B1 := numB_in h1
  cases h2 : numB k
  · rw [show (decide (0 ≤ k) && decide (k ≤ 1000000000000)) = false from h2] at N2
    rw [h2] at HV HC
    obtain rfl : pv = 0 := HV.out
    obtain rfl : pc = 2 := HC.out
    clear HV HC h1 h2 B1
    go_enter Try.func13, Try.ntmps13
    go_wp2_with fail
    refine (N1.out _).mono ?_
    rintro e wx ⟨rfl, rfl⟩
    go_wp2_with fail
    refine (N2.out _).mono ?_
    rintro e wx ⟨rfl, rfl⟩
    go_wp2_with fail
    go_ret2
    exact ⟨rfl, rfl⟩
  rw [show (decide (0 ≤ k) && decide (k ≤ 1000000000000)) = true from h2] at N2
  rw [h2] at HV HC
  have B2 := numB_in h2
  have hv : pv = parI n k := HV.out
  obtain rfl : pc = 0 := HC.out
  subst hv
  have PR := Lib.hid (fun W => l01ParityN_c n k W B1.1 B2.1 B2.2)
  generalize parI n k = pv at *
  clear HV HC h1 h2 B1 B2
  go_enter Try.func13, Try.ntmps13
  go_wp2_with fail
  refine (N1.out _).mono ?_
  rintro e wx ⟨rfl, rfl⟩
  go_wp2_with fail
  refine (N2.out _).mono ?_
  rintro e wx ⟨rfl, rfl⟩
  go_wp2_with fail
  refine (PR.out _).mono ?_
  rintro e wx ⟨rfl, rfl⟩
  go_wp2_with fail
  go_ret2
  exact ⟨rfl, rfl⟩
end
section
open Go.RowKit Go.Sort

def mpB (xs : List Int) : Bool := decide (xs.length ≤ 20) && xs.all numB
def mpC (xs : List Int) : Int := if mpB xs = true then 0 else 2
def mpV (xs : List Int) : Int := if mpB xs = true then (if apartL 0 xs = true then 1 else 0) else 0
theorem all_numB {xs : List Int} (h : xs.all numB = true) : Sm 1000000000000000 xs := fun x hx => by
  have := numB_in (List.all_eq_true.1 h x hx); omega
set_option maxRecDepth 100000 in
theorem implMultinomialParity_c (v : Value) (xs : List Int) (w : World) (h : IntS w.heap v xs) :
    Calls Try.prog 15 #[v] w fun e w' => e = .returned (.tuple #[.int .i64 (mpV xs), .int .i64 (mpC xs)]) ∧ Below w.heap.size w w' := by
  have AL := Lib.hid (all_c v xs 75 #[] numB w h enters_isNumber (fun w1 _ x _ => (isNumber_c x w1).mono fun _ _ ⟨he, hw⟩ => ⟨he, 0, hw.symm⟩))
  obtain ⟨ao, c, rfl, hm⟩ := h.len
  have H := Lib.hid h; clear h
  by_cases hl : xs.length ≤ 20
  · have ht := decide_eq_true hl
    have t1 : decide (20 < xs.length) = false := decide_eq_false (by omega)
    have t2 : decide ((20 : Int) < xs.length) = false := decide_eq_false (by omega)
    cases hb : xs.all numB
    · rw [show mpV xs = 0 by simp [mpV, mpB, hb], show mpC xs = 2 by simp [mpC, mpB, hb]]
      rw [hb] at AL
      clear hb ht hl
      go_enter Try.func15, Try.ntmps15
      go_wp2_with fail
      refine AL.out.mono ?_
      rintro e w1 ⟨rfl, hb1⟩
      go_wp2_with fail
      go_ret2
      exact ⟨rfl, hb1⟩
    · skip
      have HA : Hid (mpV xs = if apartL 0 xs = true then 1 else 0) := by show _ = _; simp [mpV, mpB, ht, hb]
      have HC : mpC xs = 0 := by simp [mpC, mpB, ht, hb]
      rw [HA.out, HC]
      have AP := Lib.hid (fun (W : World) (h : IntS W.heap (.slice ao xs.length c) xs) => apart_c _ xs W h (all_numB hb))
      clear HA HC
      rw [hb] at AL
      clear hb ht hl
      generalize apartL 0 xs = q at *
      go_enter Try.func15, Try.ntmps15
      go_wp2_with fail
      refine AL.out.mono ?_
      rintro e w1 ⟨rfl, hb1⟩
      have HB1 := Lib.hid hb1
      clear hb1
      cases q
      · go_wp2_with (go_at_call 80; refine (AP.out _ (IntS.same H.out HB1.out.block)).mono ?_; rintro e w2 ⟨rfl, rfl⟩)
        go_ret2
        exact ⟨rfl, HB1.out⟩
      · go_wp2_with (go_at_call 80; refine (AP.out _ (IntS.same H.out HB1.out.block)).mono ?_; rintro e w2 ⟨rfl, rfl⟩)
        go_ret2
        exact ⟨rfl, HB1.out⟩
  · rw [show mpV xs = 0 by simp [mpV, mpB, hl], show mpC xs = 2 by simp [mpC, mpB, hl]]
    have t1 : decide (20 < xs.length) = true := decide_eq_true (by omega)
    have t2 : decide ((20 : Int) < xs.length) = true := decide_eq_true (by omega)
    clear hl AL
    go_enter Try.func15, Try.ntmps15
    go_wp2_with fail
    go_ret2
    exact ⟨rfl, Below.refl _ _⟩
def dgC (r : List Int) : Int := if isExp r = true then (if deg r ≤ 1000000000000 then 0 else 3) else 1
def dgV (r : List Int) : Int := if isExp r = true then (if deg r ≤ 1000000000000 then deg r else 0) else 0
set_option maxRecDepth 100000 in
theorem implDegreeOf_c (v : Value) (r : List Int) (w : World) (h : IntS w.heap v r) :
    Calls Try.prog 27 #[v] w fun e w' => e = .returned (.tuple #[.int .i64 (dgV r), .int .i64 (dgC r)]) ∧ Below w.heap.size w w' := by
  have EX := Lib.hid (isExponents_c v r w h)
  have H := Lib.hid h
  obtain ⟨ao, c, rfl, hm⟩ := h.len
  clear h
  cases hE : isExp r
  · rw [show dgV r = 0 by simp [dgV, hE], show dgC r = 1 by simp [dgC, hE]]
    rw [hE] at EX
    clear hE
    go_enter Try.func27, Try.ntmps27
    go_wp2_with (go_at_call 90; refine EX.out.mono ?_; rintro e w1 ⟨rfl, hb1⟩)
    go_ret2
    exact ⟨rfl, hb1⟩
  · rw [hE] at EX
    have D := Lib.hid (fun (W : World) (h : IntS W.heap (.slice ao r.length c) r) => degreeE_c _ r W h hE)
    have d0 := (deg_bound hE).1
    have HV : Hid (dgV r = if deg r ≤ 1000000000000 then deg r else 0) := by show _ = _; simp [dgV, hE]
    have HC : Hid (dgC r = if deg r ≤ 1000000000000 then 0 else 3) := by show _ = _; simp [dgC, hE]
    rw [HV.out, HC.out]
    clear HV HC hE
    generalize deg r = d at *
    have N1 := Lib.hid (isNumber_c d)
    by_cases hd : d ≤ 1000000000000
    · rw [if_pos hd, if_pos hd]
      rw [show numB d = true by simp [numB, d0, hd]] at N1
      clear hd d0
      go_enter Try.func27, Try.ntmps27
      go_wp2_with (first | (go_at_call 90; refine EX.out.mono ?_; rintro e w1 ⟨rfl, hb1⟩; have HB1 := Lib.hid hb1; clear hb1) | (go_at_call 91; refine (D.out _ (IntS.same H.out HB1.out.block)).mono ?_; rintro e w2 ⟨rfl, rfl⟩) | (go_at_call 75; refine (N1.out _).mono ?_; rintro e w3 ⟨rfl, rfl⟩))
      go_ret2
      exact ⟨rfl, HB1.out⟩
    · rw [if_neg hd, if_neg hd]
      rw [show numB d = false by simp [numB]; omega] at N1
      clear hd d0
      go_enter Try.func27, Try.ntmps27
      go_wp2_with (first | (go_at_call 90; refine EX.out.mono ?_; rintro e w1 ⟨rfl, hb1⟩; have HB1 := Lib.hid hb1; clear hb1) | (go_at_call 91; refine (D.out _ (IntS.same H.out HB1.out.block)).mono ?_; rintro e w2 ⟨rfl, rfl⟩) | (go_at_call 75; refine (N1.out _).mono ?_; rintro e w3 ⟨rfl, rfl⟩))
      go_ret2
      exact ⟨rfl, HB1.out⟩
set_option maxRecDepth 100000 in
theorem specDegreeOf_c (v : Value) (r : List Int) (w : World) (h : IntS w.heap v r) :
    Calls Try.prog 34 #[v] w fun e w' => e = .returned (.tuple #[.int .i64 (dgV r), .int .i64 (dgC r)]) ∧ w = w' := by
  have EX := Lib.hid (l01Exponents_c v r w h)
  have H := Lib.hid h
  obtain ⟨ao, c, rfl, hm⟩ := h.len
  clear h
  cases hE : isExp r
  · rw [show dgV r = 0 by simp [dgV, hE], show dgC r = 1 by simp [dgC, hE]]
    rw [hE] at EX
    clear hE
    go_enter Try.func34, Try.ntmps34
    go_wp2_with (go_at_call 101; refine EX.out.mono ?_; rintro e w1 ⟨rfl, rfl⟩)
    go_ret2
    exact ⟨rfl, rfl⟩
  · rw [hE] at EX
    have D := Lib.hid (l01DegreeE_c _ r w H.out hE)
    have HV : Hid (dgV r = if deg r ≤ 1000000000000 then deg r else 0) := by show _ = _; simp [dgV, hE]
    have HC : Hid (dgC r = if deg r ≤ 1000000000000 then 0 else 3) := by show _ = _; simp [dgC, hE]
    rw [HV.out, HC.out]
    clear HV HC hE
    generalize deg r = d at *
    by_cases hd : d ≤ 1000000000000
    · rw [if_pos hd, if_pos hd]
      have t1 : decide (1000000000000 < d) = false := decide_eq_false (by omega)
      clear hd
      go_enter Try.func34, Try.ntmps34
      go_wp2_with (first | (go_at_call 101; refine EX.out.mono ?_; rintro e w1 ⟨rfl, rfl⟩) | (go_at_call 102; refine D.out.mono ?_; rintro e w2 ⟨rfl, rfl⟩))
      go_ret2
      exact ⟨rfl, rfl⟩
    · rw [if_neg hd, if_neg hd]
      have t1 : decide (1000000000000 < d) = true := decide_eq_true (by omega)
      clear hd
      go_enter Try.func34, Try.ntmps34
      go_wp2_with (first | (go_at_call 101; refine EX.out.mono ?_; rintro e w1 ⟨rfl, rfl⟩) | (go_at_call 102; refine D.out.mono ?_; rintro e w2 ⟨rfl, rfl⟩))
      go_ret2
      exact ⟨rfl, rfl⟩
end
section
open Go.RowKit Go.Sort

def poC (n : Int) : Int := if 0 ≤ n ∧ n ≤ 40 then 0 else 2
def poL (n : Int) : List (List Int) := if 0 ≤ n ∧ n ≤ 40 then partL n.toNat else []
theorem isDegP_c (n : Int) (w : World) : Calls Try.prog 85 #[.int .i64 n] w fun e w' => e = .returned (.bool (decide (0 ≤ n) && decide (n ≤ 40))) ∧ w = w' := by
  go_enter Try.func85, Try.ntmps85
  go_wp2_with (first | (go_at_call 88; refine (in_c _ _ _ _).mono ?_; rintro e w' ⟨rfl, rfl⟩))
  go_ret
  exact ⟨rfl, rfl⟩
theorem degP_out {n : Int} (h : ¬ (0 ≤ n ∧ n ≤ 40)) : (decide (0 ≤ n) && decide (n ≤ 40)) = false := by simp; omega
theorem degP_in {d : Nat} (h : d ≤ 40) : (decide ((0 : Int) ≤ (d : Nat)) && decide ((d : Int) ≤ 40)) = true := by simp; omega
theorem implPartitionsOf_of (SO : SortOk2) (n : Int) (w : World) :
    Calls Try.prog 23 #[.int .i64 n] w fun e w' => ∃ r, e = .returned (.tuple #[r, .int .i64 (poC n)]) ∧ IntSS w'.heap r (poL n) ∧ Below w.heap.size w w' := by
  have D := Lib.hid (isDegP_c n)
  by_cases h : 0 ≤ n ∧ n ≤ 40
  · obtain ⟨d, rfl⟩ : ∃ d : Nat, n = d := ⟨n.toNat, by omega⟩
    have hd : d ≤ 40 := by omega
    rw [show poC (d : Int) = 0 from if_pos h, show poL (d : Int) = partL d from if_pos h]
    rw [degP_in hd] at D
    have P := Lib.hid (fun W => partitions_of SO d W hd)
    clear SO h
    go_enter Try.func23, Try.ntmps23
    go_wp2_with (first | (go_at_call 85; refine (D.out _).mono ?_; rintro e w1 ⟨rfl, rfl⟩) | (go_at_call 86; refine (P.out _).mono ?_; rintro e w2 ⟨r2, us2, rfl, hU2, hb2⟩; obtain ⟨pa, pn, pc, rfl⟩ := own_shape hU2.row))
    go_ret2
    exact ⟨_, rfl, hU2.ints, hb2⟩
  · rw [show poC n = 2 from if_neg h, show poL n = [] from if_neg h]
    rw [degP_out h] at D
    clear SO h
    go_enter Try.func23, Try.ntmps23
    go_wp2_with (go_at_call 85; refine (D.out _).mono ?_; rintro e w1 ⟨rfl, rfl⟩)
    go_ret2
    exact ⟨_, rfl, IntSS.nil _, Below.refl _ _⟩
theorem specPartitionsOf_c (n : Int) (w : World) :
    Calls Try.prog 24 #[.int .i64 n] w fun e w' => ∃ r, e = .returned (.tuple #[r, .int .i64 (poC n)]) ∧ IntSS w'.heap r (poL n) ∧ Below w.heap.size w w' := by
  have D := Lib.hid (l01In_c n 0 40)
  by_cases h : 0 ≤ n ∧ n ≤ 40
  · obtain ⟨d, rfl⟩ : ∃ d : Nat, n = d := ⟨n.toNat, by omega⟩
    have hd : d ≤ 40 := by omega
    rw [show poC (d : Int) = 0 from if_pos h, show poL (d : Int) = partL d from if_pos h]
    rw [degP_in hd] at D
    have P := Lib.hid (fun W => l01All_c d W hd)
    clear h
    go_enter Try.func24, Try.ntmps24
    go_wp2_with (first | (go_at_call 76; refine (D.out _).mono ?_; rintro e w1 ⟨rfl, rfl⟩) | (go_at_call 87; refine (P.out _).mono ?_; rintro e w2 ⟨r2, us2, rfl, hU2, hb2⟩; obtain ⟨pa, pn, pc, rfl⟩ := own_shape hU2.row))
    go_ret2
    exact ⟨_, rfl, hU2.ints, hb2⟩
  · rw [show poC n = 2 from if_neg h, show poL n = [] from if_neg h]
    rw [degP_out h] at D
    clear h
    go_enter Try.func24, Try.ntmps24
    go_wp2_with (go_at_call 76; refine (D.out _).mono ?_; rintro e w1 ⟨rfl, rfl⟩)
    go_ret2
    exact ⟨_, rfl, IntSS.nil _, Below.refl _ _⟩
end
section
open Go.RowKit Go.Sort

set_option maxRecDepth 100000 in
theorem l01DigitsN_c (e : Nat) (w : World) (he : e < 1099511627776) :
    Calls Try.prog 82 #[.int .i64 e] w fun r w' => ∃ v, r = .returned v ∧ OwnI w' w.heap.size v (digP e 40) ∧ Below w.heap.size w w' := by
  go_enter Try.func82, Try.ntmps82
  go_wp2_with fail
  go_loopw [0, 3, 4] (fun n o i wk => ∃ j : Nat, j ≤ 40 ∧ n = .int .i64 ((e / 2 ^ j : Nat) : Int) ∧ i = .int .i64 j ∧ OwnI wk w.heap.size o (digP e j) ∧ Below w.heap.size w wk) (fun n _ _ _ => (intOf n).toNat)
  case atStart => exact ⟨0, by omega, by simp, rfl, ownI_empty (Nat.le_refl _), (Below.refl _ _).alloc (Nat.le_refl _) _⟩
  case round =>
    obtain ⟨j, hj, rfl, rfl, hO, hb2⟩ := hrel
    obtain ⟨ya, yn, yc, rfl⟩ := own_shape hO
    have HO := Lib.hid hO; have HB2 := Lib.hid hb2
    have hsz2 := hb2.size
    have HD : Hid (digP e (j + 1) = if e.testBit j then digP e j ++ [(j : Int)] else digP e j) := rfl
    have hn64 : e / 2 ^ j ≤ 1099511627776 := Nat.le_trans (Nat.div_le_self _ _) (by omega)
    have hdd : e / 2 ^ (j + 1) = e / 2 ^ j / 2 := by rw [Nat.pow_succ, Nat.div_div_eq_div_mul]
    have hll : (digP e j).length ≤ 4398046511104 := by have := digP_len e j; omega
    have HLL := Lib.hid hll
    by_cases hz : e / 2 ^ j = 0
    · have hlt : e < 2 ^ j := by
        rcases Nat.lt_or_ge e (2 ^ j) with h | h
        · exact h
        · have := Nat.div_pos h (Nat.two_pow_pos j); omega
      have HE : Hid (digP e 40 = digP e j) := by
        show _ = _
        have := digP_end hlt (40 - j)
        rwa [show j + (40 - j) = 40 by omega] at this
      have u1 : decide ((0 : Int) < ((e / 2 ^ j : Nat) : Int)) = false := decide_eq_false (by omega)
      have u2 : decide (0 < e / 2 ^ j) = false := decide_eq_false (by omega)
      clear hO hb2 hll hdd hlt
      generalize e / 2 ^ j = q at *
      go_wp2_with fail
      go_ret
      exact ⟨_, rfl, by rw [HE.out]; exact HO.out, HB2.out⟩
    · have hj6 : j < 40 := by
        rcases Nat.lt_or_ge j 40 with h | h
        · exact h
        · obtain rfl : j = 40 := by omega
          exact absurd (Nat.div_eq_of_lt (show e < 2 ^ 40 from Nat.lt_of_lt_of_le he (by decide))) hz
      have hbt : e.testBit j = decide (e / 2 ^ j % 2 = 1) := by rw [Nat.testBit_eq_decide_div_mod_eq]
      have HDD := Lib.hid hdd
      have hq0 : 0 < e / 2 ^ j := Nat.pos_of_ne_zero hz
      clear hO hb2 hll hdd hz
      obtain ⟨q, hq⟩ : ∃ q, e / 2 ^ j = q := ⟨_, rfl⟩
      rw [hq] at hbt hn64 hq0 HDD ⊢
      clear hq
      have hqi : (0 : Int) < (q : Int) := by omega
      by_cases ho : q % 2 = 1
      · rw [hbt, decide_eq_true ho] at HD
        have u3 := (eqB (show (q : Int) % 2 = 1 by omega)).1
        clear hbt
        go_wp2_with (at_builtin; refine append_int rfl _ _ rfl w.heap.size _ _ _ HO.out rfl HB2.out hsz2 _ rfl (by simp) HLL.out ?_; intro v' w3 hown' hbl' _ _; obtain ⟨qa2, qn2, qc2, rfl⟩ := own_shape hown')
        go_roundw
        case rel => exact ⟨j + 1, by omega, by rw [HDD.out]; simp, by go_num, by rw [HD.out]; exact hown', hbl'⟩
        case measure => simp [intOf]; omega
      · rw [hbt, decide_eq_false ho] at HD
        have u3 := (neB (show (q : Int) % 2 ≠ 1 by omega)).1
        clear hbt
        go_wp2_with fail
        go_roundw
        case rel => exact ⟨j + 1, by omega, by rw [HDD.out]; simp, by go_num, by rw [HD.out]; exact HO.out, HB2.out⟩
        case measure => simp [intOf]; omega
def dfC (n : Int) : Int := if numB n = true then 0 else 2
def dfL (n : Int) : List Int := if numB n = true then digP n.toNat 40 else []
theorem specDigitsOf_c (n : Int) (w : World) :
    Calls Try.prog 19 #[.int .i64 n] w fun e w' => ∃ r, e = .returned (.tuple #[r, .int .i64 (dfC n)]) ∧ IntS w'.heap r (dfL n) ∧ Below w.heap.size w w' := by
  have IN := Lib.hid (l01In_c n 0 1000000000000)
  cases h : numB n
  · rw [show dfC n = 2 by simp [dfC, h], show dfL n = [] by simp [dfL, h]]
    rw [show (decide (0 ≤ n) && decide (n ≤ 1000000000000)) = false from h] at IN
    clear h
    go_enter Try.func19, Try.ntmps19
    go_wp2_with (go_at_call 76; refine (IN.out _).mono ?_; rintro e w1 ⟨rfl, rfl⟩)
    go_ret2
    exact ⟨_, rfl, IntS.nil _, Below.refl _ _⟩
  · rw [show dfC n = 0 by simp [dfC, h], show dfL n = digP n.toNat 40 by simp [dfL, h]]
    rw [show (decide (0 ≤ n) && decide (n ≤ 1000000000000)) = true from h] at IN
    have hb := numB_in h
    obtain ⟨m, rfl⟩ : ∃ m : Nat, n = m := ⟨n.toNat, by omega⟩
    have DG := Lib.hid (fun W => l01DigitsN_c m W (by omega))
    rw [Int.toNat_natCast]
    clear h hb
    go_enter Try.func19, Try.ntmps19
    go_wp2_with (first | (go_at_call 76; refine (IN.out _).mono ?_; rintro e w1 ⟨rfl, rfl⟩) | (go_at_call 82; refine (DG.out _).mono ?_; rintro e w2 ⟨r, rfl, hO, hb⟩; obtain ⟨pa, pn, pc, rfl⟩ := own_shape hO))
    go_ret2
    exact ⟨_, rfl, hO.ints, hb⟩
end
section
open Go.RowKit Go.Sort

set_option maxRecDepth 100000 in
theorem implDigitsOf_c (n : Int) (w : World) :
    Calls Try.prog 18 #[.int .i64 n] w fun e w' => ∃ r, e = .returned (.tuple #[r, .int .i64 (dfC n)]) ∧ IntS w'.heap r (dfL n) ∧ Below w.heap.size w w' := by
  have IN := Lib.hid (isNumber_c n)
  cases h : numB n
  · rw [show dfC n = 2 by simp [dfC, h], show dfL n = [] by simp [dfL, h]]
    rw [h] at IN
    clear h
    go_enter Try.func18, Try.ntmps18
    go_wp2_with (go_at_call 75; refine (IN.out _).mono ?_; rintro e w1 ⟨rfl, rfl⟩)
    go_ret2
    exact ⟨_, rfl, IntS.nil _, Below.refl _ _⟩
  · rw [show dfC n = 0 by simp [dfC, h], show dfL n = digP n.toNat 40 by simp [dfL, h]]
    rw [h] at IN
    have hb := numB_in h
    obtain ⟨m, rfl⟩ : ∃ m : Nat, n = m := ⟨n.toNat, by omega⟩
    have hm : m < 1099511627776 := by omega
    rw [Int.toNat_natCast]
    clear h hb
    go_enter Try.func18, Try.ntmps18
    go_wp2_with (go_at_call 75; refine (IN.out _).mono ?_; rintro e w1 ⟨rfl, rfl⟩)
    go_loopw [4, 5] (fun o i wk => ∃ j : Nat, j ≤ 40 ∧ i = .int .i64 j ∧ OwnI wk w.heap.size o (digP m j) ∧ Below w.heap.size w wk) (fun _ i _ => 40 - (intOf i).toNat)
    case atStart => exact ⟨0, by omega, rfl, ownI_empty (Nat.le_refl _), (Below.refl _ _).alloc (Nat.le_refl _) _⟩
    case round =>
      obtain ⟨j, hj, rfl, hO, hb2⟩ := hrel
      obtain ⟨ya, yn, yc, rfl⟩ := own_shape hO
      have HO := Lib.hid hO; have HB2 := Lib.hid hb2
      have hsz2 := hb2.size
      have HD : Hid (digP m (j + 1) = if m.testBit j then digP m j ++ [(j : Int)] else digP m j) := rfl
      have hll : (digP m j).length ≤ 4398046511104 := by have := digP_len m j; omega
      have HLL := Lib.hid hll
      have HM := Lib.hid hm
      by_cases hz : m / 2 ^ j = 0
      · have hlt : m < 2 ^ j := by
          rcases Nat.lt_or_ge m (2 ^ j) with h | h
          · exact h
          · have := Nat.div_pos h (Nat.two_pow_pos j); omega
        have HE : Hid (digP m 40 = digP m j) := by
          show _ = _
          have := digP_end hlt (40 - j)
          rwa [show j + (40 - j) = 40 by omega] at this
        have u0 : ((m : Int) / 2 ^ j) = 0 := by rw [show ((m : Int) / 2 ^ j) = ((m / 2 ^ j : Nat) : Int) by simp, hz]; rfl
        clear hO hb2 hll hlt hm hz
        go_wp2_with fail
        go_ret2
        exact ⟨_, rfl, by rw [HE.out]; exact HO.out.ints, HB2.out⟩
      · have hj6 : j < 40 := by
          rcases Nat.lt_or_ge j 40 with h | h
          · exact h
          · obtain rfl : j = 40 := by omega
            exact absurd (Nat.div_eq_of_lt (show m < 2 ^ 40 from hm)) hz
        have hbt : m.testBit j = decide (m / 2 ^ j % 2 = 1) := by rw [Nat.testBit_eq_decide_div_mod_eq]
        have hq0 : 0 < m / 2 ^ j := Nat.pos_of_ne_zero hz
        have hql : m / 2 ^ j ≤ m := Nat.div_le_self _ _
        have hcast : ((m : Int) / 2 ^ j) = ((m / 2 ^ j : Nat) : Int) := by simp
        have hand := andI64 (m / 2 ^ j) 1 (by omega) (by omega)
        rw [Nat.and_one_is_mod, show (((1 : Nat)) : Int) = 1 from rfl] at hand
        obtain ⟨q, hq⟩ : ∃ q, m / 2 ^ j = q := ⟨_, rfl⟩
        rw [hq] at hbt hq0 hql hcast hand
        clear hq hO hb2 hll hz hm hql
        have hqi : (0 : Int) < (q : Int) := by omega
        by_cases ho : q % 2 = 1
        · rw [hbt, decide_eq_true ho] at HD
          rw [ho] at hand
          clear hbt ho
          have HC := Lib.hid hcast
          go_wp2_with (at_builtin; refine append_int rfl _ _ rfl w.heap.size _ _ _ HO.out rfl HB2.out hsz2 _ rfl rfl HLL.out ?_; intro v3 w3 hO3 hb3 _ _; obtain ⟨sa, sn, sc, rfl⟩ := own_shape hO3)
          go_roundw
          case rel => exact ⟨j + 1, by omega, by go_num, by rw [HD.out]; exact hO3, hb3⟩
          case measure => simp [intOf]; omega
        · have ho0 : q % 2 = 0 := by omega
          rw [hbt, decide_eq_false ho] at HD
          rw [ho0] at hand
          clear hbt ho ho0
          go_wp2_with fail
          go_roundw
          case rel => exact ⟨j + 1, by omega, by go_num, by rw [HD.out]; exact HO.out, HB2.out⟩
          case measure => simp [intOf]; omega
end
section
open Go.RowKit Go.Sort

def pB (n k : Nat) : Bool := decide (n &&& k = k)
theorem and_step (n k : Nat) : (n &&& k = k) ↔ (n / 2 &&& k / 2 = k / 2) ∧ (k % 2 = 1 → n % 2 = 1) := by
  have h1 : (n &&& k) / 2 = n / 2 &&& k / 2 := Nat.and_div_two
  have h2 : (n &&& k) % 2 = 1 ↔ n % 2 = 1 ∧ k % 2 = 1 := Nat.and_mod_two_eq_one
  rw [← h1]
  constructor
  · intro h
    refine ⟨by rw [h], fun hk => ?_⟩
    rw [h] at h2
    exact (h2.1 hk).1
  · rintro ⟨h3, h4⟩
    have h5 : (n &&& k) % 2 = k % 2 := by
      by_cases hk : k % 2 = 1
      · rw [hk]; exact h2.2 ⟨h4 hk, hk⟩
      · have : ¬ (n &&& k) % 2 = 1 := fun h => hk (h2.1 h).2
        omega
    omega
theorem pB_step (n k : Nat) : pB n k = (pB (n / 2) (k / 2) && (k % 2 == 0 || n % 2 == 1)) := by
  unfold pB
  rw [Bool.eq_iff_iff]
  simp only [decide_eq_true_eq, Bool.and_eq_true, Bool.or_eq_true, beq_iff_eq, and_step n k]
  constructor
  · rintro ⟨h1, h2⟩
    exact ⟨h1, by omega⟩
  · rintro ⟨h1, h2⟩
    exact ⟨h1, by omega⟩
theorem pB_pascal : ∀ n k : Nat, 0 < n → 0 < k → pB n k = (pB (n - 1) k != pB (n - 1) (k - 1)) := by
  intro n
  induction n using Nat.strongRecOn with
  | _ n ih =>
    intro k hn hk
    rw [pB_step n k, pB_step (n - 1) k, pB_step (n - 1) (k - 1)]
    rcases Nat.mod_two_eq_zero_or_one n with en | en <;> rcases Nat.mod_two_eq_zero_or_one k with ek | ek
    · have h := ih (n / 2) (by omega) (k / 2) (by omega) (by omega)
      rw [show (n - 1) / 2 = n / 2 - 1 by omega, show (k - 1) / 2 = k / 2 - 1 by omega, show (n - 1) % 2 = 1 by omega, h, ek]
      simp
    · rw [show (n - 1) / 2 = n / 2 - 1 by omega, show (k - 1) / 2 = k / 2 by omega, show (n - 1) % 2 = 1 by omega, show (k - 1) % 2 = 0 by omega, ek, en]
      simp
    · rw [show (n - 1) / 2 = n / 2 by omega, show (k - 1) % 2 = 1 by omega, show (n - 1) % 2 = 0 by omega, ek, en]
      simp
    · rw [show (n - 1) / 2 = n / 2 by omega, show (k - 1) / 2 = k / 2 by omega, show (n - 1) % 2 = 0 by omega, show (k - 1) % 2 = 0 by omega, ek, en]
      simp
theorem parI_nat (n k : Nat) (hn : n ≤ 1000000000000) (hk : k ≤ 1000000000000) : parI n k = if pB n k = true then 1 else 0 := by
  unfold parI par pB
  rw [andI64 n k (by omega) (by omega)]
  congr 1
  simp only [beq_iff_eq, decide_eq_true_eq, eq_iff_iff]
  omega
theorem pascal (n k : Int) (h1 : numB n = true) (h2 : numB k = true) (hn : 0 < n) (hk : 0 < k) : (parI (n - 1) k + parI (n - 1) (k - 1)) % 2 = parI n k := by
  have b1 := numB_in h1; have b2 := numB_in h2
  obtain ⟨a, rfl⟩ : ∃ a : Nat, n = a := ⟨n.toNat, by omega⟩
  obtain ⟨b, rfl⟩ : ∃ b : Nat, k = b := ⟨k.toNat, by omega⟩
  rw [show (a : Int) - 1 = ((a - 1 : Nat) : Int) by omega, show (b : Int) - 1 = ((b - 1 : Nat) : Int) by omega, parI_nat a b (by omega) (by omega), parI_nat (a - 1) b (by omega) (by omega), parI_nat (a - 1) (b - 1) (by omega) (by omega), pB_pascal a b (by omega) (by omega)]
  cases pB (a - 1) b <;> cases pB (a - 1) (b - 1) <;> decide
end
section
open Go.RowKit Go.Sort

def dsum (l : List Int) : Int := (l.map fun x => (2 : Int) ^ x.toNat).sum
theorem dsum_snoc (l : List Int) (x : Int) : dsum (l ++ [x]) = dsum l + 2 ^ x.toNat := by simp [dsum]
theorem dsum_digP (n : Nat) : ∀ j : Nat, dsum (digP n j) = ((n % 2 ^ j : Nat) : Int)
  | 0 => by simp [digP, dsum, Nat.mod_one]
  | j + 1 => by
    have ih := dsum_digP n j
    have hb : n.testBit j = decide (n / 2 ^ j % 2 = 1) := Nat.testBit_eq_decide_div_mod_eq
    rw [digP, Nat.pow_succ, Nat.mod_mul]
    by_cases h : n / 2 ^ j % 2 = 1
    · rw [hb, decide_eq_true h, if_pos rfl, dsum_snoc, ih, Int.toNat_natCast, h]
      simp
    · have h0 : n / 2 ^ j % 2 = 0 := by omega
      rw [hb, decide_eq_false h, if_neg (by simp), ih, h0]
      simp
theorem dsum_dfL {n : Int} (h : numB n = true) : dsum (dfL n) = n := by
  have b := numB_in h
  obtain ⟨m, rfl⟩ : ∃ m : Nat, n = m := ⟨n.toNat, by omega⟩
  rw [show dfL (m : Int) = digP m 40 by simp [dfL, h], dsum_digP, Nat.mod_eq_of_lt (by omega)]
theorem dfL_bnd (n : Int) : ∀ x ∈ dfL n, ∃ i : Nat, x = i ∧ i < 40 := fun x hx => by
  unfold dfL at hx
  split at hx
  · exact digP_mem _ 40 x hx
  · simp at hx
theorem dsum_take_succ (l : List Int) (k : Nat) (h : k < l.length) : dsum (l.take (k + 1)) = dsum (l.take k) + 2 ^ l[k].toNat := by
  rw [List.take_succ_eq_append_getElem h, dsum_snoc]
theorem dfL_len (n : Int) : (dfL n).length ≤ 40 := by
  unfold dfL
  split
  · exact digP_len _ 40
  · simp
end
section
open Go.RowKit Go.Sort

set_option maxRecDepth 100000 in
theorem drawPartitionsOf_c (v : Value) (m : Nat) (w : World) (h : ByteS w v m) (hm : m ≤ 4096) :
    Calls Try.prog 22 #[v] w fun e w' => ∃ n : Int, e = .returned (.int .i64 n) ∧ Below w.heap.size w w' := by
  have FR := Lib.hid (l01From_c v m w h hm)
  obtain ⟨ao, c, rfl, -⟩ := h.len
  clear h
  go_enter Try.func22, Try.ntmps22
  go_wp2_with fail
  refine FR.out.mono ?_
  rintro e w2 ⟨g, rfl, hs2⟩
  have HS2 := Lib.hid hs2
  clear hs2
  go_wp2_with fail
  refine (l01Next_pos g 12 w _ HS2.out (by omega) (by omega)).mono ?_
  rintro e w3 ⟨r3, rfl, -, hs3, -⟩
  have HS3 := Lib.hid hs3
  clear hs3
  go_wp2_with fail
  refine (l01Near_c g 40 w _ HS3.out (by omega) (by omega)).mono ?_
  rintro e w4 ⟨r4, rfl, -, hs4, -⟩
  have HS4 := Lib.hid hs4
  clear hs4
  go_wp2_with fail
  refine (l01Near_c g 40 w _ HS4.out (by omega) (by omega)).mono ?_
  rintro e w5 ⟨r5, rfl, -, hs5, -⟩
  have HS5 := Lib.hid hs5
  clear hs5
  go_wp2_with fail
  refine (pick_lit g w w5 [r3, r4, r5] HS5.out (by simp) (by simp)).mono ?_
  rintro e w6 ⟨r6, rfl, -, hs6, -⟩
  go_wp2_with fail
  go_ret
  exact ⟨_, rfl, hs6.below⟩
end
section
open Go.RowKit Go.Sort

set_option maxRecDepth 100000 in
theorem drawDigitsOf_c (v : Value) (m : Nat) (w : World) (h : ByteS w v m) (hm : m ≤ 4096) :
    Calls Try.prog 17 #[v] w fun e w' => ∃ n : Int, e = .returned (.int .i64 n) ∧ Below w.heap.size w w' := by
  have FR := Lib.hid (l01From_c v m w h hm)
  obtain ⟨ao, c, rfl, -⟩ := h.len
  clear h
  go_enter Try.func17, Try.ntmps17
  go_wp2_with fail
  refine FR.out.mono ?_
  rintro e w2 ⟨g, rfl, hs2⟩
  have HS2 := Lib.hid hs2
  clear hs2
  go_wp2_with fail
  refine (l01Large_c g w _ HS2.out).mono ?_
  rintro e w3 ⟨r3, rfl, hs3, -⟩
  go_wp2_with fail
  go_ret
  exact ⟨_, rfl, hs3.below⟩
set_option maxRecDepth 100000 in
theorem drawBinomialParity_c (v : Value) (m : Nat) (w : World) (h : ByteS w v m) (hm : m ≤ 4096) :
    Calls Try.prog 11 #[v] w fun e w' => ∃ n k : Int, e = .returned (.tuple #[.int .i64 n, .int .i64 k]) ∧ Below w.heap.size w w' := by
  have FR := Lib.hid (l01From_c v m w h hm)
  obtain ⟨ao, c, rfl, -⟩ := h.len
  clear h
  go_enter Try.func11, Try.ntmps11
  go_wp2_with fail
  refine FR.out.mono ?_
  rintro e w2 ⟨g, rfl, hs2⟩
  have HS2 := Lib.hid hs2
  clear hs2
  go_wp2_with fail
  refine (l01Large_c g w _ HS2.out).mono ?_
  rintro e w3 ⟨n, rfl, hs3, -⟩
  have HS3 := Lib.hid hs3
  clear hs3
  go_wp2_with fail
  refine (l01Next_pos g 2 w _ HS3.out (by omega) (by omega)).mono ?_
  rintro e w4 ⟨r4, rfl, -, hs4, -⟩
  have HS4 := Lib.hid hs4
  clear hs4
  by_cases e0 : r4 = 0
  · subst e0
    go_wp2_with fail
    refine (l01Next_pos g 16777216 w _ HS4.out (by omega) (by omega)).mono ?_
    rintro e w5 ⟨r5, rfl, ⟨h50, h51⟩, hs5, -⟩
    have HS5 := Lib.hid hs5
    clear hs5
    go_wp2_with fail
    go_ret2
    exact ⟨_, _, rfl, HS5.out.below⟩
  · have u0 := (neB e0).1
    go_wp2_with fail
    refine (l01Large_c g w _ HS4.out).mono ?_
    rintro e w5 ⟨k, rfl, hs5, -⟩
    have HS5 := Lib.hid hs5
    clear hs5
    go_wp2_with fail
    go_ret2
    exact ⟨_, _, rfl, HS5.out.below⟩
end
section
open Go.RowKit Go.Sort

set_option maxRecDepth 100000 in
set_option maxHeartbeats 1000000 in
theorem drawMultinomialParity_c (v : Value) (m : Nat) (w : World) (h : ByteS w v m) (hm : m ≤ 4096) :
    Calls Try.prog 14 #[v] w fun e w' => ∃ r, e = .returned r ∧ (∃ xs, IntS w'.heap r xs) ∧ Below w.heap.size w w' := by
  have FR := Lib.hid (l01From_c v m w h hm)
  obtain ⟨ao, c, rfl, -⟩ := h.len
  clear h
  go_enter Try.func14, Try.ntmps14
  go_wp2_with fail
  refine FR.out.mono ?_
  rintro e w2 ⟨g, rfl, hs2⟩
  have hb3 : Below w2.heap.size w2 (w2.alloc (.cells #[] 2)) := (Below.refl _ _).alloc (Nat.le_refl _) _
  have HS := Lib.hid (hs2.step hb3)
  have HO := Lib.hid (ownI_empty (w := w2) (Nat.le_refl w2.heap.size))
  have HGB := Lib.hid hs2.lt
  have HWB := Lib.hid hs2.below.size
  have HZ := Lib.hid hb3.size
  obtain ⟨w3, hw3⟩ : ∃ w3, w3 = w2.alloc (.cells #[] 2) := ⟨_, rfl⟩
  rw [← hw3] at HS HO HZ
  have HW3 := Lib.hid hw3
  clear hs2 hb3 FR hw3
  go_wp2_with fail
  rw [← HW3.out]
  clear HW3
  refine (l01Next_pos g 5 w _ HS.out (by omega) (by omega)).mono ?_
  rintro e w4 ⟨r4, rfl, ⟨h40, h41⟩, hs4, hg4⟩
  have HS4 := Lib.hid hs4
  have HO4 := Lib.hid (HO.out.past hg4 HGB.out)
  have HZ4 := Lib.hid (Nat.le_trans HZ.out hg4.size)
  clear hs4 hg4
  go_wp2_with fail
  refine (l01Next_pos g 20 w _ HS4.out (by omega) (by omega)).mono ?_
  rintro e w5 ⟨r5, rfl, ⟨h50, h51⟩, hs5, hg5⟩
  have HS5 := Lib.hid hs5
  have HO5 := Lib.hid (HO4.out.past hg5 HGB.out)
  have HZ5 := Lib.hid (Nat.le_trans HZ4.out hg5.size)
  clear hs5 hg5
  go_wp2_with fail
  refine (pick_lit g w w5 [r4, r5, 20, 21] HS5.out (by simp) (by simp)).mono ?_
  rintro e w6 ⟨r6, rfl, hr6, hs6, hg6⟩
  have HS6 := Lib.hid hs6
  have HO6 := Lib.hid (HO5.out.past hg6 HGB.out)
  have HZ6 := Lib.hid (Nat.le_trans HZ5.out hg6.size)
  obtain ⟨k0, rfl, hk0⟩ : ∃ k0 : Nat, r6 = k0 ∧ k0 ≤ 21 := ⟨r6.toNat, by simp at hr6; omega, by simp at hr6; omega⟩
  clear hs6 hg6 hr6 h40 h41 h50 h51 HS HO HZ HS4 HO4 HZ4 HS5 HO5 HZ5
  go_wp2_with fail
  go_loopw [4, 5] (fun o i wr => ∃ (k : Nat) (xs : List Int), i = .int .i64 k ∧ xs.length + k ≤ 21 ∧ OwnI wr w2.heap.size o xs ∧ Src w wr g ∧ w2.heap.size ≤ wr.heap.size) (fun _ i _ => (intOf i).toNat)
  case atStart => exact ⟨k0, [], rfl, by simpa using hk0, HO6.out, HS6.out, HZ6.out⟩
  case round =>
    obtain ⟨k, xs, rfl, hk, hO, hS, hz⟩ := hrel
    obtain ⟨va, vn, vc, rfl⟩ := own_shape hO
    have HO := Lib.hid hO; have HS := Lib.hid hS; have HZ := Lib.hid hz
    have HLN : Hid (xs.length ≤ 4398046511104) := by show _ ≤ _; omega
    clear hO hz
    by_cases hk0 : 0 < k
    · clear hS
      go_wp2_with fail
      refine (l01Next_pos g 2 w _ HS.out (by omega) (by omega)).mono ?_
      rintro e w8 ⟨r8, rfl, -, hs8, hg8⟩
      have HO8 := Lib.hid (HO.out.past hg8 HGB.out)
      have HZ8 := Lib.hid (Nat.le_trans HZ.out hg8.size)
      have HS8 := Lib.hid hs8
      clear hs8 hg8
      by_cases e0 : r8 = 0
      · subst e0
        go_wp2_with fail
        refine (l01Next_pos g 39 w _ HS8.out (by omega) (by omega)).mono ?_
        rintro e w9 ⟨r9, rfl, ⟨h90, h91⟩, hs9, hg9⟩
        have HO9 := Lib.hid (HO8.out.past hg9 HGB.out)
        have hz9 := Nat.le_trans HZ8.out hg9.size
        have HS9 := Lib.hid hs9
        clear hs9 hg9
        go_wp2_with (at_builtin; refine append_int rfl _ _ rfl w2.heap.size _ xs _ HO9.out rfl (Below.refl _ _) hz9 _ rfl rfl HLN.out ?_; intro v9 wA hO9 hb9 hzA _; obtain ⟨qa, qn, qc, rfl⟩ := own_shape hO9)
        go_roundw
        case rel => exact ⟨k - 1, _, by go_num, by simp; omega, hO9, HS9.out.step2 hb9 HGB.out HWB.out, Nat.le_trans hz9 hzA⟩
        case measure => simp [intOf]; omega
      · have u0 := (neB e0).1
        go_wp2_with fail
        refine (l01Next_pos g 16 w _ HS8.out (by omega) (by omega)).mono ?_
        rintro e w9 ⟨r9, rfl, -, hs9, hg9⟩
        have HO9 := Lib.hid (HO8.out.past hg9 HGB.out)
        have HZ9 := Lib.hid (Nat.le_trans HZ8.out hg9.size)
        have HS9 := Lib.hid hs9
        clear hs9 hg9
        go_wp2_with fail
        refine (l01Next_pos g 16 w _ HS9.out (by omega) (by omega)).mono ?_
        rintro e wA ⟨rA, rfl, -, hsA, hgA⟩
        have HOA := Lib.hid (HO9.out.past hgA HGB.out)
        have HZA := Lib.hid (Nat.le_trans HZ9.out hgA.size)
        have HSA := Lib.hid hsA
        clear hsA hgA
        go_wp2_with fail
        refine (l01Large_c g w _ HSA.out).mono ?_
        rintro e wB ⟨rB, rfl, hsB, hgB⟩
        have HOB := Lib.hid (HOA.out.past hgB HGB.out)
        have HZB := Lib.hid (Nat.le_trans HZA.out hgB.size)
        have HSB := Lib.hid hsB
        clear hsB hgB
        go_wp2_with fail
        refine (pick_lit g w wB [0, r9, rA, rB] HSB.out (by simp) (by simp)).mono ?_
        rintro e wC ⟨rC, rfl, -, hsC, hgC⟩
        have HOC := Lib.hid (HOB.out.past hgC HGB.out)
        have hzC := Nat.le_trans HZB.out hgC.size
        have HSC := Lib.hid hsC
        clear hsC hgC
        go_wp2_with (at_builtin; refine append_int rfl _ _ rfl w2.heap.size _ xs _ HOC.out rfl (Below.refl _ _) hzC _ rfl rfl HLN.out ?_; intro v9 wD hO9 hb9 hzA _; obtain ⟨qa, qn, qc, rfl⟩ := own_shape hO9)
        go_roundw
        case rel => exact ⟨k - 1, _, by go_num, by simp; omega, hO9, HSC.out.step2 hb9 HGB.out HWB.out, Nat.le_trans hzC hzA⟩
        case measure => simp [intOf]; omega
    · obtain rfl : k = 0 := by omega
      clear hS
      go_wp2_with fail
      go_ret
      exact ⟨_, rfl, ⟨_, HO.out.ints⟩, HS.out.below⟩
end
section
open Go.RowKit Go.Sort

set_option maxRecDepth 100000 in
theorem specMultinomialParity_c (v : Value) (xs : List Int) (w : World) (h : IntS w.heap v xs) :
    Calls Try.prog 16 #[v] w fun e w' => e = .returned (.tuple #[.int .i64 (mpV xs), .int .i64 (mpC xs)]) ∧ w = w' := by
  obtain ⟨ao, c, rfl, hm⟩ := h.len
  have H := Lib.hid h; clear h
  by_cases hl : xs.length ≤ 20
  · have t2 : decide ((20 : Int) < xs.length) = false := decide_eq_false (by omega)
    have t3 : decide (20 < xs.length) = false := decide_eq_false (by omega)
    have HV : Hid (xs.all numB = false → mpV xs = 0 ∧ mpC xs = 2) := fun hb => by simp [mpV, mpC, mpB, hb]
    have HW : Hid (xs.all numB = true → mpV xs = (if apartL 0 xs = true then 1 else 0) ∧ mpC xs = 0) := fun hb => by simp [mpV, mpC, mpB, hb, hl]
    have AP := Lib.hid (fun (hb : xs.all numB = true) => l01Apart_c _ xs w H.out (all_numB hb))
    generalize mpV xs = pv at *
    generalize mpC xs = pc at *
    go_enter Try.func16, Try.ntmps16
    go_wp2_with fail
    go_loop [4] (fun i => ∃ k : Nat, k ≤ xs.length ∧ i = .int .i64 k ∧ ∀ j, j < k → numB (xs.getD j 0) = true) (fun i => xs.length - (intOf i).toNat)
    case atStart => exact ⟨0, Nat.zero_le _, rfl, fun j hj => absurd hj (Nat.not_lt_zero _)⟩
    case round =>
      obtain ⟨k, hk, rfl, hj⟩ := hrel
      have HJ := Lib.hid hj; clear hj
      by_cases hlt : k < xs.length
      · obtain ⟨b1, o1, c1, hv1, hc1, -⟩ := H.out.at k hlt
        simp only [Value.slice.injEq, true_and] at hv1
        obtain ⟨rfl, rfl⟩ := hv1
        have hgd : xs.getD k 0 = xs[k] := by simp [hlt]
        have HN : Hid (numB xs[k] = false → xs.all numB = false) := fun hn => by
          rw [List.all_eq_false]
          exact ⟨xs[k], List.getElem_mem hlt, by rw [hn]; simp⟩
        have HK : Hid (numB xs[k] = true → ∀ j, j < k + 1 → numB (xs.getD j 0) = true) := fun hb j hj => by
          by_cases e : j = k
          · subst e; rw [hgd]; exact hb
          · exact HJ.out j (by omega)
        have IN := Lib.hid (l01In_c xs[k] 0 1000000000000)
        clear hgd
        generalize xs[k] = y at *
        cases hy : numB y
        · obtain ⟨rfl, rfl⟩ := HV.out (HN.out hy)
          rw [show (decide (0 ≤ y) && decide (y ≤ 1000000000000)) = false from hy] at IN
          clear HV HW AP HN HK hy
          go_wp2_with (go_at_call 76; refine (IN.out _).mono ?_; rintro e wy ⟨rfl, rfl⟩)
          go_ret2
          exact ⟨rfl, rfl⟩
        · have HK1 := Lib.hid (HK.out hy)
          rw [show (decide (0 ≤ y) && decide (y ≤ 1000000000000)) = true from hy] at IN
          clear HN HK hy
          go_wp2_with (go_at_call 76; refine (IN.out _).mono ?_; rintro e wy ⟨rfl, rfl⟩)
          go_round
          case rel => exact ⟨k + 1, by omega, by go_num, HK1.out⟩
          case measure => simp [intOf]; omega
      · obtain rfl : k = xs.length := by omega
        have hall : xs.all numB = true := List.all_eq_true.2 fun z hz => by
          obtain ⟨j, hj, rfl⟩ := List.getElem_of_mem hz
          have := HJ.out j hj
          rwa [show xs.getD j 0 = xs[j] by simp [hj]] at this
        obtain ⟨e1, rfl⟩ := HW.out hall
        have A := Lib.hid (AP.out hall)
        have E1 := Lib.hid e1
        clear HV HW AP hall e1
        generalize apartL 0 xs = q at *
        cases q
        · obtain rfl : pv = 0 := E1.out
          go_wp2_with (go_at_call 81; refine A.out.mono ?_; rintro e w2 ⟨rfl, rfl⟩)
          go_ret2
          exact ⟨rfl, rfl⟩
        · obtain rfl : pv = 1 := E1.out
          go_wp2_with (go_at_call 81; refine A.out.mono ?_; rintro e w2 ⟨rfl, rfl⟩)
          go_ret2
          exact ⟨rfl, rfl⟩
  · have t2 : decide ((20 : Int) < xs.length) = true := decide_eq_true (by omega)
    have t3 : decide (20 < xs.length) = true := decide_eq_true (by omega)
    rw [show mpV xs = 0 by simp [mpV, mpB, hl], show mpC xs = 2 by simp [mpC, mpB, hl]]
    clear hl
    go_enter Try.func16, Try.ntmps16
    go_wp2_with fail
    go_ret2
    exact ⟨rfl, rfl⟩
def shortB (r : List Int) : Bool := decide (r.length ≤ 20)
def tlB (xss : List (List Int)) : Bool := decide (xss.length ≤ 2000) && (xss.all shortB && ascB xss)
theorem isTermList1_c (v : Value) (r : List Int) (w : World) (h : IntS w.heap v r) :
    Calls Try.prog 98 #[v] w fun e w' => e = .returned (.bool (shortB r)) ∧ Below w.heap.size w w' := by
  obtain ⟨ao, c, rfl, hm⟩ := h.len
  clear h
  have hs : shortB r = decide ((r.length : Int) ≤ 20) := by unfold shortB; congr 1; exact propext ⟨fun h => by omega, fun h => by omega⟩
  go_enter Try.func98, Try.ntmps98
  go_wp2_with fail
  go_ret
  exact ⟨by rw [hs]; rfl, Below.refl _ _⟩
theorem enters_isTermList1 : Enters Try.prog 98 := fun args w => by kernel_rfl
theorem implIsTermList_c (v : Value) (xss : List (List Int)) (w : World) (h : IntSS w.heap v xss) :
    Calls Try.prog 31 #[v] w fun e w' => e = .returned (.bool (tlB xss)) ∧ Below w.heap.size w w' := by
  have A := Lib.hid (allSS_c v xss 98 #[] shortB w h enters_isTermList1 (fun w1 _ u xs _ hu => isTermList1_c u xs w1 hu))
  have R := Lib.hid (fun (w : World) (h : IntSS w.heap v xss) => rising_c v xss w h)
  have HT : Hid (tlB xss = (decide (xss.length ≤ 2000) && (xss.all shortB && ascB xss))) := rfl
  obtain ⟨ao, c, rfl, hm⟩ := h.len
  have H := Lib.hid h; clear h
  by_cases hl : xss.length ≤ 2000
  · have t1 : decide (xss.length ≤ 2000) = true := by simpa using hl
    have t2 : decide ((xss.length : Int) ≤ 2000) = true := by simp; omega
    rw [t1, Bool.true_and] at HT
    cases ha : xss.all shortB
    · rw [ha] at A HT
      have HT2 : Hid (tlB xss = false) := by show _ = _; rw [HT.out]; rfl
      clear ha hl R HT
      go_enter Try.func31, Try.ntmps31
      go_wp2_with (go_at_call 97; refine A.out.mono ?_; rintro e w1 ⟨rfl, hb⟩)
      go_ret
      exact ⟨by rw [HT2.out]; rfl, hb⟩
    · rw [ha] at A HT
      have HT2 : Hid (tlB xss = ascB xss) := by show _ = _; rw [HT.out]; rfl
      rw [HT2.out]
      clear ha hl HT HT2
      generalize ascB xss = q at *
      go_enter Try.func31, Try.ntmps31
      go_wp2_with (first | (go_at_call 97; refine A.out.mono ?_; rintro e w1 ⟨rfl, hb⟩; have HB := Lib.hid hb; clear hb) | (go_at_call 99; refine (R.out _ (H.out.same HB.out.block)).mono ?_; rintro e w2 ⟨rfl, n, rfl⟩))
      go_ret
      exact ⟨rfl, below_drewN n HB.out⟩
  · have t1 : decide (xss.length ≤ 2000) = false := by simpa using hl
    have t2 : decide ((xss.length : Int) ≤ 2000) = false := by simp; omega
    rw [t1] at HT
    have HT2 : Hid (tlB xss = false) := by show _ = _; rw [HT.out]; rfl
    clear hl HT A R
    go_enter Try.func31, Try.ntmps31
    go_wp2_with fail
    go_ret
    exact ⟨by rw [HT2.out]; rfl, Below.refl _ _⟩
end
section
open Go.RowKit Go.Sort

set_option maxRecDepth 100000 in
theorem l01Terms_c (v : Value) (xss : List (List Int)) (w : World) (h : IntSS w.heap v xss) :
    Calls Try.prog 95 #[v] w fun e w' => e = .returned (.bool (tlB xss)) ∧ ∃ n, w' = w.drewN n := by
  have R := Lib.hid (l01Ascending_c v xss w h)
  obtain ⟨ao, c, rfl, hm⟩ := h.len
  have H := Lib.hid h; clear h
  have HN : Hid (xss.all shortB = false → tlB xss = false) := fun ha => by simp [tlB, ha]
  have HY : Hid (xss.all shortB = true → tlB xss = (decide (xss.length ≤ 2000) && ascB xss)) := fun ha => by simp [tlB, ha]
  generalize tlB xss = tb at *
  go_enter Try.func95, Try.ntmps95
  go_wp2_with fail
  go_loop [3] (fun i => ∃ k : Nat, k ≤ xss.length ∧ i = .int .i64 k ∧ ∀ j, j < k → shortB (xss.getD j []) = true) (fun i => xss.length - (intOf i).toNat)
  case atStart => exact ⟨0, Nat.zero_le _, rfl, fun j hj => absurd hj (Nat.not_lt_zero _)⟩
  case round =>
    obtain ⟨k, hk, rfl, hj⟩ := hrel
    have HJ := Lib.hid hj; clear hj
    by_cases hlt : k < xss.length
    · obtain ⟨b1, o1, c1, u, hv1, hc1, hu, -⟩ := H.out.at k hlt
      simp only [Value.slice.injEq, true_and] at hv1
      obtain ⟨rfl, rfl⟩ := hv1
      have hgd : xss.getD k [] = xss[k] := by simp [hlt]
      have HF : Hid (shortB xss[k] = false → xss.all shortB = false) := fun hn => by
        rw [List.all_eq_false]
        exact ⟨xss[k], List.getElem_mem hlt, by rw [hn]; simp⟩
      have HK : Hid (shortB xss[k] = true → ∀ j, j < k + 1 → shortB (xss.getD j []) = true) := fun hb j hj => by
        by_cases e : j = k
        · subst e; rw [hgd]; exact hb
        · exact HJ.out j (by omega)
      obtain ⟨ua, uc, rfl, -⟩ := hu.len
      clear hgd hu
      generalize xss[k] = y at *
      by_cases hy : y.length ≤ 20
      · have HK1 := Lib.hid (HK.out (decide_eq_true hy))
        have t1 : decide ((20 : Int) < y.length) = false := decide_eq_false (by omega)
        have t2 : decide (20 < y.length) = false := decide_eq_false (by omega)
        clear HF HK hy
        go_wp2_with fail
        go_round
        case rel => exact ⟨k + 1, by omega, by go_num, HK1.out⟩
        case measure => simp [intOf]; omega
      · obtain rfl : tb = false := HN.out (HF.out (decide_eq_false hy))
        have t1 : decide ((20 : Int) < y.length) = true := decide_eq_true (by omega)
        have t2 : decide (20 < y.length) = true := decide_eq_true (by omega)
        clear HF HK hy HN HY
        go_wp2_with fail
        go_ret
        exact ⟨rfl, 0, rfl⟩
    · obtain rfl : k = xss.length := by omega
      have hall : xss.all shortB = true := List.all_eq_true.2 fun z hz => by
        obtain ⟨j, hj, rfl⟩ := List.getElem_of_mem hz
        have := HJ.out j hj
        rwa [show xss.getD j [] = xss[j] by simp [hj]] at this
      have HE := Lib.hid (HY.out hall)
      clear HN HY hall
      by_cases hl : xss.length ≤ 2000
      · have t1 : decide (xss.length ≤ 2000) = true := decide_eq_true hl
        have t2 : decide ((xss.length : Int) ≤ 2000) = true := decide_eq_true (by omega)
        rw [t1, Bool.true_and] at HE
        rw [show ascB xss = tb from HE.out.symm] at R
        clear HE hl
        go_wp2_with (go_at_call 154; refine R.out.mono ?_; rintro e w2 ⟨rfl, n, rfl⟩)
        go_ret
        exact ⟨rfl, n, rfl⟩
      · have t1 : decide (xss.length ≤ 2000) = false := decide_eq_false hl
        have t2 : decide ((xss.length : Int) ≤ 2000) = false := decide_eq_false (by omega)
        rw [t1, Bool.false_and] at HE
        obtain rfl : tb = false := HE.out
        clear HE hl R
        go_wp2_with fail
        go_ret
        exact ⟨rfl, 0, rfl⟩
theorem specIsTermList_c (v : Value) (xss : List (List Int)) (w : World) (h : IntSS w.heap v xss) :
    Calls Try.prog 32 #[v] w fun e w' => e = .returned (.bool (tlB xss)) ∧ Below w.heap.size w w' := by
  have C := Lib.hid (l01Terms_c v xss w h)
  obtain ⟨ao, c, rfl, hm⟩ := h.len
  clear h
  go_enter Try.func32, Try.ntmps32
  go_wp2_with (go_at_call 95; refine C.out.mono ?_; rintro e w2 ⟨rfl, n, rfl⟩)
  go_ret
  exact ⟨rfl, below_drewN n (Below.refl _ _)⟩
def stC (a b : List (List Int)) : Int := if (tlB a && tlB b) = true then (if (mrg a b).length ≤ 2000 then 0 else 3) else 1
def stL (a b : List (List Int)) : List (List Int) := if (tlB a && tlB b) = true then (if (mrg a b).length ≤ 2000 then mrg a b else []) else []
theorem tlB_parts {xss : List (List Int)} (h : tlB xss = true) : xss.length ≤ 2000 ∧ (∀ r ∈ xss, r.length ≤ 4398046511104) ∧ Asc xss := by
  simp only [tlB, Bool.and_eq_true, decide_eq_true_eq] at h
  refine ⟨h.1, fun r hr => ?_, ascB_asc _ h.2.2⟩
  have := List.all_eq_true.1 h.2.1 r hr
  simp only [shortB, decide_eq_true_eq] at this
  omega
set_option maxRecDepth 100000 in
theorem implSumOfTermLists_of (SO : SortOk) (v u : Value) (xss yss : List (List Int)) (w : World) (h : IntSS w.heap v xss) (hu : IntSS w.heap u yss) :
    Calls Try.prog 29 #[v, u] w fun e w' => ∃ r, e = .returned (.tuple #[r, .int .i64 (stC xss yss)]) ∧ IntSS w'.heap r (stL xss yss) ∧ Below w.heap.size w w' := by
  have N1 := Lib.hid (implIsTermList_c v xss w h)
  have N2 := Lib.hid (fun (W : World) (h : IntSS W.heap u yss) => implIsTermList_c u yss W h)
  have SM := Lib.hid (fun (h1 : tlB xss = true) (h2 : tlB yss = true) (W : World) (hx : IntSS W.heap v xss) (hy : IntSS W.heap u yss) => (sumOf_of SO v u xss yss W hx hy (tlB_parts h1).2.2 (tlB_parts h2).2.2 (by have := (tlB_parts h1).1; have := (tlB_parts h2).1; omega) (tlB_parts h1).2.1 (tlB_parts h2).2.1).mono fun e w' ⟨r, us, he, hU, hb⟩ => (⟨r, he, hU.ints, hb⟩ : ∃ r, e = Ending.returned r ∧ IntSS w'.heap r (mrg xss yss) ∧ Below W.heap.size W w'))
  clear SO
  obtain ⟨ao, c, rfl, hm⟩ := h.len
  obtain ⟨bo, d, rfl, hn⟩ := hu.len
  have H := Lib.hid h; have HU := Lib.hid hu; clear h hu
  have HV : Hid (stL xss yss = if (tlB xss && tlB yss) = true then (if (mrg xss yss).length ≤ 2000 then mrg xss yss else []) else []) := rfl
  have HC : Hid (stC xss yss = if (tlB xss && tlB yss) = true then (if (mrg xss yss).length ≤ 2000 then 0 else 3) else 1) := rfl
  generalize stL xss yss = pv at *
  generalize stC xss yss = pc at *
  cases h1 : tlB xss
  · rw [h1] at N1 HV HC
    obtain rfl : pv = [] := HV.out
    obtain rfl : pc = 1 := HC.out
    clear N2 HV HC h1 SM
    go_enter Try.func29, Try.ntmps29
    go_wp2_with fail
    refine (N1.out).mono ?_
    rintro e w1 ⟨rfl, hb1⟩; have HB1 := Lib.hid hb1; clear hb1
    go_wp2_with fail
    go_ret2
    exact ⟨_, rfl, IntSS.nil _, HB1.out⟩
  rw [h1] at N1 HV HC
  cases h2 : tlB yss
  · rw [h2] at N2 HV HC
    obtain rfl : pv = [] := HV.out
    obtain rfl : pc = 1 := HC.out
    clear HV HC h1 h2 SM
    go_enter Try.func29, Try.ntmps29
    go_wp2_with fail
    refine (N1.out).mono ?_
    rintro e w1 ⟨rfl, hb1⟩; have HB1 := Lib.hid hb1; clear hb1
    go_wp2_with fail
    refine (N2.out _ (HU.out.same HB1.out.block)).mono ?_
    rintro e w2 ⟨rfl, hb2⟩; have HB2 := Lib.hid (HB1.out.trans (hb2.mono HB1.out.size)); clear hb2
    go_wp2_with fail
    go_ret2
    exact ⟨_, rfl, IntSS.nil _, HB2.out⟩
  rw [h2] at N2 HV HC
  have SM2 := Lib.hid (SM.out h1 h2)
  have HV2 : Hid (pv = if (mrg xss yss).length ≤ 2000 then mrg xss yss else []) := HV.out
  have HC2 : Hid (pc = if (mrg xss yss).length ≤ 2000 then 0 else 3) := HC.out
  clear HV HC h1 h2 SM
  generalize mrg xss yss = ms at *
  go_enter Try.func29, Try.ntmps29
  go_wp2_with fail
  refine (N1.out).mono ?_
  rintro e w1 ⟨rfl, hb1⟩; have HB1 := Lib.hid hb1; clear hb1
  go_wp2_with fail
  refine (N2.out _ (HU.out.same HB1.out.block)).mono ?_
  rintro e w2 ⟨rfl, hb2⟩; have HB2 := Lib.hid (HB1.out.trans (hb2.mono HB1.out.size)); clear hb2
  go_wp2_with fail
  refine (SM2.out _ (H.out.same HB2.out.block) (HU.out.same HB2.out.block)).mono ?_
  rintro e w3 ⟨r, rfl, hr, hb3⟩
  have HB3 := Lib.hid (HB2.out.trans (hb3.mono HB2.out.size))
  have HR := Lib.hid hr
  obtain ⟨ra, rc, rfl, hml⟩ := hr.len
  clear hr hb3
  by_cases hl : ms.length ≤ 2000
  · have t1 : decide ((2000 : Int) < ms.length) = false := decide_eq_false (by omega)
    have t2 : decide (2000 < ms.length) = false := decide_eq_false (by omega)
    rw [if_pos hl] at HV2 HC2
    obtain rfl : pv = ms := HV2.out
    obtain rfl : pc = 0 := HC2.out
    clear hl HV2 HC2
    go_wp2_with fail
    go_ret2
    exact ⟨_, rfl, HR.out, HB3.out⟩
  · have t1 : decide ((2000 : Int) < ms.length) = true := decide_eq_true (by omega)
    have t2 : decide (2000 < ms.length) = true := decide_eq_true (by omega)
    rw [if_neg hl] at HV2 HC2
    obtain rfl : pv = [] := HV2.out
    obtain rfl : pc = 3 := HC2.out
    clear hl HV2 HC2
    go_wp2_with fail
    go_ret2
    exact ⟨_, rfl, IntSS.nil _, HB3.out⟩
set_option maxRecDepth 100000 in
theorem specSumOfTermLists_c (v u : Value) (xss yss : List (List Int)) (w : World) (h : IntSS w.heap v xss) (hu : IntSS w.heap u yss) :
    Calls Try.prog 30 #[v, u] w fun e w' => ∃ r, e = .returned (.tuple #[r, .int .i64 (stC xss yss)]) ∧ IntSS w'.heap r (stL xss yss) ∧ Below w.heap.size w w' := by
  have N1 := Lib.hid (l01Terms_c v xss w h)
  have N2 := Lib.hid (fun (W : World) (h : IntSS W.heap u yss) => l01Terms_c u yss W h)
  have SM := Lib.hid (fun (h1 : tlB xss = true) (h2 : tlB yss = true) (W : World) (hx : IntSS W.heap v xss) (hy : IntSS W.heap u yss) => (l01Sum_c v u xss yss W hx hy (by have := (tlB_parts h1).1; have := (tlB_parts h2).1; omega) (tlB_parts h1).2.1 (tlB_parts h2).2.1).mono fun e w' ⟨r, he, ⟨us, hU⟩, hb⟩ => (⟨r, he, hU.ints, hb⟩ : ∃ r, e = Ending.returned r ∧ IntSS w'.heap r (mrg xss yss) ∧ Below W.heap.size W w'))
  obtain ⟨ao, c, rfl, hm⟩ := h.len
  obtain ⟨bo, d, rfl, hn⟩ := hu.len
  have H := Lib.hid h; have HU := Lib.hid hu; clear h hu
  have HV : Hid (stL xss yss = if (tlB xss && tlB yss) = true then (if (mrg xss yss).length ≤ 2000 then mrg xss yss else []) else []) := rfl
  have HC : Hid (stC xss yss = if (tlB xss && tlB yss) = true then (if (mrg xss yss).length ≤ 2000 then 0 else 3) else 1) := rfl
  generalize stL xss yss = pv at *
  generalize stC xss yss = pc at *
  cases h1 : tlB xss
  · rw [h1] at N1 HV HC
    obtain rfl : pv = [] := HV.out
    obtain rfl : pc = 1 := HC.out
    clear N2 HV HC h1 SM
    go_enter Try.func30, Try.ntmps30
    go_wp2_with fail
    refine (N1.out).mono ?_
    rintro e w1 ⟨rfl, n1, rfl⟩; have HB1 := Lib.hid (below_drewN n1 (Below.refl w.heap.size w))
    go_wp2_with fail
    go_ret2
    exact ⟨_, rfl, IntSS.nil _, HB1.out⟩
  rw [h1] at N1 HV HC
  cases h2 : tlB yss
  · rw [h2] at N2 HV HC
    obtain rfl : pv = [] := HV.out
    obtain rfl : pc = 1 := HC.out
    clear HV HC h1 h2 SM
    go_enter Try.func30, Try.ntmps30
    go_wp2_with fail
    refine (N1.out).mono ?_
    rintro e w1 ⟨rfl, n1, rfl⟩; have HB1 := Lib.hid (below_drewN n1 (Below.refl w.heap.size w))
    go_wp2_with fail
    refine (N2.out _ (HU.out.same HB1.out.block)).mono ?_
    rintro e w2 ⟨rfl, n2, rfl⟩; have HB2 := Lib.hid (below_drewN (n1 + n2) (Below.refl w.heap.size w))
    go_wp2_with fail
    go_ret2
    exact ⟨_, rfl, IntSS.nil _, HB2.out⟩
  rw [h2] at N2 HV HC
  have SM2 := Lib.hid (SM.out h1 h2)
  have HV2 : Hid (pv = if (mrg xss yss).length ≤ 2000 then mrg xss yss else []) := HV.out
  have HC2 : Hid (pc = if (mrg xss yss).length ≤ 2000 then 0 else 3) := HC.out
  clear HV HC h1 h2 SM
  generalize mrg xss yss = ms at *
  go_enter Try.func30, Try.ntmps30
  go_wp2_with fail
  refine (N1.out).mono ?_
  rintro e w1 ⟨rfl, n1, rfl⟩; have HB1 := Lib.hid (below_drewN n1 (Below.refl w.heap.size w))
  go_wp2_with fail
  refine (N2.out _ (HU.out.same HB1.out.block)).mono ?_
  rintro e w2 ⟨rfl, n2, rfl⟩; have HB2 := Lib.hid (below_drewN (n1 + n2) (Below.refl w.heap.size w))
  go_wp2_with fail
  refine (SM2.out _ (H.out.same HB2.out.block) (HU.out.same HB2.out.block)).mono ?_
  rintro e w3 ⟨r, rfl, hr, hb3⟩
  have HB3 := Lib.hid (HB2.out.trans (hb3.mono HB2.out.size))
  have HR := Lib.hid hr
  obtain ⟨ra, rc, rfl, hml⟩ := hr.len
  clear hr hb3
  by_cases hl : ms.length ≤ 2000
  · have t1 : decide ((2000 : Int) < ms.length) = false := decide_eq_false (by omega)
    have t2 : decide (2000 < ms.length) = false := decide_eq_false (by omega)
    rw [if_pos hl] at HV2 HC2
    obtain rfl : pv = ms := HV2.out
    obtain rfl : pc = 0 := HC2.out
    clear hl HV2 HC2
    go_wp2_with fail
    go_ret2
    exact ⟨_, rfl, HR.out, HB3.out⟩
  · have t1 : decide ((2000 : Int) < ms.length) = true := decide_eq_true (by omega)
    have t2 : decide (2000 < ms.length) = true := decide_eq_true (by omega)
    rw [if_neg hl] at HV2 HC2
    obtain rfl : pv = [] := HV2.out
    obtain rfl : pc = 3 := HC2.out
    clear hl HV2 HC2
    go_wp2_with fail
    go_ret2
    exact ⟨_, rfl, IntSS.nil _, HB3.out⟩
end
section
open Go.RowKit Go.Sort

theorem st_parts {a b : List (List Int)} (h : stC a b = 0) : tlB a = true ∧ tlB b = true ∧ (mrg a b).length ≤ 2000 ∧ stL a b = mrg a b := by
  cases h1 : tlB a && tlB b
  · simp [stC, h1] at h
  · by_cases h2 : (mrg a b).length ≤ 2000
    · have h3 := h1
      simp only [Bool.and_eq_true] at h3
      exact ⟨h3.1, h3.2, h2, by simp [stL, h1, h2]⟩
    · simp [stC, h1, h2] at h
theorem st_ok {a b : List (List Int)} (h1 : tlB a = true) (h2 : tlB b = true) (h3 : (mrg a b).length ≤ 2000) : stC a b = 0 ∧ stL a b = mrg a b := by
  constructor
  · simp [stC, h1, h2, h3]
  · simp [stL, h1, h2, h3]
theorem ascB_of {l : List (List Int)} (h : Asc l) : ascB l = true := ascB_true l fun i hi => by
  have := List.pairwise_iff_getElem.1 h i (i + 1) (by omega) hi (by omega)
  rwa [show l.getD i [] = l[i]'(by omega) by simp [show i < l.length by omega], show l.getD (i + 1) [] = l[i + 1] by simp [hi]]
theorem tlB_mrg {a b : List (List Int)} (h1 : tlB a = true) (h2 : tlB b = true) (h3 : (mrg a b).length ≤ 2000) : tlB (mrg a b) = true := by
  have p1 := tlB_parts h1; have p2 := tlB_parts h2
  simp only [tlB, Bool.and_eq_true, decide_eq_true_eq] at h1 h2 ⊢
  refine ⟨h3, List.all_eq_true.2 fun r hr => ?_, ascB_of (asc_mrg a b p1.2.2 p2.2.2)⟩
  rcases mem_mrg_sub r a b hr with h | h
  · exact List.all_eq_true.1 h1.2.1 r h
  · exact List.all_eq_true.1 h2.2.1 r h
theorem mrg_turn {a b : List (List Int)} (ha : Asc a) (hb : Asc b) : mrg b a = mrg a b := by
  rw [mrg_odd ha hb, mrg_odd hb ha]; exact oddL_perm List.perm_append_comm
theorem mrg_back {a b : List (List Int)} (ha : Asc a) (hb : Asc b) : mrg (mrg a b) b = a := by
  rw [mrg_odd (asc_mrg a b ha hb) hb, mrg_odd ha hb, ← oddL_append]
  refine Eq.trans (oddL_congr fun z => ?_) ha.odd
  rw [List.count_append, List.count_append]; omega
theorem st_turn {a b : List (List Int)} (h : stC a b = 0) : stC b a = 0 ∧ stL b a = stL a b := by
  obtain ⟨h1, h2, h3, h4⟩ := st_parts h
  have e := mrg_turn (tlB_parts h1).2.2 (tlB_parts h2).2.2
  have k := st_ok h2 h1 (by rw [e]; exact h3)
  exact ⟨k.1, by rw [k.2, e, h4]⟩
theorem st_back {a b : List (List Int)} (h : stC a b = 0) : stC (stL a b) b = 0 ∧ stL (stL a b) b = a := by
  obtain ⟨h1, h2, h3, h4⟩ := st_parts h
  have e := mrg_back (tlB_parts h1).2.2 (tlB_parts h2).2.2
  rw [h4]
  have k := st_ok (tlB_mrg h1 h2 h3) h2 (by rw [e]; exact (tlB_parts h1).1)
  exact ⟨k.1, by rw [k.2, e]⟩
end
section
open Go.RowKit Go.Sort

def cpRow (part n : Nat) (row : List Int) : List Int := row.set n (wrap64 (row.getD n 0 + row.getD (n - part) 0))
def cpIn (part : Nat) (row : List Int) : Nat → List Int
  | 0 => row
  | k + 1 => cpRow part (part + k) (cpIn part row k)
/-- The numbers of lists with parts of the first j kinds. -/
def cpOut (d : Nat) : Nat → List Int
  | 0 => (List.replicate (d + 1) 0).set 0 1
  | j + 1 => if 2 ^ (j + 1) - 1 ≤ d then cpIn (2 ^ (j + 1) - 1) (cpOut d j) (d + 1 - (2 ^ (j + 1) - 1)) else cpOut d j
theorem cpIn_len (part : Nat) (row : List Int) : ∀ k, (cpIn part row k).length = row.length
  | 0 => rfl
  | k + 1 => by rw [cpIn, cpRow, List.length_set, cpIn_len part row k]
theorem cpOut_len (d : Nat) : ∀ j, (cpOut d j).length = d + 1
  | 0 => by simp [cpOut]
  | j + 1 => by rw [cpOut]; split; rw [cpIn_len, cpOut_len d j]; exact cpOut_len d j
theorem cpOut_all (d : Nat) (h : d ≤ 40) : (cpOut d 6).getD d 0 = ((partL d).length : Nat) := by
  have h2 : d < 41 := by omega
  clear h
  revert d
  decide +kernel
theorem cpOut_end (d j : Nat) (hj : j ≤ 6) (h : d < 2 ^ (j + 1) - 1) : cpOut d 6 = cpOut d j := by
  have key : ∀ m, j ≤ m → cpOut d m = cpOut d j := by
    intro m
    induction m with
    | zero => intro hm; rw [show j = 0 by omega]
    | succ m ih =>
      intro hm
      by_cases e : j = m + 1
      · rw [e]
      · have : 2 ^ (j + 1) ≤ 2 ^ (m + 1) := Nat.pow_le_pow_right (by omega) (by omega)
        rw [cpOut, if_neg (by omega), ih (by omega)]
  exact key 6 hj
end
section
open Go.RowKit Go.Sort

set_option maxRecDepth 100000 in
set_option maxHeartbeats 1000000 in
theorem countPartitions_c (d : Nat) (w : World) (hd : d ≤ 40) :
    Calls Try.prog 89 #[.int .i64 d] w fun e w' => ∃ r, e = .returned r ∧ OwnI w' w.heap.size r (cpOut d 6) ∧ Below w.heap.size w w' := by
  have hmk := fun w => make_run (P := Try.prog) 27 2 _ 8 info_int64 Try.underlying27 rfl (by omega) (d + 1) (by omega) .i64 .i64 ((d : Int) + 1) ((d : Int) + 1) (by omega) (by omega) w
  have ho := made_own w w.heap.size 2 (d + 1) (.int .i64 0) (Nat.le_refl _) (by omega)
  rw [show List.replicate (d + 1) (Value.int .i64 0) = (List.replicate (d + 1) (0 : Int)).map (Value.int .i64) by simp] at ho
  have h1 := own_int_at ho 0 (by omega)
  have hf := World.ownsRow.frozenAt ho 0
  have h2 := own_int_set ho 0 1
  have hb := ((Below.refl w.heap.size w).alloc (Nat.le_refl _) (.cells (madeCells #[.int .i64 0] (d + 1)) 2)).setCell (p := ⟨w.heap.size, 0, none⟩) (Nat.le_refl _) (.int .i64 1)
  have HH := Lib.hid (And.intro h2 hb)
  clear ho hb h2
  go_enter Try.func89, Try.ntmps89
  go_wp2_with fail
  go_loopw [4] (fun p wr => ∃ j : Nat, j ≤ 6 ∧ p = .int .i64 ((2 ^ (j + 1) - 1 : Nat) : Int) ∧ OwnI wr w.heap.size (.slice (some ⟨w.heap.size, 0, none⟩) (d + 1) (d + 1)) (cpOut d j) ∧ Below w.heap.size w wr) (fun p _ => 128 - (intOf p).toNat)
  case atStart =>
    refine ⟨0, by omega, rfl, ?_, ?_⟩
    · have := HH.out.1
      rw [World.setCell_alloc_at _ _ _ _ _ rfl] at this
      unfold OwnI
      rw [cpOut_len]
      exact this
    · have := HH.out.2
      rw [World.setCell_alloc_at _ _ _ _ _ rfl] at this
      exact this
  case round =>
    obtain ⟨j, hj, rfl, hO, hbl⟩ := hrel
    have HO := Lib.hid hO; have HBL := Lib.hid hbl
    clear hO hbl
    have hp2 : 2 ^ (j + 1) ≤ 2 ^ 7 := Nat.pow_le_pow_right (by omega) (by omega)
    have hp1 : 2 ≤ 2 ^ (j + 1) := by rw [Nat.pow_succ]; have := Nat.two_pow_pos j; omega
    by_cases hlt : 2 ^ (j + 1) - 1 ≤ d
    · have hS : cpOut d (j + 1) = cpIn (2 ^ (j + 1) - 1) (cpOut d j) (d + 1 - (2 ^ (j + 1) - 1)) := by rw [cpOut, if_pos hlt]
      have HS := Lib.hid hS
      have hj6 : j + 1 ≤ 6 := by
        by_cases e : j = 6
        · subst e
          rw [show 2 ^ (6 + 1) = 128 from rfl] at hlt
          omega
        · omega
      have hn : 2 * ((2 ^ (j + 1) - 1 : Nat) : Int) + 1 = ((2 ^ (j + 1 + 1) - 1 : Nat) : Int) := by rw [Nat.pow_succ 2 (j + 1)]; omega
      have HN := Lib.hid hn
      have t1 : decide (((2 ^ (j + 1) - 1 : Nat) : Int) ≤ (d : Int)) = true := by simp; omega
      have t2 : decide (2 ^ (j + 1) - 1 ≤ d) = true := by simp; omega
      clear hS hn
      have hp40 : 1 ≤ 2 ^ (j + 1) - 1 ∧ 2 ^ (j + 1) - 1 ≤ 40 := by omega
      generalize hP : 2 ^ (j + 1) - 1 = p at *
      clear hP
      go_wp2_with fail
      clear t1 t2
      obtain ⟨WA, rfl⟩ : ∃ W : World, W = wr := ⟨_, rfl⟩
      go_loopw [5] (fun i wr => ∃ k m : Nat, k ≤ d + 1 - p ∧ m = p + k ∧ i = .int .i64 m ∧ OwnI wr w.heap.size (.slice (some ⟨w.heap.size, 0, none⟩) (d + 1) (d + 1)) (cpIn p (cpOut d j) k) ∧ Below w.heap.size w wr) (fun i _ => d + 1 - (intOf i).toNat)
      case atStart => exact ⟨0, p, Nat.zero_le _, rfl, rfl, HO.out, HBL.out⟩
      case round =>
        clear HO HBL
        obtain ⟨k, m, hk, hm, rfl, hO, hbl⟩ := hrel
        have hlen : (cpIn p (cpOut d j) k).length = d + 1 := by rw [cpIn_len, cpOut_len]
        by_cases hlk : k < d + 1 - p
        · have hmd : m ≤ d := by omega
          have hO2 : wr.ownsRow w.heap.size 2 1 (.slice (some ⟨w.heap.size, 0, none⟩) (d + 1) (d + 1)) (d + 1) ((cpIn p (cpOut d j) k).map (Value.int .i64)) := by have := hO; unfold OwnI at this; rwa [hlen] at this
          have hc1 := own_int_at hO2 m (by omega)
          have hc2 := own_int_at hO2 k (by omega)
          have hf := World.ownsRow.frozenAt hO2 m
          have hst := own_int_set hO2 m (wrap64 ((cpIn p (cpOut d j) k).getD m 0 + (cpIn p (cpOut d j) k).getD k 0))
          have HS2 : Hid (cpIn p (cpOut d j) (k + 1) = (cpIn p (cpOut d j) k).set m (wrap64 ((cpIn p (cpOut d j) k).getD m 0 + (cpIn p (cpOut d j) k).getD k 0))) := by
            show _ = _; rw [cpIn, cpRow, ← hm, show m - p = k by omega]
          have hb2 := hbl.setCell (p := ⟨w.heap.size, m, none⟩) (Nat.le_refl _) (.int .i64 (wrap64 ((cpIn p (cpOut d j) k).getD m 0 + (cpIn p (cpOut d j) k).getD k 0)))
          have G := Lib.hid (And.intro hst hb2)
          have HL2 := Lib.hid (show (cpIn p (cpOut d j) (k + 1)).length = d + 1 by rw [cpIn_len, cpOut_len])
          have tk : decide ((m : Int) ≤ (d : Int)) = true := by simp; omega
          have tk3 : decide (m ≤ d) = true := by simp; omega
          have s1 : IntKind.i64.wrap ((m : Int) - p) = (k : Int) := by rw [IntWalk.i64_in _ (by omega)]; omega
          have i1 : (m : Int) < (d : Int) + 1 := by omega
          have i2 : (k : Int) < (d : Int) + 1 := by omega
          have HM := Lib.hid hm
          clear hst hb2 hO hbl hO2 hlen hm
          generalize (cpIn p (cpOut d j) k).getD m 0 = x at *
          generalize (cpIn p (cpOut d j) k).getD k 0 = y at *
          go_wp2_with fail
          go_region_law (fail)
          all_goals
            go_wp2_with fail
            go_roundw
            case rel => exact ⟨k + 1, m + 1, by omega, by have := HM.out; omega, by go_num, by unfold OwnI; rw [HL2.out, HS2.out]; exact G.out.1, below_drewN 1 G.out.2⟩
            case measure => simp [intOf]; omega
        · obtain rfl : k = d + 1 - p := by omega
          have tk : decide ((m : Int) ≤ (d : Int)) = false := by simp; omega
          have tk3 : decide (m ≤ d) = false := by simp; omega
          rw [← HS.out] at hO
          have HO := Lib.hid hO; have HBL := Lib.hid hbl
          clear hO hbl hlen
          go_wp2_with fail
          go_roundw
          case rel => exact ⟨j + 1, hj6, by rw [← HN.out], HO.out, HBL.out⟩
          case measure => simp [intOf]; omega
    · have t1 : decide (((2 ^ (j + 1) - 1 : Nat) : Int) ≤ (d : Int)) = false := decide_eq_false (by omega)
      have t2 : decide (2 ^ (j + 1) - 1 ≤ d) = false := by simp; omega
      rw [← cpOut_end d j hj (by omega)] at HO
      generalize 2 ^ (j + 1) - 1 = p at *
      go_wp2_with fail
      go_ret
      exact ⟨_, rfl, HO.out, HBL.out⟩
theorem implCountPartitions_c (d : Nat) (w : World) (hd : d ≤ 40) :
    Calls Try.prog 26 #[.int .i64 d] w fun e w' => e = .returned (.tuple #[.int .i64 ((partL d).length : Nat), .int .i64 0]) ∧ Below w.heap.size w w' := by
  have I := Lib.hid (in_c d 0 300)
  have t0 : (decide ((0 : Int) ≤ (d : Int)) && decide ((d : Int) ≤ 300)) = true := by simp; omega
  rw [t0] at I
  have C := Lib.hid (countPartitions_c d w hd)
  have HQ := Lib.hid (cpOut_all d hd); have HL := Lib.hid (cpOut_len d 6)
  generalize (partL d).length = q at *
  clear t0
  go_enter Try.func26, Try.ntmps26
  go_wp2_with fail
  refine (I.out _).mono ?_
  rintro e w1 ⟨rfl, rfl⟩
  go_wp2_with fail
  refine C.out.mono ?_
  rintro e w2 ⟨r, rfl, hr, hb⟩
  obtain ⟨b1, o1, c1, rfl, hc, -⟩ := hr.ints.at (w := w2) d (by rw [HL.out]; omega)
  rw [← getD_at', HQ.out] at hc
  rw [HL.out] at *
  have i1 : (d : Int) < (d : Int) + 1 := by omega
  have HB := Lib.hid hb
  clear hr hb
  go_wp2_with fail
  go_ret2
  exact ⟨rfl, HB.out⟩
end
section

/-- How many of the k lowest binary digits are 1. -/
def onesN (n k : Nat) : Nat := ((List.range k).filter fun i => n.testBit i).length
theorem and_byte (h l m k : Nat) (hl : l < 256) (hk : k < 256) : (256 * h + l) &&& (256 * m + k) = 256 * (h &&& m) + (l &&& k) := by
  have hlk : l &&& k < 256 := Nat.lt_of_le_of_lt Nat.and_le_left hl
  apply Nat.eq_of_testBit_eq
  intro i
  rw [Nat.testBit_and, show 256 = 2 ^ 8 from rfl, Nat.testBit_two_pow_mul_add _ hl, Nat.testBit_two_pow_mul_add _ hk, Nat.testBit_two_pow_mul_add _ hlk]
  split
  · rw [Nat.testBit_and]
  · rw [Nat.testBit_and]
def popA (m x : Nat) : Nat := (x / 2 &&& m) + (x &&& m)
def popB (m x : Nat) : Nat := (x / 4 &&& m) + (x &&& m)
def popC (m x : Nat) : Nat := (x / 16 + x) &&& m
theorem popA_step (m h l : Nat) (hl : l < 256) : popA (256 * m + 85) (256 * h + l) = 256 * popA m h + popA 85 l := by
  unfold popA
  rw [and_byte h l m 85 hl (by omega), show (256 * h + l) / 2 = 256 * (h / 2) + (128 * (h % 2) + l / 2) by omega, and_byte _ _ _ _ (by omega) (by omega)]
  have : (128 * (h % 2) + l / 2) &&& 85 = l / 2 &&& 85 := by
    have h2 : h % 2 < 2 := Nat.mod_lt _ (by omega)
    have hq : l / 2 < 128 := by omega
    generalize h % 2 = b at *; generalize l / 2 = q at *
    revert b q
    decide +kernel
  rw [this]; omega
theorem popB_step (m h l : Nat) (hl : l < 256) : popB (256 * m + 51) (256 * h + l) = 256 * popB m h + popB 51 l := by
  unfold popB
  rw [and_byte h l m 51 hl (by omega), show (256 * h + l) / 4 = 256 * (h / 4) + (64 * (h % 4) + l / 4) by omega, and_byte _ _ _ _ (by omega) (by omega)]
  have : (64 * (h % 4) + l / 4) &&& 51 = l / 4 &&& 51 := by
    have h2 : h % 4 < 4 := Nat.mod_lt _ (by omega)
    have hq : l / 4 < 64 := by omega
    generalize h % 4 = b at *; generalize l / 4 = q at *
    revert b q
    decide +kernel
  rw [this]; omega
theorem popC_step (m h l : Nat) (hl : l ≤ 68) (hh : h % 16 ≤ 4) : popC (256 * m + 15) (256 * h + l) = 256 * popC m h + popC 15 l := by
  unfold popC
  rw [show (256 * h + l) / 16 + (256 * h + l) = 256 * (h / 16 + h) + (16 * (h % 16) + (l / 16 + l)) by omega, and_byte _ _ _ _ (by omega) (by omega)]
  have : (16 * (h % 16) + (l / 16 + l)) &&& 15 = (l / 16 + l) &&& 15 := by
    rw [show 15 = 2 ^ 4 - 1 from rfl, Nat.and_two_pow_sub_one_eq_mod, Nat.and_two_pow_sub_one_eq_mod]; omega
  rw [this]
def pc8 (l : Nat) : Nat := popC 15 (popB 51 (popA 85 l))
theorem popA_lt (l : Nat) (h : l < 256) : popA 85 l < 256 := by revert l; decide +kernel
theorem popB_lt (l : Nat) (h : l < 256) : popB 51 (popA 85 l) ≤ 68 ∧ popB 51 (popA 85 l) % 16 ≤ 4 := by revert l; decide +kernel
theorem pc8_ones (l : Nat) (h : l < 256) : pc8 l = onesN l 8 := by revert l; decide +kernel
theorem pc8_le (l : Nat) (h : l < 256) : pc8 l ≤ 8 := by revert l; decide +kernel
theorem popA_zero (m : Nat) : popA m 0 = 0 := by simp [popA]
theorem popB_zero (m : Nat) : popB m 0 = 0 := by simp [popB]
theorem popC_zero (m : Nat) : popC m 0 = 0 := by simp [popC]
theorem onesN_step (h l k : Nat) (hl : l < 256) : onesN (256 * h + l) (8 + k) = onesN l 8 + onesN h k := by
  unfold onesN
  rw [List.range_add, List.filter_append, List.length_append, List.filter_map, List.length_map]
  congr 1
  · congr 1
    apply List.filter_congr
    intro i hi
    have := List.mem_range.1 hi
    rw [show 256 = 2 ^ 8 from rfl, Nat.testBit_two_pow_mul_add _ hl, if_pos this]
  · congr 1
    apply List.filter_congr
    intro i hi
    show Nat.testBit _ (8 + i) = _
    rw [show 256 = 2 ^ 8 from rfl, Nat.testBit_two_pow_mul_add _ hl, if_neg (by omega), Nat.add_sub_cancel_left]
def cat5 (a b c d e : Nat) : Nat := 256 * (256 * (256 * (256 * (256 * 0 + e) + d) + c) + b) + a
theorem cat5_of (n : Nat) (h : n < 1099511627776) : ∃ a b c d e, a < 256 ∧ b < 256 ∧ c < 256 ∧ d < 256 ∧ e < 256 ∧ n = cat5 a b c d e :=
  ⟨n % 256, n / 256 % 256, n / 65536 % 256, n / 16777216 % 256, n / 4294967296 % 256, by omega, by omega, by omega, by omega, by omega, by unfold cat5; omega⟩
theorem popA5 (a b c d e : Nat) (ha : a < 256) (hb : b < 256) (hc : c < 256) (hd : d < 256) (he : e < 256) : popA 6148914691236517205 (cat5 a b c d e) = cat5 (popA 85 a) (popA 85 b) (popA 85 c) (popA 85 d) (popA 85 e) := by
  unfold cat5
  rw [show 6148914691236517205 = 256 * (256 * (256 * (256 * (256 * 5592405 + 85) + 85) + 85) + 85) + 85 from rfl, popA_step _ _ _ ha, popA_step _ _ _ hb, popA_step _ _ _ hc, popA_step _ _ _ hd, popA_step _ _ _ he, popA_zero]
theorem popB5 (a b c d e : Nat) (ha : a < 256) (hb : b < 256) (hc : c < 256) (hd : d < 256) (he : e < 256) : popB 3689348814741910323 (cat5 a b c d e) = cat5 (popB 51 a) (popB 51 b) (popB 51 c) (popB 51 d) (popB 51 e) := by
  unfold cat5
  rw [show 3689348814741910323 = 256 * (256 * (256 * (256 * (256 * 3355443 + 51) + 51) + 51) + 51) + 51 from rfl, popB_step _ _ _ ha, popB_step _ _ _ hb, popB_step _ _ _ hc, popB_step _ _ _ hd, popB_step _ _ _ he, popB_zero]
theorem popC5 (a b c d e : Nat) (ha : a ≤ 68) (hb : b ≤ 68 ∧ b % 16 ≤ 4) (hc : c ≤ 68 ∧ c % 16 ≤ 4) (hd : d ≤ 68 ∧ d % 16 ≤ 4) (he : e ≤ 68 ∧ e % 16 ≤ 4) : popC 1085102592571150095 (cat5 a b c d e) = cat5 (popC 15 a) (popC 15 b) (popC 15 c) (popC 15 d) (popC 15 e) := by
  unfold cat5
  rw [show 1085102592571150095 = 256 * (256 * (256 * (256 * (256 * 986895 + 15) + 15) + 15) + 15) + 15 from rfl, popC_step _ _ _ ha (by omega), popC_step _ _ _ hb.1 (by omega), popC_step _ _ _ hc.1 (by omega), popC_step _ _ _ hd.1 (by omega), popC_step _ _ _ he.1 (by omega), popC_zero]
theorem pop_bytes (n : Nat) (h : n < 1099511627776) : ∃ a b c d e, a ≤ 8 ∧ b ≤ 8 ∧ c ≤ 8 ∧ d ≤ 8 ∧ e ≤ 8 ∧ popC 1085102592571150095 (popB 3689348814741910323 (popA 6148914691236517205 n)) = cat5 a b c d e ∧ onesN n 40 = a + b + c + d + e ∧
    popA 6148914691236517205 n < 1099511627776 ∧ popB 3689348814741910323 (popA 6148914691236517205 n) < 1099511627776 := by
  obtain ⟨a, b, c, d, e, ha, hb, hc, hd, he, rfl⟩ := cat5_of n h
  have Ba := popB_lt a ha; have Bb := popB_lt b hb; have Bc := popB_lt c hc; have Bd := popB_lt d hd; have Be := popB_lt e he
  have Aa := popA_lt a ha; have Ab := popA_lt b hb; have Ac := popA_lt c hc; have Ad := popA_lt d hd; have Ae := popA_lt e he
  refine ⟨pc8 a, pc8 b, pc8 c, pc8 d, pc8 e, pc8_le a ha, pc8_le b hb, pc8_le c hc, pc8_le d hd, pc8_le e he, ?_, ?_, ?_, ?_⟩
  · rw [popA5 a b c d e ha hb hc hd he, popB5 _ _ _ _ _ Aa Ab Ac Ad Ae, popC5 _ _ _ _ _ Ba.1 Bb Bc Bd Be]; rfl
  · unfold cat5
    rw [show 40 = 8 + (8 + (8 + (8 + (8 + 0)))) from rfl, onesN_step _ _ _ ha, onesN_step _ _ _ hb, onesN_step _ _ _ hc, onesN_step _ _ _ hd, onesN_step _ _ _ he, pc8_ones a ha, pc8_ones b hb, pc8_ones c hc, pc8_ones d hd, pc8_ones e he]
    show _ + (_ + (_ + (_ + (_ + 0)))) = _
    omega
  · rw [popA5 a b c d e ha hb hc hd he]; unfold cat5; omega
  · rw [popA5 a b c d e ha hb hc hd he, popB5 _ _ _ _ _ Aa Ab Ac Ad Ae]; unfold cat5; omega
theorem pop_end (a b c d e : Nat) (ha : a ≤ 8) (hb : b ≤ 8) (hc : c ≤ 8) (hd : d ≤ 8) (he : e ≤ 8) (x y z : Nat) (hx : x = cat5 a b c d e + cat5 a b c d e / 256) (hy : y = x + x / 65536) (hz : z = y + y / 4294967296) : x < 9223372036854775808 ∧ y < 9223372036854775808 ∧ z < 9223372036854775808 ∧ z % 128 = a + b + c + d + e := by
  have h1 : x = (a + b) + 256 * (b + c) + 65536 * (c + d) + 16777216 * (d + e) + 4294967296 * e := by
    have : cat5 a b c d e / 256 = b + 256 * c + 65536 * d + 16777216 * e := by unfold cat5; omega
    rw [hx, this]; unfold cat5; omega
  have h2 : y = (a + b + c + d) + 256 * (b + c + d + e) + 65536 * (c + d + e) + 16777216 * (d + e) + 4294967296 * e := by
    have : x / 65536 = (c + d) + 256 * (d + e) + 65536 * e := by rw [h1]; omega
    rw [hy, this]; omega
  have h3 : z = (a + b + c + d + e) + 256 * (b + c + d + e) + 65536 * (c + d + e) + 16777216 * (d + e) + 4294967296 * e := by
    have : y / 4294967296 = e := by rw [h2]; omega
    rw [hz, this]; omega
  refine ⟨by omega, by omega, by omega, ?_⟩
  rw [h3]; omega
end
section
open Go.RowKit Go.Sort

theorem u64_nat (x : Nat) (h : x < 18446744073709551616) : IntKind.u64.wrap (x : Int) = x := by
  rw [IntKind.wrap_u64]; omega
theorem u64_and_nat (a b : Nat) (ha : a < 18446744073709551616) (hb : b < 18446744073709551616) : bits .and .u64 (a : Int) (b : Int) = ((a &&& b : Nat) : Int) := by
  have hx : a &&& b < 2 ^ 64 := Nat.and_lt_two_pow _ (by omega)
  have e : ∀ c : Nat, c < 18446744073709551616 → (BitVec.ofInt 64 (c : Int)).toNat = c := fun c hc => by rw [BitVec.toNat_ofInt]; omega
  show IntKind.u64.wrap ((BitVec.ofInt 64 (a : Int) &&& BitVec.ofInt 64 (b : Int)).toNat : Int) = _
  rw [BitVec.toNat_and, e a ha, e b hb, u64_nat _ (by omega)]
theorem digP_ones (n : Nat) : ∀ k, (digP n k).length = onesN n k
  | 0 => rfl
  | k + 1 => by
    have ih := digP_ones n k
    unfold onesN at ih ⊢
    rw [digP, List.range_succ, List.filter_append]
    cases h : n.testBit k
    · simp [ih, h]
    · simp [ih, h]
set_option maxRecDepth 100000 in
theorem onesN_c (n : Nat) (w : World) (h : n < 1099511627776) : Calls Try.prog 144 #[.int .u64 n] w fun e w' => e = .returned (.int .i64 (onesN n 40)) ∧ w = w' := by
  generalize hq : (onesN n 40 : Int) = q
  have HQ := Lib.hid hq; clear hq
  have HN := Lib.hid h; clear h
  go_enter Try.func144, Try.ntmps144
  go_wp2_with fail
  go_ret
  refine ⟨?_, rfl⟩
  apply ret_int
  have h := HN.out
  rw [← HQ.out]
  clear HQ HN
  obtain ⟨a, b, c, d, e, ha, hb, hc, hd, he, hC, hO, hA, hB⟩ := pop_bytes n h
  have eA : IntKind.u64.wrap (bits BinOp.and IntKind.u64 ((n : Int) / 2) 6148914691236517205 + bits BinOp.and IntKind.u64 (n : Int) 6148914691236517205) = ((popA 6148914691236517205 n : Nat) : Int) := by
    have e1 := u64_and_nat (n / 2) 6148914691236517205 (by omega) (by omega)
    have e2 := u64_and_nat n 6148914691236517205 (by omega) (by omega)
    rw [show ((n / 2 : Nat) : Int) = (n : Int) / 2 by omega, show ((6148914691236517205 : Nat) : Int) = 6148914691236517205 from rfl] at e1
    rw [show ((6148914691236517205 : Nat) : Int) = 6148914691236517205 from rfl] at e2
    rw [e1, e2, ← Int.natCast_add]
    exact u64_nat _ (by unfold popA at hA; omega)
  rw [eA]
  generalize popA 6148914691236517205 n = A at *
  have eB : IntKind.u64.wrap (bits BinOp.and IntKind.u64 ((A : Int) / 4) 3689348814741910323 + bits BinOp.and IntKind.u64 (A : Int) 3689348814741910323) = ((popB 3689348814741910323 A : Nat) : Int) := by
    have e1 := u64_and_nat (A / 4) 3689348814741910323 (by omega) (by omega)
    have e2 := u64_and_nat A 3689348814741910323 (by omega) (by omega)
    rw [show ((A / 4 : Nat) : Int) = (A : Int) / 4 by omega, show ((3689348814741910323 : Nat) : Int) = 3689348814741910323 from rfl] at e1
    rw [show ((3689348814741910323 : Nat) : Int) = 3689348814741910323 from rfl] at e2
    rw [e1, e2, ← Int.natCast_add]
    exact u64_nat _ (by unfold popB at hB; omega)
  rw [eB]
  generalize popB 3689348814741910323 A = B at *
  have eC : bits BinOp.and IntKind.u64 (IntKind.u64.wrap ((B : Int) / 16 + B)) 1085102592571150095 = ((cat5 a b c d e : Nat) : Int) := by
    rw [← hC]
    have e1 := u64_and_nat (B / 16 + B) 1085102592571150095 (by omega) (by omega)
    rw [show ((1085102592571150095 : Nat) : Int) = 1085102592571150095 from rfl] at e1
    rw [show ((B : Int) / 16 + B) = ((B / 16 + B : Nat) : Int) by omega, u64_nat _ (by omega), e1]; rfl
  rw [eC]
  obtain ⟨hx, hy, hz, hz2⟩ := pop_end a b c d e ha hb hc hd he _ _ _ rfl rfl rfl
  generalize cat5 a b c d e = C at *
  have eX : IntKind.u64.wrap ((C : Int) + (C : Int) / 256) = ((C + C / 256 : Nat) : Int) := by
    rw [show ((C : Int) + (C : Int) / 256) = ((C + C / 256 : Nat) : Int) by omega]; exact u64_nat _ (by omega)
  rw [eX]
  generalize C + C / 256 = x at *
  have eY : IntKind.u64.wrap ((x : Int) + (x : Int) / 65536) = ((x + x / 65536 : Nat) : Int) := by
    rw [show ((x : Int) + (x : Int) / 65536) = ((x + x / 65536 : Nat) : Int) by omega]; exact u64_nat _ (by omega)
  rw [eY]
  generalize x + x / 65536 = y at *
  have eZ : IntKind.u64.wrap ((y : Int) + (y : Int) / 4294967296) = ((y + y / 4294967296 : Nat) : Int) := by
    rw [show ((y : Int) + (y : Int) / 4294967296) = ((y + y / 4294967296 : Nat) : Int) by omega]; exact u64_nat _ (by omega)
  rw [eZ]
  generalize y + y / 4294967296 = z at *
  rw [show wrap64 (z : Int) = (z : Int) by unfold wrap64; omega]
  have e127 := andI64 z 127 (by omega) (by omega)
  rw [show ((127 : Nat) : Int) = 127 from rfl] at e127
  rw [e127, hO, ← hz2, show (127 : Nat) = 2 ^ 7 - 1 from rfl, Nat.and_two_pow_sub_one_eq_mod]
theorem onesG_c (n : Nat) (w : World) (h : n < 1099511627776) : Calls Try.prog 83 #[.int .i64 n] w fun e w' => e = .returned (.int .i64 (onesN n 40)) ∧ w = w' := by
  have C := Lib.hid (onesN_c n w h)
  have hu := u64_nat n (by omega)
  generalize onesN n 40 = q at *
  clear h
  go_enter Try.func83, Try.ntmps83
  go_wp2_with (go_at_call 144; refine C.out.mono ?_; rintro e w1 ⟨rfl, rfl⟩)
  go_ret
  exact ⟨rfl, rfl⟩
theorem implOnesIn_c (n : Int) (w : World) :
    Calls Try.prog 20 #[.int .i64 n] w fun e w' => e = .returned (.tuple #[.int .i64 ((dfL n).length : Nat), .int .i64 (dfC n)]) ∧ w = w' := by
  have N1 := Lib.hid (isNumber_c n)
  cases h1 : numB n
  · rw [h1] at N1
    rw [show dfC n = 2 by simp [dfC, h1], show dfL n = [] by simp [dfL, h1]]
    clear h1
    go_enter Try.func20, Try.ntmps20
    go_wp2_with (go_at_call 75; refine (N1.out _).mono ?_; rintro e wx ⟨rfl, rfl⟩)
    go_ret2
    exact ⟨rfl, rfl⟩
  · have hb := numB_in h1
    obtain ⟨m, rfl⟩ := Int.eq_ofNat_of_zero_le hb.1
    have O := Lib.hid (fun W => onesG_c m W (by omega))
    rw [h1] at N1
    rw [show dfC (m : Int) = 0 by simp [dfC, h1], show dfL (m : Int) = digP m 40 by simp [dfL, h1], digP_ones]
    clear h1 hb
    generalize onesN m 40 = q at *
    go_enter Try.func20, Try.ntmps20
    go_wp2_with (first | (go_at_call 75; refine (N1.out _).mono ?_; rintro e wx ⟨rfl, rfl⟩) | (go_at_call 83; refine (O.out _).mono ?_; rintro e wx ⟨rfl, rfl⟩))
    go_ret2
    exact ⟨rfl, rfl⟩
end
section
open Go.RowKit Go.Sort

theorem info_mil : (Try.prog.info? 50).map (fun i => (i.zero, i.size, i.bytes)) = some (some (.agg #[.slice none 0 0]), 1, 24) := by kernel_rfl
/-- A slice of elements that is read. -/
def MilS (h : Array Obj) (v : Value) (rs : List (List (List Int))) : Prop :=
  ∃ us, SlAt h 50 v us ∧ us.length = rs.length ∧ ∀ (i : Nat) u xss, us[i]? = some u → rs[i]? = some xss → IntSS h u xss
theorem MilS.nil (h : Array Obj) : MilS h (.slice none 0 0) [] := ⟨[], .inl ⟨rfl, rfl⟩, rfl, fun i u xs hu => by simp at hu⟩
theorem MilS.same {h h' : Array Obj} {v : Value} {rs : List (List (List Int))} (a : MilS h v rs) (k : ∀ b, b < h.size → h'[b]? = h[b]?) : MilS h' v rs := by
  obtain ⟨us, h1, h2, h3⟩ := a
  exact ⟨us, h1.same k, h2, fun i u xss hu hx => (h3 i u xss hu hx).same k⟩
theorem MilS.len {h : Array Obj} {v : Value} {rs : List (List (List Int))} (a : MilS h v rs) : ∃ ao cap, v = .slice ao rs.length cap ∧ rs.length ≤ 9223372036854775807 := by
  obtain ⟨us, h1, h2, h3⟩ := a
  obtain ⟨ao, cap, hv, h4, h5⟩ := SlAt.len h1
  rw [h2] at hv h4
  exact ⟨ao, cap, hv, by unfold maxLen at *; omega⟩
theorem MilS.at {w : World} {v : Value} {rs : List (List (List Int))} (a : MilS w.heap v rs) (i : Nat) (hi : i < rs.length) :
    ∃ b off cap u, v = .slice (some ⟨b, off, none⟩) rs.length cap ∧ w.cell? ⟨b, off + i, none⟩ = some u ∧ IntSS w.heap u rs[i] := by
  obtain ⟨us, h1, h2, h3⟩ := a
  obtain ⟨b, off, cap, cur, hv, hb, g1, g2, g3, g4⟩ := SlAt.at h1 i (by omega)
  rw [h2] at hv g1
  refine ⟨b, off, cap, us[i]'(by omega), hv, ?_, h3 i _ _ (List.getElem?_eq_getElem (by omega)) (List.getElem?_eq_getElem hi)⟩
  rw [World.cell?]; simp only [hb]
  simpa [show i < us.length by omega] using g4
/-- A row of elements of the call's own. -/
structure MilR (w : World) (B : Nat) (h : Array Obj) (v : Value) (us : List Value) (rs : List (List (List Int))) : Prop where
  row : w.ownsRow B 50 1 v rs.length us
  each : ∀ (i : Nat) u xss, us[i]? = some u → rs[i]? = some xss → IntSS h u xss
theorem MilR.len {w : World} {B : Nat} {h : Array Obj} {v : Value} {us : List Value} {rs : List (List (List Int))} (a : MilR w B h v us rs) : us.length = rs.length := by simpa using a.row.1
theorem MilR.mils {w : World} {B : Nat} {v : Value} {us : List Value} {rs : List (List (List Int))} (a : MilR w B w.heap v us rs) : MilS w.heap v rs :=
  ⟨us, slAt_of_own a.row, by simpa using a.row.1, a.each⟩
theorem MilR.same {w w' : World} {B : Nat} {v : Value} {us : List Value} {rs : List (List (List Int))} (a : MilR w B w.heap v us rs) (k : ∀ b, b < w.heap.size → w'.heap[b]? = w.heap[b]?) : MilR w' B w'.heap v us rs := ⟨own_same a.row k, fun i u xss hu hx => (a.each i u xss hu hx).same k⟩
theorem milR_empty {w : World} {B : Nat} (hB : B ≤ w.heap.size) : MilR (w.alloc (.cells #[] 50)) B (w.alloc (.cells #[] 50)).heap (.slice (some ⟨w.heap.size, 0, none⟩) 0 0) [] [] :=
  ⟨World.ownsRow_made w #[] 0 hB (Nat.zero_le _) rfl, fun i u xs hu => by simp at hu⟩
theorem intSS_lit {w : World} {u : Value} {xs : List Int} (hu : IntS w.heap u xs) : IntSS (w.alloc (.cells #[u] 27)).heap (.slice (some ⟨w.heap.size, 0, none⟩) 1 1) [xs] :=
  ⟨[u], slAt_of_own (World.ownsRow_lit (e := 27) (size := 1) w #[u] 1 (Nat.le_refl _) (by unfold maxLen; omega) rfl), rfl, fun i x ys hx hy => by
    match i, hx, hy with
    | 0, hx, hy =>
      simp at hx hy
      subst hx; subst hy; exact hu.same (alloc_old w _)⟩
section
variable {ops : Array Oper} {rest : List Oper} {o : Oper} {a : Act} {Q : Exit → Act → World → Prop} {K : Act → World → Prop} {E : Prop}
end
def mbC (n : Int) : Int := if 0 ≤ n ∧ n ≤ 40 then 0 else 2
def mbL (n : Int) : List (List (List Int)) := if 0 ≤ n ∧ n ≤ 40 then (partL n.toNat).map fun r => [r] else []
theorem partL_len {d : Nat} (hd : d ≤ 40) : (partL d).length ≤ 504 := expD_length (d := (d : Int)) (asc_partL d) (fun x hx => mem_partL hd hx) (by omega)
theorem isDeg_c (n : Int) (w : World) : Calls Try.prog 85 #[.int .i64 n] w fun e w' => e = .returned (.bool (decide (0 ≤ n) && decide (n ≤ 40))) ∧ w = w' := by
  go_enter Try.func85, Try.ntmps85
  go_wp2_with (first | (go_at_call 88; refine (in_c _ _ _ _).mono ?_; rintro e w' ⟨rfl, rfl⟩))
  go_ret
  exact ⟨rfl, rfl⟩
theorem deg_out {n : Int} (h : ¬ (0 ≤ n ∧ n ≤ 40)) : (decide (0 ≤ n) && decide (n ≤ 40)) = false := by simp; omega
theorem deg_in {d : Nat} (h : d ≤ 40) : (decide ((0 : Int) ≤ (d : Nat)) && decide ((d : Int) ≤ 40)) = true := by simp; omega
end
section
open Go.RowKit Go.Sort

set_option maxRecDepth 100000 in
theorem rows5_same (v1 v2 : Value) (xss : List (List Int)) (w : World) (h1 : IntSS w.heap v1 xss) (h2 : IntSS w.heap v2 xss) :
    Calls Try.prog 25 #[v1, v2] w fun e w' => e = .returned (.bool true) ∧ ∃ n, w' = w.drewN n := by
  obtain ⟨a1, c1, rfl, m1⟩ := h1.len
  obtain ⟨a2, c2, rfl, m2⟩ := h2.len
  have H1 := Lib.hid h1; clear h1
  have H2 := Lib.hid h2; clear h2
  have hb := (eqB (a := (xss.length : Int)) (b := xss.length) rfl).2
  go_enter Try.func25, Try.ntmps25
  go_wp2
  clear hb
  go_loopw [5] (fun i wr => ∃ k n : Nat, k ≤ xss.length ∧ i = .int .i64 k ∧ wr = w.drewN n) (fun i _ => xss.length - (intOf i).toNat)
  case atStart => exact ⟨0, 0, Nat.zero_le _, rfl, rfl⟩
  case round =>
    obtain ⟨k, n, hk, rfl, rfl⟩ := hrel
    by_cases hlt : k < xss.length
    · obtain ⟨b1, o1, c1', r1, hv1, hc1, hr1, _⟩ := (H1.out).at k hlt
      obtain ⟨b2, o2, c2', r2, hv2, hc2, hr2, _⟩ := (H2.out).at k hlt
      simp only [Value.slice.injEq, true_and] at hv1 hv2
      obtain ⟨rfl, rfl⟩ := hv1
      obtain ⟨rfl, rfl⟩ := hv2
      have HR1 := Lib.hid hr1; have HR2 := Lib.hid hr2; clear hr1 hr2
      go_wp2_with fail
      go_quiet ((go_at_call 21; exact quiet_behind (likeInts_same _ _ _ _ (by exact HR1.out) (by exact HR2.out))))
      go_wp2_with fail
      go_roundw
      case rel => exact ⟨k + 1, _, by omega, by go_num, rfl⟩
      case measure => simp [intOf]; omega
    · go_wp2
      go_ret
      exact ⟨rfl, _, rfl⟩
end
section
open Go.RowKit Go.Sort Go.Shelf

/-- A slice with what it reads as. -/
def SElt (h : Array Obj) : Type := {p : Value × List Int // IntS h p.1 p.2}
instance (h : Array Obj) : Inhabited (SElt h) := ⟨⟨(.slice none 0 0, []), IntS.nil h⟩⟩
def encE {h : Array Obj} (x : SElt h) : Value := x.1.1
def cfE {h : Array Obj} (x y : SElt h) : Int := cmpL x.1.2 y.1.2
theorem encE_one {h : Array Obj} (x : SElt h) : (encE x).oneCell' = true := by
  rcases x.2 with ⟨hv, _⟩ | ⟨b, off, cap, cur, hv, _⟩
  · unfold encE; rw [hv]; rfl
  · unfold encE; rw [hv]; rfl
theorem ltOf_cfE {h : Array Obj} (x y : SElt h) : ltOf cfE x y = ltL x.1.2 y.1.2 := cmpL_neg _ _
theorem swo_cfE (h : Array Obj) : SWO (ltOf (cfE (h := h))) where
  irrefl x := by rw [ltOf_cfE]; exact ltL_irrefl _
  trans x y z h1 h2 := by rw [ltOf_cfE] at *; exact ltL_trans _ _ _ h1 h2
  ntrans x y z h1 h2 := by rw [ltOf_cfE] at *; exact ltL_ntrans _ _ _ h1 h2
theorem heap_sorted {w : World} {g m : Nat} {α : Type} [Inhabited α] {enc : α → Value} {d : Array α} {os : Array Obj} {cur : Array Value} {T : Nat} (hg : w.heap[g]? = some (.cells cur T (0, 0))) :
    (sortWorld enc w g 0 m d os).heap[g]? = some (.cells (putCells enc 0 d cur) T (0, 0)) := by
  have hlt := (Array.getElem?_eq_some_iff.1 hg).1
  show ((w.heap.modify g (onCells (putCells enc 0 d))) ++ os)[g]? = _
  rw [Array.getElem?_append_left (by simpa using hlt), Array.getElem?_modify, if_pos rfl, hg]
  rfl
theorem heap_sorted_far {w : World} {g m k : Nat} {α : Type} [Inhabited α] {enc : α → Value} {d : Array α} {os : Array Obj} (hk : k < w.heap.size) (ne : k ≠ g) :
    (sortWorld enc w g 0 m d os).heap[k]? = w.heap[k]? := by
  show ((w.heap.modify g (onCells (putCells enc 0 d))) ++ os)[k]? = _
  rw [Array.getElem?_append_left (by simpa using hk), Array.getElem?_modify, if_neg (fun e => ne e.symm)]
theorem size_sorted {w : World} {g m : Nat} {α : Type} [Inhabited α] {enc : α → Value} {d : Array α} {os : Array Obj} : w.heap.size ≤ (sortWorld enc w g 0 m d os).heap.size := by
  show w.heap.size ≤ ((w.heap.modify g (onCells (putCells enc 0 d))) ++ os).size
  simp
theorem keep_sorted {w : World} {g m : Nat} {α : Type} [Inhabited α] {enc : α → Value} {d : Array α} {os : Array Obj} {cur : Array Value} {T : Nat} (hg : w.heap[g]? = some (.cells cur T (0, 0))) (ne : T ≠ 2) : KeepI w (sortWorld enc w g 0 m d os) := by
  intro b cs f hb
  by_cases e : b = g
  · subst e
    rw [hg] at hb
    simp only [Option.some.injEq, Obj.cells.injEq] at hb
    exact absurd hb.2.1 ne
  · rw [heap_sorted_far (Array.getElem?_eq_some_iff.1 hb).1 e]; exact hb
theorem putCells_take {α : Type} [Inhabited α] {enc : α → Value} {d : Array α} {cur : Array Value} (h : d.size ≤ cur.size) : (putCells enc 0 d cur).toList.take d.size = d.toList.map enc := by
  apply List.ext_getElem?
  intro i
  by_cases hi : i < d.size
  · rw [List.getElem?_take, if_pos hi, List.getElem?_map]
    simp only [putCells, Array.toList_mapIdx, List.getElem?_mapIdx, Array.getElem?_toList]
    rw [Array.getElem?_eq_getElem (by omega), Array.getElem?_eq_getElem hi]
    simp [hi]
  · rw [List.getElem?_eq_none (by simp; omega), List.getElem?_eq_none (by simp; omega)]
theorem sortSS_c (v : Value) (us : List Value) (xss : List (List Int)) (B : Nat) (w : World) (hR : RefR w B w.heap v us xss) (hB : B ≤ w.heap.size) (hlen : xss.length < 4611686018427387904) :
    Calls Try.prog 148 #[v, .func (.func 149) #[] #[]] w fun e w' => e = .returned (.tuple #[]) ∧ ∃ us' xss', RefR w' B w.heap v us' xss' ∧ xss'.Perm xss ∧ xss'.Pairwise (fun a b => ltL b a = false) ∧ Below B w w' ∧ KeepI w w' := by
  by_cases h0 : xss.length = 0
  · obtain rfl : xss = [] := List.eq_nil_of_length_eq_zero h0
    have hus : us = [] := List.eq_nil_of_length_eq_zero hR.len
    subst hus
    obtain ⟨ao, l, c, rfl⟩ := own_shape hR.row
    have hl : l = 0 := by
      obtain ⟨_, _, hv, _⟩ := SlAt.len (slAt_of_own hR.row)
      simp only [Value.slice.injEq] at hv
      exact hv.2.1
    subst hl
    have h := AnyF.slices_SortFunc_none { sortLay with } ao c (.func (.func 149) #[] #[]) w
    exact h.mono fun e w' ⟨he, hw⟩ => ⟨he, [], [], by rw [hw]; exact hR, List.Perm.refl _, List.Pairwise.nil, by rw [hw]; exact Below.refl _ _, by rw [hw]; exact KeepI.refl _⟩
  · have hrow := hR.row
    rcases hrow.2 with ⟨_, h1⟩ | ⟨g, cap, cur, rfl, hgB, hg, h2, h3, h4, h5⟩
    · exact absurd h1 (by simpa using h0)
    rw [Nat.mul_one] at h4 h5
    have hus := hR.len
    let d : Array (SElt w.heap) := Array.ofFn fun i : Fin xss.length => ⟨(us[i]'(by have := i.2; omega), xss[i]), hR.each i _ _ (List.getElem?_eq_getElem (by have := i.2; omega)) (List.getElem?_eq_getElem i.2)⟩
    have hds : d.size = xss.length := Array.size_ofFn
    have hdu : d.toList.map encE = us := by
      apply List.ext_getElem
      · simp [hds, hus]
      · intro i h1 h2
        have e : d[i]'(by simpa using h1) = _ := Array.getElem_ofFn _
        simp only [List.getElem_map, Array.getElem_toList]
        rw [e]; rfl
    have hdx : d.toList.map (fun x => x.1.2) = xss := by
      apply List.ext_getElem
      · simp [hds]
      · intro i h1 h2
        have e : d[i]'(by simpa using h1) = _ := Array.getElem_ofFn _
        simp only [List.getElem_map, Array.getElem_toList]
        rw [e]; rfl
    have hH : Holds encE w g 0 d := fun j hj => by
      rw [hds] at hj
      refine ⟨?_, by rw [Nat.zero_add]; exact hrow.frozenAt j⟩
      rw [Nat.zero_add, hrow.cellAt j (by omega), getElem!_pos d j (by omega)]
      have := congrArg (fun l : List Value => l[j]?) hdu
      simp only [List.getElem?_map, Array.getElem?_toList] at this
      rw [← this, Array.getElem?_eq_getElem (by omega)]
      rfl
    have hcmp : CmpLays1 Try.prog 149 #[] (encE (h := w.heap)) cfE g 0 d.size w := fun m os dk _ x y => by
      have hk : KeepI w (sortWorld encE w g 0 m dk os) := keep_sorted hg (by decide)
      refine (compare_c (encE x) (encE y) x.1.2 y.1.2 _ (IntS.keep x.2 hk) (IntS.keep y.2 hk)).mono fun e w' ⟨he, hw⟩ => ⟨he, 0, #[], ?_⟩
      rw [← hw, grow_empty]; rfl
    have hcon := Any.slices_SortFunc sortLay (encE (h := w.heap)) encE_one cfE (swo_cfE _) 149 #[] g 0 cap d w enters_compare hcmp hH (Array.getElem?_eq_some_iff.1 hg).1 (by omega)
    rw [hds] at hcon
    refine Calls.mono hcon fun e w' ⟨he, d', n, os, hp, hs, hw⟩ => ⟨he, d'.toList.map encE, d'.toList.map (fun x => x.1.2), ?_⟩
    obtain ⟨hp1, hp2, hp3⟩ := hp
    have hd's : d'.size = xss.length := by rw [hp1, hds]
    have hperm : d'.toList.Perm d.toList := by
      rw [show d'.extract 0 xss.length = d' by rw [← hd's]; simp, show d.extract 0 xss.length = d by rw [← hds]; simp] at hp3
      exact hp3
    refine ⟨⟨⟨by simp [hd's], .inr ⟨g, cap, putCells encE 0 d' cur, by simp [hd's], hgB, by rw [hw]; exact heap_sorted hg, by simpa [hd's] using h2, h3, by simpa [putCells] using h4, ?_⟩⟩, fun i u xs hu hx => ?_⟩, ?_, ?_, ?_, ?_⟩
    · rw [Nat.mul_one, List.length_map, Array.length_toList, hd's, ← hd's]
      exact putCells_take (by omega)
    · simp only [List.getElem?_map, Option.map_eq_some_iff] at hu hx
      obtain ⟨z, hz, rfl⟩ := hu
      obtain ⟨z', hz', rfl⟩ := hx
      rw [hz] at hz'
      obtain rfl := Option.some.inj hz'
      exact z.2
    · rw [← hdx]; exact hperm.map _
    · rw [List.pairwise_iff_getElem]
      intro i j hi hj hij
      simp only [List.length_map, Array.length_toList] at hi hj
      have := hs i j (Nat.zero_le _) hij (by omega)
      rw [ltOf_cfE, getElem!_pos d' j hj, getElem!_pos d' i hi] at this
      simpa using this
    · rw [hw]
      exact ⟨rfl, rfl, rfl, size_sorted, fun k hk => heap_sorted_far (by omega) (by omega)⟩
    · rw [hw]; exact keep_sorted hg (by decide)
theorem sortSS_c2 (v : Value) (us : List Value) (xss : List (List Int)) (B : Nat) (w : World) (hR : RefR w B w.heap v us xss) (hB : B ≤ w.heap.size) (hlen : xss.length < 4611686018427387904) :
    Calls Try.prog 148 #[v, .func (.func 149) #[] #[]] w fun e w' => e = .returned (.tuple #[]) ∧ ∃ us' xss', RefR w' B w.heap v us' xss' ∧ (us'.zip xss').Perm (us.zip xss) ∧ xss'.Pairwise (fun a b => ltL b a = false) ∧ Below B w w' ∧ (∀ b, b < w.heap.size → some b ≠ v.ownBlock → w'.heap[b]? = w.heap[b]?) := by
  by_cases h0 : xss.length = 0
  · obtain rfl : xss = [] := List.eq_nil_of_length_eq_zero h0
    have hus : us = [] := List.eq_nil_of_length_eq_zero hR.len
    subst hus
    obtain ⟨ao, l, c, rfl⟩ := own_shape hR.row
    have hl : l = 0 := by
      obtain ⟨_, _, hv, _⟩ := SlAt.len (slAt_of_own hR.row)
      simp only [Value.slice.injEq] at hv
      exact hv.2.1
    subst hl
    have h := AnyF.slices_SortFunc_none { sortLay with } ao c (.func (.func 149) #[] #[]) w
    exact h.mono fun e w' ⟨he, hw⟩ => ⟨he, [], [], by rw [hw]; exact hR, List.Perm.refl _, List.Pairwise.nil, by rw [hw]; exact Below.refl _ _, fun b _ _ => by rw [hw]⟩
  · have hrow := hR.row
    rcases hrow.2 with ⟨_, h1⟩ | ⟨g, cap, cur, rfl, hgB, hg, h2, h3, h4, h5⟩
    · exact absurd h1 (by simpa using h0)
    rw [Nat.mul_one] at h4 h5
    have hus := hR.len
    let d : Array (SElt w.heap) := Array.ofFn fun i : Fin xss.length => ⟨(us[i]'(by have := i.2; omega), xss[i]), hR.each i _ _ (List.getElem?_eq_getElem (by have := i.2; omega)) (List.getElem?_eq_getElem i.2)⟩
    have hds : d.size = xss.length := Array.size_ofFn
    have hdu : d.toList.map encE = us := by
      apply List.ext_getElem
      · simp [hds, hus]
      · intro i h1 h2
        have e : d[i]'(by simpa using h1) = _ := Array.getElem_ofFn _
        simp only [List.getElem_map, Array.getElem_toList]
        rw [e]; rfl
    have hdx : d.toList.map (fun x => x.1.2) = xss := by
      apply List.ext_getElem
      · simp [hds]
      · intro i h1 h2
        have e : d[i]'(by simpa using h1) = _ := Array.getElem_ofFn _
        simp only [List.getElem_map, Array.getElem_toList]
        rw [e]; rfl
    have hH : Holds encE w g 0 d := fun j hj => by
      rw [hds] at hj
      refine ⟨?_, by rw [Nat.zero_add]; exact hrow.frozenAt j⟩
      rw [Nat.zero_add, hrow.cellAt j (by omega), getElem!_pos d j (by omega)]
      have := congrArg (fun l : List Value => l[j]?) hdu
      simp only [List.getElem?_map, Array.getElem?_toList] at this
      rw [← this, Array.getElem?_eq_getElem (by omega)]
      rfl
    have hcmp : CmpLays1 Try.prog 149 #[] (encE (h := w.heap)) cfE g 0 d.size w := fun m os dk _ x y => by
      have hk : KeepI w (sortWorld encE w g 0 m dk os) := keep_sorted hg (by decide)
      refine (compare_c (encE x) (encE y) x.1.2 y.1.2 _ (IntS.keep x.2 hk) (IntS.keep y.2 hk)).mono fun e w' ⟨he, hw⟩ => ⟨he, 0, #[], ?_⟩
      rw [← hw, grow_empty]; rfl
    have hcon := Any.slices_SortFunc sortLay (encE (h := w.heap)) encE_one cfE (swo_cfE _) 149 #[] g 0 cap d w enters_compare hcmp hH (Array.getElem?_eq_some_iff.1 hg).1 (by omega)
    rw [hds] at hcon
    refine Calls.mono hcon fun e w' ⟨he, d', n, os, hp, hs, hw⟩ => ⟨he, d'.toList.map encE, d'.toList.map (fun x => x.1.2), ?_⟩
    obtain ⟨hp1, hp2, hp3⟩ := hp
    have hd's : d'.size = xss.length := by rw [hp1, hds]
    have hperm : d'.toList.Perm d.toList := by
      rw [show d'.extract 0 xss.length = d' by rw [← hd's]; simp, show d.extract 0 xss.length = d by rw [← hds]; simp] at hp3
      exact hp3
    refine ⟨⟨⟨by simp [hd's], .inr ⟨g, cap, putCells encE 0 d' cur, by simp [hd's], hgB, by rw [hw]; exact heap_sorted hg, by simpa [hd's] using h2, h3, by simpa [putCells] using h4, ?_⟩⟩, fun i u xs hu hx => ?_⟩, ?_, ?_, ?_, ?_⟩
    · rw [Nat.mul_one, List.length_map, Array.length_toList, hd's, ← hd's]
      exact putCells_take (by omega)
    · simp only [List.getElem?_map, Option.map_eq_some_iff] at hu hx
      obtain ⟨z, hz, rfl⟩ := hu
      obtain ⟨z', hz', rfl⟩ := hx
      rw [hz] at hz'
      obtain rfl := Option.some.inj hz'
      exact z.2
    · have e : (us.zip xss) = d.toList.map fun x => (encE x, x.1.2) := by rw [← List.zip_map', hdu, hdx]
      rw [e, List.zip_map']; exact hperm.map _
    · rw [List.pairwise_iff_getElem]
      intro i j hi hj hij
      simp only [List.length_map, Array.length_toList] at hi hj
      have := hs i j (Nat.zero_le _) hij (by omega)
      rw [ltOf_cfE, getElem!_pos d' j hj, getElem!_pos d' i hi] at this
      simpa using this
    · rw [hw]
      exact ⟨rfl, rfl, rfl, size_sorted, fun k hk => heap_sorted_far (by omega) (by omega)⟩
    · intro b hb hne
      rw [hw]; exact heap_sorted_far hb (fun e => hne (by rw [e]; rfl))
end
section
open Go.RowKit Go.Sort

def BinOk (n k x c : Int) : Prop := ∀ W : World, Calls Try.prog 12 #[.int .i64 n, .int .i64 k] W fun e w' => e = .returned (.tuple #[.int .i64 x, .int .i64 c]) ∧ W = w'
theorem parI01 (n k : Int) : 0 ≤ parI n k ∧ parI n k ≤ 1 := by unfold parI; split <;> omega
theorem bin_pack (n k : Int) (h : bpC n k = 0) (hn : 0 < n) (hk : 0 < k) : n ≤ 1000000000000 ∧ k ≤ 1000000000000 ∧ ∃ y z, BinOk (n - 1) k y 0 ∧ BinOk (n - 1) (k - 1) z 0 ∧ 0 ≤ y ∧ y ≤ 1 ∧ 0 ≤ z ∧ z ≤ 1 ∧ (y + z).tmod 2 = bpV n k := by
  have hnk : numB n = true ∧ numB k = true := by
    unfold bpC at h
    by_cases e : (numB n && numB k) = true
    · simpa using e
    · rw [if_neg e] at h; omega
  have b1 := numB_in hnk.1; have b2 := numB_in hnk.2
  have e1 : numB (n - 1) = true := by simp [numB]; omega
  have e2 : numB (k - 1) = true := by simp [numB]; omega
  have y1 := implBinomialParity_c (n - 1) k
  have y2 := implBinomialParity_c (n - 1) (k - 1)
  have p1 : bpV (n - 1) k = parI (n - 1) k := by simp [bpV, e1, hnk.2]
  have p2 : bpV (n - 1) (k - 1) = parI (n - 1) (k - 1) := by simp [bpV, e1, e2]
  have p3 : bpV n k = parI n k := by simp [bpV, hnk.1, hnk.2]
  have q1 : bpC (n - 1) k = 0 := by simp [bpC, e1, hnk.2]
  have q2 : bpC (n - 1) (k - 1) = 0 := by simp [bpC, e1, e2]
  rw [p1, q1] at y1
  rw [p2, q2] at y2
  have r1 := parI01 (n - 1) k; have r2 := parI01 (n - 1) (k - 1)
  refine ⟨b1.2, b2.2, _, _, y1, y2, r1.1, r1.2, r2.1, r2.2, ?_⟩
  rw [p3, ← pascal n k hnk.1 hnk.2 hn hk, Int.tmod_eq_emod_of_nonneg (by omega)]
theorem part_pack (n : Int) (h : poC n = 0) : ∃ d : Nat, n = d ∧ d ≤ 40 ∧ ∀ r ∈ poL n, isExp r = true ∧ deg r = n := by
  unfold poC at h
  by_cases e : 0 ≤ n ∧ n ≤ 40
  · refine ⟨n.toNat, by omega, by omega, fun r hr => ?_⟩
    have e2 : poL n = partL n.toNat := if_pos e
    rw [e2] at hr
    have := mem_partL (show n.toNat ≤ 40 by omega) hr
    exact ⟨this.1, by rw [this.2]; omega⟩
  · rw [if_neg e] at h; omega
theorem dg_ok {r : List Int} {n : Int} (h : isExp r = true ∧ deg r = n) (hn : n ≤ 40) : dgC r = 0 ∧ dgV r = n := by
  unfold dgC dgV
  rw [if_pos h.1, if_pos h.1, h.2, if_pos (by omega), if_pos (by omega)]
  exact ⟨rfl, rfl⟩
def SumOk (x y r : List (List Int)) (c : Int) : Prop := ∀ (v u : Value) (W : World), IntSS W.heap v x → IntSS W.heap u y →
  Calls Try.prog 29 #[v, u] W fun e w' => ∃ q, e = .returned (.tuple #[q, .int .i64 c]) ∧ IntSS w'.heap q r ∧ Below W.heap.size W w'
theorem sumOk (x y : List (List Int)) : SumOk x y (stL x y) (stC x y) := fun v u W h hu => implSumOfTermLists_of sortSS_c v u x y W h hu
theorem st_pack (a b : List (List Int)) (h : stC a b = 0) : SumOk b a (stL a b) 0 ∧ SumOk (stL a b) b a 0 := by
  have h1 := st_turn h; have h2 := st_back h
  refine ⟨?_, ?_⟩
  · have := sumOk b a; rwa [h1.1, h1.2] at this
  · have := sumOk (stL a b) b; rwa [h2.1, h2.2] at this
theorem df_pack (n : Int) (h : dfC n = 0) : dsum (dfL n) = n ∧ n ≤ 1000000000000 := by
  have : numB n = true := by
    unfold dfC at h
    cases e : numB n
    · rw [e] at h; simp at h
    · rfl
  exact ⟨dsum_dfL this, (numB_in this).2⟩
theorem sh_40 : ∀ k : Nat, k < 40 → IntKind.i64.wrap (2 ^ min (IntKind.u64.wrap (k : Int)).toNat 64) = (2 : Int) ^ k := by decide +kernel
theorem sh_40' : ∀ k : Nat, k < 40 → wrap64 (2 ^ k) = (2 : Int) ^ k := by decide +kernel
theorem dsum_bnd {ds : List Int} (h : ∀ x ∈ ds, ∃ i : Nat, x = i ∧ i < 40) : ∀ k, k ≤ ds.length → 0 ≤ dsum (ds.take k) ∧ dsum (ds.take k) ≤ k * 549755813888
  | 0, _ => by simp [dsum]
  | k + 1, hk => by
    have ih := dsum_bnd h k (by omega)
    rw [dsum_take_succ ds k (by omega)]
    obtain ⟨i, hi, h40⟩ := h _ (List.getElem_mem (show k < ds.length by omega))
    rw [hi, Int.toNat_natCast]
    have h1 : (2 : Int) ^ i = ((2 ^ i : Nat) : Int) := by simp
    have h2 : 2 ^ i ≤ 2 ^ 39 := Nat.pow_le_pow_right (by omega) (by omega)
    rw [h1]
    have h3 : (2 : Nat) ^ 39 = 549755813888 := by decide
    rw [h3] at h2
    generalize 2 ^ i = z at *
    omega
theorem pow_i (i : Nat) (h : i < 40) : (2 : Int) ^ i ≤ 549755813888 ∧ 0 ≤ (2 : Int) ^ i := by
  have h1 : (2 : Int) ^ i = ((2 ^ i : Nat) : Int) := by simp
  have h2 : 2 ^ i ≤ 2 ^ 39 := Nat.pow_le_pow_right (by omega) (by omega)
  have h3 : (2 : Nat) ^ 39 = 549755813888 := by decide
  rw [h3] at h2
  generalize 2 ^ i = z at *
  omega
theorem cnt_pack (n : Int) (h : poC n = 0) : (∀ W : World, Calls Try.prog 26 #[.int .i64 n] W fun e w' => e = .returned (.tuple #[.int .i64 ((poL n).length : Nat), .int .i64 0]) ∧ Below W.heap.size W w') ∧ ∀ r ∈ poL n, dgC r = 0 ∧ dgV r = n := by
  obtain ⟨d, rfl, hd, hr⟩ := part_pack n h
  have e2 : poL (d : Int) = partL d := by unfold poL; rw [if_pos ⟨by omega, by omega⟩, Int.toNat_natCast]
  refine ⟨fun W => ?_, fun r h => dg_ok (hr r h) (by omega)⟩
  rw [e2]
  exact implCountPartitions_c d W hd
end
end Go.Proofs.Ytljfpkhgijangaa

/- The product of two basis elements, and of elements: of the program. -/
import Derived.Test.YtljpjoegeincoaaLFill
import Derived.Test.YtljpjoegeincoaaLMulD
import Derived.Test.YtljpjoegeincoaaLAdd2
namespace Go.Proofs.Ytljpjoegeincoaa
open Go.RowKit Go.Sort

theorem cell_var3 {w w' : World} {g t : Nat} {a b c d : Value} (h : w'.heap[g]? = w.heap[g]?) (k : w.heap[g]? = some (.cells #[a, b, c, d] t (0, 0))) : w'.cell? ⟨g, 2, none⟩ = some c := by
  have := h.trans k
  rw [World.cell?]; simp only [this]; rfl
theorem free_var3 {w w' : World} {g t : Nat} {a b c d : Value} (h : w'.heap[g]? = w.heap[g]?) (k : w.heap[g]? = some (.cells #[a, b, c, d] t (0, 0))) : w'.frozen? ⟨g, 2, none⟩ = false := by
  have := h.trans k
  rw [World.frozen?]; simp only [this]; simp
theorem replicate_snoc {α : Type} (x : α) (k : Nat) : List.replicate (k + 1) x = List.replicate k x ++ [x] := List.replicate_succ'
theorem zero_rep (m n : Nat) : ZeroFrom n (List.replicate m (List.replicate n 0)) 0 := by
  intro i j hj _
  by_cases hi : i < m
  · simp [hi, hj]
  · simp [hi]
theorem rep_sm {b : Int} (hb : 0 ≤ b) (m n : Nat) : ∀ x ∈ List.replicate m (List.replicate n (0 : Int)), Sm b x := by
  intro x hx
  rw [(List.mem_replicate.1 hx).2]
  intro y hy
  rw [(List.mem_replicate.1 hy).2]; omega
theorem rep_len (m n : Nat) : ∀ x ∈ List.replicate m (List.replicate n (0 : Int)), x.length = n := by
  intro x hx
  rw [(List.mem_replicate.1 hx).2]; simp
set_option maxRecDepth 100000 in
set_option maxHeartbeats 2000000 in
theorem basisProduct_c (v u : Value) (r s : List Int) (w : World) (h : IntS w.heap v r) (hu : IntS w.heap u s) (hm : r.length ≤ 20) (hn : s.length ≤ 20) (sr : Sm 1000000000000 r) (ss : Sm 1000000000000 s) (hl : (basL r s).length < 4398046511104) :
    Calls Try.prog 111 #[v, u] w fun e w' => ∃ x us, e = .returned x ∧ OwnU w' w.heap.size x us (basL r s) ∧ Below w.heap.size w w' := by
  have C1 := Lib.hid (copyOf_c v r w h (by omega))
  have C2 := Lib.hid (fun (W : World) (h : IntS W.heap u s) => copyOf_c u s W h (by omega))
  obtain ⟨ao, c, rfl, -⟩ := h.len
  obtain ⟨bo, d, rfl, -⟩ := hu.len
  have HU := Lib.hid hu; have HSR := Lib.hid sr; have HSS := Lib.hid ss; have HL := Lib.hid hl
  clear h hu sr ss hl
  have hmk := fun w => make_run (P := Try.prog) 42 2 _ 8 info_int64 Try.underlying42 rfl (by omega) s.length (by omega) .i64 .i64 (s.length : Int) (s.length : Int) rfl rfl w
  go_enter Try.func111, Try.ntmps111
  go_wp2_with (first | (go_at_call 104; first | ((with_reducible refine C1.out.mono ?_); rintro e w1 ⟨rv, rfl, hR, hb1⟩; obtain ⟨ra, rn, rc, rfl⟩ := own_shape hR) | ((with_reducible refine (C2.out _ (HU.out.same hb1.block)).mono ?_); rintro e w2 ⟨sv, rfl, hS, hb2⟩; obtain ⟨sa, sn, sc, rfl⟩ := own_shape hS)))
  obtain ⟨W3, hW3⟩ : ∃ W3, W3 = w2.alloc (.cells #[.slice ra rn rc, .slice sa sn sc, .slice none 0 0, .slice none 0 0] 108) := ⟨_, rfl⟩
  have V3 : Hid (W3.heap[w2.heap.size]? = some (.cells #[.slice ra rn rc, .slice sa sn sc, .slice none 0 0, .slice none 0 0] 108 (0, 0))) := by show _ = _; rw [hW3]; exact heap_alloc_new _ _
  have S3 : Hid (W3.heap.size = w2.heap.size + 1) := by show _ = _; rw [hW3]; simp
  have B23 : Hid (Below w2.heap.size w2 W3) := by show Below _ _ _; rw [hW3]; exact (Below.refl _ _).alloc (Nat.le_refl _) _
  rw [← hW3]
  have HR := Lib.hid hR; have HS := Lib.hid hS; have HB1 := Lib.hid hb1; have HB2 := Lib.hid hb2
  clear hW3 hR hS hb1 hb2 C1 C2
  go_loopw [14] (fun i wr => ∃ (k : Nat) (cv : Value) (cus : List Value), k ≤ r.length ∧ i = .int .i64 k ∧ wr.heap[w2.heap.size]? = some (.cells #[.slice ra rn rc, .slice sa sn sc, cv, .slice none 0 0] 108 (0, 0)) ∧ OwnU wr W3.heap.size cv cus (List.replicate k (List.replicate s.length 0)) ∧ Below w2.heap.size W3 wr) (fun i _ => r.length - (intOf i).toNat)
  case atStart => exact ⟨0, .slice none 0 0, [], by omega, rfl, V3.out, own_u_nil _ _, Below.refl _ _⟩
  case round =>
    obtain ⟨k, cv, cus, hk, rfl, hV, hU, hbl⟩ := hrel
    rename World => WR
    obtain ⟨ca, cn, cc, rfl⟩ := own_shape hU.row
    have hgs : w2.heap.size < WR.heap.size := (Array.getElem?_eq_some_iff.1 hV).1
    have c2 : WR.cell? ⟨w2.heap.size, 2, none⟩ = some (.slice ca cn cc) := by rw [World.cell?]; simp only [hV]; rfl
    have HV := Lib.hid hV; have HUU := Lib.hid hU; have HBL := Lib.hid hbl
    clear hV hU hbl
    by_cases hkr : k < r.length
    · have c2a : WR.drew.cell? ⟨w2.heap.size, 2, none⟩ = some (.slice ca cn cc) := c2
      have c2b : ∀ o, ((WR.alloc o).drew).cell? ⟨w2.heap.size, 2, none⟩ = some (.slice ca cn cc) := fun o => Go.Lib.cell?_alloc_some o c2
      have c2c : ∀ o o', (((WR.alloc o).alloc o').drew).cell? ⟨w2.heap.size, 2, none⟩ = some (.slice ca cn cc) := fun o o' => Go.Lib.cell?_alloc_some o' (Go.Lib.cell?_alloc_some o c2)
      have hsz : W3.heap.size ≤ WR.heap.size := HBL.out.size
      have HZ := Lib.hid (made_own WR WR.heap.size 2 s.length (.int .i64 0) (Nat.le_refl _) (by omega))
      go_wp2_with fail
      go_region_law (refine step_append_rowU (w0 := WR) (wE := WR) (by rfl) (.tmp 20) (.tmp 24) (by rfl) W3.heap.size (.slice ca cn cc) (.slice (some ⟨WR.heap.size, 0, none⟩) s.length s.length) cus (List.replicate k (List.replicate s.length 0)) (List.replicate s.length 0) HUU.out (by rfl) (by exact OwnI.same (by unfold OwnI; simpa using HZ.out) (alloc_old _ _)) (by exact below_drewN 1 (((Below.refl _ _).alloc (Nat.le_refl _) _).alloc (by simp) _)) (by exact Below.refl _ WR) (by exact hsz) (WR.heap.size + 1) (by rfl) (by have := heap_alloc_new (WR.alloc (.cells (madeCells #[.int .i64 0] s.length) 2)) (.cells #[.slice (some ⟨WR.heap.size, 0, none⟩) s.length s.length] 42); rw [size_alloc_w] at this; exact this) (by simp; omega) ?_; intro v3 w3 hU3 hb3 hs3 hk4; obtain ⟨sa', sn', sc', rfl⟩ := own_shape hU3.row; have c4 := cell_var3 (hb3.block _ (by have := S3.out; omega)) HV.out; have f4 := free_var3 (hb3.block _ (by have := S3.out; omega)) HV.out)
      all_goals
        have HU3 := Lib.hid hU3; have HB3 := Lib.hid hb3
        clear hU3 hb3 hs3 hk4 c4 f4 c2a c2b c2c c2
        go_wp2_with fail
        go_roundw
        case rel =>
          have hg3 := (HB3.out.block w2.heap.size (by have := S3.out; omega)).trans HV.out
          refine ⟨k + 1, .slice sa' sn' sc', cus ++ [.slice (some ⟨WR.heap.size, 0, none⟩) s.length s.length], by omega, by go_num, ?_, ?_, ((HBL.out.trans (HB3.out.mono (by have := S3.out; omega))).setCell (Nat.le_refl _) _)⟩
          · rw [heap_setCell_same w3 w2.heap.size 2 _ 108 (.slice sa' sn' sc') hg3]; rfl
          · rw [replicate_snoc]
            exact HU3.out.far fun b h1 _ => Below.heap_setCell _ _ _ _ (by show b ≠ w2.heap.size; have := S3.out; omega)
        case measure => simp [intOf]; omega
    · obtain rfl : k = r.length := by omega
      have hszw : W3.heap.size ≤ WR.heap.size := HBL.out.size
      have hs12 := HB2.out.size
      have hs01 := HB1.out.size
      have HRl : Hid (∀ b, (Value.slice ra rn rc).ownBlock = some b → w.heap.size ≤ b ∧ b < w1.heap.size) := fun b e => World.ownsRow.lt HR.out b e
      have HSl : Hid (∀ b, (Value.slice sa sn sc).ownBlock = some b → w1.heap.size ≤ b ∧ b < w2.heap.size) := fun b e => World.ownsRow.lt HS.out b e
      have HCl : Hid (∀ u ∈ cus, ∀ b, u.ownBlock = some b → W3.heap.size ≤ b ∧ b < WR.heap.size) := fun u hu b e => by
        obtain ⟨i, hi, rfl⟩ := List.getElem_of_mem hu
        have hl := HUU.out.len
        exact World.ownsRow.lt (HUU.out.each i _ _ (List.getElem?_eq_getElem hi) (List.getElem?_eq_getElem (by omega))) b e
      have k0 : ∀ b, b < w2.heap.size → WR.heap[b]? = w2.heap[b]? := fun b hb => (HBL.out.block b hb).trans (B23.out.block b hb)
      have T := Lib.hid (show TabV WR w.heap.size WR.heap.size w2.heap.size (.slice ra rn rc) (.slice sa sn sc) (.slice ca cn cc) (.slice none 0 0) cus [] r s (List.replicate r.length (List.replicate s.length 0)) [] from
        ⟨HV.out, by omega, hgs, own_kept HR.out fun b e => by have := HRl.out b e; rw [k0 b (by omega)]; exact HB2.out.block b (by omega),
          own_base (own_kept HS.out fun b e => k0 b (by have := HSl.out b e; omega)) (by omega), own_u_base HUU.out (by have := S3.out; omega), own_u_nil _ _,
          fun b e e2 => by have := HRl.out b e; have := HSl.out b e2; omega,
          fun u hu b e => ⟨fun e2 => by have := HCl.out u hu b e; have := HRl.out b e2; have := S3.out; omega, fun e2 => by have := HCl.out u hu b e; have := HSl.out b e2; have := S3.out; omega⟩,
          fun b e => by have := HRl.out b e; have := S3.out; omega, fun b e => by have := HSl.out b e; have := S3.out; omega, fun b e => (World.ownsRow.lt HUU.out.row b e).2, fun u hu b e => (HCl.out u hu b e).2, Nat.le_refl _⟩)
      have FC := Lib.hid (fill_c (m := r.length) (n := s.length) hm hn (r.length * s.length) 0 0 r s _ [] _ _ WR T.out rfl rfl (by simp) (rep_len _ _) (by have := zero_rep r.length s.length; simpa using this) HSR.out HSS.out (rep_sm (by omega) _ _) (by omega) (by omega) (by omega) (by omega) (by have h1 := HL.out; simp only [List.length_nil, Nat.zero_add]; exact h1))
      have HBW : Hid (Below w.heap.size w WR) := (HB1.out.trans ((HB2.out.mono hs01).trans ((B23.out.mono (by omega)).trans (HBL.out.mono (by omega)))))
      clear k0 c2 hmk
      go_wp2_with (go_at_call 137; refine FC.out.mono ?_; rintro e w5 ⟨rfl, ov5, ous5, hT5, hB5⟩; have c3 := hT5.c3; obtain ⟨oa, on', oc, rfl⟩ := own_shape hT5.o.row)
      go_ret
      exact ⟨_, ous5, rfl, own_u_base (by simpa [basL] using hT5.o) (by omega), HBW.out.trans hB5⟩
end Go.Proofs.Ytljpjoegeincoaa

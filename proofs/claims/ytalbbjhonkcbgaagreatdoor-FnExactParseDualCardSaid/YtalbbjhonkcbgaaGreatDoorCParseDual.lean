/- What is proved: for every text the law FnExactParseDual returns true: the program's ParseDual and the reference's agree, and the result is the call's own. The row lists variables of the library, which the card ties to the program's text. -/
import Derived.Test.YtalbbjhonkcbgaaGreatDoorLRdG
import Derived.Test.YtalbbjhonkcbgaaGreatDoorRows
import Derived.HandedShaped
import Derived.Handed
import Derived.LaidSub
import Derived.LaidMore
import Derived.MakeChecks
import Derived.Shelf.Vars
import Derived.Stop.LaidErr
import Derived.Lay
import Derived.Test.YtalbbjhonkcbgaaGreatDoorLMilArg
import Derived.Test.YtalbbjhonkcbgaaGreatDoorCards
import Derived.Test.YtalbbjhonkcbgaaGreatDoorTie
import Derived.Test.YtalbbjhonkcbgaaGreatDoorLRdU
import Derived.Test.YtalbbjhonkcbgaaGreatDoorLRdY
import Derived.Test.YtalbbjhonkcbgaaGreatDoorLGen
import Derived.SevenTiedAt
import Derived.ProofKit
import Derived.OpenShut
import Derived.ShutString
import Derived.ChangeOld
namespace Go.Proofs.YtalbbjhonkcbgaaGreatDoor
section
open Go.RowKit

section
variable {H : Type} {enc : TypeId × Value → H}
theorem of_change_and_shaped {a : Assume} {C : Checked} {os : Os} {f : FuncId} {fn : Func} {s : ChangeSpec} {conds : List PathCond} {apart fresh handsOn again : Bool} {X : World → Array Value → Prop}
    (hX : ∀ (w w' : World) (args : Array Value), w.heap = w'.heap → X w args → X w' args)
    (own : ownKnob C.prog.godebug = none) (started : os.Started) (noInit : C.prog.inits.idxOf? f = none) (hfn : C.prog.funcs[f]? = some fn)
    (witness : ∃ (w : World) (tape : Tape) (i : Input), w.os = os ∧ (w.forCall tape i).Shaped C.prog ∧ i.vars = [] ∧ Input.okWide C.prog (w.forCall tape i) .any w.heap.size f i ∧
      ((s.pre enc C.prog fn conds apart (w.forCall tape i).memory i.args ∧ X (w.forCall tape i).memory i.args) ∧ sizedMet enc C.prog fn (OpenSpec.ofChange s) apart (w.forCall tape i).memory i.args) ∧ a.holds C.prog (lone (Frame.enter C.prog f i.args .normal) [] (w.forCall tape i)))
    (contract : ∀ (W : World) (base : Nat) (args : Array Value) (ds gs : List (DataW H)) (before : List MemPlace),
      (∀ (j : Nat) t v, fn.params[j]? = some t → args[j]? = some v → Value.okWide C.prog W .any base t v) →
      DataW.Whole enc C.prog fn.params.toList s.vars apart W args.toList ds gs before →
      X W args → W.ShapedOpen C.prog →
      Calls C.prog f args W fun e W' => ∃ v, e = .returned v ∧ s.post enc C.prog fn apart fresh handsOn again W args v W') :
    ReturnsInHanded a C os f .any (fun w args => (s.pre enc C.prog fn conds apart w args ∧ X w args) ∧ sizedMet enc C.prog fn (OpenSpec.ofChange s) apart w args) (s.post enc C.prog fn apart fresh handsOn again) := by
  refine returnsInHanded_of_calls own started noInit witness ?_
  intro w tape i _ hsh _ hok hpre _
  obtain ⟨_, _, _, fn', hfn', _, _, _, _, hval⟩ := hok
  have e : fn' = fn := Option.some.inj (hfn'.symm.trans hfn)
  subst e
  obtain ⟨⟨⟨ds, gs, before, hw, _⟩, hx⟩, _⟩ := hpre
  have hw' := DataW.Whole.of_heap (w' := w.forCall tape i) (by rfl) hw
  refine (contract (w.forCall tape i) w.heap.size i.args ds gs before hval hw' (hX _ _ _ (by rfl) hx) hsh).mono fun e W' ⟨v, he, hp⟩ => ?_
  subst he
  exact ChangeSpec.post_blind hp
end
theorem star_errs : "*" ++ "errors.errorString" = "*errors.errorString" := by decide
theorem row_errs (u : TypeId) (h : Tryz.prog.typeName? 3 u = some "*errors.errorString") : u = 152 :=
  typeName_ptr_named (nm := "errors.errorString") (by rw [star_errs]; kernel_rfl) (by kernel_rfl) (by decide) u (by rw [star_errs]; exact h)
theorem sentinel_of {n : String} {text : List UInt8} {laid : List (String × DataW Unit)} {W : World} {g : Nat} (hL : laidMetH Tryz.prog laid W)
    (hl : laid.filter (fun x => x.1 == n) = [(n, .iface "*errors.errorString" (.ptr (.agg [.lit (.string text)])))])
    (hg : Tryz.prog.globalNamed n = some g) (ht : (Tryz.prog.globals[g]?).map (·.type) = some 78) :
    ∃ ev, W.cell? ⟨g, 0, none⟩ = some ev ∧ (ev = .nilIface ∨ ∃ te pe, ev = .iface te pe) := by
  have h1 := hL.filter (fun x => x.1 == n)
  rw [hl, MakeChecks.laidMetH_plain _ _ _ (by rfl)] at h1
  obtain ⟨a, s, hv, _⟩ := laid_sentinel h1 hg ht Tryz.underlying78 row_errs Tryz.underlying152 Tryz.underlying154 rfl rfl Tryz.underlying9 (by kernel_rfl) (by kernel_rfl)
  exact ⟨_, by have h0 := World.var?_cell hg hv 0; simpa using h0, .inr ⟨_, _, rfl⟩⟩
theorem glob_of {laid : List (String × DataW Unit)} {W : World} {t1 t2 : List UInt8} (hsh : W.ShapedOpen Tryz.prog) (hL : laidMetH Tryz.prog laid W)
    (hl : laid.filter (fun x => x.1 == "internal/strconv.uint64pow10") = [("internal/strconv.uint64pow10", Go.Lib.tabData .u64 Go.Lib.pow10Tab)])
    (h1 : laid.filter (fun x => x.1 == "strconv.ErrSyntax") = [("strconv.ErrSyntax", .iface "*errors.errorString" (.ptr (.agg [.lit (.string t1)])))])
    (h2 : laid.filter (fun x => x.1 == "strconv.ErrRange") = [("strconv.ErrRange", .iface "*errors.errorString" (.ptr (.agg [.lit (.string t2)])))]) : Glob W := by
  refine ⟨?_, ?_, ?_, ?_⟩
  · exact cell_of_shapedOpen_int (t := 3) (zero := #[.int .i64 0]) hsh (of_decide_eq_true (by kernel_rfl)) (by kernel_rfl) rfl (by kernel_rfl) (by kernel_rfl) Tryz.underlying3
  · exact sentinel_of hL h1 (by kernel_rfl) (by kernel_rfl)
  · exact sentinel_of hL h2 (by kernel_rfl) (by kernel_rfl)
  · have h1 := hL.filter (fun x => x.1 == "internal/strconv.uint64pow10")
    rw [hl, MakeChecks.laidMetH_plain _ _ _ (by kernel_rfl)] at h1
    exact Go.Lib.tabIs_of_head (g := 5) (n := 20) (t := 156) (e := 102) (by kernel_rfl) (by kernel_rfl) Tryz.underlying156 Tryz.underlying102 (by kernel_rfl) (by kernel_rfl) h1
end
section
open Go.RowKit Go.Sort

theorem markDual_c (v : Value) (us : List Value) (xss : List (List Int)) (k : Int) (B : Nat) (w : World) (h : OwnU w B v us xss) (hB : B ≤ w.heap.size) (hk : 0 ≤ k) (hx : k + cnt xss ≤ 4611686018427387904) :
    Calls Tryz.prog 8 #[.agg #[v], .int .i64 k] w fun e w' => e = .returned (.int .i64 (k + cnt xss)) ∧ OwnU w' B v us (marksS k xss) ∧ Below B w w' ∧ (∀ b, b < w.heap.size → (∀ u, u ∈ us → u.ownBlock ≠ some b) → w'.heap[b]? = w.heap[b]?) := by
  have hb : Below B w (w.alloc (.cells #[v] 24)) := (Below.refl _ _).alloc hB _
  have C := Lib.hid (markInt64SS_c v us xss k B _ (h.same (alloc_old w (.cells #[v] 24))) (by simp; omega) hk hx)
  obtain ⟨a1, c1, rfl, m1⟩ := h.ints.len
  have HB := Lib.hid hb; clear hb h
  go_enter Tryz.func8, Tryz.ntmps8
  go_wp2_with (go_at_call 23; refine C.out.mono ?_; rintro e w1 ⟨rfl, h1, z1, b1, k1⟩; have K1 := Lib.hid k1; clear k1)
  go_ret
  exact ⟨rfl, h1, HB.out.trans b1, fun b hb hne => (K1.out b (by simp; omega) hne).trans (alloc_old _ _ _ hb)⟩
theorem heldDual_c (v : Value) (xss : List (List Int)) (k : Int) (w : World) (h : IntSS w.heap v (marksS k xss)) (hk : 0 ≤ k) (hx : k + cnt xss ≤ 4611686018427387904) :
    Calls Tryz.prog 9 #[.agg #[v], .int .i64 k] w fun e w' => e = .returned (.int .i64 (k + cnt xss)) ∧ Below w.heap.size w w' := by
  have hb : Below w.heap.size w (w.alloc (.cells #[v] 24)) := (Below.refl _ _).alloc (Nat.le_refl _) _
  have C := Lib.hid (heldInt64SS_c v xss k _ (h.same hb.block) hk hx)
  obtain ⟨a1, c1, rfl, m1⟩ := h.len
  have HB := Lib.hid hb; clear hb h
  have t1 : decide (k + (cnt xss : Int) < 0) = false := by simp; omega
  go_enter Tryz.func9, Tryz.ntmps9
  go_wp2_with (go_at_call 24; refine C.out.mono ?_; rintro e w1 ⟨rfl, rfl⟩)
  go_ret
  exact ⟨rfl, HB.out⟩
end
open Go.ChangeShapes Go.WideShapes Go.ChangeAt Go.RowKit
open Go.ChangeMaps (open_string shut_string)

theorem cnt_leP {l : List (List Int)} {k : Nat} (h : ∀ r ∈ l, r.length ≤ k) : cnt l ≤ l.length * k := by
  induction l with
  | nil => simp [cnt]
  | cons x l ih =>
    have h1 := ih fun r hr => h r (List.mem_cons_of_mem _ hr)
    have h2 := h x (List.mem_cons_self ..)
    simp only [cnt, List.map_cons, List.sum_cons, List.length_cons, Nat.add_mul, Nat.one_mul] at h1 ⊢
    omega
theorem pduL_cnt (t : List UInt8) : cnt (pduL t) ≤ 100000 := by
  unfold pduL
  split
  · rename_i h
    have hA : arT (rfT t) = true := by
      unfold pduB at h
      rw [Bool.and_eq_true] at h
      exact h.1
    have h1 := arT_len hA
    have h2 : cnt (rfT t) ≤ (rfT t).length * 10 := cnt_leP fun r hr => exp_len (arT_row hA r hr).1
    omega
  · simp [cnt]
set_option maxRecDepth 100000 in
set_option maxHeartbeats 4000000 in
theorem fnExactParseDual_walk (w : World) (hG : Glob w) (t1 : List UInt8) :
    Calls Tryz.prog 3 #[.string (bs t1)] w fun e w' => e = .returned (.bool true) ∧ Below w.heap.size w w' := by
  have hz := bs_size t1
  by_cases hl : t1.length ≤ 1048576
  · have u9 : decide ((1048576 : Int) < (t1.length : Int)) = false := by simp; omega
    have S := Lib.hid (fun (W : World) (hb : Below w.heap.size w W) => specParseDual_c t1 hl W)
    have I := Lib.hid (fun (W : World) (hb : Below w.heap.size w W) => implParseDual_c t1 hl W (hG.below hb))
    have HXL := Lib.hid (pduL_cnt t1)
    clear hG hl
    generalize bs t1 = s1 at *
    generalize t1.length = n1 at *
    generalize pduL t1 = rx at *
    generalize pduC t1 = pc at *
    have u1 : (pc != pc) = false := by simp
    have BW0 := Lib.hid (Below.refl w.heap.size w)
    go_enter Tryz.func3, Tryz.ntmps3
    go_wp2_with fail
    refine (S.out _ BW0.out).mono ?_
    rintro e W1 ⟨r1, rfl, hm, hx⟩
    obtain ⟨j1, j2, rfl, -⟩ := hm.len
    have RW := Lib.hid hm
    clear hm
    have Z2 := Lib.hid (hx.size)
    have B3 := Lib.hid (BW0.out.trans (hx.mono BW0.out.size))
    clear BW0
    clear hx
    have B4 := Lib.hid (Below.refl W1.heap.size W1)
    obtain ⟨W5, E60⟩ : ∃ W, W = W1.alloc (.cells #[.slice j1 rx.length j2] 24) := ⟨_, rfl⟩
    have hx : Below W1.heap.size W1 W5 := by rw [E60]; exact (Below.refl _ _).alloc (Nat.le_refl _) _
    have k7 : W5.cell? ⟨W1.heap.size, 0, none⟩ = some (.slice j1 rx.length j2) := by rw [E60, World.cell?]; simp only [heap_alloc_new]; rfl
    have Z8 := Lib.hid (World.block_lt_of_cell? _ _ k7)
    simp only at Z8
    have Z9 := Lib.hid (hx.size)
    have B10 := Lib.hid (B3.out.trans (hx.mono B3.out.size))
    clear B3
    have B11 := Lib.hid (B4.out.trans (hx.mono B4.out.size))
    clear B4
    clear hx
    have E6 := Lib.hid E60
    clear E60
    go_wp2_with fail
    rw [← E6.out]
    clear E6
    go_wp2_with fail
    refine (I.out _ B10.out).mono ?_
    rintro e W14 ⟨v12, u13, rfl, hm, hx⟩
    obtain ⟨q15, q16, q17, rfl⟩ := own_shape hm.row
    have O18 := Lib.hid hm
    have R19 := Lib.hid hm.range
    clear hm
    have Z20 := Lib.hid (hx.size)
    have k21 := (hx.cell (World.block_lt_of_cell? _ _ k7)).trans k7
    clear k7
    have B22 := Lib.hid (B10.out.trans (hx.mono B10.out.size))
    clear B10
    have B23 := Lib.hid (B11.out.trans (hx.mono B11.out.size))
    clear B11
    clear hx
    obtain ⟨W24, E250⟩ : ∃ W, W = W14.alloc (.cells #[.slice q15 q16 q17] 24) := ⟨_, rfl⟩
    have hx : Below W14.heap.size W14 W24 := by rw [E250]; exact (Below.refl _ _).alloc (Nat.le_refl _) _
    have k26 : W24.cell? ⟨W14.heap.size, 0, none⟩ = some (.slice q15 q16 q17) := by rw [E250, World.cell?]; simp only [heap_alloc_new]; rfl
    have kx0 := Go.Lib.cell?_alloc_some (.cells #[.slice q15 q16 q17] 24) k21
    have Z27 := Lib.hid (World.block_lt_of_cell? _ _ k26)
    simp only at Z27
    have Z28 := Lib.hid (hx.size)
    have k29 := (hx.cell (World.block_lt_of_cell? _ _ k21)).trans k21
    clear k21
    have O30 := Lib.hid (O18.out.same hx.block)
    clear O18
    have B31 := Lib.hid (B22.out.trans (hx.mono B22.out.size))
    clear B22
    have B32 := Lib.hid (B23.out.trans (hx.mono B23.out.size))
    clear B23
    clear hx
    have E25 := Lib.hid E250
    clear E250
    go_wp2_with fail
    rw [← E25.out]
    clear E25 kx0
    go_wp2_with fail
    refine (eqDual_same _ _ rx _ O30.out.ints (RW.out.same B32.out.block)).mono ?_
    rintro e W33 ⟨rfl, hx⟩
    have Z34 := Lib.hid (hx.size)
    have k35 := (hx.cell (World.block_lt_of_cell? _ _ k29)).trans k29
    clear k29
    have k36 := (hx.cell (World.block_lt_of_cell? _ _ k26)).trans k26
    clear k26
    have O37 := Lib.hid (O30.out.same hx.block)
    clear O30
    have B38 := Lib.hid (B31.out.trans (hx.mono B31.out.size))
    clear B31
    have B39 := Lib.hid (B32.out.trans (hx.mono B32.out.size))
    clear B32
    clear hx
    go_wp2_with fail
    refine (markDual_c (.slice q15 q16 q17) u13 rx 1 W5.heap.size W33 O37.out (by have := Z2.out; have := Z8.out; have := Z9.out; have := Z20.out; have := Z27.out; have := Z28.out; have := Z34.out; omega) (by omega) (by have := HXL.out; omega)).mono ?_
    rintro e W40 ⟨rfl, hm, hlow, hfr⟩
    have RRR := R19.out
    have hhi : ∀ b, W14.heap.size ≤ b → b < W33.heap.size → W40.heap[b]? = W33.heap[b]? := fun b h1 h2 => hfr b h2 (fun u hu e => by have := RRR.2 u hu b e; omega)
    clear RRR
    have O41 := Lib.hid hm
    clear hm
    have Z42 := Lib.hid (hlow.size)
    have k43 := (hlow.cell (p := ⟨W1.heap.size, 0, none⟩) (by show W1.heap.size < W5.heap.size; exact (by have := Z2.out; have := Z8.out; have := Z9.out; have := Z20.out; have := Z27.out; have := Z28.out; have := Z34.out; have := Z42.out; omega))).trans k35
    clear k35
    have k44 := (World.cell?_of_block (hhi W14.heap.size (by have := Z2.out; have := Z8.out; have := Z9.out; have := Z20.out; have := Z27.out; have := Z28.out; have := Z34.out; have := Z42.out; omega) (World.block_lt_of_cell? _ _ k36))).trans k36
    clear k36
    have B45 := Lib.hid (B38.out.trans (hlow.mono (by have := Z2.out; have := Z8.out; have := Z9.out; have := Z20.out; have := Z27.out; have := Z28.out; have := Z34.out; have := Z42.out; omega)))
    clear B38
    have B46 := Lib.hid (B39.out.trans (hlow.mono (by have := Z2.out; have := Z8.out; have := Z9.out; have := Z20.out; have := Z27.out; have := Z28.out; have := Z34.out; have := Z42.out; omega)))
    clear B39
    clear hlow hhi hfr
    go_wp2_with fail
    refine (heldDual_c (.slice q15 q16 q17) rx 1 _ O41.out.ints (by omega) (by have := HXL.out; omega)).mono ?_
    rintro e W47 ⟨rfl, hx⟩
    have Z48 := Lib.hid (hx.size)
    have k49 := (hx.cell (World.block_lt_of_cell? _ _ k43)).trans k43
    clear k43
    have k50 := (hx.cell (World.block_lt_of_cell? _ _ k44)).trans k44
    clear k44
    have O51 := Lib.hid (O41.out.same hx.block)
    clear O41
    have B52 := Lib.hid (B45.out.trans (hx.mono B45.out.size))
    clear B45
    have B53 := Lib.hid (B46.out.trans (hx.mono B46.out.size))
    clear B46
    clear hx
    go_wp2_with fail
    refine (I.out _ B52.out).mono ?_
    rintro e W56 ⟨v54, u55, rfl, hm, hx⟩
    obtain ⟨q57, q58, q59, rfl⟩ := own_shape hm.row
    have O60 := Lib.hid hm
    have R61 := Lib.hid hm.range
    clear hm
    have Z62 := Lib.hid (hx.size)
    have k63 := (hx.cell (World.block_lt_of_cell? _ _ k49)).trans k49
    clear k49
    have k64 := (hx.cell (World.block_lt_of_cell? _ _ k50)).trans k50
    clear k50
    have O65 := Lib.hid (O51.out.same hx.block)
    clear O51
    have B66 := Lib.hid (B52.out.trans (hx.mono B52.out.size))
    clear B52
    have B67 := Lib.hid (B53.out.trans (hx.mono B53.out.size))
    clear B53
    clear hx
    obtain ⟨W68, E690⟩ : ∃ W, W = W56.alloc (.cells #[.slice q57 q58 q59] 24) := ⟨_, rfl⟩
    have hx : Below W56.heap.size W56 W68 := by rw [E690]; exact (Below.refl _ _).alloc (Nat.le_refl _) _
    have k70 : W68.cell? ⟨W56.heap.size, 0, none⟩ = some (.slice q57 q58 q59) := by rw [E690, World.cell?]; simp only [heap_alloc_new]; rfl
    have kx0 := Go.Lib.cell?_alloc_some (.cells #[.slice q57 q58 q59] 24) k63
    have kx1 := Go.Lib.cell?_alloc_some (.cells #[.slice q57 q58 q59] 24) k64
    have Z71 := Lib.hid (World.block_lt_of_cell? _ _ k70)
    simp only at Z71
    have Z72 := Lib.hid (hx.size)
    have k73 := (hx.cell (World.block_lt_of_cell? _ _ k63)).trans k63
    clear k63
    have k74 := (hx.cell (World.block_lt_of_cell? _ _ k64)).trans k64
    clear k64
    have O75 := Lib.hid (O65.out.same hx.block)
    clear O65
    have O76 := Lib.hid (O60.out.same hx.block)
    clear O60
    have B77 := Lib.hid (B66.out.trans (hx.mono B66.out.size))
    clear B66
    have B78 := Lib.hid (B67.out.trans (hx.mono B67.out.size))
    clear B67
    clear hx
    have E69 := Lib.hid E690
    clear E690
    go_wp2_with fail
    rw [← E69.out]
    clear E69 kx0 kx1
    go_wp2_with fail
    refine (eqDual_same _ _ rx _ O76.out.ints (RW.out.same B78.out.block)).mono ?_
    rintro e W79 ⟨rfl, hx⟩
    have Z80 := Lib.hid (hx.size)
    have k81 := (hx.cell (World.block_lt_of_cell? _ _ k73)).trans k73
    clear k73
    have k82 := (hx.cell (World.block_lt_of_cell? _ _ k74)).trans k74
    clear k74
    have k83 := (hx.cell (World.block_lt_of_cell? _ _ k70)).trans k70
    clear k70
    have O84 := Lib.hid (O75.out.same hx.block)
    clear O75
    have O85 := Lib.hid (O76.out.same hx.block)
    clear O76
    have B86 := Lib.hid (B77.out.trans (hx.mono B77.out.size))
    clear B77
    have B87 := Lib.hid (B78.out.trans (hx.mono B78.out.size))
    clear B78
    clear hx
    go_wp2_with fail
    refine (heldDual_c (.slice q15 q16 q17) rx 1 _ O84.out.ints (by omega) (by have := HXL.out; omega)).mono ?_
    rintro e W88 ⟨rfl, hx⟩
    have Z89 := Lib.hid (hx.size)
    have k90 := (hx.cell (World.block_lt_of_cell? _ _ k81)).trans k81
    clear k81
    have k91 := (hx.cell (World.block_lt_of_cell? _ _ k82)).trans k82
    clear k82
    have k92 := (hx.cell (World.block_lt_of_cell? _ _ k83)).trans k83
    clear k83
    have O93 := Lib.hid (O84.out.same hx.block)
    clear O84
    have O94 := Lib.hid (O85.out.same hx.block)
    clear O85
    have B95 := Lib.hid (B86.out.trans (hx.mono B86.out.size))
    clear B86
    have B96 := Lib.hid (B87.out.trans (hx.mono B87.out.size))
    clear B87
    clear hx
    go_wp2_with fail
    go_ret
    exact ⟨rfl, B95.out⟩
  · have u9 : decide ((1048576 : Int) < (t1.length : Int)) = true := by simp; omega
    generalize bs t1 = s1 at *
    generalize t1.length = n1 at *
    go_enter Tryz.func3, Tryz.ntmps3
    go_wp2_with fail
    go_ret
    exact ⟨rfl, Below.refl _ _⟩

namespace fnExactParseDual_row
theorem own : ownKnob Tryz.prog.godebug = none := by kernel_rfl
set_option linter.unusedVariables false in
set_option maxRecDepth 100000 in
theorem lifted (os : Os) (started : os.Started) (H : Type) (enc : TypeId × Value → H) :
    ReturnsInHanded {} Tryz.checked os 3 .any (fun w args => (Rows.fnExactParseDualSpec.pre enc Tryz.prog Tryz.f3 [] false w args ∧ laidMetH Tryz.prog Rows.fnExactParseDualRow.laid w) ∧ sizedMet enc Tryz.prog Tryz.f3 (OpenSpec.ofChange Rows.fnExactParseDualSpec) false w args)
      (Rows.fnExactParseDualSpec.post enc Tryz.prog Tryz.f3 false true false false) := by
  refine of_change_and_shaped (C := Tryz.checked) (X := fun w _ => laidMetH Tryz.prog Rows.fnExactParseDualRow.laid w) (fun _ _ _ hh h => h.of_heap hh) own started (by kernel_rfl) Tryz.func3
    (ChangeSpec.witness_shaped (enc := enc) (C := Tryz.checked) (os := os) (X := fun w _ => laidMetH Tryz.prog Rows.fnExactParseDualRow.laid w) false (World.laidAll Tryz.prog os Rows.fnExactParseDualRow.laid) #[.string ⟨#[]⟩] 8 (World.laidAll_os _ _ _)
      (World.shaped_of_ZipB (by kernel_rfl) (by kernel_rfl)) (by kernel_rfl) (by kernel_rfl) (by kernel_rfl)
      (by rw [MakeChecks.laidMetH_plain _ _ _ (by kernel_rfl)]; exact laidMet_laidAll _ (by kernel_rfl) (by kernel_rfl))) ?_
  intro W base args ds gs before hval0 hW hL hsh
  have hG := glob_of (t1 := [105, 110, 118, 97, 108, 105, 100, 32, 115, 121, 110, 116, 97, 120]) (t2 := [118, 97, 108, 117, 101, 32, 111, 117, 116, 32, 111, 102, 32, 114, 97, 110, 103, 101]) hsh hL (by kernel_rfl) (by kernel_rfl) (by kernel_rfl)
  have hval : ∀ (j : Nat) t v, Tryz.f3.params[j]? = some t → args[j]? = some v → Value.okWide Tryz.prog W .any base t v := hval0
  have hW' := hW
  obtain ⟨p, q, hA0, hV, rfl, hfz, hnd⟩ := hW
  have hA : DataW.TrodAll enc Tryz.prog W 0 (fun _ => true) true Tryz.f3.params.toList args.toList ds p := hA0
  rw [Tryz.params3] at hA hval
  obtain ⟨v0, vs0, d0, ds0, p0, q0, hargs, rfl, rfl, h0, r0⟩ := trodAll_cons hA
  obtain ⟨rfl, rfl, rfl⟩ := trodAll_nil r0
  obtain rfl : args = #[v0] := by cases args; simp_all
  obtain ⟨rfl, rfl⟩ := trodVars_none hV
  obtain ⟨s0, rfl, rfl, rfl, w0⟩ := open_string Tryz.underlying9 (hval 0 9 v0 rfl rfl) h0
  obtain ⟨a0, rfl⟩ : ∃ l, s0 = bs l := ⟨s0.data.toList, (Go.Lib.mk_data s0).symm⟩
  clear hA0 hval0
  refine (fnExactParseDual_walk W hG a0).mono fun e W' ⟨he, bel⟩ => ?_
  subst he
  exact ⟨_, rfl, _, _, _, [], _, [], hW', trodAll_mk1 (shut_bool Tryz.underlying4 _), (trodAll_cons_mk (shut_string Tryz.underlying9 w0) trodAll_mk0), rfl, bel.frame _, fun h => by cases h⟩
theorem over : Rows.FnExactParseDualSaid :=
  OpenClaim.holds_of_wide 3 Tryz.f3 rfl rfl rfl rfl rfl rfl rfl ⟨rfl, rfl, rfl, rfl, rfl⟩ rfl rfl rfl rfl rfl (by kernel_rfl) Tryz.func3 (by kernel_rfl)
    (of_decide_eq_true (by kernel_rfl)) (by unfold Func.isWrapper; first | (rw [if_pos (by decide +kernel)]; kernel_rfl) | (rw [if_neg (by decide +kernel)]; exact ⟨rfl, rfl⟩))
    (fun os started H enc _ => lifted os started H enc)
end fnExactParseDual_row
/-- The statement: the tied card. -/
theorem fnExactParseDual_proved : Rows.FnExactParseDualCardSaid :=
  Claim7.holds_tied_plain_at .later [] [.data, .data, .data, .data, .sentinel, .sentinel, .pinned] true (true, "ac528562c7411d1b6f91ca58f775cc6bb5a90b9d6246858650a54343f629d1f7") true
    fnExactParseDual_row.over (fun _ h => by cases h) (by kernel_rfl) (fun _ h => by cases h) fnExactParseDual_row_tie rfl ⟨rfl, rfl⟩ (by kernel_rfl) rfl
    (fun f fn hf hfn => by
      obtain rfl : f = 3 := Option.some.inj ((show Tryz.prog.funcNamed "loop.example/g01154/laws.FnExactParseDual" = some 3 by kernel_rfl).symm.trans hf) |>.symm
      obtain rfl : fn = Tryz.f3 := (Option.some.inj (Tryz.func3.symm.trans hfn)).symm
      exact ⟨by kernel_rfl, fun j t ht => by
        rw [Tryz.params3] at ht
        have hm : t ∈ [9] := by simpa using Array.mem_of_getElem? ht
        have hall : ([9].all fun u => !Tryz.prog.wantsStandIn u) = true := by kernel_rfl
        exact (show Tryz.prog.wantsStandIn t = false by simpa using List.all_eq_true.1 hall t hm)⟩)
    (by kernel_rfl)
#print axioms fnExactParseDual_proved
end Go.Proofs.YtalbbjhonkcbgaaGreatDoor

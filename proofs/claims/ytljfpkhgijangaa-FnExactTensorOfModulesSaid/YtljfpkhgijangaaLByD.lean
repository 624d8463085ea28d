/- byDegrees: the places of elements in the order of their degrees. -/
import Derived.Test.YtljfpkhgijangaaLIns
import Derived.Test.YtljfpkhgijangaaLMilArg
namespace Go.Proofs.Ytljfpkhgijangaa
open Go.RowKit Go.Sort

theorem info_int : (Try.prog.info? 3).map (fun i => (i.zero, i.size, i.bytes)) = some (some (.int .i64 0), 1, 8) := by kernel_rfl
section
variable {ops : Array Oper} {rest : List Oper} {o : Oper} {a : Act} {Q : Exit → Act → World → Prop}
theorem append_nat {w w0 : World} (hg : o.guard = none) (s x : Operand)
    (ho : o.op = .call { callee := .builtin .append, args := #[s, x], argTypes := #[150, 150] })
    (B : Nat) (v : Value) (xs : List Nat) (n : Nat) (hown : OwnN w B v xs) (hs : a.eval s = v) (hbl : Below B w0 w) (hB : B ≤ w.heap.size)
    (b : Nat) (hx : a.eval x = .slice (some ⟨b, 0, none⟩) 1 1) (hb : b = w.heap.size) (hn : xs.length ≤ 4398046511104)
    (hK : ∀ v' w', OwnN w' B v' (xs ++ [n]) → Below B w0 w' → w.heap.size ≤ w'.heap.size → (∀ b, b < w.heap.size → some b ≠ v.ownBlock → w'.heap[b]? = w.heap[b]?) → wpList Try.prog ops Q rest (a.put o.dst v') w') :
    wpList Try.prog ops Q (o :: rest) a (w.alloc (.cells #[.int .i64 (n : Int)] 3)) := by
  obtain ⟨i0, hi, hz0, hz1, hz2⟩ := info_parts info_int
  refine append_one hg s x _ ho B _ i0 _ 8 Try.underlying150 hi hz0 hz1 hz2 rfl (by omega) v _ _ _ hown hs hbl hB _ hx hb rfl hn ?_
  intro v' w' h1 h2 h3 h4
  exact hK v' w' (by unfold OwnN; simpa [natV] using h1) h2 h3 h4
end
theorem insZero_c (ao : Option Addr) (cap : Nat) (fv : Value) (w : World) : Calls Try.prog 239 #[.slice ao 0 cap, .int .i64 0, .int .i64 0, fv] w fun e w' => e = .returned (.tuple #[]) ∧ w = w' := by
  go_enter Try.func239, Try.ntmps239
  go_wp2_with fail
  go_loop [8] (fun i => i = .int .i64 1) (fun _ => 0)
  case atStart => rfl
  case round =>
    subst hrel
    go_wp2_with fail
    go_end0
    exact ⟨rfl, rfl⟩
theorem stableN_c (v : Value) (n : Nat) (hn : n ≤ 16) (fv : Value) (w : World) (Q : World → Prop) (h : Calls Try.prog 239 #[v, .int .i64 0, .int .i64 n, fv] w fun e w' => e = .returned (.tuple #[]) ∧ Q w') :
    Calls Try.prog 229 #[v, .int .i64 n, fv] w fun e w' => e = .returned (.tuple #[]) ∧ Q w' := by
  have H := Lib.hid h; clear h
  have t1 : decide ((20 : Int) ≤ (n : Int)) = false := by simp; omega
  have t2 : decide ((20 : Int) < (n : Int)) = false := by simp; omega
  go_enter Try.func229, Try.ntmps229
  go_wp2_with fail
  go_loop [7, 8] (fun a b => a = .int .i64 0 ∧ b = .int .i64 20) (fun _ _ => 0)
  case atStart => exact ⟨rfl, rfl⟩
  case round =>
    obtain ⟨rfl, rfl⟩ := hrel
    go_wp2_with (go_at_call 239; refine H.out.mono ?_; rintro e w1 ⟨rfl, hq⟩)
    go_loop [6] (fun a => a = .int .i64 20) (fun _ => 0)
    case atStart => rfl
    case round =>
      subst hrel
      go_wp2_with fail
      go_end0
      exact ⟨rfl, hq⟩
theorem sortStable_c (ao : Option Addr) (cap n : Nat) (fv : Value) (w : World) (Q : World → Prop) (h : Calls Try.prog 229 #[.slice ao n cap, .int .i64 n, fv] w fun e w' => e = .returned (.tuple #[]) ∧ Q w') :
    Calls Try.prog 203 #[.slice ao n cap, fv] w fun e w' => e = .returned (.tuple #[]) ∧ Q w' := by
  have H := Lib.hid h; clear h
  go_enter Try.func203, Try.ntmps203
  go_wp2_with (go_at_call 229; refine H.out.mono ?_; rintro e w1 ⟨rfl, hq⟩)
  go_end0
  exact ⟨rfl, hq⟩
theorem byDeg1_c (ds : List Int) (v : Value) (g x y : Nat) (w : World) (h : IntS w.heap v ds) (h1 : w.cell? ⟨g, 0, none⟩ = some v) (hx : x < ds.length) (hy : y < ds.length) :
    Calls Try.prog 204 #[.int .i64 x, .int .i64 y, .pointer (some ⟨g, 0, none⟩)] w fun e w' => e = .returned (.int .i64 (cmpI (ds.getD x 0) (ds.getD y 0))) ∧ ∃ m, w' = w.drewN m := by
  obtain ⟨b1, o1, c1, hv1, hc1, -⟩ := h.at x hx
  obtain ⟨b2, o2, c2, hv2, hc2, -⟩ := h.at y hy
  subst hv1
  simp only [Value.slice.injEq, Option.some.injEq, Addr.mk.injEq, and_true, true_and] at hv2
  obtain ⟨⟨rfl, rfl⟩, rfl⟩ := hv2
  rw [show ds[x] = ds.getD x 0 by simp [hx]] at hc1
  rw [show ds[y] = ds.getD y 0 by simp [hy]] at hc2
  clear h
  have i1 : (x : Int) < (ds.length : Int) := by omega
  have i2 : (y : Int) < (ds.length : Int) := by omega
  generalize ds.getD x 0 = p at *
  generalize ds.getD y 0 = q at *
  generalize ds.length = L at *
  go_enter Try.func204, Try.ntmps204
  go_wp2_with fail
  go_quiet ((go_at_call 188; exact quiet_same (compareI_c _ _ _)))
  go_wp2_with fail
  go_ret
  exact ⟨rfl, _, rfl⟩
theorem enters_byDeg1 : Enters Try.prog 204 := fun args w => by kernel_rfl
theorem byDegrees_c (v : Value) (ds : List Int) (w : World) (h : IntS w.heap v ds) (hs : Stems ds) (hl : ds.length ≤ 16) :
    Calls Try.prog 170 #[v] w fun e w' => ∃ o, e = .returned o ∧ OwnN w' w.heap.size o (ordL ds) ∧ Below w.heap.size w w' := by
  obtain ⟨ao, c, rfl, hm⟩ := h.len
  obtain ⟨w0, hw0⟩ : ∃ w0, w0 = w.alloc (.cells #[.slice ao ds.length c] 27) := ⟨_, rfl⟩
  have hb : Below w.heap.size w w0 := by rw [hw0]; exact (Below.refl _ _).alloc (Nat.le_refl _) _
  have hsz : w0.heap.size = w.heap.size + 1 := by rw [hw0]; simp
  have V : Cell1 w0 w.heap.size (.slice ao ds.length c) 27 := by rw [hw0]; exact Cell1.new w _ _
  have hA := h.same hb.block
  have HA := Lib.hid hA; have HB := Lib.hid hb; have HV := Lib.hid V; have HSZ := Lib.hid hsz; have HW := Lib.hid hw0
  clear hb V hA hw0 h
  have hs1 : w.heap.size ≤ w0.heap.size := by omega
  go_enter Try.func170, Try.ntmps170
  go_wp2_with fail
  rw [← HW.out]
  have c0 := HV.out.c0
  go_loopw [3, 8] (fun o i wr => ∃ k : Nat, k ≤ ds.length ∧ i = .int .i64 k ∧ OwnN wr w0.heap.size o (List.range k) ∧ Below w0.heap.size w0 wr) (fun _ i _ => ds.length - (intOf i).toNat)
  case atStart => exact ⟨0, Nat.zero_le _, rfl, by rw [← HSZ.out]; exact World.ownsRow_made (e := 3) (size := 1) w0 #[] 0 (Nat.le_refl _) (Nat.zero_le _) rfl, (Below.refl _ _).alloc (Nat.le_refl _) _⟩
  case round =>
    obtain ⟨k, hk, rfl, hO, hbl⟩ := hrel
    obtain ⟨pa, pn, pc, rfl⟩ := own_shape hO
    have hsz2 := hbl.size
    have HO := Lib.hid hO; have HBL := Lib.hid hbl
    clear hO hbl
    by_cases hlt : k < ds.length
    · go_wp2_with (at_builtin; refine append_nat (w := wr) rfl _ _ rfl w0.heap.size _ (List.range k) k HO.out rfl HBL.out hsz2 _ rfl (by simp) (by simp; omega) ?_; intro v' w' hown' hbl' _ _; obtain ⟨pv, nv, cv, rfl⟩ := own_shape hown')
      go_roundw
      case rel => exact ⟨k + 1, by omega, by go_num, by rw [List.range_succ]; exact hown', hbl'⟩
      case measure => simp [intOf]; omega
    · obtain rfl : k = ds.length := by omega
      by_cases hz : ds.length = 0
      · have he : ordL ds = [] := List.eq_nil_of_length_eq_zero (by rw [ordL_len hs]; exact hz)
        have hpn : pn = 0 := by
          have := HO.out
          unfold OwnN at this
          rw [hz] at this
          obtain ⟨_, _, hv, _⟩ := SlAt.len (slAt_of_own this)
          simp only [Value.slice.injEq] at hv
          exact hv.2.1
        subst hpn
        have C := Lib.hid (fun (fv : Value) => sortStable_c pa pc 0 fv wr (fun w' => wr = w') (stableN_c _ 0 (by omega) fv wr _ (insZero_c pa pc fv wr)))
        go_wp2_with (go_at_call 203; refine (C.out _).mono ?_; rintro e w2 ⟨rfl, rfl⟩)
        go_ret
        refine ⟨_, rfl, ?_, HB.out.trans (HBL.out.mono hs1)⟩
        have := HO.out
        rw [hz] at this
        rw [he]
        exact own_base this hs1
      · have h0 : 0 < ds.length := by omega
        have hO := HO.out
        have hO2 : wr.ownsRow w0.heap.size 3 1 (.slice pa pn pc) ds.length (natV (List.range ds.length)) := by have := hO; unfold OwnN at this; rwa [List.length_range] at this
        obtain ⟨g, cap, hv, hgB⟩ := own_open hO2 h0
        simp only [Value.slice.injEq] at hv
        obtain ⟨rfl, rfl, rfl⟩ := hv
        have hcell := (HV.out.kept HBL.out.block).c0
        have C := insN_c ds hs 204 #[.pointer (some ⟨w.heap.size, 0, none⟩)] g pc w0.heap.size wr h0 hl hO enters_byDeg1 (fun w1 hk hfar x y hx hy => by
          refine byDeg1_c ds (.slice ao ds.length c) w.heap.size x y w1 ((HA.out.same HBL.out.block).keep hk) ?_ hx hy
          rw [World.cell?_of_block (hfar _ (by show w.heap.size < wr.heap.size; omega) (by show w.heap.size ≠ g; have := HSZ.out; omega))]
          exact hcell)
        have HC := Lib.hid (sortStable_c _ pc ds.length _ wr _ (stableN_c _ ds.length hl _ wr _ C))
        clear C hO hO2 hcell
        go_wp2_with (go_at_call 203; refine HC.out.mono ?_; rintro e w2 ⟨rfl, hO2, hb2⟩)
        go_ret
        refine ⟨_, rfl, own_base hO2 hs1, (HB.out.trans (HBL.out.mono hs1)).trans (hb2.mono hs1)⟩
end Go.Proofs.Ytljfpkhgijangaa

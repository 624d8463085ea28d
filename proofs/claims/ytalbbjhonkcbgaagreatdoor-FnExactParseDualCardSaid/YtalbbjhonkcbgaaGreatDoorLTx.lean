/- Texts: words and their contracts that the program and the reference share. -/
import Derived.Test.YtalbbjhonkcbgaaGreatDoorLMilArg
import Derived.Test.YtalbbjhonkcbgaaGreatDoorLMil2
import Derived.Test.YtalbbjhonkcbgaaGreatDoorLHeld2
import Derived.Test.YtalbbjhonkcbgaaGreatDoorL10
import Derived.Test.YtalbbjhonkcbgaaGreatDoorBase2
import Derived.Lib.Join
import Derived.Lib.ItoaNum
import Derived.Lib.SmallJoins
import Derived.Laws.IdiomStrings
import Derived.Laws.Concat
namespace Go.Proofs.YtalbbjhonkcbgaaGreatDoor
open Go.RowKit Go.Sort

/-- A text out of its bytes. -/
def bs (l : List UInt8) : ByteArray := ⟨l.toArray⟩
theorem bs_data (l : List UInt8) : (bs l).data.toList = l := by simp [bs]
theorem bs_cat (a b : List UInt8) : bs a ++ bs b = bs (a ++ b) := by
  rw [← Go.Lib.mk_data (bs a ++ bs b), Go.Joins.data_append, bs_data, bs_data]; rfl
theorem bs_size (l : List UInt8) : (bs l).size = l.length := by show l.toArray.size = _; simp
theorem cat_run (a b : List UInt8) (h : a.length + b.length ≤ 9223372036854775807) (P : Program) (W : World) : (Op.stringOp .add (bs a) (bs b)).run P W = .ok (.string (bs (a ++ b))) W := by
  rw [run_string_add_sum W _ _ (by rw [bs_size, bs_size]; exact h), bs_cat]
theorem bs_inj {a b : List UInt8} (h : bs a = bs b) : a = b := by rw [← bs_data a, h, bs_data]
def dec (n : Int) : List UInt8 := Go.Lib.decDigits n.toNat
theorem dec_small (n : Nat) (h : n < 10) : dec (n : Int) = [UInt8.ofNat (48 + n)] := by
  unfold dec; rw [Int.toNat_natCast, Go.Lib.decDigits, dif_pos h]
theorem dec_two (n : Nat) (h : ¬ n < 10) : dec (n : Int) = dec ((n / 10 : Nat) : Int) ++ [UInt8.ofNat (48 + n % 10)] := by
  unfold dec; rw [Int.toNat_natCast, Int.toNat_natCast, Go.Lib.decDigits, dif_neg h]
theorem dec_len (n : Nat) (h : n < 100) : (dec (n : Int)).length ≤ 2 := by
  by_cases h1 : n < 10
  · rw [dec_small n h1]; simp
  · rw [dec_two n h1, dec_small _ (by omega)]; simp
theorem join_len {m : Nat} (sep : List UInt8) : ∀ (xs : List (List UInt8)), (∀ x ∈ xs, x.length ≤ m) → (Go.Lib.join xs sep).length ≤ xs.length * (m + sep.length)
  | [], _ => by simp [Go.Lib.join_nil]
  | x :: r, h => by
    have key : ∀ (r : List (List UInt8)), (∀ y ∈ r, y.length ≤ m) → (Go.Lib.joinTail sep r).length ≤ r.length * (m + sep.length) := by
      intro r hr
      induction r with
      | nil => simp [Go.Lib.joinTail]
      | cons y r ih =>
        have h1 := ih fun z hz => hr z (List.mem_cons_of_mem _ hz)
        have h2 := hr y (List.mem_cons_self ..)
        simp only [Go.Lib.joinTail, List.map_cons, List.flatten_cons, List.length_append, List.length_cons, Nat.succ_mul] at h1 ⊢
        omega
    rw [Go.Lib.join_cons, List.length_append, List.length_cons, Nat.succ_mul]
    have h1 := key r fun z hz => h z (List.mem_cons_of_mem _ hz)
    have h2 := h x (List.mem_cons_self ..)
    omega
/-- As a loop that builds it from the left. -/
theorem join_snoc (xs : List (List UInt8)) (y sep : List UInt8) : Go.Lib.join (xs ++ [y]) sep = if xs = [] then y else Go.Lib.join xs sep ++ sep ++ y := by
  cases xs with
  | nil => simp [Go.Lib.join_one]
  | cons x r =>
    rw [List.cons_append, Go.Lib.join_cons, Go.Lib.join_cons]
    simp [Go.Lib.joinTail]
/-- A slice of texts of the call's own. -/
def OwnW (w : World) (B : Nat) (v : Value) (xs : List (List UInt8)) : Prop := w.ownsRow B 9 1 v xs.length (xs.map fun l => Value.string (bs l))
theorem info_str : (Tryz.prog.info? 9).map (fun i => (i.zero, i.size, i.bytes)) = some (some (.string ⟨#[]⟩), 1, 16) := by kernel_rfl
theorem OwnW.same {w w' : World} {B : Nat} {v : Value} {xs : List (List UInt8)} (h : OwnW w B v xs) (k : ∀ b, b < w.heap.size → w'.heap[b]? = w.heap[b]?) : OwnW w' B v xs := own_same h k
theorem ownW_empty {w : World} {B : Nat} (hB : B ≤ w.heap.size) : OwnW (w.alloc (.cells #[] 9)) B (.slice (some ⟨w.heap.size, 0, none⟩) 0 0) [] := World.ownsRow_made w #[] 0 hB (Nat.zero_le _) rfl
section
variable {ops : Array Oper} {rest : List Oper} {o : Oper} {a : Act} {Q : Exit → Act → World → Prop}
theorem append_word {w w0 : World} (hg : o.guard = none) (s x : Operand)
    (ho : o.op = .call { callee := .builtin .append, args := #[s, x], argTypes := #[37, 37] })
    (B : Nat) (v : Value) (xs : List (List UInt8)) (l : List UInt8) (hown : OwnW w B v xs) (hs : a.eval s = v) (hbl : Below B w0 w) (hB : B ≤ w.heap.size)
    (b : Nat) (hx : a.eval x = .slice (some ⟨b, 0, none⟩) 1 1) (hb : b = w.heap.size) (hn : xs.length ≤ 4398046511104)
    (hK : ∀ v' w', OwnW w' B v' (xs ++ [l]) → Below B w0 w' → w.heap.size ≤ w'.heap.size → (∀ b, b < w.heap.size → some b ≠ v.ownBlock → w'.heap[b]? = w.heap[b]?) → wpList Tryz.prog ops Q rest (a.put o.dst v') w') :
    wpList Tryz.prog ops Q (o :: rest) a (w.alloc (.cells #[.string (bs l)] 9)) := by
  obtain ⟨i0, hi, hz0, hz1, hz2⟩ := info_parts info_str
  refine append_one hg s x _ ho B _ i0 _ 16 Tryz.underlying37 hi hz0 hz1 hz2 rfl (by omega) v _ _ _ hown hs hbl hB _ hx hb rfl hn ?_
  intro v' w' h1 h2 h3 h4
  exact hK v' w' (by unfold OwnW; simpa using h1) h2 h3 h4
end
theorem conv_at (n : Nat) (hn : n < 10) (W : World) (b : Nat) (h : W.cell? ⟨b, 0, none⟩ = some (.int .u8 (48 + (n : Int)))) : (convert 95 9 (.slice (some ⟨b, 0, none⟩) 1 1)).run Tryz.prog W = .ok (.string (bs [UInt8.ofNat (48 + n)])) W := by
  refine run_convert_bytes_back _ _ _ 5 ⟨b, 0, none⟩ 1 [UInt8.ofNat (48 + n)] Tryz.underlying95 Tryz.underlying5 Tryz.underlying9 (fun j hj => ?_)
  have hj0 : j = 0 := by simpa using hj
  subst hj0
  show W.cell? ⟨b, 0, none⟩ = _
  rw [h]
  have : (UInt8.ofNat (48 + n)).toNat = 48 + n := by simp; omega
  simp
  omega
theorem conv_byte (n : Nat) (hn : n < 10) (w : World) : (convert 95 9 (.slice (some ⟨w.heap.size, 0, none⟩) 1 1)).run Tryz.prog (w.alloc (.cells #[.int .u8 (48 + (n : Int))] 5)) = .ok (.string (bs [UInt8.ofNat (48 + n)])) (w.alloc (.cells #[.int .u8 (48 + (n : Int))] 5)) :=
  conv_at n hn _ _ (Cell1.new w _ _).c0
set_option maxRecDepth 100000 in
theorem l01Dec1_c (n : Nat) (hn : n < 10) (w : World) : Calls Tryz.prog 57 #[.int .i64 n] w fun e w' => e = .returned (.string (bs (dec n))) ∧ Below w.heap.size w w' := by
  have t1 : decide ((n : Int) < 10) = true := by simp; omega
  have hd := dec_small n hn
  have hcv := fun w => conv_byte n hn w
  obtain ⟨x, hx⟩ : ∃ x, x = UInt8.ofNat (48 + n) := ⟨_, rfl⟩
  rw [← hx] at hd hcv
  rw [hd]
  clear hx hd
  go_enter Tryz.func57, Tryz.ntmps57
  go_wp2_with fail
  go_ret
  exact ⟨rfl, (Below.refl _ _).alloc (Nat.le_refl _) _⟩
set_option maxRecDepth 100000 in
theorem l01Dec_c (n : Nat) (hn : n < 100) (w : World) : Calls Tryz.prog 57 #[.int .i64 n] w fun e w' => e = .returned (.string (bs (dec n))) ∧ Below w.heap.size w w' := by
  by_cases h : n < 10
  · exact l01Dec1_c n h w
  · have t1 : decide ((n : Int) < 10) = false := by simp; omega
    have hd := dec_two n h
    obtain ⟨q, hq⟩ : ∃ q, q = n / 10 := ⟨_, rfl⟩
    obtain ⟨r, hr⟩ : ∃ r, r = n % 10 := ⟨_, rfl⟩
    rw [← hq, ← hr] at hd
    have e1 : (n : Int) / 10 = (q : Int) := by omega
    have e2 : (n : Int) % 10 = (r : Int) := by omega
    have e3 : (n : Int).tdiv 10 = (q : Int) := by rw [Int.tdiv_eq_ediv_of_nonneg (by omega)]; exact e1
    have e4 : (n : Int).tmod 10 = (r : Int) := by rw [Int.tmod_eq_emod_of_nonneg (by omega)]; exact e2
    have hr10 : r < 10 := by omega
    have hcv := fun w => conv_byte r hr10 w
    have hat := fun W b h => conv_at r hr10 W b h
    have C := Lib.hid (fun (W : World) => l01Dec1_c q (by omega) W)
    clear hq hr
    obtain ⟨x, hx⟩ : ∃ x, x = UInt8.ofNat (48 + r) := ⟨_, rfl⟩
    rw [← hx] at hd hcv
    simp only [← hx] at hat
    rw [hd]
    have HAT := Lib.hid hat
    have hdl := dec_len q (by omega)
    have hadd := fun W => cat_run (dec (q : Int)) [x] (by simp only [List.length_singleton]; omega) Tryz.prog W
    clear hx hd hat hdl
    have s1 : IntKind.i64.wrap (q : Int) = (q : Int) := IntWalk.i64_in _ (by omega)
    have s2 : IntKind.i64.wrap (r : Int) = (r : Int) := IntWalk.i64_in _ (by omega)
    have s3 : IntKind.i64.wrap (48 + (r : Int)) = 48 + (r : Int) := IntWalk.i64_in _ (by omega)
    have s4 : IntKind.u8.wrap (48 + (r : Int)) = 48 + (r : Int) := by rw [IntKind.wrap_u8]; omega
    generalize dec (q : Int) = dq at *
    go_enter Tryz.func57, Tryz.ntmps57
    go_wp2_with fail
    have hcd := HAT.out (w.alloc (.cells #[.int .u8 (48 + (r : Int))] 5)).drew w.heap.size (Cell1.new w _ _).c0
    go_region_with (go_at_call 57; refine (C.out _).mono ?_; rintro e W1 ⟨rfl, hx1⟩; first | have hc1 := HAT.out W1 w.heap.size (show W1.cell? ⟨w.heap.size, 0, none⟩ = _ from (new_below hx1).c0) | have hc1 := HAT.out W1 w.heap.size (show W1.cell? ⟨w.heap.size, 0, none⟩ = _ from (new_below_d hx1).c0) | skip)
    all_goals
      go_wp2_with fail
      go_ret
      first
        | exact ⟨rfl, ((Below.refl _ _).drew.trans (by first | exact hx1 | exact (((Below.refl w.heap.size w.drew).alloc (Nat.le_refl _) _).trans (hx1.mono (by simp))))).alloc (by have := hx1.size; simp at this ⊢; omega) _⟩
        | exact ⟨rfl, (Below.refl _ _).drew.trans (((Below.refl w.heap.size w.drew).alloc (Nat.le_refl _) _).trans (hx1.mono (by simp)))⟩
end Go.Proofs.YtalbbjhonkcbgaaGreatDoor

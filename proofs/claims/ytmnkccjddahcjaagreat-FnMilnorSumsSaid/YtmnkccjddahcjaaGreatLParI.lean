/- All exponent lists of a degree: of the program. -/
import Derived.Test.YtmnkccjddahcjaaGreatLParS
import Derived.Test.YtmnkccjddahcjaaGreatLApp
import Derived.Test.YtmnkccjddahcjaaGreatLTrim
import Derived.Test.YtmnkccjddahcjaaGreatLMilArg
import Derived.Test.YtmnkccjddahcjaaGreatLDcj
import Derived.Laws.EntriesVeiled
namespace Go.Proofs.YtmnkccjddahcjaaGreat
open Go.RowKit Go.Sort

def extV (g3 g4 : Nat) : Value := .func (.func 201) #[] #[.pointer (some ⟨g3, 0, none⟩), .pointer (some ⟨g4, 0, none⟩)]
theorem enters_part1 : Enters Tryz.prog 201 := fun args w => by kernel_rfl
theorem enters_copyOf : Enters Tryz.prog 147 := fun args w => by kernel_rfl
theorem partF_zero (f i : Nat) (hf : 1 ≤ f) : partF f 0 i = [[]] := by
  obtain ⟨f', rfl⟩ : ∃ f', f = f' + 1 := ⟨f - 1, by omega⟩
  rw [partF, if_pos rfl]
theorem heldC1 {x1 : Value} {g1 : Addr} {w0 W W' : World} (h : W.cell? g1 = some x1 ∧ Below w0.heap.size w0 W) (hb : Below W.heap.size W W') : W'.cell? g1 = some x1 ∧ Below w0.heap.size w0 W' :=
  ⟨(hb.cell (World.block_lt_of_cell? _ _ h.1)).trans h.1, h.2.trans (hb.mono h.2.size)⟩
theorem heldC1A {x1 : Value} {g1 : Addr} {w0 W : World} (h : W.cell? g1 = some x1 ∧ Below w0.heap.size w0 W) (o : Obj) : (W.alloc o).cell? g1 = some x1 ∧ Below w0.heap.size w0 (W.alloc o) :=
  heldC1 h ((Below.refl _ _).alloc (Nat.le_refl _) o)
theorem heldC1B {x1 : Value} {g1 : Addr} {w0 W W' : World} {B : Nat} (h : W.cell? g1 = some x1 ∧ Below B w0 W) (hb : Below W.heap.size W W') (hB : B ≤ W.heap.size) : W'.cell? g1 = some x1 ∧ Below B w0 W' :=
  ⟨(hb.cell (World.block_lt_of_cell? _ _ h.1)).trans h.1, h.2.trans (hb.mono hB)⟩
theorem heldC1X {x1 : Value} {g1 : Addr} {w0 W : World} (h : W.cell? g1 = some x1 ∧ Below w0.heap.size w0 W) : Below w0.heap.size w0 W := h.2
theorem own_not {w : World} {B e n g t : Nat} {v x : Value} {us : List Value} (h : w.ownsRow B e 1 v n us) (k : Cell1 w g x t) (ne : e ≠ t) : some g ≠ v.ownBlock := by
  intro hb
  rcases h.2 with ⟨rfl, _⟩ | ⟨g', cap, cur, rfl, _, hg, _⟩
  · cases hb
  · simp only [Value.ownBlock, Option.some.injEq] at hb
    subst hb
    rw [show w.heap[g]? = _ from k] at hg
    simp only [Option.some.injEq, Obj.cells.injEq] at hg
    exact ne hg.2.1.symm
set_option maxRecDepth 100000 in
set_option maxHeartbeats 1000000 in
theorem part1_c (g3 g4 : Nat) (hne : g3 ≠ g4) : ∀ (f d : Nat) (xs : List Int) (L : List (List Int)) (s v : Value) (us : List Value) (B : Nat) (w : World), xs.length + f = 8 → 2 ≤ f → d ≤ 40 → IntS w.heap s xs →
    Cell1 w g3 v 22 → Cell1 w g4 (extV g3 g4) 148 → OwnU w B v us L → B ≤ g3 → B ≤ g4 → L.length + (partF f d xs.length).length < 4398046511104 →
    Calls Tryz.prog 201 #[s, .int .i64 d, .int .i64 (wtI xs.length), .pointer (some ⟨g3, 0, none⟩), .pointer (some ⟨g4, 0, none⟩)] w fun e w' => e = .returned (.tuple #[]) ∧
      ∃ v' us', Cell1 w' g3 v' 22 ∧ Cell1 w' g4 (extV g3 g4) 148 ∧ OwnU w' B v' us' (L ++ (partF f d xs.length).map (xs ++ ·)) ∧ Below B w w' ∧ KeepI w w' := by
  intro f
  induction f with
  | zero => intro d xs L s v us B w h1 h2; omega
  | succ f ih =>
    intro d xs L s v us B w hif hf hd2 hs k3 k4 hl hB3 hB4 hlen
    obtain ⟨sa, sc, rfl, -⟩ := hs.len
    have hcap : xs.length ≤ sc := by
      obtain ⟨a', c', hv', h3, -⟩ := SlAt.len hs
      simp only [Value.slice.injEq, List.length_map] at hv' h3
      omega
    obtain ⟨la, ln, lc, rfl⟩ := own_shape hl.row
    have hB : B ≤ w.heap.size := by have := k3.lt; omega
    have hwp := wtI_pos xs.length
    have hw8 := wtI_le (i := xs.length) (by omega)
    have HS := Lib.hid hs; have HL := Lib.hid hl; have K3 := Lib.hid k3; have K4 := Lib.hid k4
    have q3 := k3.c0; have f3 := k3.free 0; have q4 := k4.c0
    by_cases hd0 : d = 0
    · subst hd0
      rw [partF_zero (f + 1) _ (by omega)]
      have hll : L.length < 4398046511104 := by omega
      have HLL := Lib.hid hll
      clear hlen hs hl k3 k4 ih hll
      go_enter Tryz.func201, Tryz.ntmps201
      go_wp2_with fail
      have hlt3 := K3.out.lt; have hlt4 := K4.out.lt
      have q3d : w.drew.cell? ⟨g3, 0, none⟩ = some (.slice la ln lc) := q3
      go_region_law
        (first | (refine step_callR (by rfl) 147 (.tmp 12) 56 (by rfl) (fun v w' => OwnI w' w.heap.size v xs ∧ Below w.heap.size w w') enters_copyOf (by exact Calls.mono (copyOf_c (.slice sa xs.length sc) xs w.drew HS.out (by omega)) fun e w' ⟨r, h1, h2, h3⟩ => ⟨r, h1, h2, (Below.refl _ _).drew.trans h3⟩) ?_; rintro v2 w2 ⟨hR2, hx2⟩; obtain ⟨ra, rn, rc, rfl⟩ := own_shape hR2; have k32 : Cell1 w2 g3 _ _ := (hx2.block g3 hlt3).trans K3.out; have c32 := k32.c0; have k42 : Cell1 w2 g4 _ _ := (hx2.block g4 hlt4).trans K4.out; have c33 := fun o => Go.Lib.cell?_alloc_some o c32) | (refine step_append_rowU (w0 := w) (wE := w) (by rfl) (.tmp 11) (.tmp 14) (by rfl) B (.slice la ln lc) (.slice ra rn rc) us L xs HL.out (by rfl) (by exact OwnI.same hR2 (alloc_old _ _)) (by exact hx2.alloc hx2.size _) (by exact Below.refl B w) (by exact hB) w2.heap.size (by rfl) (by exact heap_alloc_new _ _) HLL.out ?_; intro v4 w4 hU4 hb4 hs4 hk4; obtain ⟨va, vn, vc, rfl⟩ := own_shape hU4.row; have k34 : Cell1 w4 g3 _ _ := (hk4 g3 (by have := hx2.size; simp at *; omega) (own_not HL.out.row K3.out (by decide))).trans ((alloc_old _ _ _ (by have := hx2.size; simp at *; omega)).trans k32); have k44 : Cell1 w4 g4 _ _ := (hk4 g4 (by have := hx2.size; simp at *; omega) (own_not HL.out.row K4.out (by decide))).trans ((alloc_old _ _ _ (by have := hx2.size; simp at *; omega)).trans k42); have c34 := k34.c0; have f34 := k34.free 0))
      all_goals
        have hkp := ((KeepI.of_same (hx2.alloc hx2.size (.cells #[.slice ra rn rc] 56)).block).trans (KeepI.grown (own_same HL.out.row (hx2.alloc hx2.size (.cells #[.slice ra rn rc] 56)).block) (by decide) hk4)).trans (KeepI.cell k34 (by decide) (.slice va vn vc))
        have hfin := hU4.other k34 (by decide) (by decide) (.slice va vn vc)
        have hk3 := k34.set (.slice va vn vc)
        have hk4' := k44.setFar ⟨g3, 0, none⟩ hne.symm (.slice va vn vc)
        have hbe := hb4.setCell (p := ⟨g3, 0, none⟩) hB3 (.slice va vn vc)
        have G := Lib.hid (And.intro hk3 (And.intro hk4' (And.intro hfin (And.intro hbe hkp))))
        clear hkp hfin hk3 hk4' hbe hk4 hU4 hb4 hs4 hR2 hx2
        go_wp2_with fail
        refine bodyPost_ret (results_none rfl _ _ _) rfl ?_
        exact ⟨rfl, _, _, G.out.1, G.out.2.1, by simpa using G.out.2.2.1, G.out.2.2.2.1, G.out.2.2.2.2⟩
    · have t0 := (neB (show (d : Int) ≠ 0 by omega)).1
      by_cases hw : wtI xs.length ≤ d
      · have hi4 := wtI_small (by omega) hd2 hw
        have hG := partG_all f d xs.length xs (by omega) hw
        rw [hG]
        have hGl : L.length + (partG f d xs.length xs (d / wtI xs.length + 1)).length < 4398046511104 := by rw [← hG, List.length_map]; exact hlen
        have HGL := Lib.hid hGl
        have t1 : decide ((d : Int) < (wtI xs.length : Int)) = false := decide_eq_false (by omega)
        have t2 : decide (d < wtI xs.length) = false := decide_eq_false (by omega)
        have IH := Lib.hid ih
        have HSU := Lib.hid (partG_succ f d xs.length xs)
        have HLE := Lib.hid (partG_len f d xs.length xs)
        have HWS := Lib.hid (wtI_succ xs.length)
        obtain ⟨W, hWW⟩ : ∃ W : Nat, wtI xs.length = W := ⟨_, rfl⟩
        rw [hWW] at t1 t2 hwp hw8 hw HGL HSU HWS ⊢
        obtain ⟨q, hq⟩ : ∃ q : Nat, d / W = q := ⟨_, rfl⟩
        have hQ : ∀ n : Nat, n ≤ q ↔ n * W ≤ d := fun n => by rw [← hq]; exact Nat.le_div_iff_mul_le hwp
        have HQ := Lib.hid hQ
        clear hQ
        have hqd : q ≤ 40 := by
          have := (HQ.out q).1 (Nat.le_refl _)
          have := Nat.mul_le_mul_left q hwp
          omega
        rw [hq] at HGL ⊢
        have HIF := Lib.hid hif
        have HEN := enters_part1
        unfold Enters at HEN
        clear hG hGl hlen hs hl ih hq hWW hif k3 k4 q3 f3 q4 hd0
        go_enter Tryz.func201, Tryz.ntmps201
        go_wp2_with fail
        clear t1 t2 t0
        go_loopw [8] (fun r wr => ∃ (n : Nat) (v : Value) (us : List Value), n ≤ q + 1 ∧ r = .int .i64 n ∧ Cell1 wr g3 v 22 ∧ Cell1 wr g4 (extV g3 g4) 148 ∧ OwnU wr B v us (L ++ partG f d xs.length xs n) ∧ Below B w wr ∧ KeepI w wr) (fun r _ => 41 - (intOf r).toNat)
        case atStart => exact ⟨0, _, us, by omega, rfl, K3.out, K4.out, by simpa [partG] using HL.out, Below.refl _ _, KeepI.refl _⟩
        case round =>
          obtain ⟨n, v, us2, hn, rfl, j3, j4, hU, hbl, hke⟩ := hrel
          obtain ⟨va, vn, vc, rfl⟩ := own_shape hU.row
          have HU := Lib.hid hU; have HBL := Lib.hid hbl; have HKE := Lib.hid hke
          have J3 := Lib.hid j3; have J4 := Lib.hid j4
          have HSW := Lib.hid (HS.out.keep hke)
          have hnW : (0 : Int) ≤ (n : Int) * (W : Int) := Int.mul_nonneg (by omega) (by omega)
          have hnW2 : (n : Int) * (W : Int) ≤ 41 * 255 := Int.mul_le_mul (by omega) (by omega) (by omega) (by omega)
          clear hU hbl hke j3
          by_cases hnq : n ≤ q
          · have hle := (HQ.out n).1 hnq
            have hle2 : (n : Int) * (W : Int) ≤ d := by have : ((n * W : Nat) : Int) ≤ (d : Int) := by omega
                                                        rwa [Int.natCast_mul] at this
            have u1 : decide ((n : Int) * (W : Int) ≤ (d : Int)) = true := decide_eq_true hle2
            have HGN := Lib.hid (HSU.out n)
            have HLN := Lib.hid (HLE.out (n + 1) (q + 1) (by omega))
            obtain ⟨D, hD⟩ : ∃ D : Nat, d - n * W = D := ⟨_, rfl⟩
            have hDd : D ≤ 40 := by omega
            have hsub : (d : Int) - (n : Int) * (W : Int) = D := by rw [← Int.natCast_mul]; omega
            have hDl : (L ++ partG f d xs.length xs n).length + (partF f D (xs ++ [(n : Int)]).length).length < 4398046511104 := by
              have h1 := HGN.out
              rw [hD] at h1
              have h2 := congrArg List.length h1
              rw [List.length_append, List.length_map] at h2
              have h3 := HLN.out; have h4 := HGL.out
              rw [List.length_append, List.length_append, List.length_singleton]; omega
            have HDL := Lib.hid hDl
            have HF : Hid ((L ++ partG f d xs.length xs n) ++ (partF f D (xs ++ [(n : Int)]).length).map (xs ++ [(n : Int)] ++ ·) = L ++ partG f d xs.length xs (n + 1)) := by
              show _ = _
              rw [HGN.out, hD, List.length_append, List.length_singleton, List.append_assoc]
            have hf2 : 2 ≤ f := by have := HIF.out; omega
            have r4 : wr.cell? ⟨g4, 0, none⟩ = some (.func (.func 201) #[] #[.pointer (some ⟨g3, 0, none⟩), .pointer (some ⟨g4, 0, none⟩)]) := j4.c0
            have CC : Hid (∀ (s' : Value) (W4 : World), IntS W4.heap s' (xs ++ [(n : Int)]) → Below wr.heap.size wr W4 → Calls Tryz.prog 201 #[s', .int .i64 D, .int .i64 (2 * (W : Int) + 1), .pointer (some ⟨g3, 0, none⟩), .pointer (some ⟨g4, 0, none⟩)] W4 fun e w' => e = .returned (.tuple #[]) ∧
                ∃ v' us', Cell1 w' g3 v' 22 ∧ Cell1 w' g4 (extV g3 g4) 148 ∧ OwnU w' B v' us' (L ++ partG f d xs.length xs (n + 1)) ∧ Below B W4 w' ∧ KeepI W4 w') := fun s' W4 h1 h2 => by
              have h := IH.out D (xs ++ [(n : Int)]) (L ++ partG f d xs.length xs n) s' (.slice va vn vc) us2 B W4 (by rw [List.length_append, List.length_singleton]; have := HIF.out; omega) hf2 hDd h1 (J3.out.kept h2.block) (J4.out.kept h2.block) (HU.out.same h2.block) hB3 hB4 HDL.out
              rw [HF.out] at h
              rw [show ((wtI (xs ++ [(n : Int)]).length : Nat) : Int) = 2 * (W : Int) + 1 by rw [List.length_append, List.length_singleton, HWS.out]; omega] at h
              exact h
            have hBr : B ≤ wr.heap.size := Nat.le_trans hB HBL.out.size
            have hxl : xs.length < 4398046511104 := by omega
            have b0 : (0 : Int) ≤ xs.length := by omega
            have b1 : (xs.length : Int) ≤ sc := by omega
            have b2 : (xs.length : Int) ≤ xs.length := by omega
            clear hle hle2 hD hDl j4
            go_wp2_with fail
            have e1 : IntKind.i64.wrap ((n : Int) * (W : Int)) = (n : Int) * (W : Int) := IntWalk.i64_in _ (by omega)
            have e2 : IntKind.i64.wrap (D : Int) = D := IntWalk.i64_in _ (by omega)
            have e3 : IntKind.i64.wrap (2 * (W : Int)) = 2 * (W : Int) := IntWalk.i64_in _ (by omega)
            have e4 : IntKind.i64.wrap (2 * (W : Int) + 1) = 2 * (W : Int) + 1 := IntWalk.i64_in _ (by omega)
            go_region_held3 (fun W => W.cell? ⟨g4, 0, none⟩ = some (.func (.func 201) #[] #[.pointer (some ⟨g3, 0, none⟩), .pointer (some ⟨g4, 0, none⟩)]) ∧ Below B wr W)
              (first | exact ⟨r4, (Below.refl _ _).drew⟩ | exact ⟨c52, hx5⟩ | exact heldC1B (by assumption) hx2 (by simp; omega) | exact heldC1B (by assumption) ((Below.refl _ _).alloc (Nat.le_refl _) _) (by simp; omega))
              (first | (refine step_append_full (by rfl) _ _ (by rfl) sa xs (by exact HSW.out.clip.same (alloc_old _ _)) (by rfl) _ (n : Int) (by rfl) (by exact heap_alloc_new _ _) hxl ?_; intro v2 w2 hR2 hx2; have hx3 : Below wr.heap.size wr w2 := (((Below.refl wr.heap.size wr).drew).alloc (Nat.le_refl _) _).trans (hx2.mono (by simp)); obtain ⟨ra, rn, rc, rfl⟩ := own_shape hR2) | (go_at_call 201; (with_reducible refine (CC.out _ _ (by exact hR2.ints) (by exact hx3)).mono ?_); rintro e w5 ⟨rfl, v5, us5, j53, j54, hU5, hb5, hk5⟩; have c52 := j54.c0; have hx5 := (hx3.mono hBr).trans hb5))
            have G := Lib.hid (And.intro j53 (And.intro j54 (And.intro hU5 (And.intro (HBL.out.trans hx5) (HKE.out.trans ((KeepI.of_same hx3.block).trans hk5))))))
            clear e1 e2 e3 e4 hsub j53 j54 hU5 hb5 hk5 hx5 hx3 hx2 hR2 c52 b0 b1 b2 hxl hBr r4
            go_wp2_with fail
            go_roundw
            case rel => exact ⟨n + 1, v5, us5, by omega, by go_num, G.out.1, G.out.2.1, G.out.2.2.1, G.out.2.2.2.1, G.out.2.2.2.2⟩
            case measure => simp [intOf]; omega
          · have hgt : ¬ n * W ≤ d := fun h => hnq ((HQ.out _).2 h)
            have u1 : decide ((n : Int) * (W : Int) ≤ (d : Int)) = false := decide_eq_false (fun h => hgt (by
              have : ((n * W : Nat) : Int) ≤ (d : Int) := by rw [Int.natCast_mul]; exact h
              omega))
            have HN : Hid (n = q + 1) := by show _ = _; omega
            clear hgt hnq j4
            go_wp2_with fail
            go_end0
            exact ⟨rfl, _, us2, J3.out, J4.out, by rw [← HN.out]; exact HU.out, HBL.out, HKE.out⟩
      · have e1 : partF (f + 1) d xs.length = [] := by rw [partF, if_neg (by omega), if_pos (by omega)]
        rw [e1]
        have t1 : decide ((d : Int) < (wtI xs.length : Int)) = true := decide_eq_true (by omega)
        have t2 : decide (d < wtI xs.length) = true := decide_eq_true (by omega)
        clear e1 hlen hs hl ih hw k3 k4 q3 f3 q4
        go_enter Tryz.func201, Tryz.ntmps201
        go_wp2_with fail
        refine bodyPost_ret (results_none rfl _ _ _) rfl ?_
        exact ⟨rfl, _, us, K3.out, K4.out, by simpa using HL.out, Below.refl _ _, KeepI.refl _⟩
/-- What the library's sort gives: the values go along with their lists. -/
def SortOk2 : Prop := ∀ (v : Value) (us : List Value) (xss : List (List Int)) (B : Nat) (w : World), RefR w B w.heap v us xss → B ≤ w.heap.size → xss.length < 4611686018427387904 →
    Calls Tryz.prog 189 #[v, .func (.func 187) #[] #[]] w fun e w' => e = .returned (.tuple #[]) ∧ ∃ us' xss', RefR w' B w.heap v us' xss' ∧ (us'.zip xss').Perm (us.zip xss) ∧ xss'.Pairwise (fun a b => ltL b a = false) ∧ Below B w w' ∧ (∀ b, b < w.heap.size → some b ≠ v.ownBlock → w'.heap[b]? = w.heap[b]?)
theorem asc_nodup {l : List (List Int)} (h : Asc l) : l.Nodup := h.imp fun hab e => ltL_ne hab e
theorem sorted_same {us us' : List Value} {xss xss' : List (List Int)} (hl : us.length = xss.length) (hl' : us'.length = xss'.length) (hp : (us'.zip xss').Perm (us.zip xss)) (hs : xss'.Pairwise (fun a b => ltL b a = false)) (ha : Asc xss) : us' = us ∧ xss' = xss := by
  have hm : (us'.zip xss').map Prod.snd = xss' := by rw [List.map_snd_zip]; omega
  have hm2 : (us.zip xss).map Prod.snd = xss := by rw [List.map_snd_zip]; omega
  have hpx : xss'.Perm xss := by rw [← hm, ← hm2]; exact hp.map _
  have hn : xss'.Nodup := (hpx.nodup_iff).2 (asc_nodup ha)
  have hx : xss' = xss := by
    refine Asc.ext ?_ ha fun x => hpx.mem_iff
    unfold Asc
    refine List.Pairwise.imp_of_mem ?_ (List.Pairwise.and hs hn)
    intro a b _ _ hab
    cases e : ltL a b
    · exact absurd (ltL_total _ _ e hab.1) hab.2
    · rfl
  subst hx
  refine ⟨List.ext_getElem (by omega) fun i h1 h2 => ?_, rfl⟩
  have hmem : (us'[i], xss'[i]'(by omega)) ∈ us.zip xss' := hp.mem_iff.1 (by
    rw [List.mem_iff_getElem]
    exact ⟨i, by simp; omega, by simp⟩)
  obtain ⟨j, hj, he⟩ := List.mem_iff_getElem.1 hmem
  simp only [List.getElem_zip, Prod.mk.injEq] at he
  have : j = i := by
    simp only [List.length_zip] at hj
    have hin := List.pairwise_iff_getElem.1 hn
    rcases Nat.lt_trichotomy i j with e | e | e
    · exact absurd he.2.symm (hin i j (by omega) (by omega) e)
    · exact e.symm
    · exact absurd he.2 (hin j i (by omega) (by omega) e)
  subst this
  exact he.1.symm
theorem trimmed_last (ao : Option Addr) (c : Nat) (xs : List Int) (w : World) (h : IntS w.heap (.slice ao xs.length c) xs) (hl : lastOk xs = true) :
    Calls Tryz.prog 146 #[.slice ao xs.length c] w fun e w' => e = .returned (.slice ao xs.length c) ∧ w = w' := by
  have e : trimN xs xs.length = xs.length := by
    cases hn : xs.length with
    | zero => rfl
    | succ n =>
      rw [trimN, if_neg]
      have := lastOk_at hl (by omega)
      rwa [hn] at this
  have := trimmed_c ao c xs w h
  rwa [e] at this
theorem OwnU.storeSame {w : World} {B g n cap : Nat} {us : List Value} {xss : List (List Int)} (h : OwnU w B (.slice (some ⟨g, 0, none⟩) n cap) us xss) (k : Nat) (u : Value) (hu : us[k]? = some u) : OwnU (w.setCell ⟨g, k, none⟩ u) B (.slice (some ⟨g, 0, none⟩) n cap) us xss := by
  have hkl : k < us.length := (List.getElem?_eq_some_iff.1 hu).1
  have hl := h.len
  have hn : n = xss.length := by
    obtain ⟨_, _, hv, _⟩ := h.ints.len
    simp only [Value.slice.injEq] at hv
    exact hv.2.1
  refine ⟨?_, fun i y xs hy hx => ?_, h.apart⟩
  · have hrow := h.row
    rw [← hn] at hrow ⊢
    obtain ⟨g', cap', hv, -, -, -, hs⟩ := own_store hrow k (by omega)
    simp only [Value.slice.injEq, Option.some.injEq, Addr.mk.injEq, true_and, and_true] at hv
    obtain ⟨rfl, rfl⟩ := hv
    have := hs u
    rwa [show us.set k u = us from by
      apply List.ext_getElem?; intro i
      rw [List.getElem?_set]
      split
      · rename_i e; subst e; exact hu.symm
      · rfl] at this
  · have ho := h.each i y xs hy hx
    refine own_setCell_other ho _ ?_ u
    rcases own_ne_types ho h.row (by decide) with e | e
    · rw [e]; simp
    · intro e2; exact e (by rw [e2]; rfl)
theorem ownII_empty0 (w : World) : OwnU (w.alloc (.cells #[] 56)) w.heap.size (.slice (some ⟨w.heap.size, 0, none⟩) 0 0) [] [] :=
  ⟨World.ownsRow_made w #[] 0 (Nat.le_refl _) (Nat.zero_le _) rfl, fun i u xs hu => by simp at hu, fun i j u u' _ hu => by simp at hu⟩
set_option maxRecDepth 100000 in
set_option maxHeartbeats 1000000 in
theorem partitions_of (SO : SortOk2) (d : Nat) (w : World) (hd : d ≤ 40) :
    Calls Tryz.prog 126 #[.int .i64 d] w fun e w' => ∃ r us, e = .returned r ∧ OwnU w' w.heap.size r us (partL d) ∧ Below w.heap.size w w' := by
  have hlen : (partL d).length ≤ 504 := expD_length (d := (d : Int)) (asc_partL d) (fun x hx => mem_partL hd hx) (by omega)
  have HEN := enters_part1
  unfold Enters at HEN
  have hU0 := ownII_empty0 w
  have k3 := (Cell1.new (w.alloc (.cells #[] 56)) (.slice (some ⟨w.heap.size, 0, none⟩) 0 0) 22).kept (alloc_old _ (.cells #[extV (w.heap.size + 1) (w.heap.size + 1 + 1)] 148))
  have k4 := Cell1.new ((w.alloc (.cells #[] 56)).alloc (.cells #[.slice (some ⟨w.heap.size, 0, none⟩) 0 0] 22)) (extV (w.heap.size + 1) (w.heap.size + 1 + 1)) 148
  simp only [size_alloc_w] at k3 k4
  obtain ⟨w3, hw3⟩ : ∃ w3, w3 = ((w.alloc (.cells #[] 56)).alloc (.cells #[.slice (some ⟨w.heap.size, 0, none⟩) 0 0] 22)).alloc (.cells #[extV (w.heap.size + 1) (w.heap.size + 1 + 1)] 148) := ⟨_, rfl⟩
  have hb3 : Below w.heap.size w w3 := by rw [hw3]; exact (((Below.refl _ _).alloc (Nat.le_refl _) _).alloc (by simp) _).alloc (by simp; omega) _
  have hU3 : OwnU w3 w.heap.size (.slice (some ⟨w.heap.size, 0, none⟩) 0 0) [] [] := by rw [hw3]; exact (hU0.same (alloc_old _ _)).same (alloc_old _ _)
  have hsz : w3.heap.size = w.heap.size + 1 + 1 + 1 := by rw [hw3]; simp
  rw [← hw3] at k3 k4
  have C := Lib.hid (part1_c (w.heap.size + 1) (w.heap.size + 1 + 1) (by omega) 8 d [] [] (.slice (some ⟨w3.heap.size, 0, none⟩) 0 0) (.slice (some ⟨w.heap.size, 0, none⟩) 0 0) [] w.heap.size (w3.alloc (.cells #[] 2)) rfl (by omega) hd (ownI_empty (w := w3) (B := w3.heap.size) (Nat.le_refl _)).ints
    (k3.kept (alloc_old _ _)) (k4.kept (alloc_old _ _)) (hU3.same (alloc_old _ _)) (by omega) (by omega) (by show 0 + (partL d).length < _; omega))
  rw [show ((wtI ([] : List Int).length : Nat) : Int) = 1 by decide, show ([] : List (List Int)) ++ (partF 8 d ([] : List Int).length).map (([] : List Int) ++ ·) = partL d by simp [partL], hsz] at C
  have HB3 := Lib.hid (hb3.alloc hb3.size (.cells #[] 2))
  have HW : Hid (((w.alloc (.cells #[] 56)).alloc (.cells #[.slice (some ⟨w.heap.size, 0, none⟩) 0 0] 22)).alloc (.cells #[.func (.func 201) #[] #[.pointer (some ⟨w.heap.size + 1, 0, none⟩), .pointer (some ⟨w.heap.size + 1 + 1, 0, none⟩)]] 148) = w3) := hw3.symm
  have HLN := Lib.hid hlen
  have HLO := Lib.hid (fun x (hx : x ∈ partL d) => isExp_last (mem_partL hd hx).1)
  have HAS := Lib.hid (asc_partL d)
  clear k3 k4 hb3 hU0 hU3 hsz hw3 hlen
  obtain ⟨T, hT⟩ : ∃ T, partL d = T := ⟨_, rfl⟩
  rw [hT] at C HLN HLO HAS ⊢
  clear hT
  go_enter Tryz.func126, Tryz.ntmps126
  go_wp2_with (go_at_call 201; rw [HW.out]; refine C.out.mono ?_; rintro e w4 ⟨rfl, v4, us4, k43, k44, hU4, hb4, hk4⟩; obtain ⟨va, vn, vc, rfl⟩ := own_shape hU4.row; have HU4 := Lib.hid hU4; have q43 := k43.c0; have K43 := Lib.hid k43; have HB4 := Lib.hid (HB3.out.trans hb4); clear hU4 k43 k44 hb4 hk4)
  obtain rfl : vn = T.length := by
    obtain ⟨_, _, hv, _⟩ := HU4.out.ints.len
    simp only [Value.slice.injEq] at hv
    exact hv.2.1
  clear q43
  go_loopw [14] (fun i wr => ∃ k : Nat, k ≤ T.length ∧ i = .int .i64 k ∧ Cell1 wr (w.heap.size + 1) (.slice va T.length vc) 22 ∧ OwnU wr w.heap.size (.slice va T.length vc) us4 T ∧ Below w.heap.size w wr) (fun i _ => T.length - (intOf i).toNat)
  case atStart => exact ⟨0, Nat.zero_le _, rfl, K43.out, HU4.out, HB4.out⟩
  case round =>
    obtain ⟨k, hk, rfl, j3, hU, hbl⟩ := hrel
    have HU := Lib.hid hU; have HBL := Lib.hid hbl; have J3 := Lib.hid j3
    have q3 := j3.c0
    by_cases hkl : k < T.length
    · have hul := hU.len
      obtain ⟨g, cap, hv, hg⟩ := own_open hU.row (by omega)
      simp only [Value.slice.injEq] at hv
      obtain ⟨rfl, -, rfl⟩ := hv
      have hck := World.ownsRow.cellAt hU.row k (by omega)
      have hfk := World.ownsRow.frozenAt hU.row k
      have huk : us4[k]? = some us4[k] := List.getElem?_eq_getElem (by omega)
      have hrow := hU.each k _ _ huk (show T[k]? = some (T.getD k []) by simp [hkl])
      have hlo := HLO.out (T.getD k []) (by rw [show T.getD k [] = T[k] by simp [hkl]]; exact List.getElem_mem _)
      obtain ⟨ua, un, uc, hue⟩ := own_shape hrow
      rw [huk, hue] at hck
      rw [hue] at hrow huk
      obtain rfl : un = (T.getD k []).length := by
        obtain ⟨_, _, hv, _⟩ := hrow.ints.len
        simp only [Value.slice.injEq] at hv
        exact hv.2.1
      have HTR := Lib.hid (fun (W : World) (h : IntS W.heap (.slice ua (T.getD k []).length uc) (T.getD k [])) => trimmed_last ua uc (T.getD k []) W h hlo)
      have HROW := Lib.hid hrow.ints
      have HST := Lib.hid (hU.storeSame k (.slice ua (T.getD k []).length uc) huk)
      have HNE := Lib.hid (own_not hU.row j3 (by decide))
      have hki : (k : Int) < T.length := by omega
      clear hU hbl j3 hul hrow hlo hue huk
      generalize T.getD k [] = ys at *
      have c7 := (J3.out.setFar ⟨g, k, none⟩ (fun e => HNE.out (by rw [e]; rfl)) (.slice ua ys.length uc)).c0
      have c8 : (wr.setCell ⟨g, k, none⟩ (.slice ua ys.length uc)).cell? ⟨g, k, none⟩ = some (.slice ua ys.length uc) := World.cell?_setCell_same (h := hck) ..
      have hb8 := HBL.out.setCell (p := ⟨g, k, none⟩) hg (.slice ua ys.length uc)
      go_wp2_with fail
      go_region_held3 (fun W => W.cell? ⟨w.heap.size + 1, 0, none⟩ = some (.slice (some ⟨g, 0, none⟩) T.length vc) ∧ W.cell? ⟨g, k, none⟩ = some (.slice ua ys.length uc) ∧ Below w.heap.size w W)
        (first | exact ⟨q3, hck, HBL.out.drew⟩ | exact ⟨c7, c8, hb8.drew⟩)
        ((go_at_call 146; refine (HTR.out _ (by exact HROW.out)).mono ?_; rintro e w' ⟨rfl, rfl⟩))
      have G := Lib.hid (And.intro (J3.out.setFar ⟨g, k, none⟩ (fun e => HNE.out (by rw [e]; rfl)) (.slice ua ys.length uc)) hb8.drew)
      have hT504 := HLN.out
      clear c7 c8 hb8 q3 hck hfk
      go_wp2_with fail
      go_roundw
      case rel => exact ⟨k + 1, by omega, by go_num, G.out.1, HST.out.drewN 1, G.out.2⟩
      case measure => simp [intOf]; omega
    · obtain rfl : k = T.length := by omega
      have HSO := Lib.hid (SO _ us4 T w.heap.size wr ⟨hU.row, fun i u xs hu hx => (hU.each i u xs hu hx).ints⟩ hbl.size (by have := HLN.out; omega))
      clear hU hbl j3
      go_wp2_with (go_at_call 189; refine HSO.out.mono ?_; rintro e w5 ⟨rfl, us5, xs5, hR5, hp5, hs5, hb5, hk5⟩; obtain ⟨rfl, rfl⟩ := sorted_same HU.out.len (by have := hR5.len; exact this) hp5 hs5 HAS.out; have k53 : Cell1 w5 (w.heap.size + 1) _ _ := (hk5 _ J3.out.lt (own_not HU.out.row J3.out (by decide))).trans J3.out; have c53 := k53.c0; have HK5 := Lib.hid (KeepI.grown HU.out.row (by decide) hk5); have HR5 := Lib.hid hR5; have HB5 := Lib.hid (HBL.out.trans hb5); clear hR5 hp5 hs5 hb5 hk5 k53 q3)
      go_ret
      exact ⟨_, us5, rfl, ⟨HR5.out.row, fun i u xs hu hx => (HU.out.each i u xs hu hx).keep HK5.out, HU.out.apart⟩, HB5.out⟩
end Go.Proofs.YtmnkccjddahcjaaGreat

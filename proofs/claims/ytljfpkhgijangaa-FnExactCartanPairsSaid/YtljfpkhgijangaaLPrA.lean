/- Pairs of lists in lexicographic order, as lists: plain Lean. -/
import Derived.Test.YtljfpkhgijangaaLTerm
import Derived.Test.YtljfpkhgijangaaLCmp
namespace Go.Proofs.Ytljfpkhgijangaa

/-- A pair of lists, of which the first has no negative numbers. -/
def IsPr (q : List (List Int)) : Prop := ∃ a b, q = [a, b] ∧ ∀ x ∈ a, 0 ≤ x
/-- A pair as one list. -/
def encP (q : List (List Int)) : List Int := (q.getD 0 []).map (· + 1) ++ 0 :: q.getD 1 []
theorem encP_pair (a b : List Int) : encP [a, b] = a.map (· + 1) ++ 0 :: b := rfl
theorem ltL_enc : ∀ (a c b d : List Int), (∀ x ∈ a, 0 ≤ x) → (∀ x ∈ c, 0 ≤ x) → ltL (a.map (· + 1) ++ 0 :: b) (c.map (· + 1) ++ 0 :: d) = if ltL a c then true else if ltL c a then false else ltL b d
  | [], [], b, d, _, _ => by simp [ltL]
  | [], y :: c, b, d, _, hc => by
    have := hc y (List.mem_cons_self ..)
    simp [ltL]; omega
  | x :: a, [], b, d, ha, _ => by
    have := ha x (List.mem_cons_self ..)
    simp [ltL, show ¬ (x + 1 < 0) by omega, show (0 : Int) < x + 1 by omega]
  | x :: a, y :: c, b, d, ha, hc => by
    have ih := ltL_enc a c b d (fun z h => ha z (List.mem_cons_of_mem _ h)) (fun z h => hc z (List.mem_cons_of_mem _ h))
    simp only [List.map_cons, List.cons_append, ltL]
    by_cases h1 : x < y
    · simp [h1]
    · by_cases h2 : y < x
      · simp [h1, h2]
      · simp only [Int.add_lt_add_iff_right, if_neg h1, if_neg h2]; exact ih
theorem cmpL_enc {a c : List Int} (b d : List Int) (ha : ∀ x ∈ a, 0 ≤ x) (hc : ∀ x ∈ c, 0 ≤ x) : cmpL (encP [a, b]) (encP [c, d]) = if cmpL a c = 0 then cmpL b d else cmpL a c := by
  unfold cmpL
  rw [encP_pair, encP_pair, ltL_enc _ _ _ _ ha hc, ltL_enc _ _ _ _ hc ha]
  cases h1 : ltL a c
  · cases h2 : ltL c a <;> simp
  · simp
theorem encP_inj {p q : List (List Int)} (hp : IsPr p) (hq : IsPr q) (h : encP p = encP q) : p = q := by
  obtain ⟨a, b, rfl, ha⟩ := hp
  obtain ⟨c, d, rfl, hc⟩ := hq
  have h0 : cmpL (encP [a, b]) (encP [c, d]) = 0 := (cmpL_zero _ _).2 h
  rw [cmpL_enc b d ha hc] at h0
  by_cases e : cmpL a c = 0
  · rw [if_pos e] at h0
    rw [(cmpL_zero _ _).1 e, (cmpL_zero _ _).1 h0]
  · rw [if_neg e] at h0; exact absurd h0 e
theorem enc_map_inj : ∀ {l m : List (List (List Int))}, (∀ x ∈ l, IsPr x) → (∀ x ∈ m, IsPr x) → l.map encP = m.map encP → l = m
  | [], [], _, _, _ => rfl
  | [], y :: m, _, _, h => by simp at h
  | x :: l, [], _, _, h => by simp at h
  | x :: l, y :: m, hl, hm, h => by
    simp only [List.map_cons, List.cons.injEq] at h
    rw [encP_inj (hl x (List.mem_cons_self ..)) (hm y (List.mem_cons_self ..)) h.1, enc_map_inj (fun z hz => hl z (List.mem_cons_of_mem _ hz)) (fun z hz => hm z (List.mem_cons_of_mem _ hz)) h.2]
/-- x is put in, or taken out if it was there. -/
def putP (x : List (List Int)) : List (List (List Int)) → List (List (List Int))
  | [] => [x]
  | y :: l => if ltL (encP x) (encP y) then x :: y :: l else if ltL (encP y) (encP x) then y :: putP x l else l
theorem putP_enc (x : List (List Int)) (l : List (List (List Int))) : (putP x l).map encP = put (encP x) (l.map encP) := by
  induction l with
  | nil => rfl
  | cons y l ih =>
    rw [putP, List.map_cons, put]
    split
    · rfl
    · split
      · rw [List.map_cons, ih]
      · rfl
theorem putP_mem (x z : List (List Int)) (l : List (List (List Int))) (h : z ∈ putP x l) : z ∈ l ∨ z = x := by
  induction l with
  | nil => rw [putP, List.mem_singleton] at h; exact .inr h
  | cons y l ih =>
    rw [putP] at h
    split at h
    · rcases List.mem_cons.1 h with e | e
      · exact .inr e
      · exact .inl e
    · split at h
      · rcases List.mem_cons.1 h with e | e
        · exact .inl (by rw [e]; exact List.mem_cons_self ..)
        · exact (ih e).imp (List.mem_cons_of_mem _) id
      · exact .inl (List.mem_cons_of_mem _ h)
theorem putP_length (x : List (List Int)) (l : List (List (List Int))) : (putP x l).length ≤ l.length + 1 := by
  induction l with
  | nil => simp [putP]
  | cons y l ih => rw [putP]; split; simp; split; simp; exact ih; simp; omega
/-- Those that are there an odd number of times, in order. -/
def oddP (l : List (List (List Int))) : List (List (List Int)) := l.foldl (fun a x => putP x a) []
theorem foldP_enc (l : List (List (List Int))) : ∀ a : List (List (List Int)), (l.foldl (fun a x => putP x a) a).map encP = (l.map encP).foldl (fun a x => put x a) (a.map encP) := by
  induction l with
  | nil => intro a; rfl
  | cons x l ih => intro a; rw [List.foldl_cons, ih, putP_enc]; rfl
theorem oddP_enc (l : List (List (List Int))) : (oddP l).map encP = oddL (l.map encP) := foldP_enc l []
theorem oddP_snoc (l : List (List (List Int))) (x : List (List Int)) : oddP (l ++ [x]) = putP x (oddP l) := by simp [oddP, List.foldl_append]
theorem foldP_mem (l : List (List (List Int))) (z : List (List Int)) : ∀ a : List (List (List Int)), z ∈ l.foldl (fun a x => putP x a) a → z ∈ a ∨ z ∈ l := by
  induction l with
  | nil => intro a h; exact .inl h
  | cons x l ih =>
    intro a h
    rcases ih _ h with e | e
    · rcases putP_mem _ _ _ e with e | e
      · exact .inl e
      · exact .inr (by rw [e]; exact List.mem_cons_self ..)
    · exact .inr (List.mem_cons_of_mem _ e)
theorem oddP_mem {l : List (List (List Int))} {z : List (List Int)} (h : z ∈ oddP l) : z ∈ l := by
  rcases foldP_mem l z [] h with e | e
  · cases e
  · exact e
theorem oddP_pr {l : List (List (List Int))} (h : ∀ x ∈ l, IsPr x) : ∀ x ∈ oddP l, IsPr x := fun x hx => h x (oddP_mem hx)
theorem oddP_length (l : List (List (List Int))) : (oddP l).length ≤ l.length := by
  have := congrArg List.length (oddP_enc l)
  simp only [List.length_map] at this
  rw [this]
  have := oddL_length (l.map encP)
  simpa using this
/-- What has the codes of the odd ones is the odd ones. -/
theorem oddP_of {l m : List (List (List Int))} (hl : ∀ x ∈ l, IsPr x) (hm : ∀ x ∈ m, IsPr x) (h : m.map encP = oddL (l.map encP)) : m = oddP l :=
  enc_map_inj hm (oddP_pr hl) (by rw [h, oddP_enc])
theorem oddP_congr {a b : List (List (List Int))} (ha : ∀ x ∈ a, IsPr x) (hb : ∀ x ∈ b, IsPr x) (h : oddL (a.map encP) = oddL (b.map encP)) : oddP a = oddP b :=
  enc_map_inj (oddP_pr ha) (oddP_pr hb) (by rw [oddP_enc, oddP_enc, h])
theorem oddP_perm {a b : List (List (List Int))} (ha : ∀ x ∈ a, IsPr x) (h : a.Perm b) : oddP a = oddP b :=
  oddP_congr ha (fun x hx => ha x (h.mem_iff.2 hx)) (oddL_perm (h.map _))
theorem oddP_append {a b : List (List (List Int))} (ha : ∀ x ∈ a, IsPr x) (hb : ∀ x ∈ b, IsPr x) : oddP (a ++ b) = oddP (oddP a ++ b) := by
  refine oddP_congr (fun x hx => ?_) (fun x hx => ?_) ?_
  · rcases List.mem_append.1 hx with h | h
    · exact ha x h
    · exact hb x h
  · rcases List.mem_append.1 hx with h | h
    · exact oddP_pr ha x h
    · exact hb x h
  · rw [List.map_append, List.map_append, oddP_enc, oddL_append]
theorem oddP_append' {a b : List (List (List Int))} (ha : ∀ x ∈ a, IsPr x) (hb : ∀ x ∈ b, IsPr x) : oddP (a ++ b) = oddP (a ++ oddP b) := by
  refine oddP_congr (fun x hx => ?_) (fun x hx => ?_) ?_
  · rcases List.mem_append.1 hx with h | h
    · exact ha x h
    · exact hb x h
  · rcases List.mem_append.1 hx with h | h
    · exact ha x h
    · exact oddP_pr hb x h
  · rw [List.map_append, List.map_append, oddP_enc, oddL_append']
end Go.Proofs.Ytljfpkhgijangaa

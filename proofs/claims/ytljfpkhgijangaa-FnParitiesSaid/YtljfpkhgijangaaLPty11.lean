/- Draws of great numbers. -/
import Derived.Test.YtljfpkhgijangaaLSrc2
import Derived.Test.YtljfpkhgijangaaLGen
import Derived.Deep.RegionWith
namespace Go.Proofs.Ytljfpkhgijangaa
open Go.RowKit Go.Sort

set_option maxRecDepth 100000 in
set_option maxHeartbeats 1000000 in
theorem l01Large_c (g : Nat) (w0 w : World) (hs : Src w0 w g) :
    Calls Try.prog 73 #[.pointer (some ⟨g, 0, none⟩)] w fun e w' => ∃ n : Int, e = .returned (.int .i64 n) ∧ Src w0 w' g ∧ w.grownBy w' (some g) := by
  have hs0 : Src w0 w.drew g := hs.step ((Below.refl _ _).drew)
  have hg0 : w.grownBy w.drew (some g) := ⟨rfl, rfl, rfl, Nat.le_refl _, fun _ _ _ => rfl⟩
  clear hs
  go_enter Try.func73, Try.ntmps73
  go_wp2_with fail
  go_region_with (first | (go_at_call 74; refine (l01Next_pos g _ w0 _ hs0 (by omega) (by omega)).mono ?_; rintro e W ⟨r, rfl, ⟨hr0, hr1⟩, hs1, hg1⟩; have hg0 := grownBy_trans hg0 hg1; have hs0 := hs1; clear hs1 hg1) | (go_at_call 84; refine (l01Near_c g _ w0 _ hs0 (by omega) (by omega)).mono ?_; rintro e W ⟨r, rfl, hr, hs1, hg1⟩; have hg0 := grownBy_trans hg0 hg1; have hs0 := hs1; clear hs1 hg1) | (go_at_call 78; refine (pick_lit g w0 _ [_, _, _, _, _, _] hs0 (by simp) (by simp)).mono ?_; rintro e W ⟨r, rfl, hr, hs1, hg1⟩; have hg0 := grownBy_trans hg0 hg1; have hs0 := hs1; clear hs1 hg1))
  all_goals
    go_wp2_with fail
    go_ret
    exact ⟨_, rfl, hs0, hg0⟩
end Go.Proofs.Ytljfpkhgijangaa

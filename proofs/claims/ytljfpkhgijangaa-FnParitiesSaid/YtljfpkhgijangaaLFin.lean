/- What a table gives: of the program. -/
import Derived.Test.YtljfpkhgijangaaLTabM
import Derived.Test.YtljfpkhgijangaaLHeld2
import Derived.Test.YtljfpkhgijangaaLStep2
import Derived.Test.YtljfpkhgijangaaLMil
namespace Go.Proofs.Ytljfpkhgijangaa
open Go.RowKit Go.Sort

theorem fin_cut (w : World) (x y z : Value) (t t2 : Nat) : ((((w.alloc (.cells #[x] t)).alloc (.cells #[y] t2)).alloc (.cells #[z] t2)).drew).cell? ⟨w.heap.size + 1, 0, none⟩ = some y ∧ ((((w.alloc (.cells #[x] t)).alloc (.cells #[y] t2)).alloc (.cells #[z] t2)).drew).cell? ⟨w.heap.size + 1 + 1, 0, none⟩ = some z ∧
    Below w.heap.size w ((((w.alloc (.cells #[x] t)).alloc (.cells #[y] t2)).alloc (.cells #[z] t2)).drew) ∧ Cell1 ((((w.alloc (.cells #[x] t)).alloc (.cells #[y] t2)).alloc (.cells #[z] t2)).drew) w.heap.size x t := by
  have h1 := Cell1.new w x t
  have h2 := Cell1.new (w.alloc (.cells #[x] t)) y t2
  have h3 := Cell1.new ((w.alloc (.cells #[x] t)).alloc (.cells #[y] t2)) z t2
  have h2' := h2.kept (alloc_old _ (.cells #[z] t2))
  have h1' := (h1.kept (alloc_old _ (.cells #[y] t2))).kept (alloc_old _ (.cells #[z] t2))
  simp only [size_alloc_w] at h2' h3
  exact ⟨h2'.c0, h3.c0, below_drewN 1 ((((Below.refl _ _).alloc (Nat.le_refl _) _).alloc (by simp) _).alloc (by simp; omega) _), h1'⟩
theorem enters_trimmed : Enters Try.prog 147 := fun args w => by kernel_rfl
end Go.Proofs.Ytljfpkhgijangaa

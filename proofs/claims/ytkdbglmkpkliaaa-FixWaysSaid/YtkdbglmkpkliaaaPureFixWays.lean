/- Proved: each of the four ways is the one ahead of it, turned by a quarter; a division by 0 is refused. No condition. -/
import Derived.Test.YtkdbglmkpkliaaaQ11
import Derived.Test.YtkdbglmkpkliaaaFixLem
namespace Go.Proofs.Ytkdbglmkpkliaaa.Pure
open Go.RowKit Go.Proofs.Ytkdbglmkpkliaaa.Q Go.Proofs.YtkdbglmkpkliaaaW.PrintWords Go.Proofs.YtkdbglmkpkliaaaW.PrintLast

theorem FixWays : aditlaw1_FixWays.Pure := by
  intro a _
  refine ⟨50, ?_⟩
  unfold aditlaw1_FixWays.f
  rw [known_is _ (by omega), Option.bind_some, if_pos rfl, within_is _ _ (by omega) (by omega), Option.bind_some]
  generalize ha : a % 4 = x
  rcases (by omega : x = 0 ∨ x = 1 ∨ x = 2 ∨ x = 3) with rfl | rfl | rfl | rfl
  all_goals (clear ha; decide +kernel)
end Go.Proofs.Ytkdbglmkpkliaaa.Pure

/- Proved: a product of parts is not above what it stands for, and less than one part below it; times a whole it is itself; in either order it is the same. No condition. -/
import Derived.Test.YtkdbglmkpkliaaaQ3
import Derived.Test.YtkdbglmkpkliaaaFixLem
namespace Go.Proofs.Ytkdbglmkpkliaaa.Pure
open Go.RowKit Go.Proofs.Ytkdbglmkpkliaaa.Q Go.Proofs.YtkdbglmkpkliaaaW.PrintWords Go.Proofs.YtkdbglmkpkliaaaW.PrintLast

theorem FixBounds : aditlaw1_FixBounds.Pure := by
  intro a b _ _
  refine ⟨50, ?_⟩
  unfold aditlaw1_FixBounds.f
  rw [known_is _ (by omega)]
  simp only [Option.bind_some]
  rw [if_pos trivial, half_is, half_is]
  simp only [Option.bind_some]
  generalize ha : a % 4294967297 - 2147483648 = x
  generalize hb : b % 4294967297 - 2147483648 = y
  have hp := mul_bound (a := x) (b := y) (A := 2147483648) (B := 2147483648) (by omega) (by omega)
  have hc := Int.mul_comm y x
  rw [mul_is x y (by omega) (by omega)]
  simp only [Option.bind_some]
  rw [mul_is x 65536 (by omega) (by omega), mul_is y x (by omega) (by omega), hc]
  generalize x * y = p at hp
  simp only [Option.bind_some]
  rw [w64 (n := p) (by omega) (by omega), w64 (n := p / 65536 * 65536) (by omega) (by omega), if_pos (by omega), w64 (by omega) (by omega), if_pos (by omega), if_pos (by omega)]
  simp
end Go.Proofs.Ytkdbglmkpkliaaa.Pure

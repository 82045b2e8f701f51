/- Proved: a quotient of numbers from 0 to 2^30 - 1 by numbers from 1 to 2^30 times its divisor is the dividend, or a little less. No condition. -/
import Derived.Test.YtkdbglmkpkliaaaQ5
import Derived.Test.YtkdbglmkpkliaaaFixLem
namespace Go.Proofs.Ytkdbglmkpkliaaa.Pure
open Go.RowKit Go.Proofs.Ytkdbglmkpkliaaa.Q Go.Proofs.YtkdbglmkpkliaaaW.PrintWords Go.Proofs.YtkdbglmkpkliaaaW.PrintLast

theorem FixQuotients : aditlaw1_FixQuotients.Pure := by
  intro a b _ _
  refine ⟨50, ?_⟩
  unfold aditlaw1_FixQuotients.f
  rw [known_is _ (by omega)]
  simp only [Option.bind_some]
  rw [if_pos trivial, within_is _ _ (by omega) (by omega), within_is _ _ (by omega) (by omega)]
  simp only [Option.bind_some]
  generalize ha : a % 1073741824 = x
  generalize hb : b % 1073741824 = y
  rw [w64 (n := 1 + y) (by omega) (by omega), div_is x _ (by omega), if_neg (by omega)]
  simp only [Option.bind_some]
  have hy : 0 < 1 + y := by omega
  have h1 := Int.ediv_mul_le (x * 65536) (Int.ne_of_gt hy)
  have h2 := Int.lt_ediv_add_one_mul_self (x * 65536) hy
  have h3 := Int.ediv_nonneg (show 0 ≤ x * 65536 by omega) (Int.le_of_lt hy)
  have h4 := ediv_bound (x * 65536) (1 + y) hy
  unfold fdv
  rw [if_neg (show ¬ (1 + y) < 0 by omega)]
  generalize x * 65536 / (1 + y) = q at h1 h2 h3 h4
  have h5 := Int.mul_nonneg h3 (Int.le_of_lt hy)
  rw [Int.add_mul, Int.one_mul] at h2
  rw [if_pos trivial, if_neg (by omega), w64 (n := q * (1 + y)) (by omega) (by omega), w64 (n := x * 65536) (by omega) (by omega), if_pos h1, w64 (n := q + 1) (by omega) (by omega), Int.add_mul, Int.one_mul, w64 (by omega) (by omega)]
  rw [decide_eq_true (show q * (1 + y) + (1 + y) > x * 65536 by omega)]
end Go.Proofs.Ytkdbglmkpkliaaa.Pure

/- Proved: the root of a square (of a number from 0 to 2^31 - 1) is what was squared; of one less, one less; a step along a row is 256 to a cell. No condition. -/
import Derived.Test.YtkdbglmkpkliaaaQ7
import Derived.Test.YtkdbglmkpkliaaaFixLem
namespace Go.Proofs.Ytkdbglmkpkliaaa.Pure
open Go.RowKit Go.Proofs.Ytkdbglmkpkliaaa.Q Go.Proofs.YtkdbglmkpkliaaaW.PrintWords Go.Proofs.YtkdbglmkpkliaaaW.PrintLast

theorem dist_row (k : Nat) (hk : 40 ≤ k) (m : Int) (h0 : 0 ≤ m) (h1 : m < 1000) : fix_Dist.f k m 0 = some (256 * m) := by
  have hp := mul_bound (a := m) (b := m) (A := 1000) (B := 1000) (by omega) (by omega)
  have hz := Int.mul_nonneg h0 h0
  unfold fix_Dist.f
  rw [w64 (n := m * m) (by omega) (by omega), Int.mul_zero, w64 (n := 0) (by omega) (by omega), Int.add_zero, w64 (n := m * m) (by omega) (by omega), w64 (by omega) (by omega)]
  rw [root_eq k hk _ (256 * m) (by omega) ⟨by omega, ?_, ?_⟩]
  · rfl
  · rw [show 256 * m * (256 * m) = 65536 * (m * m) by rw [show 256 * m * (256 * m) = (256 * 256) * (m * m) by ac_rfl]; rfl]
    exact Int.le_refl _
  · rw [show (256 * m + 1) * (256 * m + 1) = 65536 * (m * m) + 512 * m + 1 by
      rw [Int.add_mul, Int.mul_add, show 256 * m * (256 * m) = (256 * 256) * (m * m) by ac_rfl]; omega]
    omega

theorem FixSquares : aditlaw1_FixSquares.Pure := by
  intro a _
  refine ⟨50, ?_⟩
  unfold aditlaw1_FixSquares.f
  rw [known_is _ (by omega)]
  simp only [Option.bind_some]
  rw [if_pos trivial, within_is _ _ (by omega) (by omega)]
  simp only [Option.bind_some]
  generalize ha : a % 2147483648 = x
  have hx : 0 ≤ x ∧ x < 2147483648 := by omega
  have hp := mul_bound (a := x) (b := x) (A := 2147483648) (B := 2147483648) (by omega) (by omega)
  have hz := Int.mul_nonneg hx.1 hx.1
  have hm : Int.tmod x 1000 = x % 1000 := Int.tmod_eq_emod_of_nonneg hx.1
  have hs : (x + 1) * (x + 1) = x * x + 2 * x + 1 := by rw [Int.add_mul, Int.mul_add]; omega
  rw [hm, w64 (n := x * x) (by omega) (by omega), root_eq _ (by omega) _ x (by omega) ⟨hx.1, Int.le_refl _, by omega⟩, dist_row _ (by omega) _ (by omega) (by omega)]
  simp only [Option.bind_some]
  rw [if_pos trivial, w64 (n := 256 * (x % 1000)) (by omega) (by omega)]
  by_cases h : x = 0
  · rw [if_pos h]; simp
  · have hq : (x - 1) * (x - 1) = x * x - 2 * x + 1 := by rw [Int.sub_mul, Int.mul_sub]; omega
    rw [if_neg h, w64 (n := x * x - 1) (by omega) (by omega), root_eq _ (by omega) _ (x - 1) (by omega) ⟨by omega, by omega, by rw [show x - 1 + 1 = x by omega]; omega⟩]
    simp only [Option.bind_some]
    rw [w64 (n := x - 1) (by omega) (by omega), if_pos rfl]
    simp
end Go.Proofs.Ytkdbglmkpkliaaa.Pure

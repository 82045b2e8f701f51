/- Plain laws of whole numbers: wraps, quotients rounded down, roots. No condition beyond the bounds in each statement. -/
import Derived.RowKit
import Derived.Lib.ItoaNum
import Derived.Laws.BitsLemmas
namespace Go.Proofs.Ytjpcmpeigoikkaa.Pure
set_option linter.unusedVariables false
set_option linter.unusedSimpArgs false
open Go.RowKit

theorem i64_range {n : Int} (h : (Lit.int .i64 n).wf = true) : -9223372036854775808 ≤ n ∧ n < 9223372036854775808 := by
  simp [Lit.wf, IntKind.min, IntKind.max, IntKind.signed, IntKind.bits] at h
  omega
theorem w64 {n : Int} (h0 : -9223372036854775808 ≤ n) (h1 : n < 9223372036854775808) : wrap64 n = n := by unfold wrap64; omega
theorem u64_wrap_eq (n : Int) : IntKind.u64.wrap n = n % 18446744073709551616 := by simp [IntKind.wrap, IntKind.bits, IntKind.signed]
theorem i64_wrap_eq (n : Int) : IntKind.i64.wrap n = wrap64 n := IntKind.wrap_i64 n

theorem mul_bound {a b A B : Int} (h1 : (a.natAbs : Int) ≤ A) (h2 : (b.natAbs : Int) ≤ B) : -(A * B) ≤ a * b ∧ a * b ≤ A * B := by
  have h : ((a * b).natAbs : Int) ≤ A * B := by
    rw [Int.natAbs_mul, Int.natCast_mul]
    exact Int.mul_le_mul h1 h2 (by omega) (by omega)
  omega

/-- The rest by a number above 0. -/
theorem tmod_cases (a n : Int) (hn : 0 < n) : (Int.tmod a n = a % n ∧ Int.tdiv a n = a / n ∧ (0 ≤ a ∨ a % n = 0)) ∨ (a < 0 ∧ a % n ≠ 0 ∧ Int.tmod a n = a % n - n ∧ Int.tdiv a n = a / n + 1) := by
  rw [Int.tmod_eq_emod, Int.tdiv_eq_ediv]
  by_cases h : 0 ≤ a ∨ n ∣ a
  · left
    rw [if_pos h, if_pos h]
    exact ⟨by simp, by simp, h.imp id Int.emod_eq_zero_of_dvd⟩
  · right
    rw [if_neg h, if_neg h]
    have h0 : ¬ 0 ≤ a := fun x => h (.inl x)
    have h1 : a % n ≠ 0 := fun x => h (.inr (Int.dvd_of_emod_eq_zero x))
    rw [Int.sign_eq_one_of_pos hn]
    exact ⟨by omega, h1, by omega, rfl⟩

theorem ediv_bound (a n : Int) (hn : 0 < n) : -(a.natAbs : Int) ≤ a / n ∧ a / n ≤ a.natAbs := by
  have h1 := Int.ediv_mul_le a (Int.ne_of_gt hn)
  have h2 := Int.lt_ediv_add_one_mul_self a hn
  constructor
  · rcases (by omega : -(a.natAbs : Int) ≤ a / n ∨ a / n < -(a.natAbs : Int)) with h | h
    · exact h
    · exfalso
      have h3 : (a / n + 1) * n ≤ (-(a.natAbs : Int)) * n := Int.mul_le_mul_of_nonneg_right (by omega) (by omega)
      have h4 : (-(a.natAbs : Int)) * n ≤ (-(a.natAbs : Int)) * 1 := by
        have := Int.mul_le_mul_of_nonneg_left (show (1 : Int) ≤ n by omega) (show (0 : Int) ≤ a.natAbs by omega)
        rw [Int.neg_mul, Int.neg_mul]
        omega
      omega
  · rcases (by omega : a / n ≤ (a.natAbs : Int) ∨ (a.natAbs : Int) < a / n) with h | h
    · exact h
    · exfalso
      have h3 : (a.natAbs : Int) * 1 ≤ (a.natAbs : Int) * n := Int.mul_le_mul_of_nonneg_left (by omega) (by omega)
      have h5 : ((a.natAbs : Int) + 1) * n ≤ a / n * n := Int.mul_le_mul_of_nonneg_right (by omega) (by omega)
      rw [Int.add_mul] at h5
      omega

/-- The quotient of the opposite, where there is a rest. -/
theorem neg_ediv (a c : Int) (hc : 0 < c) (h : a % c ≠ 0) : (-a) / c = -(a / c) - 1 := by
  have h1 := Int.emod_nonneg a (Int.ne_of_gt hc)
  have h2 := Int.emod_lt_of_pos a hc
  have h3 := Int.emod_add_mul_ediv a c
  refine ((Int.ediv_emod_unique (a := -a) (b := c) (r := c - a % c) (q := -(a / c) - 1) hc).2 ⟨?_, by omega, by omega⟩).1
  rw [Int.mul_sub, Int.mul_neg]
  omega

theorem two_pow_le {s : Nat} (h : s ≤ 31) : (2 : Int) ^ s ≤ 2147483648 := by
  have h1 := Nat.pow_le_pow_right (show 0 < 2 by decide) h
  have h2 : ((2 ^ s : Nat) : Int) = 2 ^ s := by simp
  omega
/-- The root of a number. -/
def IsRoot (n r : Int) : Prop := 0 ≤ r ∧ r * r ≤ n ∧ n < (r + 1) * (r + 1)
theorem IsRoot.one {n r s : Int} (h : IsRoot n r) (h' : IsRoot n s) : r = s := by
  obtain ⟨a, b, c⟩ := h
  obtain ⟨a', b', c'⟩ := h'
  rcases (by omega : r < s ∨ s < r ∨ r = s) with x | x | x
  · have := Int.mul_self_le_mul_self (show 0 ≤ r + 1 by omega) (show r + 1 ≤ s by omega)
    omega
  · have := Int.mul_self_le_mul_self (show 0 ≤ s + 1 by omega) (show s + 1 ≤ r by omega)
    omega
  · exact x
theorem IsRoot.small {n r : Int} (h : IsRoot n r) {B : Int} (hB : 0 ≤ B) (hn : n < B * B) : r < B := by
  rcases (by omega : r < B ∨ B ≤ r) with x | x
  · exact x
  · have := Int.mul_self_le_mul_self hB x
    have := h.2.1
    omega
/-- One step: the greatest number is looked for bit by bit. -/
theorem square_step (r b : Int) : (r + b + b) * (r + b + b) = (r + 2 * b) * (r + 2 * b) := by
  rw [show r + b + b = r + 2 * b by omega]
end Go.Proofs.Ytjpcmpeigoikkaa.Pure

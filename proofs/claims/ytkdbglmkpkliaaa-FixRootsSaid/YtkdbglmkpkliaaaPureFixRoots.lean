/- Proved: the root of any number is the document's: squared at most the number, one more is above it; so are distances, for steps of at most 2^20 a way. No condition. -/
import Derived.Test.YtkdbglmkpkliaaaQ6
import Derived.Test.YtkdbglmkpkliaaaFixLem
namespace Go.Proofs.Ytkdbglmkpkliaaa.Pure
open Go.RowKit Go.Proofs.Ytkdbglmkpkliaaa.Q Go.Proofs.YtkdbglmkpkliaaaW.PrintWords Go.Proofs.YtkdbglmkpkliaaaW.PrintLast

theorem ref_done (k : Nat) (n r : Int) : aditref1_Root.l0 (k + 1) n r 0 = some r := by
  simp only [aditref1_Root.l0]
  rw [if_neg (by decide)]
theorem half_pow (j : Nat) (h : j + 1 ≤ 31) : wrap64 (Int.tdiv (2 ^ (j + 1)) 2) = 2 ^ j := by
  have h1 := two_pow_le h
  have h0 : (0 : Int) < 2 ^ j := Int.pow_pos (by decide)
  have e : (2 : Int) ^ (j + 1) = 2 * 2 ^ j := by rw [Int.pow_succ]; omega
  rw [Int.tdiv_eq_ediv_of_nonneg (by omega), e, w64 (by omega) (by omega)]
  omega
theorem big_square (m : Int) (h : 3037000499 < m) : 9223372036854775808 ≤ m * m := by
  have := Int.mul_self_le_mul_self (show (0 : Int) ≤ 3037000500 by decide) (show 3037000500 ≤ m by omega)
  omega
/-- One try of the document's: the bit is taken where the square is at most the number. -/
theorem ref_step (n r b : Int) (hr : 0 ≤ r) (hb : 0 < b) (hm : r + b ≤ 4294967296) (hn : n < 9223372036854775808) (k : Nat) (c : Int) (hc : wrap64 (Int.tdiv b 2) = c) :
    aditref1_Root.l0 (k + 1) n r b = aditref1_Root.l0 k n (if (r + b) * (r + b) ≤ n then r + b else r) c := by
  simp only [aditref1_Root.l0]
  rw [if_pos (by omega), w64 (n := r + b) (by omega) (by omega), hc]
  by_cases h : r + b ≤ 3037000499
  · have hp := mul_bound (a := r + b) (b := r + b) (A := 3037000499) (B := 3037000499) (by omega) (by omega)
    have hz := Int.mul_nonneg (show 0 ≤ r + b by omega) (show 0 ≤ r + b by omega)
    rw [if_pos h, w64 (n := (r + b) * (r + b)) (by omega) (by omega)]
    by_cases h2 : (r + b) * (r + b) ≤ n
    · rw [if_pos h2, if_pos h2]
    · rw [if_neg h2, if_neg h2]
  · have := big_square (r + b) (by omega)
    rw [if_neg h, if_neg (by omega)]
theorem ref_loop (n : Int) (_hn : 0 ≤ n) (hn2 : n < 9223372036854775808) (j : Nat) (hj : j ≤ 31) : ∀ (k : Nat) (r : Int), j + 1 < k → 0 ≤ r → r + 2 * 2 ^ j ≤ 4294967296 → r * r ≤ n → n < (r + 2 * 2 ^ j) * (r + 2 * 2 ^ j) →
    ∃ q, aditref1_Root.l0 k n r (2 ^ j) = some q ∧ IsRoot n q := by
  induction j with
  | zero =>
    intro k r hk hr hb h1 h2
    obtain ⟨k, rfl⟩ : ∃ m, k = m + 2 := ⟨k - 2, by omega⟩
    rw [Int.pow_zero] at hb h2 ⊢
    rw [ref_step n r 1 hr (by omega) (by omega) hn2 (k + 1) 0 (by decide +kernel), ref_done]
    rw [Int.mul_one] at h2
    by_cases h : (r + 1) * (r + 1) ≤ n
    · rw [if_pos h]
      exact ⟨_, rfl, by omega, h, by rw [show r + 1 + 1 = r + 2 by omega]; exact h2⟩
    · rw [if_neg h]
      exact ⟨_, rfl, hr, h1, by omega⟩
  | succ j ih =>
    intro k r hk hr hb h1 h2
    obtain ⟨k, rfl⟩ : ∃ m, k = m + 1 := ⟨k - 1, by omega⟩
    have hp : (0 : Int) < 2 ^ j := Int.pow_pos (by decide)
    have e : (2 : Int) ^ (j + 1) = 2 * 2 ^ j := by rw [Int.pow_succ]; omega
    have hh := half_pow j hj
    rw [e] at hb h2 hh ⊢
    rw [ref_step n r (2 * 2 ^ j) hr (by omega) (by omega) hn2 k _ hh]
    by_cases h : (r + 2 * 2 ^ j) * (r + 2 * 2 ^ j) ≤ n
    · rw [if_pos h]
      refine ih (by omega) k _ (by omega) (by omega) (by omega) h ?_
      rw [show r + 2 * 2 ^ j + 2 * 2 ^ j = r + 2 * (2 * 2 ^ j) by omega]; exact h2
    · rw [if_neg h]
      exact ih (by omega) k _ (by omega) hr (by omega) h1 (by omega)
theorem ref_neg (n : Int) (hn : n < 0) (j : Nat) (hj : j ≤ 31) : ∀ k : Nat, j + 1 < k → aditref1_Root.l0 k n 0 (2 ^ j) = some 0 := by
  induction j with
  | zero =>
    intro k hk
    obtain ⟨k, rfl⟩ : ∃ m, k = m + 2 := ⟨k - 2, by omega⟩
    rw [Int.pow_zero, ref_step n 0 1 (by omega) (by omega) (by omega) (by omega) (k + 1) 0 (by decide +kernel), if_neg (by omega), ref_done]
  | succ j ih =>
    intro k hk
    obtain ⟨k, rfl⟩ : ∃ m, k = m + 1 := ⟨k - 1, by omega⟩
    have hb := two_pow_le hj
    have hp : (0 : Int) < 2 ^ (j + 1) := Int.pow_pos (by decide)
    have hz := Int.mul_nonneg (show 0 ≤ 0 + (2 : Int) ^ (j + 1) by omega) (show 0 ≤ 0 + (2 : Int) ^ (j + 1) by omega)
    rw [ref_step n 0 (2 ^ (j + 1)) (by omega) hp (by omega) (by omega) k _ (half_pow j hj), if_neg (by omega)]
    exact ih (by omega) k (by omega)
theorem ref_root (k : Nat) (hk : 40 ≤ k) (n : Int) (hn : 0 ≤ n) (hn2 : n < 9223372036854775808) : ∃ q, aditref1_Root.f k n = some q ∧ IsRoot n q := by
  unfold aditref1_Root.f
  have e : (2147483648 : Int) = 2 ^ 31 := by decide
  have e2 : (2 : Int) * 2 ^ 31 = 4294967296 := by decide
  rw [e]
  refine ref_loop n hn hn2 31 (by omega) k 0 (by omega) (by omega) (by omega) (by omega) ?_
  rw [e2, Int.zero_add]
  omega
/-- Both roots of a number are one. -/
theorem roots_agree (k : Nat) (hk : 40 ≤ k) (n : Int) (hn2 : n < 9223372036854775808) : ∃ q, fix_Root.f k n = some q ∧ aditref1_Root.f k n = some q ∧ (0 ≤ n → IsRoot n q) ∧ (n < 0 → q = 0) := by
  by_cases hn : 0 ≤ n
  · obtain ⟨q, h1, h2⟩ := root_is k hk n hn hn2
    obtain ⟨r, h3, h4⟩ := ref_root k hk n hn hn2
    exact ⟨q, h1, by rw [h3, h4.one h2], fun _ => h2, fun h => by omega⟩
  · refine ⟨0, ?_, ?_, fun h => by omega, fun _ => rfl⟩
    · unfold fix_Root.f
      rw [if_pos (by omega)]
    · unfold aditref1_Root.f
      rw [show (2147483648 : Int) = 2 ^ 31 by decide]
      exact ref_neg n (by omega) 31 (by omega) k (by omega)

theorem dists_agree (k : Nat) (hk : 40 ≤ k) (x y : Int) : ∃ q, fix_Dist.f k x y = some q ∧ aditref1_Dist.f k x y = some q := by
  obtain ⟨q, h1, h2, _⟩ := roots_agree k hk (wrap64 (65536 * wrap64 (wrap64 (x * x) + wrap64 (y * y)))) (by unfold wrap64; omega)
  exact ⟨q, by unfold fix_Dist.f; rw [h1]; rfl, by unfold aditref1_Dist.f; rw [h2]; rfl⟩

theorem far_part (k : Nat) (hk : 41 ≤ k) (a b : Int) : aditlaw1_FixRoots.j0 k a b false = some true := by
  obtain ⟨k, rfl⟩ : ∃ m, k = m + 1 := ⟨k - 1, by omega⟩
  simp only [aditlaw1_FixRoots.j0]
  rw [if_neg (by decide), within_is _ _ (by omega) (by omega), Option.bind_some, within_is _ _ (by omega) (by omega), Option.bind_some]
  generalize ha : a % 2097153 = x
  generalize hb : b % 2097153 = y
  rw [w64 (n := x - 1048576) (by omega) (by omega), w64 (n := y - 1048576) (by omega) (by omega), w64 (n := -(y - 1048576)) (by omega) (by omega)]
  have e : fix_Dist.f k (-(y - 1048576)) (x - 1048576) = fix_Dist.f k (x - 1048576) (y - 1048576) := by
    unfold fix_Dist.f
    rw [Int.neg_mul_neg, Int.add_comm (wrap64 ((y - 1048576) * (y - 1048576)))]
  obtain ⟨q, h1, h2⟩ := dists_agree k (by omega) (x - 1048576) (y - 1048576)
  rw [e, h1, h2]
  simp

theorem FixRoots : aditlaw1_FixRoots.Pure := by
  intro n a b hn _ _
  have hn := i64_range hn
  refine ⟨50, ?_⟩
  unfold aditlaw1_FixRoots.f
  rw [known_is _ (by omega), Option.bind_some, if_pos rfl]
  obtain ⟨q, h1, h2, h3, h4⟩ := roots_agree 50 (by omega) n hn.2
  rw [h1, Option.bind_some, h2, Option.bind_some, if_pos rfl]
  have far := far_part 50 (by omega) a b
  by_cases h0 : n ≥ 0
  · obtain ⟨r1, r2, r3⟩ := h3 h0
    rw [if_pos h0, if_neg (show ¬ n < 0 by omega)]
    by_cases hb : n < 4611686018427387904
    · have hs := IsRoot.small ⟨r1, r2, r3⟩ (B := 2147483648) (by omega) (by omega)
      have hp := mul_bound (a := q + 1) (b := q + 1) (A := 2147483648) (B := 2147483648) (by omega) (by omega)
      have hz := Int.mul_nonneg (show 0 ≤ q + 1 by omega) (show 0 ≤ q + 1 by omega)
      have hz2 := Int.mul_nonneg r1 r1
      rw [if_pos hb, w64 (n := q * q) (by omega) (by omega), if_neg (by omega), w64 (n := q + 1) (by omega) (by omega), w64 (n := (q + 1) * (q + 1)) (by omega) (by omega), if_neg (by omega)]
      exact far
    · rw [if_neg hb]
      exact far
  · have hq := h4 (by omega)
    rw [if_neg h0, if_pos (by omega), hq]
    exact far
end Go.Proofs.Ytkdbglmkpkliaaa.Pure

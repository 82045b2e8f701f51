/- Plain laws of chapter 1: what each function of parts, roots and turns answers. No condition beyond the bounds in each statement. -/
import Derived.Test.YtkdbglmkpkliaaaNumLem
import Derived.Test.YtkdbglmkpkliaaaQ3
import Derived.Test.YtkdbglmkpkliaaaQ1
import Derived.Test.YtkdbglmkpkliaaaQ2
namespace Go.Proofs.Ytkdbglmkpkliaaa.Pure
open Go.RowKit Go.Proofs.Ytkdbglmkpkliaaa.Q Go.Proofs.YtkdbglmkpkliaaaW.PrintWords Go.Proofs.YtkdbglmkpkliaaaW.PrintLast Go.Proofs.YtkdbglmkpkliaaaW.PrintMore

theorem within_is (a n : Int) (hn : 0 < n) (hn2 : n < 9223372036854775808) : aditlaw1_within.f a n = some (a % n) := by
  have h1 := Int.emod_nonneg a (Int.ne_of_gt hn)
  have h2 := Int.emod_lt_of_pos a hn
  unfold aditlaw1_within.f
  rw [if_neg (by omega)]
  rcases tmod_cases a n hn with ⟨e, _, _⟩ | ⟨_, _, e, _⟩
  · rw [e, if_neg (by omega)]
  · rw [e, if_pos (by omega), w64 (by omega) (by omega)]
    congr 1
    omega
theorem half_is (a : Int) : aditlaw1_half.f a = some (a % 4294967297 - 2147483648) := by
  unfold aditlaw1_half.f
  rw [within_is a _ (by omega) (by omega)]
  simp only [Option.bind_some]
  rw [w64 (by omega) (by omega)]

theorem mul_is (a b : Int) (h0 : -9223372036854775808 ≤ a * b) (h1 : a * b < 9223372036854775808) : fix_Mul.f a b = some (a * b / 65536) := by
  unfold fix_Mul.f
  rw [w64 h0 h1]

/-- A quotient rounded down, by a number that is not 0. -/
def fdv (a b : Int) : Int := if b < 0 then (-a) / (-b) else a / b
theorem floor_is (a b : Int) (hb : b ≠ 0) (ha : (a.natAbs : Int) < 4611686018427387904) : fix_floor.f a b = some (fdv a b) := by
  unfold fix_floor.f fdv
  rw [if_neg hb]
  by_cases h : b < 0
  · rw [if_pos h]
    obtain ⟨c, rfl⟩ : ∃ c, b = -c := ⟨-b, by omega⟩
    have hc : 0 < c := by omega
    have bd := ediv_bound a c hc
    have h1 := Int.emod_nonneg a (Int.ne_of_gt hc)
    have h2 := Int.emod_lt_of_pos a hc
    rw [Int.tmod_neg, Int.tdiv_neg, Int.neg_neg]
    by_cases hd : a % c = 0
    · have e : (-a) / c = -(a / c) := Int.neg_ediv_of_dvd (Int.dvd_of_emod_eq_zero hd)
      rcases tmod_cases a c hc with ⟨e1, e2, _⟩ | ⟨_, e0, _, _⟩
      · rw [e1, e2, if_pos hd, e, w64 (by omega) (by omega)]
      · exact absurd hd e0
    · have e := neg_ediv a c hc hd
      rcases tmod_cases a c hc with ⟨e1, e2, e3⟩ | ⟨ha0, _, e1, e2⟩
      · rw [e1, e2, if_neg hd, e]
        by_cases hn : a < 0
        · exfalso
          omega
        · rw [decide_eq_false hn, decide_eq_true h, if_pos (by decide), w64 (n := -(a / c)) (by omega) (by omega), w64 (by omega) (by omega)]
      · rw [e1, e2, if_neg (by omega), e, decide_eq_true ha0, decide_eq_true h, if_neg (by decide), w64 (by omega) (by omega)]
        congr 1
        omega
  · rw [if_neg h]
    have hc : 0 < b := by omega
    have bd := ediv_bound a b hc
    have h1 := Int.emod_nonneg a (Int.ne_of_gt hc)
    have h2 := Int.emod_lt_of_pos a hc
    rcases tmod_cases a b hc with ⟨e1, e2, e3⟩ | ⟨ha0, e0, e1, e2⟩
    · rw [e1, e2]
      by_cases hd : a % b = 0
      · rw [if_pos hd, w64 (by omega) (by omega)]
      · rw [if_neg hd]
        by_cases hn : a < 0
        · exfalso
          omega
        · rw [decide_eq_false hn, decide_eq_false h, if_neg (by decide), w64 (by omega) (by omega)]
    · rw [e1, e2, if_neg (by omega), decide_eq_true ha0, decide_eq_false h, if_pos (by decide), w64 (n := a / b + 1) (by omega) (by omega), w64 (by omega) (by omega)]
      congr 1
      omega
theorem div_is (a b : Int) (ha : (a.natAbs : Int) ≤ 2147483648) : fix_Div.f a b = some (if b = 0 then (0, 1) else (fdv (a * 65536) b, 0)) := by
  unfold fix_Div.f
  by_cases hb : b = 0
  · rw [if_pos hb, if_pos hb]
  · rw [if_neg hb, if_neg hb, w64 (by omega) (by omega), floor_is _ _ hb (by omega)]
    rfl

theorem bitlen_lt (x : Nat) (h : x < 2 ^ 63) (h0 : x ≠ 0) : 1 ≤ Lib.bitLen x ∧ Lib.bitLen x ≤ 63 ∧ x < 2 ^ Lib.bitLen x := by
  have := Lib.bitLenAux_bounds 64 x (by omega) h0
  exact ⟨this.1, Lib.bitLen_le x 63 (by omega) h, this.2.2⟩

theorem shl_one (s : Nat) (hs : s ≤ 31) : shl .i64 1 (s : Int) = 2 ^ s := by
  unfold shl
  rw [i64_wrap_eq]
  have e : min ((s : Int)).toNat IntKind.i64.bits = s := by
    simp only [IntKind.bits]
    omega
  rw [e, Int.one_mul]
  have h := two_pow_le hs
  have h0 : (0 : Int) < 2 ^ s := Int.pow_pos (by decide)
  exact w64 (by omega) (by omega)

theorem pow_half (j : Nat) : (2 : Int) ^ (j + 1) / 2 = 2 ^ j := by
  rw [Int.pow_succ]
  exact Int.mul_ediv_cancel _ (by decide)

theorem root_loop (n : Int) (hn : 0 ≤ n) (hn2 : n < 9223372036854775808) (j : Nat) : ∀ (k : Nat) (r : Int), j + 1 < k → 0 ≤ r → r + 2 * 2 ^ j ≤ 4294967296 → r * r ≤ n → n < (r + 2 * 2 ^ j) * (r + 2 * 2 ^ j) →
    ∃ q, fix_Root.l0 k n r (2 ^ j) = some q ∧ IsRoot n q := by
  induction j with
  | zero =>
    intro k r hk hr hb h1 h2
    obtain ⟨k, rfl⟩ : ∃ m, k = m + 2 := ⟨k - 2, by omega⟩
    simp only [fix_Root.l0, Int.pow_zero, Int.mul_one] at hb h2 ⊢
    rw [w64 (n := r + 1) (by omega) (by omega), if_pos (by decide), if_neg (by omega), Int.tdiv_eq_ediv_of_nonneg hn]
    have bd := ediv_bound n (r + 1) (by omega)
    rw [w64 (by omega) (by omega)]
    by_cases h : r + 1 ≤ n / (r + 1)
    · rw [if_pos h, if_neg (by decide)]
      refine ⟨_, rfl, by omega, (Int.le_ediv_iff_mul_le (by omega)).1 h, ?_⟩
      rw [show r + 1 + 1 = r + 2 by omega]; exact h2
    · rw [if_neg h, if_neg (by decide)]
      refine ⟨_, rfl, hr, h1, ?_⟩
      rcases (by omega : n < (r + 1) * (r + 1) ∨ (r + 1) * (r + 1) ≤ n) with x | x
      · exact x
      · exact absurd ((Int.le_ediv_iff_mul_le (show 0 < r + 1 by omega)).2 x) h
  | succ j ih =>
    intro k r hk hr hb h1 h2
    obtain ⟨k, rfl⟩ : ∃ m, k = m + 1 := ⟨k - 1, by omega⟩
    have hp : (0 : Int) < 2 ^ j := Int.pow_pos (by decide)
    have e : (2 : Int) ^ (j + 1) = 2 * 2 ^ j := by rw [Int.pow_succ]; omega
    simp only [fix_Root.l0]
    rw [pow_half]
    rw [e] at hb h2 ⊢
    rw [w64 (n := r + 2 * 2 ^ j) (by omega) (by omega), if_pos (by omega), if_neg (by omega), Int.tdiv_eq_ediv_of_nonneg hn]
    have bd := ediv_bound n (r + 2 * 2 ^ j) (by omega)
    rw [w64 (by omega) (by omega)]
    by_cases h : r + 2 * 2 ^ j ≤ n / (r + 2 * 2 ^ j)
    · rw [if_pos h]
      refine ih k _ (by omega) (by omega) (by omega) ((Int.le_ediv_iff_mul_le (by omega)).1 h) ?_
      rw [show r + 2 * 2 ^ j + 2 * 2 ^ j = r + 2 * (2 * 2 ^ j) by omega]; exact h2
    · rw [if_neg h]
      refine ih k _ (by omega) hr (by omega) h1 ?_
      rcases (by omega : n < (r + 2 * 2 ^ j) * (r + 2 * 2 ^ j) ∨ (r + 2 * 2 ^ j) * (r + 2 * 2 ^ j) ≤ n) with x | x
      · exact x
      · exact absurd ((Int.le_ediv_iff_mul_le (show 0 < r + 2 * 2 ^ j by omega)).2 x) h

theorem tdiv_half (t : Nat) : Int.tdiv ((t : Nat) : Int) 2 = ((t / 2 : Nat) : Int) := by
  rw [Int.tdiv_eq_ediv_of_nonneg (by omega)]
  omega
theorem square_bound (n t : Nat) (h : n < 2 ^ t) : (n : Int) < (0 + 2 * 2 ^ (t / 2)) * (0 + 2 * 2 ^ (t / 2)) := by
  have e2 : (2 : Nat) ^ t ≤ 2 ^ (2 * (t / 2) + 2) := Nat.pow_le_pow_right (by decide) (by omega)
  have e3 : (2 : Nat) ^ (2 * (t / 2) + 2) = (2 * 2 ^ (t / 2)) * (2 * 2 ^ (t / 2)) := by
    rw [show 2 * (t / 2) + 2 = (t / 2 + 1) + (t / 2 + 1) by omega, Nat.pow_add, Nat.pow_succ, Nat.mul_comm (2 ^ (t / 2)) 2]
  have e4 : ((2 ^ (2 * (t / 2) + 2) : Nat) : Int) = (0 + 2 * 2 ^ (t / 2)) * (0 + 2 * 2 ^ (t / 2)) := by rw [e3, Int.zero_add]; simp
  omega
theorem root_from (k : Nat) (hk : 40 ≤ k) (n : Int) (hn : 0 ≤ n) (hn2 : n < 9223372036854775808) (t : Nat) (t2 : t ≤ 63) (t3 : n.toNat < 2 ^ t) :
    ∃ q, (if 0 ≤ wrap64 (Int.tdiv (t : Int) 2) then fix_Root.l0 k n 0 (shl .i64 1 (wrap64 (Int.tdiv (t : Int) 2))) else none) = some q ∧ IsRoot n q := by
  have hp := two_pow_le (show t / 2 ≤ 31 by omega)
  have h0 : (0 : Int) < 2 ^ (t / 2) := Int.pow_pos (by decide)
  have hz : 0 * 0 ≤ n := by omega
  have hsq := square_bound _ _ t3
  rw [Int.toNat_of_nonneg hn] at hsq
  rw [tdiv_half, w64 (by omega) (by omega), if_pos (by omega), shl_one _ (by omega)]
  exact root_loop n hn hn2 (t / 2) k 0 (by omega) (by omega) (by omega) hz hsq
theorem root_is (k : Nat) (hk : 40 ≤ k) (n : Int) (hn : 0 ≤ n) (hn2 : n < 9223372036854775808) : ∃ q, fix_Root.f k n = some q ∧ IsRoot n q := by
  unfold fix_Root.f
  by_cases h : n < 1
  · rw [if_pos h]
    have : n = 0 := by omega
    subst this
    exact ⟨0, rfl, by decide, by decide, by decide⟩
  · obtain ⟨t1, t2, t3⟩ := bitlen_lt n.toNat (by omega) (by omega)
    rw [if_neg h]
    unfold bits_Len.f
    rw [u64_wrap_eq, show n % 18446744073709551616 = n by omega, if_pos hn, if_pos (by omega), Option.bind_some]
    exact root_from k hk n hn hn2 _ t2 t3
theorem root_eq (k : Nat) (hk : 40 ≤ k) (n r : Int) (hn2 : n < 9223372036854775808) (h : IsRoot n r) : fix_Root.f k n = some r := by
  have hn : 0 ≤ n := by have := Int.mul_self_le_mul_self (Int.le_refl 0) h.1; have := h.2.1; omega
  obtain ⟨q, hq, hr⟩ := root_is k hk n hn hn2
  rw [hq, h.one hr]

theorem known_is (k : Nat) (hk : 50 ≤ k) : aditlaw1_known.f k = some true := at_rounds (fun k => aditlaw1_known.mono k) hk (show aditlaw1_known.f 50 = some true by decide +kernel)
end Go.Proofs.Ytkdbglmkpkliaaa.Pure

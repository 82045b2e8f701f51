/- Proved: any two numbers from -2^31 to 2^31 are multiplied, and divided, as the document says, rounded down; a divisor 0 is refused. No condition. -/
import Derived.Test.YtkdbglmkpkliaaaQ4
import Derived.Test.YtkdbglmkpkliaaaFixLem
namespace Go.Proofs.Ytkdbglmkpkliaaa.Pure
open Go.RowKit Go.Proofs.Ytkdbglmkpkliaaa.Q Go.Proofs.YtkdbglmkpkliaaaW.PrintWords Go.Proofs.YtkdbglmkpkliaaaW.PrintLast

theorem down_is (p q : Int) (hq : 0 < q) (hp : (p.natAbs : Int) ≤ 4611686018427387904) : aditref1_down.f p q = some (p / q) := by
  have bd := ediv_bound p q hq
  have h1 := Int.emod_nonneg p (Int.ne_of_gt hq)
  have h2 := Int.emod_lt_of_pos p hq
  unfold aditref1_down.f
  rw [if_neg (by omega)]
  rcases tmod_cases p q hq with ⟨e1, e2, _⟩ | ⟨_, e0, e1, e2⟩
  · rw [e1, e2, if_neg (by omega), w64 (by omega) (by omega)]
  · rw [e1, e2, if_pos (by omega), w64 (n := p / q + 1) (by omega) (by omega), w64 (by omega) (by omega)]
    congr 1
    omega
theorem ref_div (a b : Int) (ha : (a.natAbs : Int) ≤ 2147483648) (hb : (b.natAbs : Int) ≤ 2147483648) : aditref1_Div.f a b = some (if b = 0 then (0, 1) else (fdv (a * 65536) b, 0)) := by
  unfold aditref1_Div.f fdv
  by_cases h : b = 0
  · rw [if_pos h, if_pos h]
  · rw [if_neg h, if_neg h]
    by_cases h1 : b < 0
    · rw [if_pos h1, if_pos h1, w64 (n := -a) (by omega) (by omega), w64 (n := -b) (by omega) (by omega), w64 (by omega) (by omega), down_is _ _ (by omega) (by omega), Int.neg_mul]
      rfl
    · rw [if_neg h1, if_neg h1, w64 (by omega) (by omega), down_is _ _ (by omega) (by omega)]
      rfl

theorem FixParts : aditlaw1_FixParts.Pure := by
  intro a b _ _
  refine ⟨50, ?_⟩
  unfold aditlaw1_FixParts.f
  rw [known_is _ (by omega)]
  simp only [Option.bind_some]
  rw [if_pos trivial, half_is, half_is]
  simp only [Option.bind_some]
  generalize ha : a % 4294967297 - 2147483648 = x
  generalize hb : b % 4294967297 - 2147483648 = y
  have hp := mul_bound (a := x) (b := y) (A := 2147483648) (B := 2147483648) (by omega) (by omega)
  unfold aditref1_Mul.f
  rw [mul_is x y (by omega) (by omega), w64 (n := x * y) (by omega) (by omega), down_is _ _ (by omega) (by omega), div_is x y (by omega), ref_div x y (by omega) (by omega)]
  simp
end Go.Proofs.Ytkdbglmkpkliaaa.Pure

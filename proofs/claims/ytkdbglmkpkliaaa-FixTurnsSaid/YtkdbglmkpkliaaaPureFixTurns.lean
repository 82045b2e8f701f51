/- Proved: a step of less than 2^50 a way is turned by quarters as the document says; four change nothing; two turn it about; each input's way is the document's. No condition. -/
import Derived.Test.YtkdbglmkpkliaaaQ10
import Derived.Test.YtkdbglmkpkliaaaFixLem
namespace Go.Proofs.Ytkdbglmkpkliaaa.Pure
open Go.RowKit Go.Proofs.Ytkdbglmkpkliaaa.Q Go.Proofs.YtkdbglmkpkliaaaW.PrintWords Go.Proofs.YtkdbglmkpkliaaaW.PrintLast

theorem turn_rest (q : Int) : ∃ j : Nat, j < 4 ∧ qn q = j ∧ (if Int.tmod q 4 < 0 then Int.tmod q 4 + 4 else Int.tmod q 4) = j := by
  obtain ⟨h1, h2⟩ := tmod4_bounds q
  unfold qn
  refine ⟨((Int.tmod q 4 + 4) % 4).toNat, by omega, rfl, ?_⟩
  split <;> omega
theorem ref_turns (j : Nat) : ∀ (k : Nat) (x y : Int), j < k → -4611686018427387904 < x → x < 4611686018427387904 → -4611686018427387904 < y → y < 4611686018427387904 → j < 4 →
    aditref1_Turn.l0 k x y (j : Int) = some (rot j x y) := by
  have base : ∀ (k : Nat) (x y : Int), aditref1_Turn.l0 (k + 1) x y 0 = some (x, y) := by
    intro k x y
    simp only [aditref1_Turn.l0]
    rw [if_neg (by decide)]
  have step : ∀ (k : Nat) (x y : Int) (j : Nat), j < 4 → -4611686018427387904 < y → y < 4611686018427387904 → aditref1_Turn.l0 (k + 1) x y ((j + 1 : Nat) : Int) = aditref1_Turn.l0 k (-y) x (j : Int) := by
    intro k x y j hj h1 h2
    simp only [aditref1_Turn.l0]
    rw [if_pos (by omega), w64 (n := -y) (by omega) (by omega), w64 (by omega) (by omega)]
    congr 1
    omega
  intro k x y hk hx0 hx1 hy0 hy1 hj
  match j, hj with
  | 0, _ => obtain ⟨k, rfl⟩ : ∃ m, k = m + 1 := ⟨k - 1, by omega⟩; exact base k x y
  | 1, _ =>
    obtain ⟨k, rfl⟩ : ∃ m, k = m + 2 := ⟨k - 2, by omega⟩
    rw [step (k + 1) x y 0 (by omega) hy0 hy1]; exact base k _ _
  | 2, _ =>
    obtain ⟨k, rfl⟩ : ∃ m, k = m + 3 := ⟨k - 3, by omega⟩
    rw [step (k + 2) x y 1 (by omega) hy0 hy1, step (k + 1) _ _ 0 (by omega) hx0 hx1]; exact base k _ _
  | 3, _ =>
    obtain ⟨k, rfl⟩ : ∃ m, k = m + 4 := ⟨k - 4, by omega⟩
    rw [step (k + 3) x y 2 (by omega) hy0 hy1, step (k + 2) _ _ 1 (by omega) hx0 hx1, step (k + 1) _ _ 0 (by omega) (by omega) (by omega)]; exact base k _ _

theorem ref_turn (k : Nat) (hk : 10 ≤ k) (x y q : Int) (hx0 : -4611686018427387904 < x) (hx1 : x < 4611686018427387904) (hy0 : -4611686018427387904 < y) (hy1 : y < 4611686018427387904) :
    aditref1_Turn.f k x y q = some (rot (qn q) x y) := by
  obtain ⟨k, rfl⟩ : ∃ m, k = m + 1 := ⟨k - 1, by omega⟩
  obtain ⟨h1, h2⟩ := tmod4_bounds q
  obtain ⟨j, hj, hq, hr⟩ := turn_rest q
  have hl := ref_turns j k x y (by omega) hx0 hx1 hy0 hy1 hj
  unfold aditref1_Turn.f
  rw [hq]
  by_cases h : Int.tmod q 4 < 0
  · rw [if_pos h] at hr ⊢
    rw [w64 (by omega) (by omega), hr]
    simp only [aditref1_Turn.j0]
    exact hl
  · rw [if_neg h] at hr ⊢
    rw [hr]
    simp only [aditref1_Turn.j0]
    exact hl
theorem turn_is (x y q : Int) (hx : x.natAbs < 9007199254740992) (hy : y.natAbs < 9007199254740992) : fix_Turn.f x y q = some (rot (qn q) x y) := by
  unfold fix_Turn.f
  rw [if_pos ⟨hx, hy⟩]
theorem ways_agree (a : Int) : fix_Way.f a = aditref1_Way.f a := by
  unfold fix_Way.f aditref1_Way.f
  rcases (by omega : a < 1 ∨ a > 4 ∨ a = 1 ∨ a = 2 ∨ a = 3 ∨ a = 4) with h | h | rfl | rfl | rfl | rfl
  · rw [if_pos h, if_neg (by omega), if_neg (by omega), if_neg (by omega), if_neg (by omega)]
  · rw [if_neg (by omega), if_pos h, if_neg (by omega), if_neg (by omega), if_neg (by omega), if_neg (by omega)]
  all_goals decide +kernel
theorem ref_way (a : Int) : ∃ u v, aditref1_Way.f a = some (u, v) := by
  unfold aditref1_Way.f
  repeat' split
  all_goals exact ⟨_, _, rfl⟩

theorem FixTurns : aditlaw1_FixTurns.Pure := by
  intro a b q i _ _ _ _
  refine ⟨50, ?_⟩
  unfold aditlaw1_FixTurns.f
  rw [known_is _ (by omega), Option.bind_some, if_pos rfl, within_is _ _ (by omega) (by omega), Option.bind_some, within_is _ _ (by omega) (by omega), Option.bind_some]
  generalize ha : a % 2251799813685248 = x
  generalize hb : b % 2251799813685248 = y
  rw [w64 (n := x - 1125899906842624) (by omega) (by omega), w64 (n := y - 1125899906842624) (by omega) (by omega)]
  generalize hx : x - 1125899906842624 = u
  generalize hy : y - 1125899906842624 = v
  obtain ⟨b1, b2⟩ := rot_bound (qn q) u v 2251799813685248 (by omega) (by omega)
  rw [turn_is u v q (by omega) (by omega), Option.bind_some, ref_turn _ (by omega) u v q (by omega) (by omega) (by omega) (by omega), Option.bind_some]
  rw [turn_is _ _ 2 (by omega) (by omega), Option.bind_some, turn_is _ _ 4 (by omega) (by omega), Option.bind_some]
  obtain ⟨g, h, hw⟩ := ref_way i
  rw [ways_agree, hw, Option.bind_some, Option.bind_some]
  generalize rot (qn q) u v = p at b1 b2
  rw [show qn 2 = 2 by decide, show qn 4 = 0 by decide]
  simp only [rot]
  rw [w64 (n := -p.1) (by omega) (by omega), w64 (n := -p.2) (by omega) (by omega)]
  simp
end Go.Proofs.Ytkdbglmkpkliaaa.Pure

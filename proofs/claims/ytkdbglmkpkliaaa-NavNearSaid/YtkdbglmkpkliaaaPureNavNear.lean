/- Proved: a way leads to each of the four cells beside a cell, to no other one, and back by the other way about. No condition. -/
import Derived.Test.YtkdbglmkpkliaaaQ12
import Derived.Test.YtkdbglmkpkliaaaNumLem
namespace Go.Proofs.Ytkdbglmkpkliaaa.Pure
open Go.RowKit Go.Proofs.Ytkdbglmkpkliaaa.Q Go.Proofs.YtkdbglmkpkliaaaW.PrintWords Go.Proofs.YtkdbglmkpkliaaaW.PrintLast

theorem nav_within (a n : Int) (hn : 0 < n) (hn2 : n < 9223372036854775808) : aditlaw6_within.f a n = some (a % n) := by
  have h1 := Int.emod_nonneg a (Int.ne_of_gt hn)
  have h2 := Int.emod_lt_of_pos a hn
  unfold aditlaw6_within.f
  rw [if_neg (by omega)]
  rcases tmod_cases a n hn with ⟨e, _, _⟩ | ⟨_, _, e, _⟩
  · rw [e, if_neg (by omega)]
  · rw [e, if_pos (by omega), w64 (by omega) (by omega)]
    congr 1
    omega
/-- The way of a step. -/
def bes (u v : Int) : Int := if u = 0 ∧ v = -1 then 1 else if u = 1 ∧ v = 0 then 2 else if u = 0 ∧ v = 1 then 3 else if u = -1 ∧ v = 0 then 4 else 0
theorem way1 : fix_Way.f 1 = some (0, -1) := by decide +kernel
theorem way2 : fix_Way.f 2 = some (1, 0) := by decide +kernel
theorem way3 : fix_Way.f 3 = some (0, 1) := by decide +kernel
theorem way4 : fix_Way.f 4 = some (-1, 0) := by decide +kernel
theorem beside_round (k : Nat) (x0 y0 x1 y1 d p q : Int) (hd : d ≤ 4) (h1 : 0 ≤ d) (hw : fix_Way.f d = some (p, q)) :
    nav_Beside.l0 (k + 1) x0 y0 x1 y1 d = if wrap64 (x1 - x0) = p ∧ wrap64 (y1 - y0) = q then some d else nav_Beside.l0 k x0 y0 x1 y1 (d + 1) := by
  simp only [nav_Beside.l0]
  rw [if_pos hd, hw, Option.bind_some, w64 (n := d + 1) (by omega) (by omega)]
  by_cases a : wrap64 (x1 - x0) = p
  · by_cases b : wrap64 (y1 - y0) = q
    · rw [if_pos a, if_pos b, if_pos ⟨a, b⟩]
    · rw [if_pos a, if_neg b, if_neg (fun h => b h.2)]
  · rw [if_neg a, if_neg (fun h => a h.1)]
theorem beside_is (k : Nat) (x0 y0 x1 y1 : Int) : nav_Beside.f (k + 5) x0 y0 x1 y1 = some (bes (wrap64 (x1 - x0)) (wrap64 (y1 - y0))) := by
  unfold nav_Beside.f bes
  rw [beside_round (k + 4) x0 y0 x1 y1 1 0 (-1) (by omega) (by omega) way1]
  split
  · rfl
  rw [show (1 : Int) + 1 = 2 by rfl, beside_round (k + 3) x0 y0 x1 y1 2 1 0 (by omega) (by omega) way2]
  split
  · rfl
  rw [show (2 : Int) + 1 = 3 by rfl, beside_round (k + 2) x0 y0 x1 y1 3 0 1 (by omega) (by omega) way3]
  split
  · rfl
  rw [show (3 : Int) + 1 = 4 by rfl, beside_round (k + 1) x0 y0 x1 y1 4 (-1) 0 (by omega) (by omega) way4]
  split
  · rfl
  rw [show (4 : Int) + 1 = 5 by rfl]
  simp only [nav_Beside.l0]
  rw [if_neg (by decide)]
theorem near_known (k : Nat) : aditlaw6_known.f (k + 5) = some true := by
  unfold aditlaw6_known.f
  rw [beside_is, Option.bind_some, beside_is, Option.bind_some]
  decide +kernel
/-- What the law says of a step, once the ways are told. -/
def nearLaw (u v : Int) : Option Bool :=
  if (((wrap64 ((wrap64 (u * u)) + (wrap64 (v * v)))) == 1) != (bes u v != 0)) = true then some false
  else if bes u v = 0 then some (bes (-u) (-v) == 0)
  else (aditref1_Way.f (bes u v)).bind fun bt => if bt.1 = u then (if bt.2 = v then some ((wrap64 ((Int.tmod (wrap64 (bes u v + 1)) 4) + 1)) == bes (-u) (-v)) else some false) else some false
theorem near_all (u v : Int) (hu : -2 ≤ u ∧ u ≤ 2) (hv : -2 ≤ v ∧ v ≤ 2) : nearLaw u v = some true := by
  rcases (by omega : u = -2 ∨ u = -1 ∨ u = 0 ∨ u = 1 ∨ u = 2) with rfl | rfl | rfl | rfl | rfl <;>
  rcases (by omega : v = -2 ∨ v = -1 ∨ v = 0 ∨ v = 1 ∨ v = 2) with rfl | rfl | rfl | rfl | rfl <;> decide +kernel

theorem NavNear : aditlaw6_NavNear.Pure := by
  intro a b c d _ _ _ _
  refine ⟨50, ?_⟩
  unfold aditlaw6_NavNear.f
  rw [near_known 45, Option.bind_some, if_pos rfl, nav_within _ _ (by omega) (by omega), Option.bind_some, nav_within _ _ (by omega) (by omega), Option.bind_some, nav_within _ _ (by omega) (by omega), Option.bind_some, nav_within _ _ (by omega) (by omega), Option.bind_some]
  generalize ha : a % 1000 = x
  generalize hb : b % 1000 = y
  generalize hc : c % 5 = p
  generalize hd : d % 5 = q
  rw [w64 (n := p - 2) (by omega) (by omega), w64 (n := q - 2) (by omega) (by omega), w64 (n := x + (p - 2)) (by omega) (by omega), w64 (n := y + (q - 2)) (by omega) (by omega)]
  rw [beside_is 45, Option.bind_some, beside_is 45, Option.bind_some]
  rw [show wrap64 (x + (p - 2) - x) = p - 2 by rw [w64 (by omega) (by omega)]; omega, show wrap64 (y + (q - 2) - y) = q - 2 by rw [w64 (by omega) (by omega)]; omega]
  rw [show wrap64 (x - (x + (p - 2))) = -(p - 2) by rw [w64 (by omega) (by omega)]; omega, show wrap64 (y - (y + (q - 2))) = -(q - 2) by rw [w64 (by omega) (by omega)]; omega]
  exact near_all (p - 2) (q - 2) (by omega) (by omega)
end Go.Proofs.Ytkdbglmkpkliaaa.Pure

/- Proved: what is seen over any cells is the document's; where all is clear all is seen, where all is walls just what is beside. No condition. -/
import Derived.Test.YtjpcmpeigoikkaaQ17
import Derived.Test.YtjpcmpeigoikkaaSeesLem
namespace Go.Proofs.Ytjpcmpeigoikkaa.Pure
set_option linter.unusedVariables false
set_option linter.unusedSimpArgs false
open Go.RowKit Go.Proofs.Ytjpcmpeigoikkaa.Q Go.Proofs.YtjpcmpeigoikkaaW.PrintWords Go.Proofs.YtjpcmpeigoikkaaW.PrintLast Go.Proofs.YtjpcmpeigoikkaaW.PrintMore

theorem sees_rest (k : Nat) (hk : 510 ≤ k) (x0 y0 x1 y1 : Int) (h0 : InG x0 y0) (h1 : InG x1 y1) (c : List Int) (hc : IsCells c) (nb : Bool) (hn : nb = decide (stp (x1 - x0) (y1 - y0) ≤ 1)) : aditlaw3_GridSees.j0 k x0 y0 x1 y1 c nb = some true := by
  obtain ⟨k, rfl⟩ : ∃ m, k = m + 1 := ⟨k - 1, by omega⟩
  simp only [aditlaw3_GridSees.j0]
  obtain ⟨b, e1, e2, _⟩ := sees_agree k (by omega) c hc x0 y0 x1 y1
  obtain ⟨z, z1, _, z3⟩ := sees_agree k (by omega) _ zeros_cells x0 y0 x1 y1
  obtain ⟨o, o1, _, o3⟩ := sees_agree k (by omega) _ ones_cells x0 y0 x1 y1
  have hz := (z3 h0 h1).2 rfl
  have ho := (o3 h0 h1).1 rfl
  rw [e1, Option.bind_some, e2, Option.bind_some, if_pos (by simp), if_pos (by decide), z1, Option.bind_some, hz, hn, if_pos (by simp), full_ones k (by omega), Option.bind_some, o1, Option.bind_some, ho]

theorem GridSees : aditlaw3_GridSees.Pure := by
  intro l a b c d _ _ hb _ _ _ _
  refine ⟨600, ?_⟩
  unfold aditlaw3_GridSees.f
  rw [known_is _ (by omega), Option.bind_some, if_pos rfl]
  by_cases hl : (l.length : Int) > 1000
  · rw [if_pos hl]
  rw [if_neg hl]
  obtain ⟨c', e, hc⟩ := full_is 600 (by omega) l (by omega) (u8_list hb)
  obtain ⟨s, e1, e2, _⟩ := sees_agree 600 (by omega) c' hc a b c d
  rw [e, Option.bind_some, e1, Option.bind_some, e2, Option.bind_some, if_neg (by simp)]
  rw [within_is _ _ (by omega) (by omega), Option.bind_some, within_is _ _ (by omega) (by omega), Option.bind_some, within_is _ _ (by omega) (by omega), Option.bind_some, within_is _ _ (by omega) (by omega), Option.bind_some]
  have h0 : InG (a % 24) (b % 16) := by unfold InG; omega
  have h1 : InG (c % 24) (d % 16) := by unfold InG; omega
  have b0 := h0
  have b1 := h1
  unfold InG at b0 b1
  generalize a % 24 = x0 at h0 b0 ⊢
  generalize b % 16 = y0 at h0 b0 ⊢
  generalize c % 24 = x1 at h1 b1 ⊢
  generalize d % 16 = y1 at h1 b1 ⊢
  rw [w64 (n := x1 - x0) (by omega) (by omega), w64 (n := y1 - y0) (by omega) (by omega)]
  by_cases c1 : x1 - x0 ≥ -1
  · rw [if_pos c1]
    by_cases c2 : x1 - x0 ≤ 1
    · rw [if_pos c2]
      by_cases c3 : y1 - y0 ≥ -1
      · rw [if_pos c3]
        refine sees_rest _ (by omega) _ _ _ _ h0 h1 _ hc _ (decide_eq_decide.2 ?_)
        unfold stp
        omega
      · rw [if_neg c3]
        exact sees_rest _ (by omega) _ _ _ _ h0 h1 _ hc _ (decide_eq_false (by unfold stp; omega)).symm
    · rw [if_neg c2]
      exact sees_rest _ (by omega) _ _ _ _ h0 h1 _ hc _ (decide_eq_false (by unfold stp; omega)).symm
  · rw [if_neg c1]
    exact sees_rest _ (by omega) _ _ _ _ h0 h1 _ hc _ (decide_eq_false (by unfold stp; omega)).symm
end Go.Proofs.Ytjpcmpeigoikkaa.Pure

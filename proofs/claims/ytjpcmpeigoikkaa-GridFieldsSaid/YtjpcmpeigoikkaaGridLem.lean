/- Plain laws of the statements of chapter 3: rows that are the same, cells that are filled. No condition beyond the bounds in each statement. -/
import Derived.Test.YtjpcmpeigoikkaaLineLem
import Derived.Test.YtjpcmpeigoikkaaQ3
import Derived.Test.YtjpcmpeigoikkaaQ3
import Derived.Test.YtjpcmpeigoikkaaQ4
import Derived.Test.YtjpcmpeigoikkaaQ11
import Derived.Test.YtjpcmpeigoikkaaQ7
namespace Go.Proofs.Ytjpcmpeigoikkaa.Pure
set_option linter.unusedVariables false
set_option linter.unusedSimpArgs false
open Go.RowKit Go.Proofs.Ytjpcmpeigoikkaa.Q Go.Proofs.YtjpcmpeigoikkaaW.PrintWords Go.Proofs.YtjpcmpeigoikkaaW.PrintLast Go.Proofs.YtjpcmpeigoikkaaW.PrintMore

theorem within_is (a n : Int) (hn : 0 < n) (hn2 : n < 9223372036854775808) : aditlaw3_within.f a n = some (a % n) := by
  have h1 := Int.emod_nonneg a (Int.ne_of_gt hn)
  have h2 := Int.emod_lt_of_pos a hn
  unfold aditlaw3_within.f
  rw [if_neg (by omega)]
  rcases tmod_cases a n hn with ⟨e, _, _⟩ | ⟨_, _, e, _⟩
  · rw [e, if_neg (by omega)]
  · rw [e, if_pos (by omega), w64 (by omega) (by omega)]
    congr 1
    omega
theorem known_is (k : Nat) (hk : 50 ≤ k) : aditlaw3_known.f k = some true := by
  unfold aditlaw3_known.f
  rw [line_in k (by omega) 0 0 2 1 (by decide) (by decide), Option.bind_some, show lineL 0 0 2 1 = [0, 25, 26] by decide +kernel]
  decide +kernel
theorem same_loop (l : List Int) (hl : l.length < 4611686018427387904) (d : Nat) : ∀ (k i : Nat), i + d = l.length → d < k → aditlaw3_sameInts.l0 k l l (i : Int) = some true := by
  induction d with
  | zero =>
    intro k i hi hk
    obtain ⟨k, rfl⟩ : ∃ m, k = m + 1 := ⟨k - 1, by omega⟩
    simp only [aditlaw3_sameInts.l0]
    rw [if_neg (by omega)]
  | succ d ih =>
    intro k i hi hk
    obtain ⟨k, rfl⟩ : ∃ m, k = m + 1 := ⟨k - 1, by omega⟩
    simp only [aditlaw3_sameInts.l0]
    rw [if_pos (by omega), if_pos (by omega), if_pos (by omega), if_pos trivial, show wrap64 ((i : Int) + 1) = ((i + 1 : Nat) : Int) by unfold wrap64; omega]
    exact ih k (i + 1) (by omega) (by omega)
theorem same_is (k : Nat) (l : List Int) (hl : l.length < 4611686018427387904) (hk : l.length < k) : aditlaw3_sameInts.f k l l = some true := by
  unfold aditlaw3_sameInts.f
  rw [if_pos rfl]
  exact same_loop l hl l.length k 0 (by omega) hk

/-- Cells as 'full' makes them: as many as there are, each a small number. -/
def IsCells (c : List Int) : Prop := c.length = 384 ∧ ∀ i, 0 ≤ c.getD i 0 ∧ c.getD i 0 < 7
theorem full_loop (l : List Int) (hl : l.length ≤ 1000) (hb : ∀ x ∈ l, 0 ≤ x ∧ x < 256) (d : Nat) : ∀ (k i : Nat) (c : List Int), i + d = 384 → d < k → IsCells c → ∃ r, aditlaw3_full.l0 k l c (i : Int) = some r ∧ IsCells r := by
  induction d with
  | zero =>
    intro k i c hi hk hc
    obtain ⟨k, rfl⟩ : ∃ m, k = m + 1 := ⟨k - 1, by omega⟩
    refine ⟨c, ?_, hc⟩
    simp only [aditlaw3_full.l0]
    rw [if_neg (by omega)]
  | succ d ih =>
    intro k i c hi hk hc
    obtain ⟨k, rfl⟩ : ∃ m, k = m + 1 := ⟨k - 1, by omega⟩
    simp only [aditlaw3_full.l0]
    rw [if_pos (by omega)]
    by_cases h0 : (l.length : Int) > 0
    · rw [if_pos h0, if_neg (by omega), Int.tdiv_eq_ediv_of_nonneg (by omega), w64 (n := (i : Int) * 7) (by omega) (by omega), w64 (n := (i : Int) / 9) (by omega) (by omega), w64 (by omega) (by omega), Int.tmod_eq_emod_of_nonneg (by omega)]
      have e0 := Int.emod_nonneg ((i : Int) * 7 + (i : Int) / 9) (show (l.length : Int) ≠ 0 by omega)
      have e1 := Int.emod_lt_of_pos ((i : Int) * 7 + (i : Int) / 9) h0
      generalize ((i : Int) * 7 + (i : Int) / 9) % (l.length : Int) = j at e0 e1
      have hj : j.toNat < l.length := by omega
      have hv := hb _ (List.getElem_mem hj)
      have hr : rd l j = l[j.toNat] := by unfold rd; simp [hj]
      rw [if_pos e0, if_pos e1, if_pos (by omega), if_pos (by have := hc.1; omega), hr, Int.tmod_eq_emod_of_nonneg hv.1, show wrap64 ((i : Int) + 1) = ((i + 1 : Nat) : Int) by unfold wrap64; omega]
      refine ih k (i + 1) _ (by omega) (by omega) ⟨by rw [List.length_set]; exact hc.1, ?_⟩
      intro m
      have := hc.2 m
      rw [List.getD_eq_getElem?_getD, List.getElem?_set] at *
      split
      · split
        · simp only [Option.getD_some]
          omega
        · simp
      · exact this
    · rw [if_neg h0]
      exact ⟨c, rfl, hc⟩
theorem zeros_cells : IsCells (List.replicate 384 0) := ⟨List.length_replicate, fun i => by
  rw [List.getD_eq_getElem?_getD, List.getElem?_replicate]
  split
  · exact ⟨Int.le_refl _, by decide⟩
  · exact ⟨Int.le_refl _, by decide⟩⟩
theorem full_is (k : Nat) (hk : 400 ≤ k) (l : List Int) (hl : l.length ≤ 1000) (hb : ∀ x ∈ l, 0 ≤ x ∧ x < 256) : ∃ c, aditlaw3_full.f k l = some c ∧ IsCells c := by
  unfold aditlaw3_full.f
  rw [if_pos (by decide)]
  exact full_loop l hl hb 384 k 0 _ (by omega) (by omega) zeros_cells
theorem full_ones (k : Nat) (hk : 500 ≤ k) : aditlaw3_full.f k [1] = some (List.replicate 384 1) := at_rounds (fun k => aditlaw3_full.mono _ k) hk (show aditlaw3_full.f 500 [1] = some (List.replicate 384 1) by decide +kernel)
theorem u8_list {l : List Int} (h : ∀ x ∈ l, (Lit.int .u8 x).wf = true) : ∀ x ∈ l, 0 ≤ x ∧ x < 256 := by
  intro x hx
  have := h x hx
  simp [Lit.wf, IntKind.min, IntKind.max, IntKind.signed, IntKind.bits] at this
  omega
end Go.Proofs.Ytjpcmpeigoikkaa.Pure

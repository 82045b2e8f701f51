/- Proved: lines between any ends are the document's; between cells they go from end to end, each step to a cell that touches the one ahead. No condition. -/
import Derived.Test.YtjpcmpeigoikkaaQ12
import Derived.Test.YtjpcmpeigoikkaaGridLem
namespace Go.Proofs.Ytjpcmpeigoikkaa.Pure
set_option linter.unusedVariables false
set_option linter.unusedSimpArgs false
open Go.RowKit Go.Proofs.Ytjpcmpeigoikkaa.Q Go.Proofs.YtjpcmpeigoikkaaW.PrintWords Go.Proofs.YtjpcmpeigoikkaaW.PrintLast Go.Proofs.YtjpcmpeigoikkaaW.PrintMore

theorem line_small (l : List Int) (x0 y0 x1 y1 : Int) (h : (InG x0 y0 ∧ InG x1 y1 ∧ l = lineL x0 y0 x1 y1) ∨ (¬ (InG x0 y0 ∧ InG x1 y1) ∧ l = [])) : l.length ≤ 24 := by
  rcases h with ⟨h0, h1, rfl⟩ | ⟨_, rfl⟩
  · have := line_length x0 y0 x1 y1 h0 h1
    have := stp_le x0 y0 x1 y1 h0 h1
    omega
  · simp
theorem line_first (x0 y0 x1 y1 : Int) (h0 : InG x0 y0) (h1 : InG x1 y1) : rd (lineL x0 y0 x1 y1) 0 = cel x0 y0 := by
  by_cases hs : stp (x1 - x0) (y1 - y0) = 0
  · unfold lineL
    rw [if_pos hs]; rfl
  · have := stp_le x0 y0 x1 y1 h0 h1
    have e := line_at x0 y0 x1 y1 h0 h1 (by omega) 0 (by omega)
    rw [show ((0 : Nat) : Int) = 0 from rfl] at e
    rw [e]
    unfold lc
    rw [show ((0 : Nat) : Int) = 0 from rfl, Int.zero_mul, Int.zero_mul, nr_zero _ (by omega), Int.add_zero, Int.add_zero]
theorem line_last (x0 y0 x1 y1 : Int) (h0 : InG x0 y0) (h1 : InG x1 y1) : rd (lineL x0 y0 x1 y1) (stp (x1 - x0) (y1 - y0)) = cel x1 y1 := by
  have hle := stp_le x0 y0 x1 y1 h0 h1
  by_cases hs : stp (x1 - x0) (y1 - y0) = 0
  · have e1 : x1 = x0 := by unfold stp at hs; omega
    have e2 : y1 = y0 := by unfold stp at hs; omega
    subst e1 e2
    rw [hs, line_first _ _ _ _ h0 h1]
  · have e := line_at x0 y0 x1 y1 h0 h1 (by omega) (stp (x1 - x0) (y1 - y0)).toNat (by omega)
    rw [show (((stp (x1 - x0) (y1 - y0)).toNat : Nat) : Int) = stp (x1 - x0) (y1 - y0) by omega] at e
    rw [e]
    unfold lc
    rw [show (((stp (x1 - x0) (y1 - y0)).toNat : Nat) : Int) = stp (x1 - x0) (y1 - y0) by omega, nr_whole _ _ (by omega), nr_whole _ _ (by omega)]
    congr 1 <;> omega
/-- Cells that follow each other touch. -/
theorem line_touch (x0 y0 x1 y1 : Int) (h0 : InG x0 y0) (h1 : InG x1 y1) (hs : 0 < stp (x1 - x0) (y1 - y0)) (i : Nat) (hi : ((i + 1 : Nat) : Int) ≤ stp (x1 - x0) (y1 - y0)) :
    ∃ a b c d, InG a b ∧ InG c d ∧ rd (lineL x0 y0 x1 y1) (i : Int) = cel a b ∧ rd (lineL x0 y0 x1 y1) ((i + 1 : Nat) : Int) = cel c d ∧ -1 ≤ c - a ∧ c - a ≤ 1 ∧ -1 ≤ d - b ∧ d - b ≤ 1 ∧ (c ≠ a ∨ d ≠ b) := by
  refine ⟨_, _, _, _, on_way x0 y0 x1 y1 i h0 h1 (by omega) (by omega) hs, on_way x0 y0 x1 y1 ((i + 1 : Nat) : Int) h0 h1 (by omega) hi hs, line_at x0 y0 x1 y1 h0 h1 hs i (by omega), line_at x0 y0 x1 y1 h0 h1 hs (i + 1) hi, ?_⟩
  have hd1 : -(stp (x1 - x0) (y1 - y0)) ≤ x1 - x0 ∧ x1 - x0 ≤ stp (x1 - x0) (y1 - y0) := by unfold stp; omega
  have hd2 : -(stp (x1 - x0) (y1 - y0)) ≤ y1 - y0 ∧ y1 - y0 ≤ stp (x1 - x0) (y1 - y0) := by unfold stp; omega
  have hd3 : stp (x1 - x0) (y1 - y0) = x1 - x0 ∨ stp (x1 - x0) (y1 - y0) = -(x1 - x0) ∨ stp (x1 - x0) (y1 - y0) = y1 - y0 ∨ stp (x1 - x0) (y1 - y0) = -(y1 - y0) := by unfold stp; omega
  generalize stp (x1 - x0) (y1 - y0) = n at hs hi hd1 hd2 hd3 ⊢
  generalize x1 - x0 = u at hd1 hd3 ⊢
  generalize y1 - y0 = v at hd2 hd3 ⊢
  have e1 : ((i + 1 : Nat) : Int) * u = (i : Int) * u + u := by rw [show ((i + 1 : Nat) : Int) = (i : Int) + 1 by omega, Int.add_mul, Int.one_mul]
  have e2 : ((i + 1 : Nat) : Int) * v = (i : Int) * v + v := by rw [show ((i + 1 : Nat) : Int) = (i : Int) + 1 by omega, Int.add_mul, Int.one_mul]
  have a := nr_step ((i : Int) * u) u n hs hd1.1 hd1.2
  have b := nr_step ((i : Int) * v) v n hs hd2.1 hd2.2
  rw [e1, e2]
  have hw : ∀ (m : Int) , nr (m * n) n = m := fun m => by rw [Int.mul_comm]; exact nr_whole n m hs
  have hne : nr ((i : Int) * u + u) n ≠ nr ((i : Int) * u) n ∨ nr ((i : Int) * v + v) n ≠ nr ((i : Int) * v) n := by
    have pos : ∀ x : Int, n = x → nr ((i : Int) * x + x) n ≠ nr ((i : Int) * x) n := by
      intro x hx
      rw [← hx, show (i : Int) * n + n = ((i : Int) + 1) * n by rw [Int.add_mul, Int.one_mul], hw, hw]
      omega
    have neg : ∀ x : Int, n = -x → nr ((i : Int) * x + x) n ≠ nr ((i : Int) * x) n := by
      intro x hx
      have hx' : x = -n := by omega
      rw [hx', show (i : Int) * -n + -n = (-(i : Int) - 1) * n by rw [Int.sub_mul, Int.one_mul, Int.neg_mul, Int.mul_neg]; omega, show (i : Int) * -n = (-(i : Int)) * n by rw [Int.neg_mul, Int.mul_neg], hw, hw]
      omega
    rcases hd3 with h | h | h | h
    · exact .inl (pos u h)
    · exact .inl (neg u h)
    · exact .inr (pos v h)
    · exact .inr (neg v h)
  generalize nr ((i : Int) * u + u) n = p at a hne ⊢
  generalize nr ((i : Int) * v + v) n = q at b hne ⊢
  generalize nr ((i : Int) * u) n = r at a hne ⊢
  generalize nr ((i : Int) * v) n = s at b hne ⊢
  omega

theorem steps_loop (x0 y0 x1 y1 : Int) (h0 : InG x0 y0) (h1 : InG x1 y1) (d : Nat) : ∀ (k i : Nat), (i : Int) + d = stp (x1 - x0) (y1 - y0) + 1 → 1 ≤ i → d < k → aditlaw3_GridLines.l0 k (lineL x0 y0 x1 y1) (i : Int) = some true := by
  have hl := line_length x0 y0 x1 y1 h0 h1
  have hle := stp_le x0 y0 x1 y1 h0 h1
  induction d with
  | zero =>
    intro k i hi _ hk
    obtain ⟨k, rfl⟩ : ∃ m, k = m + 1 := ⟨k - 1, by omega⟩
    simp only [aditlaw3_GridLines.l0]
    rw [if_neg (by omega)]
  | succ d ih =>
    intro k i hi hi1 hk
    obtain ⟨k, rfl⟩ : ∃ m, k = m + 1 := ⟨k - 1, by omega⟩
    obtain ⟨j, rfl⟩ : ∃ m, i = m + 1 := ⟨i - 1, by omega⟩
    obtain ⟨a, b, c, e, ha, hc, r1, r2, t1, t2, t3, t4, t5⟩ := line_touch x0 y0 x1 y1 h0 h1 (by omega) j (by omega)
    have pa := cel_place a b ha
    have pc := cel_place c e hc
    unfold InG at ha hc
    simp only [aditlaw3_GridLines.l0]
    rw [if_pos (by omega), if_pos (by omega), show wrap64 (((j + 1 : Nat) : Int) - 1) = (j : Int) by unfold wrap64; omega, if_pos (by omega), if_pos (by omega), r1, r2]
    rw [Int.tmod_eq_emod_of_nonneg pa.2.2.1, Int.tmod_eq_emod_of_nonneg pc.2.2.1, Int.tdiv_eq_ediv_of_nonneg pa.2.2.1, Int.tdiv_eq_ediv_of_nonneg pc.2.2.1, pa.1, pa.2.1, pc.1, pc.2.1]
    rw [w64 (n := e) (by omega) (by omega), w64 (n := b) (by omega) (by omega), w64 (n := c - a) (by omega) (by omega), w64 (n := e - b) (by omega) (by omega)]
    rw [if_neg (by omega), if_neg (by omega), if_neg (by omega), if_neg (by omega), show wrap64 (((j + 1 : Nat) : Int) + 1) = ((j + 1 + 1 : Nat) : Int) by unfold wrap64; omega]
    have go := ih k (j + 1 + 1) (by omega) (by omega) (by omega)
    by_cases hz : c - a = 0
    · rw [if_pos hz, if_neg (by omega)]
      exact go
    · rw [if_neg hz]
      exact go

theorem GridLines : aditlaw3_GridLines.Pure := by
  intro a b c d _ _ _ _
  refine ⟨100, ?_⟩
  unfold aditlaw3_GridLines.f
  obtain ⟨l, e1, e2, hl⟩ := lines_agree 100 (by omega) a b c d
  have hs := line_small l a b c d hl
  rw [known_is _ (by omega), Option.bind_some, if_pos rfl, e1, Option.bind_some, e2, Option.bind_some, same_is _ l (by omega) (by omega), Option.bind_some, if_pos rfl]
  rw [within_is _ _ (by omega) (by omega), Option.bind_some, within_is _ _ (by omega) (by omega), Option.bind_some, within_is _ _ (by omega) (by omega), Option.bind_some, within_is _ _ (by omega) (by omega), Option.bind_some]
  have h0 : InG (a % 24) (b % 16) := by unfold InG; omega
  have h1 : InG (c % 24) (d % 16) := by unfold InG; omega
  have b0 := h0
  have b1 := h1
  unfold InG at b0 b1
  generalize a % 24 = x0 at h0 b0 ⊢
  generalize b % 16 = y0 at h0 b0 ⊢
  generalize c % 24 = x1 at h1 b1 ⊢
  generalize d % 16 = y1 at h1 b1 ⊢
  have hlen := line_length x0 y0 x1 y1 h0 h1
  have hle := stp_le x0 y0 x1 y1 h0 h1
  rw [line_in _ (by omega) _ _ _ _ h0 h1, Option.bind_some, ref_line_in _ (by omega) _ _ _ _ h0 h1, Option.bind_some, same_is _ _ (by omega) (by omega), Option.bind_some, if_pos rfl]
  rw [if_pos (by omega), line_first _ _ _ _ h0 h1, w64 (n := y0 * 24) (by omega) (by omega), w64 (n := y0 * 24 + x0) (by omega) (by omega), if_pos (by rfl), hlen, w64 (n := stp (x1 - x0) (y1 - y0) + 1 - 1) (by omega) (by omega), if_pos (by omega), if_pos (by omega)]
  rw [show stp (x1 - x0) (y1 - y0) + 1 - 1 = stp (x1 - x0) (y1 - y0) by omega, line_last _ _ _ _ h0 h1, w64 (n := y1 * 24) (by omega) (by omega), w64 (n := y1 * 24 + x1) (by omega) (by omega), show (cel x1 y1 != y1 * 24 + x1) = false by unfold cel; simp]
  simp only [aditlaw3_GridLines.j0]
  rw [if_neg (by decide)]
  exact steps_loop x0 y0 x1 y1 h0 h1 (stp (x1 - x0) (y1 - y0)).toNat _ 1 (by omega) (by omega) (by omega)
end Go.Proofs.Ytjpcmpeigoikkaa.Pure

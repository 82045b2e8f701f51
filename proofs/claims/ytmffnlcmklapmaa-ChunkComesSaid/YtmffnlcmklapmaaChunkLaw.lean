/- What the laws of chunk share (own work). -/
import Derived.Test.YtmffnlcmklapmaaChunk
namespace Go.Proofs.Ytmffnlcmklapmaa.Chunk
open Go Go.Proofs.Ytmffnlcmklapmaa.Mx Go.Proofs.Ytmffnlcmklapmaa.Pc Go.Proofs.Ytmffnlcmklapmaa.Run
set_option linter.unusedVariables false
theorem new_eq (n : Int) : f16 n = some (if 1 ≤ n ∧ n ≤ 16 then Sum.inr (0, 0, List.replicate n.toNat false, ()) else Sum.inl (1, ())) := by
  unfold f16
  simp only [bif_cl]
  by_cases h1 : n < 1
  · rw [if_pos h1, if_neg (by omega)]
  · by_cases h2 : n > 16
    · rw [if_neg h1, if_pos h2, if_neg (by omega)]
    · rw [if_neg h1, if_neg h2, if_pos (by simp [limit]; omega), if_pos (by omega)]
theorem within_eq (a n : Int) (h : 0 < n) (hn : n ≤ 1000000000000) : f14 a n = some (within a n, ()) := by
  have := within_b a n h
  unfold f14 within
  simp only [Option.bind_some, bif_dec]
  rw [if_neg (by omega)]
  split
  · rw [wr (by omega)]; rfl
  · rfl
theorem known_eq : f6 = some (true, ()) := by
  unfold f6
  rw [new_eq, if_pos (by decide)]
  simp only [Option.bind_some, Sum.elim_inr, bne_self_eq_false, cond_false]
  have e1 : f18 3 0 (List.replicate (Int.toNat 5) false) = some (3, List.replicate (Int.toNat 5) false, [0, 1, 2], ()) := by
    have := next_eq 3 0 (List.replicate (Int.toNat 5) false) (by decide) (by decide)
    exact this
  have e2 : f18 3 3 (List.replicate (Int.toNat 5) false) = some (1, List.replicate (Int.toNat 5) false, [3, 4, 0], ()) := by
    have := next_eq 3 3 (List.replicate (Int.toNat 5) false) (by decide) (by decide)
    exact this
  rw [e1]
  simp only [Option.bind_some]
  rw [e2]
  rfl
end Go.Proofs.Ytmffnlcmklapmaa.Chunk

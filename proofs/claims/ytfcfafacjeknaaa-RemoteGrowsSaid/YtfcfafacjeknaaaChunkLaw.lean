/- What the laws of chunk share (own work). -/
import Derived.Test.YtfcfafacjeknaaaChunk
namespace Go.Proofs.Ytfcfafacjeknaaa.Chunk
open Go Go.Proofs.Ytfcfafacjeknaaa.Mx Go.Proofs.Ytfcfafacjeknaaa.Pc Go.Proofs.Ytfcfafacjeknaaa.Run
set_option linter.unusedVariables false
theorem new_eq (n : Int) : f13 n = some (if 1 ≤ n ∧ n ≤ 16 then Sum.inr (0, 0, List.replicate n.toNat false, ()) else Sum.inl (1, ())) := by
  unfold f13
  simp only [bif_cl]
  by_cases h1 : n < 1
  · rw [if_pos h1, if_neg (by omega)]
  · by_cases h2 : n > 16
    · rw [if_neg h1, if_pos h2, if_neg (by omega)]
    · rw [if_neg h1, if_neg h2, if_pos (by simp [limit]; omega), if_pos (by omega)]
theorem rnew_eq (n : Int) : f14 n = f13 n := rfl
theorem within_eq (a n : Int) (h : 0 < n) (hn : n ≤ 1000000000000) : f15 a n = some (within a n, ()) := by
  have := within_b a n h
  unfold f15 within
  simp only [Option.bind_some, bif_dec]
  rw [if_neg (by omega)]
  split
  · rw [wr (by omega)]; rfl
  · rfl
theorem known_eq : f12 = some (true, ()) := by
  unfold f12
  rw [new_eq, if_pos (by decide)]
  simp only [Option.bind_some, Sum.elim_inr, bne_self_eq_false, cond_false]
  have e1 : f17 3 0 (List.replicate (Int.toNat 5) false) = some (3, List.replicate (Int.toNat 5) false, [0, 1, 2], ()) := by
    have := next_eq 3 0 (List.replicate (Int.toNat 5) false) (by decide) (by decide)
    exact this
  have e2 : f17 3 3 (List.replicate (Int.toNat 5) false) = some (1, List.replicate (Int.toNat 5) false, [3, 4, 0], ()) := by
    have := next_eq 3 3 (List.replicate (Int.toNat 5) false) (by decide) (by decide)
    exact this
  rw [e1]
  simp only [Option.bind_some]
  rw [e2]
  rfl
theorem same_eq (a : List Int) (h : a.length ≤ 1000000000) : f16 a a = some (true, ()) := by
  unfold f16 f16.L1
  simp only [bne_self_eq_false, cond_false]
  refine OK.eq ?_
  refine OK.loop (fun i : Nat => (a, a, (i : Int), ())) (fun i => i ≤ a.length) (fun i => a.length - i) (fun rec i hi ih => ?_) 0 rfl (Nat.zero_le _) (by omega)
  simp only [bif_cl, bne_self_eq_false, cond_false]
  by_cases c : (i : Int) < a.length
  · rw [if_pos c, inR (by omega), cond_true, cond_true, wr (by omega)]
    exact ih (i + 1) (by omega) (by omega) _ (by simp)
  · rw [if_neg c]
    exact OK.ret rfl
end Go.Proofs.Ytfcfafacjeknaaa.Chunk

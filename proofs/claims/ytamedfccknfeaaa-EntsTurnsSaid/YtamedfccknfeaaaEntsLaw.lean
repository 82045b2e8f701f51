/- What the laws of ents share (own work). -/
import Derived.Test.YtamedfccknfeaaaEnts
namespace Go.Proofs.Ytamedfccknfeaaa.Ents
open Go Go.Proofs.Ytamedfccknfeaaa.Mx Go.Proofs.Ytamedfccknfeaaa.Pc Go.Proofs.Ytamedfccknfeaaa.Run
set_option linter.unusedVariables false
theorem within_eq (a n : Int) (h : 0 < n) (hn : n ≤ 1000000000000) : f20 a n = some (within a n, ()) := by
  have := within_b a n h
  unfold f20 within
  simp only [Option.bind_some, bif_dec]
  rw [if_neg (by omega)]
  split
  · rw [wr (by omega)]; rfl
  · rfl
theorem known_eq : f19 = some (true, ()) := by
  unfold f19
  rw [stats_eq]
  simp only [Option.bind_some]
  have hb : List.replicate (Int.toNat 32) ((0, 0, 0, 0, 0, 0, 0, 0, 0, 0, 0) : E) = empty32 := rfl
  rw [hb, spawn_at (l := empty32) (e := stats 2) (i := 0) (by decide) gens_empty32 (by decide) (by decide) (by decide) (by rw [empty32_get]; rfl) (fun j hj => by omega)]
  simp only [Option.bind_some, beq_self_eq_true, cond_true]
  rw [id_eq _ _ (gens_spawned gens_empty32)]
  have : spawned empty32 (stats 2) 0 = (2, 1, 0, 0, 0, 4, 4, 2, 0, 0, 0) :: List.replicate 31 e0 := rfl
  rw [this]
  rfl
end Go.Proofs.Ytamedfccknfeaaa.Ents

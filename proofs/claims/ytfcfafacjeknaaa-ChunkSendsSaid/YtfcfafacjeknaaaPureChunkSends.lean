/- The law ChunkSends, in plain words (own work). -/
import Derived.Test.YtfcfafacjeknaaaChunkLaw
namespace Go.Proofs.Ytfcfafacjeknaaa.Pure
open Go Go.Proofs.Ytfcfafacjeknaaa.Mx Go.Proofs.Ytfcfafacjeknaaa.Pc Go.Proofs.Ytfcfafacjeknaaa.Run Go.Proofs.Ytfcfafacjeknaaa.Chunk
set_option linter.unusedVariables false
theorem ChunkSends (a0 : Int) (w0 : (Lit.int .i64 a0).wf = true) (a1 : List Int) (w1 : Ty.good (.row (.int .i64)) a1) (z1 : a1.length * 8 ≤ 140737488351232) (a2 : List Int) (w2 : Ty.good (.row (.int .u32)) a2) (z2 : a2.length * 4 ≤ 140737488351232) : f3 a0 a1 a2 = some (true, ()) := by
  unfold f3
  rw [known_eq]
  simp only [Option.bind_some, Bool.not_true, cond_false, rnew_eq]
  rw [new_eq]
  by_cases hn : 1 ≤ a0 ∧ a0 ≤ 16
  · rw [if_pos hn]
    simp only [Option.bind_some, Sum.elim_inr, bne_self_eq_false, cond_false]
    refine OK.eq ?_
    unfold f3.L2
    refine OK.loop (fun j : Nat × Nat × List Bool => (a1, a2, (j.1 : Int), (j.2.1 : Int), (j.2.1 : Int), j.2.2, j.2.2, ())) (fun j => j.1 ≤ 40 ∧ j.2.1 < j.2.2.length ∧ j.2.2.length ≤ 16) (fun j => 40 - j.1) (fun rec j hj ih => ?_) (0, 0, List.replicate a0.toNat false) rfl ⟨Nat.zero_le _, by dsimp only; rw [List.length_replicate]; omega, by dsimp only; rw [List.length_replicate]; omega⟩ (by dsimp only; decide)
    obtain ⟨i, a, h⟩ := j
    obtain ⟨hi, ha, hl⟩ := hj
    dsimp only at hi ha hl
    simp only [bif_cl]
    have done : OK (Option.bind (f19 (h, (a : Int))) fun y8 => Option.bind (f20 (h, (a : Int))) fun y9 => some (y8.1 == y9.1, ())) fun b => b = (true, ()) := by
      rw [done_eq _ _ (by omega), rdone_eq _ _ (by omega)]
      exact OK.ret (by simp)
    by_cases c1 : (i : Int) < a1.length
    · by_cases c2 : (i : Int) < 40
      · have b := within_b (a1.getD (i : Int).toNat 0) 8 (by decide)
        rw [if_pos c1, if_pos c2, inR (by omega), cond_true, within_eq _ _ (by decide) (by decide)]
        simp only [Option.bind_some]
        rw [wr (x := within (a1.getD (i : Int).toNat 0) 8 - 1) (by omega)]
        generalize within (a1.getD (i : Int).toNat 0) 8 - 1 = k at *
        rw [next_eq _ _ _ ha (by omega), rnext_eq _ _ _ ha (by omega)]
        simp only [Option.bind_some]
        have hlen := fold_len (n := k) (a := a) (h := h) ((a : Int), []) h.length
        obtain ⟨b', hb1, hb2⟩ := next_at k a h ha
        have hlen : (next k a h).2.length ≤ 0 + h.length := hlen
        rw [same_eq _ (by omega)]
        simp only [Option.bind_some, Bool.not_true, cond_false]
        rw [done_eq _ _ (by omega), rdone_eq _ _ (by omega)]
        have w3 : IntKind.wrap .i64 ((i : Int) + 1) = (i : Int) + 1 := wr (by omega)
        simp only [Option.bind_some, beq_self_eq_true, Bool.not_true, cond_false, w3, hb1]
        by_cases c3 : (i : Int) < a2.length
        · rw [if_pos c3, inR (by omega), cond_true, ack_eq _ _ _ (by omega)]
          simp only [Option.bind_some, cond_true]
          rw [rack_eq _ _ _ (by omega)]
          simp only [Option.bind_some]
          have := acked_len (a2.getD (i : Int).toNat 0) h h.length
          exact ih (i + 1, b', acked (a2.getD (i : Int).toNat 0) h h.length) ⟨by dsimp only; omega, by dsimp only; omega, by dsimp only; omega⟩ (by dsimp only; omega) _ (by simp)
        · rw [if_neg c3]
          exact ih (i + 1, b', h) ⟨by dsimp only; omega, hb2, hl⟩ (by dsimp only; omega) _ (by simp)
      · rw [if_pos c1, if_neg c2]
        exact done
    · rw [if_neg c1]
      exact done
  · rw [if_neg hn]
    simp only [Option.bind_some, Sum.elim_inl, bne_self_eq_false, cond_false]
    unfold f3.L1
    rw [it_pos (by decide)]
end Go.Proofs.Ytfcfafacjeknaaa.Pure

/- The law GenFloors, in plain words (own work). -/
import Derived.Test.YtbekimnigknapaaGenLaw
namespace Go.Proofs.Ytbekimnigknapaa.Pure
open Go Go.Proofs.Ytbekimnigknapaa.Mx Go.Proofs.Ytbekimnigknapaa.Pc Go.Proofs.Ytbekimnigknapaa.Run Go.Proofs.Ytbekimnigknapaa.Field Go.Proofs.Ytbekimnigknapaa.Gen Go.Proofs.Ytbekimnigknapaa.GenL Go.Proofs.Ytbekimnigknapaa.Fl
set_option linter.unusedVariables false
set_option linter.unusedSimpArgs false
theorem same_eq (c : List Int) (es : List EntT) (l : List ItT) (h1 : es.length ≤ 100000) (h2 : l.length ≤ 100000) : f15 c es l c es l = some (true, ()) := by
  have items : f15.L1 (0, c, es, l, c, es, l, ()) = some (true, ()) := by
    refine OK.eq ?_
    unfold f15.L1
    refine OK.loop (fun i : Nat => ((i : Int), c, es, l, c, es, l, ())) (fun i => i ≤ l.length) (fun i => l.length - i) (fun rec i hi ih => ?_) 0 rfl (Nat.zero_le _) (by omega)
    dsimp only
    rw [bif_dec]
    by_cases q : (i : Int) < l.length
    · rw [if_pos q, inR (by omega), cond_true, cond_true, wr (by omega)]
      simp only [beq_self_eq_true, Bool.and_self, Bool.not_true, cond_false]
      exact ih (i + 1) (by omega) (by omega) _ rfl
    · rw [if_neg q]
      exact OK.ret rfl
  refine OK.eq ?_
  unfold f15 f15.L2
  simp only [beq_self_eq_true, Bool.not_true, cond_false, bne_self_eq_false]
  refine OK.loop (fun i : Nat => ((i : Int), c, es, l, c, es, l, ())) (fun i => i ≤ es.length) (fun i => es.length - i) (fun rec i hi ih => ?_) 0 rfl (Nat.zero_le _) (by omega)
  dsimp only
  rw [bif_dec]
  by_cases q : (i : Int) < es.length
  · rw [if_pos q, inR (by omega), cond_true, cond_true, wr (by omega)]
    simp only [beq_self_eq_true, Bool.and_self, Bool.not_true, cond_false]
    exact ih (i + 1) (by omega) (by omega) _ rfl
  · rw [if_neg q, items]
    exact OK.ret rfl
theorem GenFloors (a0 : Int) (w0 : (Lit.int .i64 a0).wf = true) (a1 : Int) (w1 : (Lit.int .i64 a1).wf = true) : f3 a0 a1 = some (true, ()) := by
  unfold f3
  rw [Fl.known_eq]
  simp only [Option.bind_some, Bool.not_true, cond_false, bif_dec]
  by_cases h : 1 ≤ a1 ∧ a1 ≤ 3
  · rw [make_eq a0 a1 h.1 h.2, rmake_eq a0 a1 h.1 (by omega)]
    simp only [Option.bind_some, beq_self_eq_true, cond_true]
    rw [if_neg (by omega), if_neg (by omega)]
    have b1 : (floor a0 a1).2.1.length ≤ 100000 := by
      obtain ⟨L, h1, h2⟩ := mons_is a0 a1 (cells a0 a1) (dist a0 a1)
      have : (mons a0 a1 (cells a0 a1) (dist a0 a1) (a1 + 2).toNat 0 [] []).length = L.length := h1.len
      show (mons a0 a1 (cells a0 a1) (dist a0 a1) (a1 + 2).toNat 0 [] []).length ≤ _
      omega
    have b2 : (floor a0 a1).2.2.1.length ≤ 100000 := by
      obtain ⟨L, h1, h2⟩ := its_is a0 a1 (cells a0 a1) (dist a0 a1)
      have e := h1.len
      have w := wares_len a0 a1
      show (its a0 a1 (cells a0 a1) (dist a0 a1) 4 0 [] [] ++ wares a0 a1).length ≤ _
      rw [List.length_append, w]
      split <;> omega
    rw [same_eq _ _ _ b1 b2]
    rfl
  · rw [make_out a0 a1 h]
    simp only [Option.bind_some, beq_self_eq_true, cond_true]
    by_cases q : a1 < 1
    · rw [if_pos q]; rfl
    · rw [if_neg q, if_pos (by omega)]; rfl
end Go.Proofs.Ytbekimnigknapaa.Pure

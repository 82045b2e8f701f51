/- The law GenAgain, in plain words (own work). -/
import Derived.Test.YtbekimnigknapaaGenLaw
namespace Go.Proofs.Ytbekimnigknapaa.Pure
open Go Go.Proofs.Ytbekimnigknapaa.Mx Go.Proofs.Ytbekimnigknapaa.Pc Go.Proofs.Ytbekimnigknapaa.Run Go.Proofs.Ytbekimnigknapaa.Field Go.Proofs.Ytbekimnigknapaa.Gen Go.Proofs.Ytbekimnigknapaa.GenL Go.Proofs.Ytbekimnigknapaa.Fl
set_option linter.unusedVariables false
set_option linter.unusedSimpArgs false
theorem set_self {A : Type} (l : List A) (i : Nat) (d : A) : l.set i (l.getD i d) = l := by
  apply List.ext_getElem (by simp)
  intro j h1 h2
  rw [List.getElem_set]
  split
  · rename_i e; subst e
    rw [List.getD_eq_getElem?_getD, List.getElem?_eq_getElem h2]; rfl
  · rfl
theorem GenAgain (a0 : Int) (w0 : (Lit.int .i64 a0).wf = true) (a1 : Int) (w1 : (Lit.int .i64 a1).wf = true) (a2 : Int) (w2 : (Lit.int .i64 a2).wf = true) : f6 a0 a1 a2 = some (true, ()) := by
  have b1 := within_b a1 3 (by decide)
  have b2 := within_b a2 384 (by decide)
  unfold f6
  rw [Fl.known_eq]
  simp only [Option.bind_some, Bool.not_true, cond_false]
  rw [Fl.within_eq _ _ (by decide) (by decide)]
  simp only [Option.bind_some]
  rw [wr (by omega), make_eq a0 _ (by omega) (by omega), Fl.within_eq _ _ (by decide) (by decide)]
  simp only [Option.bind_some]
  have hl := cells_len a0 (1 + within a1 3)
  have e1 : (floor a0 (1 + within a1 3)).1 = cells a0 (1 + within a1 3) := rfl
  rw [e1, inR (by omega), cond_true, cond_true, inR (by rw [List.length_set]; omega), List.set_set, set_self]
  simp
end Go.Proofs.Ytbekimnigknapaa.Pure

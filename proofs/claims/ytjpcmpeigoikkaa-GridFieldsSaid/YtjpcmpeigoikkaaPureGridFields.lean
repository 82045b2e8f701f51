/- Proved: the program's field and the document's are one, whatever the cells, the blocked places and the targets. No condition. -/
import Derived.Test.YtjpcmpeigoikkaaQ9
import Derived.Test.YtjpcmpeigoikkaaFieldRef
import Derived.Test.YtjpcmpeigoikkaaGridLem
namespace Go.Proofs.Ytjpcmpeigoikkaa.Pure
set_option linter.unusedVariables false
set_option linter.unusedSimpArgs false
open Go.RowKit Go.Proofs.Ytjpcmpeigoikkaa.Q Go.Proofs.YtjpcmpeigoikkaaW.PrintWords Go.Proofs.YtjpcmpeigoikkaaW.PrintLast Go.Proofs.YtjpcmpeigoikkaaW.PrintMore

theorem GridFields (k : Nat) (hk : 12999 ≤ k) (l0 : List Int) (l1 : List Bool) (l2 : List Int) (hb : ∀ x ∈ l0, (Lit.int .u8 x).wf = true) : aditlaw3_GridFields.f (k + 1) l0 l1 l2 = some true := by
  unfold aditlaw3_GridFields.f
  rw [known_is _ (by omega), Option.bind_some, if_pos rfl]
  have ht : aditlaw3_GridFields.j0 (k + 1) l0 l1 l2 true = some true := by
    rw [aditlaw3_GridFields.j0, if_pos rfl]
  by_cases h0 : (l0.length : Int) > 1000
  · rw [if_pos h0]
    exact ht
  rw [if_neg h0]
  by_cases h1 : (l1.length : Int) > 1000
  · rw [if_pos h1]
    exact ht
  rw [if_neg h1]
  by_cases h2 : (l2.length : Int) > 50
  · rw [decide_eq_true h2]
    exact ht
  rw [decide_eq_false h2]
  rw [aditlaw3_GridFields.j0, if_neg (by decide)]
  obtain ⟨c, e, hc⟩ := full_is k (by omega) l0 (by omega) (u8_list hb)
  have hC : CB c := ⟨hc.1, fun i => by have := hc.2 i; omega⟩
  obtain ⟨g, e1, e2, hg⟩ := fields_agree k (by omega) c hC l1 l2 (by omega)
  have hl : g.length = 384 := hg.1.len
  rw [e, Option.bind_some, Option.bind_some, if_pos (by simp only [List.length_nil]; omega), List.nil_append, e1, Option.bind_some, e2, Option.bind_some, same_is k g (by omega) (by omega), Option.bind_some]
end Go.Proofs.Ytjpcmpeigoikkaa.Pure

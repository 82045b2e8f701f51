/- The program's field is a field (own work). -/
import Derived.Test.YtdbfecfcoephoaaRun
import Derived.Test.YtdbfecfcoephoaaField0
namespace Go.Proofs.Ytdbfecfcoephoaa.Field
open Go Go.Proofs.Ytdbfecfcoephoaa.Mx Go.Proofs.Ytdbfecfcoephoaa.Pc Go.Proofs.Ytdbfecfcoephoaa.Run
set_option linter.unusedVariables false
set_option linter.unusedSimpArgs false
/-- Cells are bytes. -/
def CB (c : List Int) : Prop := ∀ i, 0 ≤ c.getD i 0 ∧ c.getD i 0 < 256
def walkable (v : Int) : Bool := decide (1 ≤ v ∧ v ≤ 5)
def opnC (c : List Int) (b : List Bool) (n : Int) : Prop := walkable (rd c n) = true ∧ ¬ (n < (b.length : Int) ∧ b.getD n.toNat false = true)
def IsT (c ts : List Int) (n : Int) : Prop := n ∈ ts ∧ walkable (rd c n) = true
theorem walk_eq (v : Int) : f24 v = some (walkable v, ()) := by
  unfold f24 walkable
  by_cases h : v ≥ 1
  · rw [decide_eq_true h, cond_true]
    have : decide (v ≤ 5) = decide (1 ≤ v ∧ v ≤ 5) := decide_eq_decide.2 ⟨fun x => ⟨h, x⟩, fun x => x.2⟩
    rw [this]
  · rw [decide_eq_false h, cond_false, decide_eq_false (fun x => h x.1)]
end Go.Proofs.Ytdbfecfcoephoaa.Field

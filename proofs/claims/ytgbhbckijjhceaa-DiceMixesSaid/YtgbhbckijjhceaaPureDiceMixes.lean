/- Proved: of any seed and numbers what is mixed, and what a die shows, is the document's; the numbers stay as they were, and asked again it is the same. No condition. -/
import Derived.Test.YtgbhbckijjhceaaQ3
import Derived.Test.YtgbhbckijjhceaaDiceLem
namespace Go.Proofs.Ytgbhbckijjhceaa.Pure
open Go.RowKit Go.Proofs.Ytgbhbckijjhceaa.Q Go.Proofs.YtgbhbckijjhceaaW.PrintWords Go.Proofs.YtgbhbckijjhceaaW.PrintLast

theorem mixes_loop (s n : Int) (l : List Int) (hn : n < 9223372036854775808) (hl : l.length ≤ 140737488351232) (d : Nat) : ∀ (k i : Nat), i + d = l.length → l.length + d + 1 < k →
    aditlaw2_DiceMixes.l0 k s l n l (mixd s l) (died n s l) (i : Int) = some true := by
  induction d with
  | zero =>
    intro k i hi hk
    obtain ⟨k, rfl⟩ : ∃ m, k = m + 1 := ⟨k - 1, by omega⟩
    simp only [aditlaw2_DiceMixes.l0]
    rw [if_neg (by omega), mix_ref k s l hl (by omega)]
    simp only [Option.bind_some]
    rw [if_pos trivial, die_ref k n s l hn hl (by omega)]
    simp only [Option.bind_some]
    rw [if_pos trivial, mix_is k s l hl (by omega)]
    simp only [Option.bind_some]
    rw [if_pos trivial]
    by_cases h : n < 1
    · rw [if_pos h, if_pos (by unfold died; rw [if_pos h])]
    · have hr := died_range n s l h
      rw [if_neg h, if_pos (by omega), if_pos hr.1, decide_eq_true hr.2]
  | succ d ih =>
    intro k i hi hk
    obtain ⟨k, rfl⟩ : ∃ m, k = m + 1 := ⟨k - 1, by omega⟩
    have h : i < l.length := by omega
    simp only [aditlaw2_DiceMixes.l0]
    rw [if_pos (by omega), if_pos (by omega), if_pos (by omega), if_pos trivial, next_at h hl]
    exact ih k (i + 1) (by omega) (by omega)

theorem DiceMixes : aditlaw2_DiceMixes.Pure := by
  intro s l n _ _ hl _ hn
  have hn := (i64_range hn).2
  have hl : l.length ≤ 140737488351232 := by omega
  refine ⟨l.length + l.length + 6, ?_⟩
  unfold aditlaw2_DiceMixes.f
  rw [known_is _ (by omega)]
  simp only [Option.bind_some]
  rw [if_pos trivial]
  by_cases h : (l.length : Int) > 1000
  · rw [if_pos h]
  · rw [if_neg h, if_pos (by simp only [List.length_nil]; omega), List.nil_append, mix_is _ s l hl (by omega)]
    simp only [Option.bind_some]
    rw [die_is _ n s l hn hl (by omega)]
    simp only [Option.bind_some]
    exact mixes_loop s n l hn hl l.length _ 0 (by omega) (by omega)

end Go.Proofs.Ytgbhbckijjhceaa.Pure

/- Proved: the numbers of every beginning of a row are mixed as the document says, and so are the dice over them. No condition. -/
import Derived.Test.YtgbhbckijjhceaaQ5
import Derived.Test.YtgbhbckijjhceaaDiceLem
namespace Go.Proofs.Ytgbhbckijjhceaa.Pure
open Go.RowKit Go.Proofs.Ytgbhbckijjhceaa.Q Go.Proofs.YtgbhbckijjhceaaW.PrintWords Go.Proofs.YtgbhbckijjhceaaW.PrintLast

theorem spread_loop (s n : Int) (l : List Int) (hn : n < 9223372036854775808) (hl : l.length ≤ 140737488351232) (d : Nat) : ∀ (k i : Nat), i + d = l.length + 1 → l.length + d < k →
    aditlaw2_DiceSpread.l0 k s l n (i : Int) = some true := by
  induction d with
  | zero =>
    intro k i hi hk
    obtain ⟨k, rfl⟩ : ∃ m, k = m + 1 := ⟨k - 1, by omega⟩
    simp only [aditlaw2_DiceSpread.l0]
    rw [if_neg (by omega)]
  | succ d ih =>
    intro k i hi hk
    obtain ⟨k, rfl⟩ : ∃ m, k = m + 1 := ⟨k - 1, by omega⟩
    have ht : (l.take (i : Int).toNat).length ≤ l.length := by rw [List.length_take]; omega
    simp only [aditlaw2_DiceSpread.l0]
    rw [if_pos (by omega), if_pos (by omega), mix_is k s _ (by omega) (by omega)]
    simp only [Option.bind_some]
    rw [mix_ref k s _ (by omega) (by omega)]
    simp only [Option.bind_some]
    rw [if_pos trivial, die_is k n s _ hn (by omega) (by omega)]
    simp only [Option.bind_some]
    rw [die_ref k n s _ hn (by omega) (by omega)]
    simp only [Option.bind_some]
    rw [if_pos trivial, show wrap64 ((i : Int) + 1) = ((i + 1 : Nat) : Int) by unfold wrap64; omega]
    exact ih k (i + 1) (by omega) (by omega)

theorem DiceSpread : aditlaw2_DiceSpread.Pure := by
  intro s l n _ _ hl _ hn
  have hn := (i64_range hn).2
  have hl : l.length ≤ 140737488351232 := by omega
  refine ⟨l.length + l.length + 6, ?_⟩
  unfold aditlaw2_DiceSpread.f
  rw [known_is _ (by omega)]
  simp only [Option.bind_some]
  rw [if_pos trivial]
  by_cases h : (l.length : Int) > 200
  · rw [if_pos h]
  · rw [if_neg h]
    exact spread_loop s n l hn hl (l.length + 1) _ 0 (by omega) (by omega)

end Go.Proofs.Ytgbhbckijjhceaa.Pure

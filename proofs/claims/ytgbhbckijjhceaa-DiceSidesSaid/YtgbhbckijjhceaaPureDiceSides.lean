/- Proved: a die of n sides shows a number from 0 on, below n, that is the mixed number's rest; of one side, or none, 0. No condition. -/
import Derived.Test.YtgbhbckijjhceaaQ4
import Derived.Test.YtgbhbckijjhceaaDiceLem
namespace Go.Proofs.Ytgbhbckijjhceaa.Pure
open Go.RowKit Go.Proofs.Ytgbhbckijjhceaa.Q Go.Proofs.YtgbhbckijjhceaaW.PrintWords Go.Proofs.YtgbhbckijjhceaaW.PrintLast

theorem DiceSides : aditlaw2_DiceSides.Pure := by
  intro s n l _ hn _ hl _
  have hn := (i64_range hn).2
  have hl : l.length ≤ 140737488351232 := by omega
  refine ⟨l.length + 6, ?_⟩
  unfold aditlaw2_DiceSides.f
  rw [known_is _ (by omega)]
  simp only [Option.bind_some]
  rw [if_pos trivial]
  by_cases h : (l.length : Int) > 100
  · rw [if_pos h]
  · rw [if_neg h, die_is _ n s l hn hl (by omega)]
    simp only [Option.bind_some]
    by_cases h1 : n < 1
    · rw [if_pos h1]; unfold died; rw [if_pos h1]; rfl
    · have hr := died_range n s l h1
      have h2 := died_range 1 s l (by omega)
      rw [if_neg h1, if_pos hr.1, if_pos hr.2, mix_is _ s l hl (by omega)]
      simp only [Option.bind_some]
      rw [wrap_sides h1 hn, if_neg (by omega), tmod_is (mixd_range s l).1, if_pos (by rw [u64_wrap_eq]; unfold died; rw [if_neg h1]; have := hr; unfold died at this; rw [if_neg h1] at this; omega), die_is _ 1 s l (by omega) hl (by omega)]
      simp only [Option.bind_some]
      rw [show died 1 s l = 0 by omega]; rfl

end Go.Proofs.Ytgbhbckijjhceaa.Pure

/- By a program of this session's own, over the translation and the contracts by hand: each function's answers as a Lean function, and that the code comes to them. -/
import Derived.Test.YtjpcmpeigoikkaaQ0
namespace Go.Proofs.Ytjpcmpeigoikkaa.Q
open Go.RowKit Go.Proofs.YtjpcmpeigoikkaaW.PrintWords Go.Proofs.YtjpcmpeigoikkaaW.PrintLast Go.Proofs.YtjpcmpeigoikkaaW.PrintMore
attribute [local go_sem] max2_int min2_int max_two min_two max_three min_three max_four min_four   -- for this text's walks alone
set_option linter.unusedVariables false
set_option linter.unusedSimpArgs false

/-! ### aditlaw3_far: function 21 -/
def aditlaw3_far.f (a0 : Int) (a1 : Int) : Option (Int) := some (wrap64 ((mx (wrap64 ((Int.tmod a0 24) - (Int.tmod a1 24))) (wrap64 (-(wrap64 ((Int.tmod a0 24) - (Int.tmod a1 24)))))) + (mx (wrap64 ((wrap64 (Int.tdiv a0 24)) - (wrap64 (Int.tdiv a1 24)))) (wrap64 (-(wrap64 ((wrap64 (Int.tdiv a0 24)) - (wrap64 (Int.tdiv a1 24)))))))))
set_option maxHeartbeats 8000000 in
set_option maxRecDepth 100000 in
theorem aditlaw3_far.calls (a0 : Int) (a1 : Int) (r : Int) (w : World) (h : aditlaw3_far.f a0 a1 = some r) :
    Calls Try.prog 21 #[.int .i64 a0, .int .i64 a1] w fun e w' => e = .returned (.int .i64 r) ∧ Below w.heap.size w w' := by
  have HB := Aside0.mk (Below.refl w.heap.size w)
  have H : (some (wrap64 ((mx (wrap64 ((Int.tmod a0 24) - (Int.tmod a1 24))) (wrap64 (-(wrap64 ((Int.tmod a0 24) - (Int.tmod a1 24)))))) + (mx (wrap64 ((wrap64 (Int.tdiv a0 24)) - (wrap64 (Int.tdiv a1 24)))) (wrap64 (-(wrap64 ((wrap64 (Int.tdiv a0 24)) - (wrap64 (Int.tdiv a1 24)))))))))) = some r := h
  clear h
  obtain ⟨ji3, hji3⟩ : ∃ j_ : Int, (mx (wrap64 ((Int.tmod a0 24) - (Int.tmod a1 24))) (wrap64 (-(wrap64 ((Int.tmod a0 24) - (Int.tmod a1 24)))))) = j_ := ⟨_, rfl⟩
  replace H : (some (wrap64 ((ji3) + (mx (wrap64 ((wrap64 (Int.tdiv a0 24)) - (wrap64 (Int.tdiv a1 24)))) (wrap64 (-(wrap64 ((wrap64 (Int.tdiv a0 24)) - (wrap64 (Int.tdiv a1 24)))))))))) = some r := by first | (rw [hji3] at H; exact H) | (simp only [hji3] at H ⊢; exact H)
  have hji3_ : (if (wrap64 ((Int.tmod a0 24) - (Int.tmod a1 24))) < (wrap64 (-(wrap64 ((Int.tmod a0 24) - (Int.tmod a1 24))))) then (wrap64 (-(wrap64 ((Int.tmod a0 24) - (Int.tmod a1 24))))) else (wrap64 ((Int.tmod a0 24) - (Int.tmod a1 24)))) = ji3 := hji3
  obtain ⟨ji4, hji4⟩ : ∃ j_ : Int, (mx (wrap64 ((wrap64 (Int.tdiv a0 24)) - (wrap64 (Int.tdiv a1 24)))) (wrap64 (-(wrap64 ((wrap64 (Int.tdiv a0 24)) - (wrap64 (Int.tdiv a1 24))))))) = j_ := ⟨_, rfl⟩
  replace H : (some (wrap64 ((ji3) + (ji4)))) = some r := by first | (rw [hji4] at H; exact H) | (simp only [hji4] at H ⊢; exact H)
  have hji4_ : (if (wrap64 ((wrap64 (Int.tdiv a0 24)) - (wrap64 (Int.tdiv a1 24)))) < (wrap64 (-(wrap64 ((wrap64 (Int.tdiv a0 24)) - (wrap64 (Int.tdiv a1 24)))))) then (wrap64 (-(wrap64 ((wrap64 (Int.tdiv a0 24)) - (wrap64 (Int.tdiv a1 24)))))) else (wrap64 ((wrap64 (Int.tdiv a0 24)) - (wrap64 (Int.tdiv a1 24))))) = ji4 := hji4
  obtain rfl := Option.some.inj H
  go_enter Try.func21, Try.ntmps21
  go_wp2
  go_ret
  exact ⟨by first | rfl | (simp [errW_none, errW_some] <;> rfl) | (simp only [← hji3, ← hji4]; first | rfl | (simp [errW_none, errW_some] <;> rfl)) | (simp [*, errW_none, errW_some] <;> rfl), by repeat (first | (with_reducible first | exact HB.out | apply below_alloc | apply pw_below_drewN | apply below_drew1) | exact HB.out)⟩

end Go.Proofs.Ytjpcmpeigoikkaa.Q

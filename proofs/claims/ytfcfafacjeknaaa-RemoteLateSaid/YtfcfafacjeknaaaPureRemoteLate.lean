/- The law RemoteLate, in plain words (own work). -/
import Derived.Test.YtfcfafacjeknaaaRemote
namespace Go.Proofs.Ytfcfafacjeknaaa.Pure
open Go Go.Proofs.Ytfcfafacjeknaaa.Mx Go.Proofs.Ytfcfafacjeknaaa.Pc Go.Proofs.Ytfcfafacjeknaaa.Run Go.Proofs.Ytfcfafacjeknaaa.Chunk Go.Proofs.Ytfcfafacjeknaaa.Remote
set_option linter.unusedVariables false
theorem RemoteLate (a0 : Int) (w0 : (Lit.int .i64 a0).wf = true) (a1 : Int) (w1 : (Lit.int .i64 a1).wf = true) (a2 : Int) (w2 : (Lit.int .i64 a2).wf = true) (a3 : Bool) (a4 : Bool) : f9 a0 a1 a2 a3 a4 = some (true, ()) := by
  unfold f9
  have b0 := within_b a0 1000 (by decide)
  have b1 := within_b a1 1000 (by decide)
  have b2 := within_b a2 3000 (by decide)
  rw [Remote.known_eq, Remote.within_eq _ _ (by decide) (by decide), Remote.within_eq _ _ (by decide) (by decide), Remote.within_eq _ _ (by decide) (by decide)]
  simp only [Option.bind_some, Bool.not_true, cond_false]
  generalize within a0 1000 = base at *
  generalize within a1 1000 = live at *
  generalize within a2 3000 = conf at *
  rw [Remote.new_eq 1 base 1 a3 (by decide) (by omega) (by decide) (by decide)]
  simp only [Option.bind_some, Sum.elim_inr, bne_self_eq_false, cond_false, maxI_eq]
  have hr : List.replicate (Int.toNat 1) false = [false] := rfl
  have wm : ∀ x, -100000 ≤ x → x ≤ 100000 → IntKind.wrap .i64 (conf - x) = conf - x := fun x h1 h2 => wr (by omega)
  rw [hr]
  cases a4 with
  | true =>
    have hh : heardStage 2 a3 (acked 1 [false] [false].length) = if a3 = true then 4 else 3 := rfl
    rw [cond_true, heard_eq _ _ _ _ _ _ _ _ _ _ _ _ _ _ _ _ _ _ _ _ (by decide) (by decide), hh]
    simp only [Option.bind_some]
    cases a3 with
    | true =>
      simp only [cond_true, if_true]
      rw [late_eq _ _ _ _ _ _ _ _ _ _ _ _ _ _ (by omega) (by omega) (by omega) (by omega) (by omega) (by omega), wm (max base live) (by omega) (by omega)]
      have hi : isLate conf base 4 (max base live) ↔ conf - max base live > 80 := by simp [isLate]
      by_cases c : conf - max base live > 80
      · rw [if_pos (hi.2 c)]
        simp only [Option.bind_some, c, decide_true, beq_self_eq_true, cond_true]
        rw [stage_eq]
        rfl
      · rw [if_neg (fun h => c (hi.1 h))]
        simp only [Option.bind_some, c, decide_false]
        rw [stage_eq]
        rfl
    | false =>
      simp only [cond_false, Bool.false_eq_true, if_false]
      rw [late_eq _ _ _ _ _ _ _ _ _ _ _ _ _ _ (by omega) (by omega) (by omega) (by omega) (by omega) (by omega), wm base (by omega) (by omega)]
      have hi : isLate conf base 3 (max base live) ↔ conf - base > 80 := by simp [isLate]
      by_cases c : conf - base > 80
      · rw [if_pos (hi.2 c)]
        simp only [Option.bind_some, c, decide_true, beq_self_eq_true, cond_true]
        rw [stage_eq]
        rfl
      · rw [if_neg (fun h => c (hi.1 h))]
        simp only [Option.bind_some, c, decide_false]
        rw [stage_eq]
        rfl
  | false =>
    rw [cond_false, late_eq _ _ _ _ _ _ _ _ _ _ _ _ _ _ (by omega) (by omega) (by omega) (by omega) (by omega) (by omega), wm base (by omega) (by omega)]
    have hi : isLate conf base 2 base ↔ conf - base > 80 := by simp [isLate]
    by_cases c : conf - base > 80
    · rw [if_pos (hi.2 c)]
      simp only [Option.bind_some, c, decide_true, beq_self_eq_true, cond_true]
      rw [stage_eq]
      rfl
    · rw [if_neg (fun h => c (hi.1 h))]
      simp only [Option.bind_some, c, decide_false]
      rw [stage_eq]
      rfl
end Go.Proofs.Ytfcfafacjeknaaa.Pure

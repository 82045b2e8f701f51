/- The law RingsGuess, in plain words (own work). -/
import Derived.Test.YtamedfccknfeaaaRings
namespace Go.Proofs.Ytamedfccknfeaaa.Pure
open Go Go.Proofs.Ytamedfccknfeaaa.Mx Go.Proofs.Ytamedfccknfeaaa.Pc Go.Proofs.Ytamedfccknfeaaa.Run Go.Proofs.Ytamedfccknfeaaa.Rings
set_option linter.unusedVariables false
theorem putAll0 (l : List Int) (fr : Int) (h : 0 ≤ fr) : put (fr + 1) l fr [] = ((l.length : Int), 0, fr, l.map clamp, ()) := by
  unfold put
  rw [if_neg (by simp), if_neg (by omega)]
  simp
theorem RingsGuess (a0 : Int) (w0 : (Lit.int .i64 a0).wf = true) (a1 : List Int) (w1 : Ty.good (.row (.int .i64)) a1) (z1 : a1.length * 8 ≤ 140737488351232) (a2 : Int) (w2 : (Lit.int .i64 a2).wf = true) : Run.f3 a0 a1 a2 = some (true, ()) := by
  unfold f3
  rw [known_eq]
  simp only [Option.bind_some, Bool.not_true, cond_false, bif_dec]
  by_cases c : (a1.length : Int) > 50
  · rw [if_pos c]
  rw [if_neg c]
  obtain ⟨e1, b1, b2⟩ := within_eq a0 1000 (by decide) (by decide)
  obtain ⟨e2, b3, b4⟩ := within_eq a2 100 (by decide) (by decide)
  generalize within a0 1000 = base at *
  generalize within a2 100 = far at *
  rw [e1]
  simp only [Option.bind_some]
  rw [new_eq, Int.max_eq_left b1]
  simp only [Option.bind_some]
  rw [wr (by omega), put0 _ _ _ b1 (by omega) (by omega) (by omega), putAll0 _ _ b1]
  simp only [Option.bind_some]
  -- what is wanted
  have hg : ∀ v, (v = if 0 < a1.length ∧ 1 ≤ a1.getD (a1.length - 1) 0 ∧ a1.getD (a1.length - 1) 0 ≤ 4 then a1.getD (a1.length - 1) 0 else 0) → getR base (a1.map clamp) (base + a1.length + 1 + far) = (v, false) := by
    rintro v rfl
    unfold getR
    rw [if_neg (by omega), if_neg (by rw [List.length_map]; omega), List.length_map]
    by_cases h : 0 < a1.length
    · have e : (a1.map clamp).getD (a1.length - 1) 0 = clamp (a1.getD (a1.length - 1) 0) := by
        simp [List.getD_eq_getElem?_getD, show a1.length - 1 < a1.length by omega]
      rw [e]
      generalize a1.getD (a1.length - 1) 0 = v
      simp only [h, true_and, clamp]
      grind
    · simp [h]
  generalize hw : (if 0 < a1.length ∧ 1 ≤ a1.getD (a1.length - 1) 0 ∧ a1.getD (a1.length - 1) 0 ≤ 4 then a1.getD (a1.length - 1) 0 else 0) = want at hg
  have hg := hg want rfl
  have hi : ((a1.length : Int) - 1).toNat = a1.length - 1 := by omega
  refine OK.eq ?_
  refine OK.callR (R := fun y => y = Sum.inl (base, a1, a2, want, base, a1.map clamp, ())) ?_ ?_
  · subst hw
    by_cases h : 0 < a1.length
    · have hr := inR (i := (a1.length : Int) - 1) (n := a1.length) (by omega)
      simp (disch := omega) only [wr, hi, hr, h, true_and, ite_bif, decide_eq_true_eq]
      rw [if_pos (by omega)]
      generalize a1.getD (a1.length - 1) 0 = v
      by_cases h4 : 1 ≤ v
      · by_cases h5 : v ≤ 4
        · simp [h4, h5, OK.iff]
        · simp [h4, h5, OK.iff]
      · simp [h4, OK.iff]
    · rw [if_neg (by omega), if_neg (by omega)]
      exact OK.ret rfl
  · rintro _ rfl
    simp only [Sum.elim_inl, e2, Option.bind_some]
    simp (disch := omega) only [wr]
    rw [get_eq _ _ _ b1 (by omega) (by rw [List.length_map]; omega) (by omega) (by omega), hg]
    simp only [Option.bind_some]
    rw [get_eq _ _ _ b1 (by omega) (by rw [List.length_map]; omega) (by omega) (by omega)]
    simp [getR, OK.iff]
end Go.Proofs.Ytamedfccknfeaaa.Pure

/- The law RingsForget, in plain words (own work). -/
import Derived.Test.YtamedfccknfeaaaRings
namespace Go.Proofs.Ytamedfccknfeaaa.Pure
open Go Go.Proofs.Ytamedfccknfeaaa.Mx Go.Proofs.Ytamedfccknfeaaa.Pc Go.Proofs.Ytamedfccknfeaaa.Run Go.Proofs.Ytamedfccknfeaaa.Rings
set_option linter.unusedVariables false
theorem putAll0 (l : List Int) (fr : Int) (h : 0 ≤ fr) : put (fr + 1) l fr [] = ((l.length : Int), 0, fr, l.map clamp, ()) := by
  unfold put
  rw [if_neg (by simp), if_neg (by omega)]
  simp
theorem putAll1 (l : List Int) (fr : Int) (cur : List Int) (first : Int) (hf : first = fr + cur.length + 1) (h : 0 ≤ fr) : put first l fr cur = ((l.length : Int), 0, fr, cur ++ l.map clamp, ()) := by
  unfold put
  rw [if_neg (by omega), if_neg (by omega), show (fr + cur.length + 1 - first).toNat = 0 by omega]
  simp
theorem RingsForget (a0 : Int) (w0 : (Lit.int .i64 a0).wf = true) (a1 : List Int) (w1 : Ty.good (.row (.int .i64)) a1) (z1 : a1.length * 8 ≤ 140737488351232) (a2 : Int) (w2 : (Lit.int .i64 a2).wf = true)
    (a3 : List Int) (w3 : Ty.good (.row (.int .i64)) a3) (z3 : a3.length * 8 ≤ 140737488351232) : Run.f5 a0 a1 a2 a3 = some (true, ()) := by
  unfold f5
  rw [known_eq]
  simp only [Option.bind_some, Bool.not_true, cond_false, bif_dec]
  by_cases c0 : (a1.length : Int) = 0
  · simp [c0]
  by_cases c1 : (a1.length : Int) > 50
  · rw [if_pos c1]; simp
  by_cases c2 : (a3.length : Int) > 50
  · rw [if_neg c1, if_pos c2]; simp
  rw [if_neg c1, if_neg c2]
  have c0' : ((a1.length : Int) == 0) = false := by simpa using c0
  rw [c0', cond_false]
  obtain ⟨e1, b1, b2⟩ := within_eq a0 1000 (by decide) (by decide)
  obtain ⟨e2, b3, b4⟩ := within_eq a2 ((a1.length : Int) + 5) (by omega) (by omega)
  generalize within a0 1000 = base at *
  generalize within a2 ((a1.length : Int) + 5) = k at *
  obtain ⟨m, hm⟩ : ∃ m : Nat, (m : Int) = min k ((a1.length : Int) - 1) := ⟨(min k ((a1.length : Int) - 1)).toNat, by omega⟩
  have hL : (a1.map clamp).length = a1.length := List.length_map _
  rw [e1]
  simp only [Option.bind_some]
  rw [new_eq, Int.max_eq_left b1]
  simp only [Option.bind_some]
  simp (disch := omega) only [wr]
  rw [put0 _ _ _ b1 (by omega) (by omega) (by omega), putAll0 _ _ b1, e2]
  simp only [Option.bind_some]
  have ht : f18 (base + k) base (a1.map clamp) = some (base + m, (a1.map clamp).drop m, ()) := by
    rw [trim_eq _ _ _ b1 (by omega) (by omega) (by omega), hL]
    have e : min (max (base + k) base) (base + a1.length - 1) - base = m := by omega
    rw [e, Int.toNat_natCast]
    by_cases h : (m : Int) > 0
    · rw [if_pos h, show min (max (base + k) base) (base + a1.length - 1) = base + m by omega]
    · rw [if_neg h, show (m : Int) = 0 by omega, Int.add_zero]
  simp (disch := omega) only [wr, maxI_eq]
  rw [ht]
  simp only [Option.bind_some]
  have hD : ((a1.map clamp).drop m).length = a1.length - m := by rw [List.length_drop, hL]
  generalize (a1.map clamp).drop m = L at *
  rw [since_eq _ _ _ (by omega) (by omega) (by omega) (by omega)]
  simp only [Option.bind_some]
  rw [show (min (max 0 (base + (m : Int))) (base + m + L.length) - (base + m)).toNat = 0 by omega, List.drop_zero]
  have q1 : ((L.length : Int) != max ((a1.length : Int) - k) 1) = false := by simp; omega
  rw [q1, cond_false]
  unfold f15
  simp only [Option.bind_some]
  simp (disch := omega) only [wr]
  have q2 : (base + (m : Int) + L.length != base + a1.length) = false := by simp; omega
  rw [q2, cond_false]
  refine OK.eq ?_
  refine OK.loop (fun i : Nat => (base, a1, a3, max ((a1.length : Int) - k) 1, (i : Int), base + (m : Int), L, ())) (fun i => i ≤ a1.length) (fun i => a1.length - i) (fun rec i hi ih => ?_) 0 rfl (Nat.zero_le _) (by omega)
  dsimp only
  by_cases c : (i : Int) < a1.length
  · rw [if_pos c]
    simp (disch := omega) only [wr]
    rw [get_eq _ _ _ (by omega) (by omega) (by omega) (by omega) (by omega)]
    simp only [Option.bind_some]
    have q : (getR (base + m) L (base + 1 + i)).2 = decide ((i : Int) ≥ (a1.length : Int) - max ((a1.length : Int) - k) 1) := by
      unfold getR
      by_cases h : base + 1 + (i : Int) ≤ base + m
      · rw [if_pos h]; symm; rw [decide_eq_false_iff_not]; omega
      · rw [if_neg h, if_pos (by omega)]; symm; rw [decide_eq_true_eq]; omega
    rw [q]
    simp only [beq_self_eq_true, Bool.not_true, cond_false]
    exact ih (i + 1) (by omega) (by omega) _ (by simp)
  · rw [if_neg c]
    simp (disch := omega) only [wr]
    rw [put1 _ _ _ _ (by omega) (by omega) (by omega) (by omega) (by omega), putAll1 _ _ _ _ (by omega) (by omega)]
    simp only [Option.bind_some, beq_self_eq_true, cond_true]
    rw [since_eq _ _ _ (by omega) (by omega) (by simp; omega) (by omega)]
    refine OK.ret ?_
    simp only [List.length_drop, List.length_append, List.length_map, Prod.mk.injEq, and_true, beq_iff_eq]
    omega
end Go.Proofs.Ytamedfccknfeaaa.Pure

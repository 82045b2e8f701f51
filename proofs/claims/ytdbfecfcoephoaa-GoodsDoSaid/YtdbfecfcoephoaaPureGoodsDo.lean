/- The law GoodsDo, in plain words (own work). -/
import Derived.Test.YtdbfecfcoephoaaGoodsLaw
namespace Go.Proofs.Ytdbfecfcoephoaa.Pure
open Go Go.Proofs.Ytdbfecfcoephoaa.Mx Go.Proofs.Ytdbfecfcoephoaa.Pc Go.Proofs.Ytdbfecfcoephoaa.Run Go.Proofs.Ytdbfecfcoephoaa.Field Go.Proofs.Ytdbfecfcoephoaa.Gen Go.Proofs.Ytdbfecfcoephoaa.GenL Go.Proofs.Ytdbfecfcoephoaa.Fl Go.Proofs.Ytdbfecfcoephoaa.Wd Go.Proofs.Ytdbfecfcoephoaa.Gd
set_option linter.unusedVariables false
set_option linter.unusedSimpArgs false
set_option maxHeartbeats 1000000
theorem GoodsDo (a0 : Int) (w0 : (Lit.int .i64 a0).wf = true) (a1 : Int) (w1 : (Lit.int .i64 a1).wf = true) (a2 : Int) (w2 : (Lit.int .i64 a2).wf = true) (a3 : Int) (w3 : (Lit.int .i64 a3).wf = true) (a4 : List (Int × Int × Int × Int)) (w4 : Ty.good (.row (.prod (.int .i64) (.prod (.int .i64) (.prod (.int .i64) (.int .i64))))) a4) (z4 : a4.length * 32 ≤ 140737488351232) (a5 : Int) (w5 : (Lit.int .i64 a5).wf = true) (a6 : List Int) (w6 : Ty.good (.row (.int .i64)) a6) (z6 : a6.length * 8 ≤ 140737488351232) : f3 a0 a1 a2 a3 a4 a5 a6 = some (true, ()) := by
  refine OK.eq ?_
  unfold f3
  rw [known_eq]
  simp only [Option.bind_some, Bool.not_true, cond_false]
  refine OK.callR (world_is a0 a1 a2 a3 a4 (by omega) a5) ?_
  rintro z ⟨its0, rfl, hI, _⟩
  dsimp only
  rw [within7_eq a2 4 (by decide) (by decide)]
  simp only [Option.bind_some]
  have hW := world_wi a0 (1 + within a1 3) (within a2 4) a3 hI (gold_ok (within a2 4) a5)
  have hc := cells_ok a0 (1 + within a1 3)
  generalize cells a0 (1 + within a1 3) = c at *
  generalize entsW a0 (1 + within a1 3) (within a2 4) a3 = l0 at *
  generalize 1 + within a1 3 = fl at *
  generalize within a2 4 = st at *
  generalize goldOf st (within a5 1000) 0 = g0 at *
  generalize goldOf st (within a5 1000) 1 = g1 at *
  generalize goldOf st (within a5 1000) 2 = g2 at *
  generalize goldOf st (within a5 1000) 3 = g3 at *
  unfold f3.L1
  refine OK.loop (fun j : Nat × DT => (st, a6, (j.1 : Int), a0, 0, fl, 0, j.2.1, j.2.2.1, j.2.2.2.1, j.2.2.2.2.1, c, j.2.2.2.2.2.1, j.2.2.2.2.2.2, ())) (fun j => j.1 ≤ 20 ∧ WI c j.2.2.2.2.2.1 j.2.2.2.2.2.2 j.2.1 j.2.2.1 j.2.2.2.1 j.2.2.2.2.1) (fun j => 20 - j.1) (fun rec j hj ih => ?_) (0, g0, g1, g2, g3, l0, its0) rfl ⟨Nat.zero_le _, hW⟩ (by dsimp only; decide)
  clear hW hI
  obtain ⟨i, g0, g1, g2, g3, l, its⟩ := j
  obtain ⟨hi, hW⟩ := hj
  dsimp only at hi hW ih ⊢
  rw [bif_dec, bif_dec]
  by_cases q1 : (i : Int) < a6.length
  · by_cases q2 : (i : Int) < 20
    · rw [if_pos q1, if_pos q2]
      have ir : inRange (i : Int) a6.length = true := inR (by omega)
      simp only [ir, cond_true]
      have hil := hW.its.len
      have hll := hW.hp.1
      have hcl := hc.len
      refine OK.callR (R := fun z => ∃ who, z = Sum.inl (st, a6, (i : Int), who, a0, 0, fl, 0, g0, g1, g2, g3, c, l, its, ())) ?_ ?_
      · cases Int.tmod (a6.getD (Int.toNat (i : Int)) 0) 13 == 12 with
        | true => exact OK.ret ⟨_, rfl⟩
        | false => exact OK.ret ⟨_, rfl⟩
      · rintro z ⟨who, rfl⟩
        simp only [Sum.elim_inl, ir, cond_true]
        have hD := do_ok hW who (a6.getD (Int.toNat (i : Int)) 0)
        have hDl := hD.hp.1
        have hDi := hD.its.len
        rw [rtwin_eq a0 0 fl 0 c g0 g1 g2 g3 (by omega) (by omega) (by omega)]
        simp only [Option.bind_some]
        rw [do_eq a0 0 fl 0 c hc.b hc.len hW.hp hW.its hW.gold]
        simp only [Option.bind_some]
        rw [rdo_eq a0 0 fl 0 c hc.b hc.len hW.hp hW.its hW.gold]
        simp only [Option.bind_some]
        generalize doP c l its g0 g1 g2 g3 who (a6.getD (Int.toNat (i : Int)) 0) = D at *
        rw [same_eq _ _ _ _ _ _ _ _ _ _ _ (by omega) (by omega)]
        simp only [Option.bind_some, Bool.not_true, cond_false]
        rw [same_eq _ _ _ _ _ _ _ _ _ _ _ (by omega) (by omega)]
        simp only [Option.bind_some, Bool.not_true, cond_false]
        rw [wr (by omega)]
        exact ih (i + 1, D) ⟨by dsimp only; omega, hD⟩ (by dsimp only; omega) _ rfl
    · rw [if_pos q1, if_neg q2]
      exact OK.ret rfl
  · rw [if_neg q1]
    exact OK.ret rfl
end Go.Proofs.Ytdbfecfcoephoaa.Pure

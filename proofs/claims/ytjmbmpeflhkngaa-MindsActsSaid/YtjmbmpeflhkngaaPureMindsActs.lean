/- The law MindsActs, in plain words (own work). -/
import Derived.Test.YtjmbmpeflhkngaaZ12
namespace Go.Proofs.Ytjmbmpeflhkngaa.Pure
open Go Go.Proofs.Ytjmbmpeflhkngaa.Mx Go.Proofs.Ytjmbmpeflhkngaa.Pc Go.Proofs.Ytjmbmpeflhkngaa.Run Go.Proofs.Ytjmbmpeflhkngaa.Field Go.Proofs.Ytjmbmpeflhkngaa.Gen Go.Proofs.Ytjmbmpeflhkngaa.GenL Go.Proofs.Ytjmbmpeflhkngaa.Fl Go.Proofs.Ytjmbmpeflhkngaa.Wd Go.Proofs.Ytjmbmpeflhkngaa.Ft Go.Proofs.Ytjmbmpeflhkngaa.Ln Go.Proofs.Ytjmbmpeflhkngaa.Nav Go.Proofs.Ytjmbmpeflhkngaa.Mn
set_option linter.unusedVariables false
set_option linter.unusedSimpArgs false
set_option maxHeartbeats 1000000
theorem MindsActs (a0 : Int) (w0 : (Lit.int .i64 a0).wf = true) (a1 : Int) (w1 : (Lit.int .i64 a1).wf = true) (a2 : List Int) (w2 : Ty.good (.row (.int .i64)) a2) (z2 : a2.length * 8 ≤ 140737488351232) (a3 : List ItT) (w3 : Ty.good (.row (.prod (.int .i64) (.prod (.int .i64) (.prod (.int .i64) (.int .i64))))) a3) (z3 : a3.length * 32 ≤ 140737488351232) (a4 : Int) (w4 : (Lit.int .i64 a4).wf = true) (a5 : Int) (w5 : (Lit.int .i64 a5).wf = true) (a6 : Int) (w6 : (Lit.int .i64 a6).wf = true) : f3 a0 a1 a2 a3 a4 a5 a6 = some (true, ()) := by
  refine OK.eq ?_
  unfold f3
  rw [known9]
  simp only [Option.bind_some, Bool.not_true, cond_false]
  refine OK.callR (crowd_is a0 a1 a2 a3 (by omega) a4) ?_
  rintro z ⟨l, its, rfl, hC, _, hI, _⟩
  dsimp only
  have hcl := cells_len a0 (1 + within a1 3)
  have hcb := cells_cb a0 (1 + within a1 3)
  have A := cok_apart hC
  have hl := A.ents.len
  have hil := hI.len
  have hM := mx_b A.ok
  generalize cells a0 (1 + within a1 3) = c at *
  generalize 1 + within a1 3 = fl at *
  generalize within a4 1048576 = fr at *
  rw [rtwin_eq a0 fr fl 0 c 50 0 0 0 (by omega) (by omega) (by omega)]
  simp only [Option.bind_some]
  unfold f3.L2
  refine OK.loop (fun j : Nat => (a5, a6, (j : Int), a0, fr, fl, 0, 50, 0, 0, 0, a0, fr, fl, 0, 50, 0, 0, 0, c, l, its, c, l, its, ())) (fun j => j ≤ 32) (fun j => 32 - j) (fun rec j hj ih => ?_) 0 rfl (Nat.zero_le _) (by decide)
  dsimp only at hj ih ⊢
  rw [bif_dec]
  by_cases q : j < 32
  · rw [if_pos (by omega), monster_eq a0 fr fl 0 50 0 0 0 hcb A.ents its (j : Int), rmonster_eq a0 fr fl 0 50 0 0 0 hcb A.ents its (j : Int), wr (x := (j : Int) + 1) (by omega)]
    simp only [Option.bind_some, bne_self_eq_false, cond_false]
    exact ih (j + 1) (by omega) (by omega) _ rfl
  · rw [if_neg (by omega)]
    clear ih
    unfold f3.L1
    refine OK.loop (fun j : Nat => (a5, a6, (j : Int), a0, fr, fl, 0, 50, 0, 0, 0, a0, fr, fl, 0, 50, 0, 0, 0, c, l, its, c, l, its, ())) (fun j => j ≤ 4) (fun j => 4 - j) (fun rec j hj ih => ?_) 0 rfl (Nat.zero_le _) (by decide)
    dsimp only at hj ih ⊢
    rw [bif_dec]
    by_cases q : j < 4
    · rw [if_pos (by omega), robot_eq a0 fr fl 0 50 0 0 0 hcb hcl A.ents hI (j : Int) hM, rrobot_eq a0 fr fl 0 50 0 0 0 hcb hcl A.ents hI (j : Int) hM, wr (x := (j : Int) + 1) (by omega)]
      simp only [Option.bind_some, bne_self_eq_false, cond_false]
      exact ih (j + 1) (by omega) (by omega) _ rfl
    · rw [if_neg (by omega), robot_eq a0 fr fl 0 50 0 0 0 hcb hcl A.ents hI a6 hM, rrobot_eq a0 fr fl 0 50 0 0 0 hcb hcl A.ents hI a6 hM, monster_eq a0 fr fl 0 50 0 0 0 hcb A.ents its a5, rmonster_eq a0 fr fl 0 50 0 0 0 hcb A.ents its a5]
      simp only [Option.bind_some, beq_self_eq_true, cond_true]
      rw [same_eq _ _ _ _ _ _ _ _ _ _ _ (by omega) (by omega)]
      exact OK.ret rfl
end Go.Proofs.Ytjmbmpeflhkngaa.Pure

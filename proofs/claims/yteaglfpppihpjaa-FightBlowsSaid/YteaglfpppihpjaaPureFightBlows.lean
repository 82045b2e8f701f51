/- The law FightBlows, in plain words (own work). -/
import Derived.Test.YteaglfpppihpjaaFightLaw
namespace Go.Proofs.Yteaglfpppihpjaa.Pure
open Go Go.Proofs.Yteaglfpppihpjaa.Mx Go.Proofs.Yteaglfpppihpjaa.Pc Go.Proofs.Yteaglfpppihpjaa.Run Go.Proofs.Yteaglfpppihpjaa.Field Go.Proofs.Yteaglfpppihpjaa.Gen Go.Proofs.Yteaglfpppihpjaa.GenL Go.Proofs.Yteaglfpppihpjaa.Fl Go.Proofs.Yteaglfpppihpjaa.Wd Go.Proofs.Yteaglfpppihpjaa.Ft
set_option linter.unusedVariables false
set_option linter.unusedSimpArgs false
set_option maxHeartbeats 1000000
theorem FightBlows (a0 : Int) (w0 : (Lit.int .i64 a0).wf = true) (a1 : Int) (w1 : (Lit.int .i64 a1).wf = true) (a2 : List Int) (w2 : Ty.good (.row (.int .i64)) a2) (z2 : a2.length * 8 ≤ 140737488351232) (a3 : List ItT) (w3 : Ty.good (.row (.prod (.int .i64) (.prod (.int .i64) (.prod (.int .i64) (.int .i64))))) a3) (z3 : a3.length * 32 ≤ 140737488351232) (a4 : Int) (w4 : (Lit.int .i64 a4).wf = true) (a5 : List Int) (w5 : Ty.good (.row (.int .i64)) a5) (z5 : a5.length * 8 ≤ 140737488351232) (a6 : List Int) (w6 : Ty.good (.row (.int .i64)) a6) (z6 : a6.length * 8 ≤ 140737488351232) : f4 a0 a1 a2 a3 a4 a5 a6 = some (true, ()) := by
  refine OK.eq ?_
  unfold f4
  rw [Ft.known_eq]
  simp only [Option.bind_some, Bool.not_true, cond_false]
  refine OK.callR (crowd_is a0 a1 a2 a3 (by omega) a4) ?_
  rintro z ⟨l0, its0, rfl, hC, _, hI, _⟩
  dsimp only
  have hcl := cells_len a0 (1 + within a1 3)
  generalize cells a0 (1 + within a1 3) = c at *
  generalize 1 + within a1 3 = fl at *
  generalize within a4 1048576 = fr at *
  have hO := hC.ok
  have hIO := its_iok hI
  clear hC hI
  unfold f4.L1
  refine OK.loop (fun j : Nat × List EntT × List ItT => (a5, a6, (j.1 : Int), a0, fr, fl, 0, 50, 0, 0, 0, c, j.2.1, j.2.2, ())) (fun j => j.1 ≤ 20 ∧ LOk j.2.1 ∧ IOk j.2.2) (fun j => 20 - j.1) (fun rec j hj ih => ?_) (0, l0, its0) rfl ⟨Nat.zero_le _, hO, hIO⟩ (by dsimp only; decide)
  clear hO hIO
  obtain ⟨i, l, its⟩ := j
  obtain ⟨hi, hO, hIO⟩ := hj
  dsimp only at hi hO hIO ih ⊢
  have hl := hO.len
  have hil := hIO.1
  rw [bif_dec, bif_dec, bif_dec]
  by_cases q1 : (i : Int) < a5.length
  · by_cases q2 : (i : Int) < a6.length
    · by_cases q3 : (i : Int) < 20
      · have r5 : inRange (i : Int) a5.length = true := inR (by omega)
        have r6 : inRange (i : Int) a6.length = true := inR (by omega)
        rw [if_pos q1, if_pos q2, if_pos q3, rtwin_eq a0 fr fl 0 c 50 0 0 0 (by omega) (by omega) hil]
        simp only [Option.bind_some, r5, r6, cond_true]
        rw [hit_eq a0 fr fl 0 c 50 0 0 0 (by omega) hO hIO]
        simp only [Option.bind_some]
        rw [rhit_eq a0 fr fl 0 c 50 0 0 0 (by omega) hO hIO]
        simp only [Option.bind_some]
        have hh := hit_ok hO hIO a0 fr (a5.getD (Int.toNat (i : Int)) 0) (a6.getD (Int.toNat (i : Int)) 0)
        have hu := hurt_ok hO hIO (a5.getD (Int.toNat (i : Int)) 0) (a6.getD (Int.toNat (i : Int)) 0)
        have ha := ail_ok hO hIO 32
        rw [hurt_eq a0 fr fl 0 c 50 0 0 0 (by omega) hO hil]
        simp only [Option.bind_some]
        rw [rhurt_eq a0 fr fl 0 c 50 0 0 0 (by omega) hO hil]
        simp only [Option.bind_some]
        generalize hit a0 fr l its (a5.getD (Int.toNat (i : Int)) 0) (a6.getD (Int.toNat (i : Int)) 0) = P at *
        generalize hurt l its (a5.getD (Int.toNat (i : Int)) 0) (a6.getD (Int.toNat (i : Int)) 0) = U at *
        refine OK.callR (R := fun z => ∃ l1 its1, z = Sum.inl (a5, a6, (i : Int), a0, fr, fl, 0, 50, 0, 0, 0, a0, fr, fl, 0, 50, 0, 0, 0, a0, fr, fl, 0, 50, 0, 0, 0, a0, fr, fl, 0, 50, 0, 0, 0, c, l, its, c, l, its, c, l1, its1, c, l1, its1, ()) ∧ LOk l1 ∧ IOk its1) ?_ ?_
        · refine OK.bif (fun _ => ?_) (fun _ => ?_)
          · exact OK.ret ⟨U.1, U.2, rfl, hu.1, hu.2.1⟩
          · exact OK.ret ⟨P.1, P.2, rfl, hh.1, hh.2.1⟩
        · rintro z ⟨l1, its1, rfl, h1, h2⟩
          simp only [Sum.elim_inl]
          refine OK.callR (R := fun z => ∃ l1 its1, z = Sum.inl (a5, a6, (i : Int), a0, fr, fl, 0, 50, 0, 0, 0, a0, fr, fl, 0, 50, 0, 0, 0, a0, fr, fl, 0, 50, 0, 0, 0, a0, fr, fl, 0, 50, 0, 0, 0, c, l, its, c, l, its, c, l1, its1, c, l1, its1, ()) ∧ LOk l1 ∧ IOk its1) ?_ ?_
          · rw [ail_eq a0 fr fl 0 c 50 0 0 0 (by omega) hO hIO, rail_eq a0 fr fl 0 c 50 0 0 0 (by omega) hO hIO]
            simp only [Option.bind_some]
            refine OK.bif (fun _ => ?_) (fun _ => ?_)
            · exact OK.ret ⟨(ail l its 32).1, (ail l its 32).2, rfl, ha.1, ha.2.1⟩
            · exact OK.ret ⟨l1, its1, rfl, h1, h2⟩
          · rintro z ⟨l2, its2, rfl, k1, k2⟩
            simp only [Sum.elim_inl]
            have := k1.len
            have := k2.1
            rw [same_eq _ _ _ _ _ _ _ _ _ _ _ (by omega) (by omega)]
            simp only [Option.bind_some, Bool.not_true, cond_false]
            rw [same_eq _ _ _ _ _ _ _ _ _ _ _ (by omega) (by omega)]
            simp only [Option.bind_some, Bool.not_true, cond_false]
            rw [wr (by omega)]
            exact ih (i + 1, l2, its2) ⟨by dsimp only; omega, k1, k2⟩ (by dsimp only; omega) _ rfl
      · rw [if_pos q1, if_pos q2, if_neg q3]
        exact OK.ret rfl
    · rw [if_pos q1, if_neg q2]
      exact OK.ret rfl
  · rw [if_neg q1]
    exact OK.ret rfl
end Go.Proofs.Yteaglfpppihpjaa.Pure

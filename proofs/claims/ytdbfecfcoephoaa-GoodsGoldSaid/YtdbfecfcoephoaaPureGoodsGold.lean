/- The law GoodsGold, in plain words (own work). -/
import Derived.Test.YtdbfecfcoephoaaGoodsF
namespace Go.Proofs.Ytdbfecfcoephoaa.Pure
open Go Go.Proofs.Ytdbfecfcoephoaa.Mx Go.Proofs.Ytdbfecfcoephoaa.Pc Go.Proofs.Ytdbfecfcoephoaa.Run Go.Proofs.Ytdbfecfcoephoaa.Field Go.Proofs.Ytdbfecfcoephoaa.Gen Go.Proofs.Ytdbfecfcoephoaa.GenL Go.Proofs.Ytdbfecfcoephoaa.Fl Go.Proofs.Ytdbfecfcoephoaa.Wd Go.Proofs.Ytdbfecfcoephoaa.Gd
set_option linter.unusedVariables false
set_option linter.unusedSimpArgs false
set_option maxHeartbeats 1000000
theorem GoodsGold (a0 : Int) (w0 : (Lit.int .i64 a0).wf = true) (a1 : Int) (w1 : (Lit.int .i64 a1).wf = true) (a2 : Int) (w2 : (Lit.int .i64 a2).wf = true) : f7 a0 a1 a2 = some (true, ()) := by
  refine OK.eq ?_
  unfold f7
  rw [known_eq]
  simp only [Option.bind_some, Bool.not_true, cond_false]
  refine OK.callR (world_is a0 0 2 1 [] (by decide) a1) ?_
  rintro z ⟨its0, rfl, hI, hN⟩
  obtain rfl := hN rfl
  have s2 : within 2 4 = 2 := by decide
  rw [s2] at *
  dsimp only
  have hW := world_wi a0 (1 + within 0 3) 2 1 hI (gold_ok 2 a1)
  have hc := cells_ok a0 (1 + within 0 3)
  have hh := plain_hero a0 (1 + within 0 3) 2
  have hcell := hero_cell a0 (1 + within 0 3) 1
  have hll := hW.hp.1
  rw [rhero_eq _ (by omega), hh.1]
  simp only [Option.bind_some]
  have hE1 : ex ((entsW a0 (1 + within 0 3) 2 1).getD 1 eN) = heroAt a0 (1 + within 0 3) 1 % 24 := by rw [hh.2]; rfl
  have hE2 : ey ((entsW a0 (1 + within 0 3) 2 1).getD 1 eN) = heroAt a0 (1 + within 0 3) 1 / 24 := by rw [hh.2]; rfl
  have hh1 := hh.1
  clear hh
  generalize cells a0 (1 + within 0 3) = c at *
  generalize entsW a0 (1 + within 0 3) 2 1 = l at *
  generalize heroAt a0 (1 + within 0 3) 1 % 24 = X at *
  generalize heroAt a0 (1 + within 0 3) 1 / 24 = Y at *
  generalize 1 + within 0 3 = fl at *
  generalize goldOf 2 (within a1 1000) 0 = g0 at *
  generalize goldOf 2 (within a1 1000) 1 = g1 at *
  generalize goldOf 2 (within a1 1000) 2 = g2 at *
  generalize goldOf 2 (within a1 1000) 3 = g3 at *
  have b10 := within_b a2 10 (by decide)
  unfold f7.L1
  refine OK.loop (fun j : Nat × Int => (a2, 1, j.2, (j.1 : Int), a0, 0, fl, 0, g0, g1, j.2, g3, c, l, List.replicate 40 iN, ())) (fun j => j.1 ≤ 10 ∧ GOk g0 g1 j.2 g3) (fun j => 10 - j.1) (fun rec j hj ih => ?_) (0, g2) rfl ⟨Nat.zero_le _, hW.gold⟩ (by dsimp only; decide)
  obtain ⟨k, g⟩ := j
  obtain ⟨hk, hg⟩ := hj
  dsimp only at hk hg ih ⊢
  rw [within7_eq a2 10 (by decide) (by decide)]
  simp only [Option.bind_some]
  rw [bif_dec]
  by_cases q : (k : Int) < within a2 10
  · rw [if_pos q, hll, List.length_replicate, inR (by omega), inR (by omega)]
    simp only [cond_true]
    have e1 : (l.getD (Int.toNat 1) (0, 0, 0, 0, 0, 0, 0, 0, 0, 0, 0)).2.2.2.1 = X := hE1
    have e2 : (l.getD (Int.toNat 1) (0, 0, 0, 0, 0, 0, 0, 0, 0, 0, 0)).2.2.2.2.1 = Y := hE2
    rw [e1, e2, Int.toNat_natCast]
    have hk40 : k < 40 := by omega
    have hI1 : ItsOk c ((List.replicate 40 iN).set k (4, 1, X, Y)) := one_item ⟨by show (1 : Int) ≤ 4; decide, by show (4 : Int) ≤ 4; decide⟩ (.inl ⟨rfl, hcell⟩) k hk40
    have gt := set_get (its := List.replicate 40 iN) (by simp) hk40 (4, 1, X, Y)
    have hat : inI ((List.replicate 40 iN).set k (4, 1, X, Y)) 1 X Y = k := inI_is (by simp) hk40 (by rw [gt, if_pos rfl]) (fun j hj => by
      rw [gt, if_neg (by omega), rep_get]
      exact fun z => absurd (congrArg Prod.fst z) (by show ¬ (0 : Int) = 1; decide))
    have eD : doP c l ((List.replicate 40 iN).set k (4, 1, X, Y)) g0 g1 g g3 2 5 = (g0, g1, min (g + 5) 999, g3, l, List.replicate 40 iN) := by
      unfold doP
      rw [hh1, if_neg (by omega), if_pos rfl, show Int.toNat 1 = 1 from rfl, hE1, hE2]
      unfold pickP
      rw [hat, if_neg (by omega), Int.toNat_natCast, gt, if_pos rfl, if_pos rfl, List.set_set]
      have : (List.replicate 40 iN).set k iN = List.replicate 40 iN := items_ext (by simp) (by simp) fun i hi => by
        rw [set_get (by simp) hk40, rep_get]
        split <;> rfl
      rw [this]
      rfl
    rw [do_eq a0 0 fl 0 c hc.b hc.len hW.hp hI1 hg, eD]
    simp only [Option.bind_some]
    have gb : 0 ≤ g ∧ g ≤ 999 := hg.2.2.1
    rw [wr (x := g + 5) (by omega), minI_eq, bne_self_eq_false, cond_false, rep_get]
    have r : inRange (k : Int) (List.replicate 40 iN).length = true := inR (by simp; omega)
    simp only [List.length_replicate, inR (show 0 ≤ (k : Int) ∧ (k : Int) < (40 : Nat) by omega), cond_true]
    rw [wr (by omega)]
    refine ih (k + 1, min (g + 5) 999) ⟨by dsimp only; omega, ?_⟩ (by dsimp only; omega) _ rfl
    exact ⟨hg.1, hg.2.1, by dsimp only; omega, hg.2.2.2⟩
  · rw [if_neg q, check_ok a0 0 fl 0 c g0 g1 g g3 hc l (ItsOk.none c)]
    simp only [Option.bind_some, cond_true]
    rw [rslot_eq _ (by simp)]
    have : emptyI (List.replicate 40 iN) 2 = 0 := empty_is (b := 0) (by decide) (by
      rw [inI_no (by simp) fun j _ => by
        rw [rep_get]
        exact fun z => absurd (congrArg Prod.fst z) (by show ¬ (0 : Int) = 2; decide)]
      decide) (fun j hj => absurd hj (Nat.not_lt_zero _))
    rw [this]
    exact OK.ret rfl
end Go.Proofs.Ytdbfecfcoephoaa.Pure

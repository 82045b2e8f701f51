/- The law GoodsBack, in plain words (own work). -/
import Derived.Test.YtdbfecfcoephoaaGoodsF
namespace Go.Proofs.Ytdbfecfcoephoaa.Pure
open Go Go.Proofs.Ytdbfecfcoephoaa.Mx Go.Proofs.Ytdbfecfcoephoaa.Pc Go.Proofs.Ytdbfecfcoephoaa.Run Go.Proofs.Ytdbfecfcoephoaa.Field Go.Proofs.Ytdbfecfcoephoaa.Gen Go.Proofs.Ytdbfecfcoephoaa.GenL Go.Proofs.Ytdbfecfcoephoaa.Fl Go.Proofs.Ytdbfecfcoephoaa.Wd Go.Proofs.Ytdbfecfcoephoaa.Gd
set_option linter.unusedVariables false
set_option linter.unusedSimpArgs false
set_option maxHeartbeats 1000000
/-- One item in row 0, potions in the rows from 5 on, in the slots from 0 on. -/
def bk (x : ItT) (n : Nat) : List ItT := (List.range 40).map fun i : Nat => if i = 0 then x else if 5 ≤ i ∧ i < 5 + n then (1, 2, 0, (i : Int) - 5) else iN
theorem bk_len (x : ItT) (n : Nat) : (bk x n).length = 40 := by simp [bk]
theorem bk_get (x : ItT) (n : Nat) {i : Nat} (hi : i < 40) : (bk x n).getD i iN = if i = 0 then x else if 5 ≤ i ∧ i < 5 + n then (1, 2, 0, (i : Int) - 5) else iN := by
  unfold bk
  rw [List.getD_eq_getElem?_getD, List.getElem?_map, List.getElem?_range hi]
  rfl
theorem bk_none (x : ItT) : (List.replicate 40 iN).set 0 x = bk x 0 := items_ext (by simp) (bk_len _ _) fun i hi => by
  rw [set_get (by simp) (by decide), rep_get, bk_get _ _ hi]
  by_cases z : i = 0
  · rw [if_pos z.symm, if_pos z]
  · rw [if_neg (fun y => z y.symm), if_neg z, if_neg (by omega)]
theorem bk_put (x : ItT) (k : Nat) (hk : k < 4) : (bk x k).set (5 + k) (1, 2, 0, (k : Int)) = bk x (k + 1) := items_ext (by rw [List.length_set]; exact bk_len _ _) (bk_len _ _) fun i hi => by
  rw [set_get (bk_len _ _) (by omega), bk_get _ _ hi, bk_get _ _ hi]
  by_cases z : 5 + k = i
  · rw [if_pos z, if_neg (by omega), if_pos (by omega), show (k : Int) = (i : Int) - 5 by omega]
  · rw [if_neg z]
    by_cases y0 : i = 0
    · rw [if_pos y0, if_pos y0]
    · rw [if_neg y0, if_neg y0]
      by_cases y : 5 ≤ i ∧ i < 5 + k
      · rw [if_pos y, if_pos (by omega)]
      · rw [if_neg y, if_neg (by omega)]
theorem bk_set (x y : ItT) (n : Nat) : (bk x n).set 0 y = bk y n := items_ext (by rw [List.length_set]; exact bk_len _ _) (bk_len _ _) fun i hi => by
  rw [set_get (bk_len _ _) (by decide), bk_get _ _ hi, bk_get _ _ hi]
  by_cases z : i = 0
  · rw [if_pos z.symm, if_pos z]
  · rw [if_neg (fun q => z q.symm), if_neg z, if_neg z]
theorem bk_ok {c : List Int} {x : ItT} (hk : 1 ≤ x.1 ∧ x.1 ≤ 4) (hP : Placed c x) (h1 : x.2.1 = 1) : ∀ n : Nat, n ≤ 4 → ItsOk c (bk x n)
  | 0, _ => by
    rw [← bk_none]
    exact one_item hk hP 0 (by decide)
  | n + 1, hn => by
    rw [← bk_put x n (by omega)]
    refine (bk_ok hk hP h1 n (by omega)).put (by omega) ⟨by show (1 : Int) ≤ 1; decide, by show (1 : Int) ≤ 4; decide⟩ (.inr (.inl ⟨rfl, by show (0 : Int) ≤ 0; decide, by show (0 : Int) < 4; decide, by show (0 : Int) ≤ n; omega, by show (n : Int) < 4; omega, by show ¬ (1 : Int) = 4; decide⟩)) fun i hi hne => ?_
    rw [bk_get _ _ hi]
    split
    · intro z
      rw [z] at h1
      exact absurd h1 (by show ¬ (2 : Int) = 1; decide)
    · split
      · intro z
        have := congrArg (fun z => z.2.2) z
        dsimp only at this
        omega
      · exact fun z => absurd (congrArg Prod.fst z) (by show ¬ (0 : Int) = 2; decide)
theorem bk_slot (x : ItT) (n : Nat) (hn : n ≤ 4) (j : Nat) (hj : j < 4) (hx : x.2 ≠ (2, 0, (j : Int))) : inI (bk x n) 2 0 j = if j < n then ((5 + j : Nat) : Int) else -1 := by
  split
  · refine inI_is (bk_len _ _) (by omega) (by rw [bk_get _ _ (by omega), if_neg (by omega), if_pos (by omega)]; show ((2 : Int), (0 : Int), ((5 + j : Nat) : Int) - 5) = (2, 0, (j : Int)); rw [show ((5 + j : Nat) : Int) - 5 = j by omega]) fun i hi => ?_
    rw [bk_get _ _ (by omega)]
    split
    · exact hx
    · split
      · intro z
        have := congrArg (fun z => z.2.2) z
        dsimp only at this
        omega
      · exact fun z => absurd (congrArg Prod.fst z) (by show ¬ (0 : Int) = 2; decide)
  · refine inI_no (bk_len _ _) fun i hi => ?_
    rw [bk_get _ _ hi]
    split
    · exact hx
    · split
      · intro z
        have := congrArg (fun z => z.2.2) z
        dsimp only at this
        omega
      · exact fun z => absurd (congrArg Prod.fst z) (by show ¬ (0 : Int) = 2; decide)
theorem lies {K X Y j : Int} : ((K, 1, X, Y) : ItT).2 ≠ (2, 0, j) := fun z => absurd (congrArg Prod.fst z) (by show ¬ (1 : Int) = 2; decide)
theorem GoodsBack (a0 : Int) (w0 : (Lit.int .i64 a0).wf = true) (a1 : Int) (w1 : (Lit.int .i64 a1).wf = true) (a2 : Int) (w2 : (Lit.int .i64 a2).wf = true) : f5 a0 a1 a2 = some (true, ()) := by
  refine OK.eq ?_
  unfold f5
  rw [known_eq]
  simp only [Option.bind_some, Bool.not_true, cond_false]
  refine OK.callR (world_is a0 0 0 1 [] (by decide) 0) ?_
  rintro z ⟨its0, rfl, hI, hN⟩
  obtain rfl := hN rfl
  have s0 : within 0 4 = 0 := by decide
  rw [s0] at *
  dsimp only
  have hW := world_wi a0 (1 + within 0 3) 0 1 hI (gold_ok 0 0)
  have hc := cells_ok a0 (1 + within 0 3)
  have hh := plain_hero a0 (1 + within 0 3) 0
  have hcell := hero_cell a0 (1 + within 0 3) 1
  have hll := hW.hp.1
  have hE1 : ex ((entsW a0 (1 + within 0 3) 0 1).getD 1 eN) = heroAt a0 (1 + within 0 3) 1 % 24 := by rw [hh.2]; rfl
  have hE2 : ey ((entsW a0 (1 + within 0 3) 0 1).getD 1 eN) = heroAt a0 (1 + within 0 3) 1 / 24 := by rw [hh.2]; rfl
  have hh1 := hh.1
  rw [rhero_eq _ (by omega), hh1]
  simp only [Option.bind_some]
  clear hh
  generalize cells a0 (1 + within 0 3) = c at *
  generalize entsW a0 (1 + within 0 3) 0 1 = l at *
  generalize heroAt a0 (1 + within 0 3) 1 % 24 = X at *
  generalize heroAt a0 (1 + within 0 3) 1 / 24 = Y at *
  generalize 1 + within 0 3 = fl at *
  generalize goldOf 0 (within 0 1000) 0 = g0 at *
  generalize goldOf 0 (within 0 1000) 1 = g1 at *
  generalize goldOf 0 (within 0 1000) 2 = g2 at *
  generalize goldOf 0 (within 0 1000) 3 = g3 at *
  have b1 := within_b a1 3 (by decide)
  have b2 := within_b a2 5 (by decide)
  rw [within7_eq a2 5 (by decide) (by decide)]
  simp only [Option.bind_some]
  rw [within7_eq a1 3 (by decide) (by decide)]
  simp only [Option.bind_some]
  have r32 : inRange 1 32 = true := by decide
  have r40 : inRange 0 (List.replicate 40 iN).length = true := by decide
  have e1 : (l.getD (Int.toNat 1) (0, 0, 0, 0, 0, 0, 0, 0, 0, 0, 0)).2.2.2.1 = X := hE1
  have e2 : (l.getD (Int.toNat 1) (0, 0, 0, 0, 0, 0, 0, 0, 0, 0, 0)).2.2.2.2.1 = Y := hE2
  simp only [hll, r32, cond_true, r40]
  rw [e1, e2, wr (x := 1 + within a1 3) (by omega), bk_none]
  have hK : 1 ≤ 1 + within a1 3 ∧ 1 + within a1 3 ≤ 3 := by omega
  generalize 1 + within a1 3 = K at *
  generalize within a2 5 = had at *
  obtain ⟨n, rfl⟩ : ∃ n : Nat, had = n := ⟨had.toNat, by omega⟩
  have hn : n ≤ 4 := by omega
  have I : ∀ k : Nat, k ≤ 4 → ItsOk c (bk (K, 1, X, Y) k) := bk_ok ⟨hK.1, by show K ≤ 4; omega⟩ (.inl ⟨rfl, hcell⟩) rfl
  unfold f5.L1
  refine OK.loop (fun k : Nat => ((n : Int), (k : Int), a0, 0, fl, 0, g0, g1, g2, g3, c, l, bk (K, 1, X, Y) k, ())) (fun k => k ≤ n) (fun k => n - k) (fun rec k hk ih => ?_) 0 rfl (Nat.zero_le _) (by omega)
  dsimp only
  rw [bif_dec]
  by_cases q : k < n
  · have go := ih (k + 1) (by omega) (by omega) _ rfl
    rw [if_pos (by omega), wr (x := 5 + (k : Int)) (by omega), bk_len, inR (by omega), cond_true, show Int.toNat (5 + (k : Int)) = 5 + k by omega, bk_put _ k (by omega), wr (by omega)]
    exact go
  · obtain rfl : k = n := by omega
    have W1 : WI c l (bk (K, 1, X, Y) k) g0 g1 g2 g3 := ⟨hW.hp, I k hn, hW.gold, hW.pos⟩
    have at0 : inI (bk (K, 1, X, Y) k) 1 X Y = 0 := inI_is (k := 0) (bk_len _ _) (by decide) (by rw [bk_get _ _ (by decide), if_pos rfl]) fun j hj => absurd hj (Nat.not_lt_zero _)
    have sl := fun j hj => bk_slot (K, 1, X, Y) k hn j hj lies
    have em : emptyI (bk (K, 1, X, Y) k) 0 = if k < 4 then (k : Int) else -1 := by
      split
      · exact empty_is (b := k) (by omega) (by rw [sl k (by omega), if_neg (by omega)]; decide) fun j hj => by rw [sl j (by omega), if_pos hj]; omega
      · exact empty_no fun j hj => by rw [sl j hj, if_pos (by omega)]; omega
    have g00 : (bk (K, 1, X, Y) k).getD 0 iN = (K, 1, X, Y) := by rw [bk_get _ _ (by decide), if_pos rfl]
    have eD : doP c l (bk (K, 1, X, Y) k) g0 g1 g2 g3 0 5 = (g0, g1, g2, g3, l, if k < 4 then bk (K, 2, 0, (k : Int)) k else bk (K, 1, X, Y) k) := by
      unfold doP
      rw [hh1, if_neg (by decide), if_pos rfl, show Int.toNat 1 = 1 from rfl, hE1, hE2]
      unfold pickP intoI
      rw [at0, if_neg (by decide), show Int.toNat 0 = 0 from rfl, g00, if_neg (by show ¬ K = 4; omega), em]
      by_cases q4 : k < 4
      · rw [if_pos q4, if_pos q4, if_neg (by omega), bk_set]
        rfl
      · rw [if_neg q4, if_neg q4, if_pos (by decide)]
    have W2 := do_ok W1 0 5
    rw [if_neg (by omega), do_eq a0 0 fl 0 c hc.b hc.len W1.hp W1.its W1.gold]
    simp only [Option.bind_some]
    rw [eD] at W2 ⊢
    dsimp only at W2 ⊢
    by_cases q4 : k < 4
    · rw [if_pos q4] at W2
      rw [if_pos q4, beq_eq_false_iff_ne.2 (show (k : Int) ≠ 4 by omega), cond_false]
      have v0 : (bk (K, 2, 0, (k : Int)) k).getD 0 (0, 0, 0, 0) = (K, 2, 0, (k : Int)) := by
        have := bk_get (K, 2, 0, (k : Int)) k (i := 0) (by decide)
        rw [if_pos rfl] at this
        exact this
      have r0 : inRange 0 40 = true := by decide
      have r5 : inRange 5 40 = true := by decide
      simp only [bk_len, r0, cond_true, v0, bne_self_eq_false, cond_false]
      rw [do_eq a0 0 fl 0 c hc.b hc.len W2.hp W2.its W2.gold]
      simp only [Option.bind_some]
      have no1 : inI (bk (K, 2, 0, (k : Int)) k) 1 X Y = -1 := inI_no (bk_len _ _) fun j hj => by
        rw [bk_get _ _ hj]
        split
        · exact fun z => absurd (congrArg Prod.fst z) (by show ¬ (2 : Int) = 1; decide)
        · split
          · exact fun z => absurd (congrArg Prod.fst z) (by show ¬ (2 : Int) = 1; decide)
          · exact fun z => absurd (congrArg Prod.fst z) (by show ¬ (0 : Int) = 1; decide)
      have D8 : doP c l (bk (K, 2, 0, (k : Int)) k) g0 g1 g2 g3 0 8 = (g0, g1, g2, g3, l, dropP (bk (K, 2, 0, (k : Int)) k) 0 X Y) := by
        unfold doP
        rw [hh1, if_neg (by decide), if_neg (by decide), if_neg (by decide), if_neg (by decide), if_pos rfl, show Int.toNat 1 = 1 from rfl, hE1, hE2]
      rw [D8]
      dsimp only
      rw [bif_dec]
      by_cases k0 : k = 0
      · subst k0
        have in0 : inI (bk (K, 2, 0, ((0 : Nat) : Int)) 0) 2 0 ((0 : Nat) : Int) = 0 := inI_is (k := 0) (bk_len _ _) (by decide) (by rw [bk_get _ _ (by decide), if_pos rfl]) fun j hj => absurd hj (Nat.not_lt_zero _)
        have gg : (bk (K, 2, 0, ((0 : Nat) : Int)) 0).getD 0 iN = (K, 2, 0, ((0 : Nat) : Int)) := v0
        have hh0 : hold (bk (K, 2, 0, ((0 : Nat) : Int)) 0) 0 1 3 = 0 := by
          rw [hold_is (b := 0) (by decide) (holdB_yes (k := 0) in0 (by rw [gg]; exact hK.1) (by rw [gg]; exact hK.2)) (fun j hj => absurd hj (Nat.not_lt_zero _)), in0]
        have ed : dropP (bk (K, 2, 0, ((0 : Nat) : Int)) 0) 0 X Y = bk (K, 1, X, Y) 0 := by
          unfold dropP
          rw [hh0, no1, if_pos ⟨by decide, by decide⟩, show Int.toNat 0 = 0 from rfl, gg, bk_set]
          rfl
        have bl := bk_len (K, 1, X, Y) 0
        rw [if_neg (by decide), ed, same_eq _ _ _ _ _ _ _ _ _ _ _ (by omega) (by omega)]
        exact OK.ret rfl
      · have s5 := bk_slot (K, 2, 0, (k : Int)) k hn 0 (by decide) (fun z => by
          have := congrArg (fun z => z.2.2) z
          dsimp only at this
          omega)
        rw [if_pos (by omega)] at s5
        have g5 : (bk (K, 2, 0, (k : Int)) k).getD 5 iN = (1, 2, 0, 0) := by
          rw [bk_get _ _ (by decide), if_neg (by decide), if_pos (by omega)]
          rfl
        have hh5 : hold (bk (K, 2, 0, (k : Int)) k) 0 1 3 = 5 := by
          rw [hold_is (b := 0) (by decide) (holdB_yes (k := 5) s5 (by rw [g5]; decide) (by rw [g5]; decide)) (fun j hj => absurd hj (Nat.not_lt_zero _)), s5]
          rfl
        have ed : dropP (bk (K, 2, 0, (k : Int)) k) 0 X Y = (bk (K, 2, 0, (k : Int)) k).set 5 (1, 1, X, Y) := by
          unfold dropP
          rw [hh5, no1, if_pos ⟨by decide, by decide⟩, show Int.toNat 5 = 5 from rfl, g5]
          rfl
        have gt := set_get (bk_len (K, 2, 0, (k : Int)) k) (n := 5) (by decide) (1, 1, X, Y)
        have u5 : ((bk (K, 2, 0, (k : Int)) k).set 5 (1, 1, X, Y)).getD 5 (0, 0, 0, 0) = (1, 1, X, Y) := by
          have := gt 5
          rw [if_pos rfl] at this
          exact this
        have u0 : ((bk (K, 2, 0, (k : Int)) k).set 5 (1, 1, X, Y)).getD 0 (0, 0, 0, 0) = (K, 2, 0, (k : Int)) := by
          have := gt 0
          rw [if_neg (by decide)] at this
          exact this.trans v0
        rw [if_pos (by omega), ed]
        simp only [List.length_set, bk_len, r0, r5, cond_true, u5, u0, beq_self_eq_true, Bool.and_self]
        exact OK.ret rfl
    · have bl := bk_len (K, 1, X, Y) k
      rw [if_neg q4, beq_iff_eq.2 (show (k : Int) = 4 by omega), cond_true, same_eq _ _ _ _ _ _ _ _ _ _ _ (by omega) (by omega)]
      exact OK.ret rfl
end Go.Proofs.Ytdbfecfcoephoaa.Pure

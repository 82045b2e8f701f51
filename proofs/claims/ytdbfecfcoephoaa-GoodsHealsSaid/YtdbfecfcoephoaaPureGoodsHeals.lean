/- The law GoodsHeals, in plain words (own work). -/
import Derived.Test.YtdbfecfcoephoaaGoodsF
namespace Go.Proofs.Ytdbfecfcoephoaa.Pure
open Go Go.Proofs.Ytdbfecfcoephoaa.Mx Go.Proofs.Ytdbfecfcoephoaa.Pc Go.Proofs.Ytdbfecfcoephoaa.Run Go.Proofs.Ytdbfecfcoephoaa.Field Go.Proofs.Ytdbfecfcoephoaa.Gen Go.Proofs.Ytdbfecfcoephoaa.GenL Go.Proofs.Ytdbfecfcoephoaa.Fl Go.Proofs.Ytdbfecfcoephoaa.Wd Go.Proofs.Ytdbfecfcoephoaa.Gd
set_option linter.unusedVariables false
set_option linter.unusedSimpArgs false
set_option maxHeartbeats 1000000
/-- Potions in the rows from m to n, in the slots of their numbers. -/
def bagI (m n : Nat) : List ItT := (List.range 40).map fun i : Nat => if m ≤ i ∧ i < n then (1, 2, 0, (i : Int)) else iN
theorem bagI_len (m n : Nat) : (bagI m n).length = 40 := by simp [bagI]
theorem bagI_get (m n : Nat) {i : Nat} (hi : i < 40) : (bagI m n).getD i iN = if m ≤ i ∧ i < n then (1, 2, 0, (i : Int)) else iN := by
  unfold bagI
  rw [List.getD_eq_getElem?_getD, List.getElem?_map, List.getElem?_range hi]
  rfl
theorem bagI_none (m : Nat) : bagI m m = List.replicate 40 iN := items_ext (bagI_len _ _) (by simp) fun i hi => by
  rw [bagI_get _ _ hi, rep_get, if_neg (by omega)]
theorem bagI_put (k : Nat) (hk : k < 40) : (bagI 0 k).set k (1, 2, 0, (k : Int)) = bagI 0 (k + 1) := items_ext (by rw [List.length_set]; exact bagI_len _ _) (bagI_len _ _) fun i hi => by
  rw [set_get (bagI_len _ _) hk, bagI_get _ _ hi, bagI_get _ _ hi]
  by_cases z : k = i
  · rw [if_pos z, if_pos (by omega), z]
  · rw [if_neg z]
    by_cases y : 0 ≤ i ∧ i < k
    · rw [if_pos y, if_pos (by omega)]
    · rw [if_neg y, if_neg (by omega)]
theorem bagI_take (m n : Nat) (hm : m < n) (hn : n ≤ 40) : (bagI m n).set m iN = bagI (m + 1) n := items_ext (by rw [List.length_set]; exact bagI_len _ _) (bagI_len _ _) fun i hi => by
  rw [set_get (bagI_len _ _) (by omega), bagI_get _ _ hi, bagI_get _ _ hi]
  by_cases z : m = i
  · rw [if_pos z, if_neg (by omega)]
  · rw [if_neg z]
    by_cases y : m ≤ i ∧ i < n
    · rw [if_pos y, if_pos (by omega)]
    · rw [if_neg y, if_neg (by omega)]
theorem bagI_ok (c : List Int) (m n : Nat) (hn : n ≤ 4) : ItsOk c (bagI m n) := by
  refine ⟨bagI_len _ _, fun i hi => ?_, fun i j hi hj hne he => ?_⟩
  · rw [bagI_get _ _ hi]
    split
    · exact .inr ⟨by show (1 : Int) ≤ 1; decide, by show (1 : Int) ≤ 4; decide, .inr (.inl ⟨rfl, by show (0 : Int) ≤ 0; decide, by show (0 : Int) < 4; decide, by show (0 : Int) ≤ i; omega, by show (i : Int) < 4; omega, by show ¬ (1 : Int) = 4; decide⟩)⟩
    · exact .inl rfl
  · rw [bagI_get _ _ hi] at hne he
    rw [bagI_get _ _ hj] at he
    split at hne
    · rename_i q
      rw [if_pos q] at he
      split at he
      · have := congrArg (fun z => z.2.2) he
        dsimp only at this
        omega
      · exact absurd (congrArg Prod.fst he) (by show ¬ (2 : Int) = 0; decide)
    · exact absurd rfl hne
theorem bagI_slot (m n : Nat) (hn : n ≤ 4) (b : Nat) (hb : b < 4) : inI (bagI m n) 2 0 b = if m ≤ b ∧ b < n then (b : Int) else -1 := by
  split
  · rename_i q
    refine inI_is (bagI_len _ _) (by omega) (by rw [bagI_get _ _ (by omega), if_pos q]) fun j hj => ?_
    rw [bagI_get _ _ (by omega)]
    split
    · intro z
      have := congrArg (fun z => z.2.2) z
      dsimp only at this
      omega
    · exact fun z => absurd (congrArg Prod.fst z) (by show ¬ (0 : Int) = 2; decide)
  · rename_i q
    refine inI_no (bagI_len _ _) fun j hj => ?_
    rw [bagI_get _ _ hj]
    split
    · intro z
      have := congrArg (fun z => z.2.2) z
      dsimp only at this
      omega
    · exact fun z => absurd (congrArg Prod.fst z) (by show ¬ (0 : Int) = 2; decide)
theorem bagI_hold (m n : Nat) (hn : n ≤ 4) : hold (bagI m n) 0 1 1 = if m < n then (m : Int) else -1 := by
  by_cases q : m < n
  · have e := bagI_slot m n hn m (by omega)
    rw [if_pos ⟨Nat.le_refl _, q⟩] at e
    have g := bagI_get m n (i := m) (by omega)
    rw [if_pos ⟨Nat.le_refl _, q⟩] at g
    rw [if_pos q, hold_is (b := m) (by omega) (holdB_yes e (by rw [g]; show (1 : Int) ≤ 1; decide) (by rw [g]; show (1 : Int) ≤ 1; decide)) (fun j hj => holdB_no (by
      rw [bagI_slot m n hn j (by omega), if_neg (by omega)]
      decide)), e]
  · rw [if_neg q, hold_no fun j hj => holdB_no (by
      rw [bagI_slot m n hn j hj, if_neg (by omega)]
      decide)]
theorem GoodsHeals (a0 : Int) (w0 : (Lit.int .i64 a0).wf = true) (a1 : Int) (w1 : (Lit.int .i64 a1).wf = true) (a2 : Int) (w2 : (Lit.int .i64 a2).wf = true) (a3 : Int) (w3 : (Lit.int .i64 a3).wf = true) : f6 a0 a1 a2 a3 = some (true, ()) := by
  refine OK.eq ?_
  unfold f6
  rw [known_eq]
  simp only [Option.bind_some, Bool.not_true, cond_false]
  refine OK.callR (world_is a0 0 0 1 [] (by decide) 0) ?_
  rintro z ⟨its0, rfl, hI, hN⟩
  obtain rfl := hN rfl
  have s0 : within 0 4 = 0 := by decide
  rw [s0] at *
  dsimp only
  have hW := world_wi a0 (1 + within 0 3) 0 1 hI (gold_ok 0 0)
  have hc := cells_ok a0 (1 + within 0 3)
  have hh := plain_hero a0 (1 + within 0 3) 0
  have hcell := hero_cell a0 (1 + within 0 3) 1
  have hll := hW.hp.1
  have hE : heroE a0 (1 + within 0 3) 0 1 = (1, 0, 0, heroAt a0 (1 + within 0 3) 1 % 24, heroAt a0 (1 + within 0 3) 1 / 24, 1 + within 1 20, 20, 5, 1, 0, 0) := rfl
  rw [hE] at hh
  clear hE
  obtain ⟨hh1, hh2⟩ := hh
  rw [rhero_eq _ (by omega), hh1]
  simp only [Option.bind_some]
  generalize cells a0 (1 + within 0 3) = c at *
  generalize entsW a0 (1 + within 0 3) 0 1 = l at *
  generalize heroAt a0 (1 + within 0 3) 1 % 24 = X at *
  generalize heroAt a0 (1 + within 0 3) 1 / 24 = Y at *
  generalize 1 + within 0 3 = fl at *
  generalize goldOf 0 (within 0 1000) 0 = g0 at *
  generalize goldOf 0 (within 0 1000) 1 = g1 at *
  generalize goldOf 0 (within 0 1000) 2 = g2 at *
  generalize goldOf 0 (within 0 1000) 3 = g3 at *
  have bh := within_b a1 20 (by decide)
  have bp := within_b a2 10 (by decide)
  have bm := within_b a3 4 (by decide)
  rw [within7_eq a1 20 (by decide) (by decide)]
  simp only [Option.bind_some]
  rw [within7_eq a2 10 (by decide) (by decide)]
  simp only [Option.bind_some]
  rw [within7_eq a3 4 (by decide) (by decide)]
  simp only [Option.bind_some]
  have gs : ∀ x : EntT, (l.set 1 x).getD 1 (0, 0, 0, 0, 0, 0, 0, 0, 0, 0, 0) = x := fun x => by rw [getD_set, if_pos ⟨rfl, by omega⟩]
  have gd : l.getD 1 (0, 0, 0, 0, 0, 0, 0, 0, 0, 0, 0) = (1, 0, 0, X, Y, 1 + within 1 20, 20, 5, 1, 0, 0) := hh2
  have r32 : inRange 1 32 = true := by decide
  simp only [show Int.toNat 1 = 1 from rfl, List.length_set, hll, r32, cond_true, List.set_set, gs, gd]
  rw [wr (x := 1 + within a1 20) (by omega)]
  generalize hH : 1 + within a1 20 = H at *
  generalize hP : within a2 10 = Pn at *
  -- the potions
  have hl1 : WI c (l.set 1 (1, 0, 0, X, Y, H, 20, 5, 1, Pn, 0)) (List.replicate 40 iN) g0 g1 g2 g3 := by
    have g : ∀ i, (l.set 1 (1, 0, 0, X, Y, H, 20, 5, 1, Pn, 0)).getD i eN = if 1 = i then (1, 0, 0, X, Y, H, 20, 5, 1, Pn, 0) else l.getD i eN := fun i => by
      rw [getD_set]
      by_cases z : 1 = i
      · rw [if_pos ⟨z, by omega⟩, if_pos z]
      · rw [if_neg (fun y => z y.1), if_neg z]
    refine ⟨⟨by rw [List.length_set]; exact hll, fun i hi => ?_⟩, hW.its, hW.gold, fun i hi hk => ?_⟩
    · rw [g]
      split
      · show -1000 ≤ H ∧ H ≤ 1000 ∧ (-1000 : Int) ≤ 20 ∧ (20 : Int) ≤ 1000
        omega
      · exact hW.hp.2 i hi
    · rw [g] at hk ⊢
      split
      · exact hcell
      · rename_i z
        rw [if_neg z] at hk
        exact hW.pos i hi hk
  have hh' : heroE' (l.set 1 (1, 0, 0, X, Y, H, 20, 5, 1, Pn, 0)) 0 = 1 := by
    rw [hero_set (by rw [hh2]; rfl) (by rw [hh2]; rfl)]
    exact hh1
  have ge : (l.set 1 (1, 0, 0, X, Y, H, 20, 5, 1, Pn, 0)).getD 1 eN = (1, 0, 0, X, Y, H, 20, 5, 1, Pn, 0) := gs _
  have hH20 : 1 ≤ H ∧ H ≤ 20 := by omega
  clear hW hI hN gs gd hh1 hh2 hH hP
  generalize (l.set 1 (1, 0, 0, X, Y, H, 20, 5, 1, Pn, 0)) = l1 at *
  generalize hm : within a3 4 = many at *
  obtain ⟨n, rfl⟩ : ∃ n : Nat, many = n := ⟨many.toNat, by omega⟩
  clear hm
  unfold f6.L2
  refine OK.loop (fun k : Nat => ((n : Int), 1, (k : Int), a0, 0, fl, 0, g0, g1, g2, g3, c, l1, bagI 0 k, ())) (fun k => k ≤ n) (fun k => n - k) (fun rec k hk ih => ?_) 0 (by rw [bagI_none]; rfl) (Nat.zero_le _) (by omega)
  dsimp only
  rw [bif_dec]
  by_cases q : k < n
  · have go := ih (k + 1) (by omega) (by omega) _ rfl
    rw [if_pos (by omega), bagI_len, inR (by omega), cond_true, Int.toNat_natCast, bagI_put k (by omega), wr (by omega)]
    exact go
  · obtain rfl : k = n := by omega
    have hl32 := hl1.hp.1
    have ge' : l1.getD (Int.toNat 1) (0, 0, 0, 0, 0, 0, 0, 0, 0, 0, 0) = (1, 0, 0, X, Y, H, 20, 5, 1, Pn, 0) := ge
    rw [if_neg (by omega), hl32, r32, cond_true, ge']
    unfold f6.L1
    refine OK.loop (fun j : Nat × Int × Int × List EntT => (j.2.1, (k : Int), 1, (j.1 : Int), a0, 0, fl, 0, g0, g1, g2, g3, c, j.2.2.2, bagI j.1 k, ())) (fun j => j.1 ≤ k ∧ 1 ≤ j.2.1 ∧ j.2.1 ≤ 20 ∧ WI c j.2.2.2 (bagI j.1 k) g0 g1 g2 g3 ∧ heroE' j.2.2.2 0 = 1 ∧ j.2.2.2.getD 1 eN = (1, 0, 0, X, Y, j.2.1, 20, 5, 1, j.2.2.1, 0)) (fun j => k - j.1) (fun rec j hj ih2 => ?_) (0, H, Pn, l1) rfl ⟨Nat.zero_le _, hH20.1, hH20.2, ⟨hl1.hp, bagI_ok c 0 k (by omega), hl1.gold, hl1.pos⟩, hh', ge⟩ (by dsimp only; omega)
    clear hl1 hh' ge hH20 ge' ih hl32
    obtain ⟨m, hpv, po, l⟩ := j
    obtain ⟨hm, b1, b2, hW, hh, ge⟩ := hj
    dsimp only at hm b1 b2 hW hh ge ih2 ⊢
    have hl32 := hW.hp.1
    rw [decide_eq_true (by omega), cond_true, do_eq a0 0 fl 0 c hc.b hc.len hW.hp hW.its hW.gold]
    simp only [Option.bind_some]
    have hold' := bagI_hold m k (by omega)
    have hk32 : inRange (m : Int) 40 = true := inR (by omega)
    rw [bif_dec]
    by_cases q2 : m < k
    · have eD : doP c l (bagI m k) g0 g1 g2 g3 0 6 = (g0, g1, g2, g3, l.set 1 (1, 0, 0, X, Y, min (hpv + 6) 20, 20, 5, 1, 0, 0), bagI (m + 1) k) := by
        unfold doP useP
        rw [hh, hold', if_pos q2, if_neg (by omega), if_neg (by decide), if_pos rfl, if_neg (by omega), show Int.toNat 1 = 1 from rfl, ge, Int.toNat_natCast, bagI_take m k q2 (by omega)]
        rfl
      have hD := do_ok hW 0 6
      rw [eD] at hD ⊢
      dsimp only at hD ⊢
      have gs : ∀ x : EntT, (l.set 1 x).getD 1 (0, 0, 0, 0, 0, 0, 0, 0, 0, 0, 0) = x := fun x => by rw [getD_set, if_pos ⟨rfl, by omega⟩]
      have gz : (bagI (m + 1) k).getD m (0, 0, 0, 0) = iN := by
        have := bagI_get (m + 1) k (i := m) (by omega)
        rw [if_neg (by omega)] at this
        exact this
      have e6 : minI 20 (IntKind.wrap .i64 (hpv + 6)) = min (hpv + 6) 20 := by
        rw [wr (by omega), minI_eq]; omega
      rw [if_neg (by omega)]
      simp only [List.length_set, hl32, r32, cond_true, show Int.toNat 1 = 1 from rfl, gs, e6, bne_self_eq_false, cond_false, bagI_len, hk32, Int.toNat_natCast, gz]
      rw [wr (x := (m : Int) + 1) (by omega)]
      refine ih2 (m + 1, min (hpv + 6) 20, 0, l.set 1 (1, 0, 0, X, Y, min (hpv + 6) 20, 20, 5, 1, 0, 0)) ⟨by dsimp only; omega, by dsimp only; omega, by dsimp only; omega, hD, ?_, gs _⟩ (by dsimp only; omega) _ rfl
      dsimp only
      rw [hero_set (by rw [ge]; rfl) (by rw [ge]; rfl)]
      exact hh
    · have eD : doP c l (bagI m k) g0 g1 g2 g3 0 6 = (g0, g1, g2, g3, l, bagI m k) := by
        unfold doP useP
        rw [hh, hold', if_neg q2, if_neg (by omega), if_neg (by decide), if_pos rfl, if_pos (by decide)]
      have hbl := bagI_len m k
      rw [eD]
      dsimp only
      rw [if_pos (by omega), same_eq _ _ _ _ _ _ _ _ _ _ _ (by omega) (by omega)]
      exact OK.ret rfl
end Go.Proofs.Ytdbfecfcoephoaa.Pure

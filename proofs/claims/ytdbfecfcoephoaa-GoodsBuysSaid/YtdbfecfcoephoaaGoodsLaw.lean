/- What the laws of chapter 7 share (own work). -/
import Derived.Test.YtdbfecfcoephoaaGoodsW
namespace Go.Proofs.Ytdbfecfcoephoaa.Gd
open Go Go.Proofs.Ytdbfecfcoephoaa.Mx Go.Proofs.Ytdbfecfcoephoaa.Pc Go.Proofs.Ytdbfecfcoephoaa.Run Go.Proofs.Ytdbfecfcoephoaa.Field Go.Proofs.Ytdbfecfcoephoaa.Gen Go.Proofs.Ytdbfecfcoephoaa.GenL Go.Proofs.Ytdbfecfcoephoaa.Fl Go.Proofs.Ytdbfecfcoephoaa.Wd
set_option linter.unusedVariables false
set_option linter.unusedSimpArgs false
set_option maxHeartbeats 1000000
theorem same_eq (a0 a1 a2 a3 a7 a8 a9 a10 : Int) (c : List Int) (l : List EntT) (its : List ItT) (h1 : l.length ≤ 100000) (h2 : its.length ≤ 100000) :
    f15 a0 a1 a2 a3 c l its a7 a8 a9 a10 a0 a1 a2 a3 c l its a7 a8 a9 a10 = some (true, ()) := by
  have items : f15.L1 (0, a0, a1, a2, a3, c, l, its, a7, a8, a9, a10, a0, a1, a2, a3, c, l, its, a7, a8, a9, a10, ()) = some (true, ()) := by
    refine OK.eq ?_
    unfold f15.L1
    refine OK.loop (fun i : Nat => ((i : Int), a0, a1, a2, a3, c, l, its, a7, a8, a9, a10, a0, a1, a2, a3, c, l, its, a7, a8, a9, a10, ())) (fun i => i ≤ its.length) (fun i => its.length - i) (fun rec i hi ih => ?_) 0 rfl (Nat.zero_le _) (by omega)
    dsimp only
    rw [bif_dec]
    by_cases q : (i : Int) < its.length
    · rw [if_pos q, inR (by omega), cond_true, cond_true, wr (by omega)]
      simp only [beq_self_eq_true, Bool.and_self, Bool.not_true, cond_false]
      exact ih (i + 1) (by omega) (by omega) _ rfl
    · rw [if_neg q]
      exact OK.ret rfl
  refine OK.eq ?_
  unfold f15 f15.L2
  simp only [beq_self_eq_true, Bool.not_true, cond_false, bne_self_eq_false, Bool.and_self]
  refine OK.loop (fun i : Nat => ((i : Int), a0, a1, a2, a3, c, l, its, a7, a8, a9, a10, a0, a1, a2, a3, c, l, its, a7, a8, a9, a10, ())) (fun i => i ≤ l.length) (fun i => l.length - i) (fun rec i hi ih => ?_) 0 rfl (Nat.zero_le _) (by omega)
  dsimp only
  rw [bif_dec]
  by_cases q : (i : Int) < l.length
  · rw [if_pos q, inR (by omega), cond_true, cond_true, wr (by omega)]
    simp only [beq_self_eq_true, Bool.and_self, Bool.not_true, cond_false]
    exact ih (i + 1) (by omega) (by omega) _ rfl
  · rw [if_neg q, items]
    exact OK.ret rfl
theorem gwalk_eq (v : Int) : f58 v = some (walkable v, ()) := by
  unfold f58 walkable
  by_cases h : v ≥ 1
  · rw [decide_eq_true h, cond_true]
    have : decide (v ≤ 5) = decide (1 ≤ v ∧ v ≤ 5) := decide_eq_decide.2 ⟨fun x => ⟨h, x⟩, fun x => x.2⟩
    rw [this]
  · rw [decide_eq_false h, cond_false, decide_eq_false (fun x => h x.1)]
/-- Cells of a floor. -/
structure COk (c : List Int) : Prop where
  len : c.length = 384
  b : CB c
  v : ∀ i, c.getD i 0 ≤ 5
section
variable (a0 a1 a2 a3 : Int) (c : List Int) (a7 a8 a9 a10 : Int)
theorem may_ok (hc : COk c) (l : List EntT) (its : List ItT) (x : ItT) (hk : 1 ≤ x.1 ∧ x.1 ≤ 4) (h : Placed c x) :
    f38 a0 a1 a2 a3 c l its a7 a8 a9 a10 x.1 x.2.1 x.2.2.1 x.2.2.2 = some (true, ()) := by
  unfold f38
  rw [decide_eq_true (show x.1 ≥ 1 from hk.1), cond_true]
  simp only [Option.bind_some, Sum.elim_inl]
  rcases h with ⟨h1, h2, h3, h4, h5, h6⟩ | ⟨h1, h2, h3, h4, h5, h6⟩ | ⟨h1, h2, h3, h4⟩ | ⟨h1, h2, h3, h4, h5⟩
  · have hin : InG x.2.2.1 x.2.2.2 := ⟨h2, h3, h4, h5⟩
    have hw : walkable (atC c x.2.2.1 x.2.2.2) = true := by
      unfold atC
      rw [if_pos hin]
      have b := hc.b (cel x.2.2.1 x.2.2.2).toNat
      have b5 := hc.v (cel x.2.2.1 x.2.2.2).toNat
      have h6' : c.getD (cel x.2.2.1 x.2.2.2).toNat 0 ≠ 0 := h6
      show walkable (c.getD (cel x.2.2.1 x.2.2.2).toNat 0) = true
      unfold walkable
      rw [decide_eq_true_eq]
      omega
    rw [beq_iff_eq.2 h1, cond_true, gat_eq c hc.b hc.len]
    simp only [Option.bind_some]
    rw [gwalk_eq, hw]
    by_cases k3 : x.1 ≤ 3
    · rw [decide_eq_true k3]
      rfl
    · rw [decide_eq_false k3, cond_false, beq_iff_eq.2 (show x.1 = 4 by omega)]
      rfl
  · have k3 : x.1 ≤ 3 := by omega
    rw [beq_eq_false_iff_ne.2 (show x.2.1 ≠ 1 by omega), cond_false, beq_eq_false_iff_ne.2 (show x.2.1 ≠ 4 by omega), cond_false, beq_iff_eq.2 h1, cond_true, decide_eq_true k3, cond_true, decide_eq_true (show x.2.2.2 ≥ 0 from h4), cond_true, decide_eq_true h5]
    simp only [Option.bind_some, Sum.elim_inl, cond_true]
    rw [decide_eq_true (show x.2.2.1 ≥ 0 from h2), cond_true, decide_eq_true h3, cond_true, h1]
    rfl
  · have k3 : x.1 ≤ 3 := by omega
    have e : IntKind.wrap .i64 (2 + x.2.2.2) = 2 + x.2.2.2 := wr (by omega)
    rw [beq_eq_false_iff_ne.2 (show x.2.1 ≠ 1 by omega), cond_false, beq_eq_false_iff_ne.2 (show x.2.1 ≠ 4 by omega), cond_false, beq_eq_false_iff_ne.2 (show x.2.1 ≠ 2 by omega), cond_false, beq_iff_eq.2 h1, cond_true, decide_eq_true k3]
    simp only [Option.bind_some, Sum.elim_inl, cond_true]
    rw [decide_eq_true (show x.2.2.1 ≥ 0 from h2), cond_true, decide_eq_true h3, cond_true, beq_eq_false_iff_ne.2 (show x.2.1 ≠ 2 by omega), cond_false, e, beq_iff_eq.2 (show x.1 = 2 + x.2.2.2 by omega), cond_true, decide_eq_true (show x.2.2.2 ≥ 0 by omega)]
  · have k3 : x.1 ≤ 3 := by omega
    rw [beq_eq_false_iff_ne.2 (show x.2.1 ≠ 1 by omega), cond_false, beq_iff_eq.2 h1, cond_true, decide_eq_true k3, cond_true, decide_eq_true (show x.2.2.1 ≥ 0 from h2), cond_true, decide_eq_true h3, cond_true, h4]
    rfl
theorem check_ok (hc : COk c) (l : List EntT) {its : List ItT} (h : ItsOk c its) : f18 a0 a1 a2 a3 c l its a7 a8 a9 a10 = some (true, ()) := by
  have hl := h.len
  unfold f18 chkF
  rw [if_pos (show its.length = 40 from hl)]
  refine Option.map_eq_some_iff.2 ⟨true, ?_, rfl⟩
  have main : ∀ (l2 : List ItT) (i : Nat) (ks : List It4), its.drop i = l2 → (∀ k ∈ ks, ∃ j, j < i ∧ its.getD j iN ≠ iN ∧ k = (0, (its.getD j iN).2)) →
      chkGo (fun y => f37 y.1 y.2.1 y.2.2.1 y.2.2.2) (fun y => f38 a0 a1 a2 a3 c l its a7 a8 a9 a10 y.1 y.2.1 y.2.2.1 y.2.2.2) l2 ks = some true := by
    intro l2
    induction l2 with
    | nil => intro i ks _ _; rfl
    | cons y l2 ih =>
      intro i ks hd hks
      have hi : i < 40 := by
        have := congrArg List.length hd
        simp only [List.length_drop, List.length_cons] at this
        omega
      have hy : its.getD i iN = y := by
        have := congrArg (fun l => l[0]?) hd
        simp only [List.getElem?_drop, Nat.add_zero, List.getElem?_cons_zero] at this
        rw [List.getD_eq_getElem?_getD, this]
        rfl
      have hd' : its.drop (i + 1) = l2 := by rw [← List.drop_drop, hd]; rfl
      rw [chkGo]
      by_cases z : y = (0, 0, 0, 0)
      · rw [if_pos z]
        refine ih (i + 1) ks hd' fun k hk => ?_
        obtain ⟨j, q1, q2⟩ := hks k hk
        exact ⟨j, by omega, q2⟩
      · rw [if_neg z]
        rcases h.kind i hi with q | ⟨k1, k4, hP⟩
        · exact absurd (hy.symm.trans q) z
        · rw [hy] at k1 k4 hP
          have ep : f37 y.1 y.2.1 y.2.2.1 y.2.2.2 = some (0, y.2.1, y.2.2.1, y.2.2.2, ()) := rfl
          rw [ep, may_ok a0 a1 a2 a3 c a7 a8 a9 a10 hc l its y ⟨k1, k4⟩ hP]
          have er : rk (0, y.2.1, y.2.2.1, y.2.2.2, ()) = (0, y.2) := rfl
          have ni : ¬ rk (0, y.2.1, y.2.2.1, y.2.2.2, ()) ∈ ks := fun hm => by
            obtain ⟨j, q1, q2, q3⟩ := hks _ hm
            rw [er] at q3
            have e2 : (its.getD j iN).2 = (its.getD i iN).2 := by
              rw [hy]
              exact (congrArg Prod.snd q3).symm
            have := h.one j i (by omega) hi q2 e2
            omega
          simp only [ni, if_false, if_true]
          refine ih (i + 1) _ hd' fun k hk => ?_
          rcases List.mem_append.1 hk with hk | hk
          · obtain ⟨j, q1, q2⟩ := hks k hk
            exact ⟨j, by omega, q2⟩
          · rw [List.mem_singleton.1 hk, er]
            exact ⟨i, by omega, by rw [hy]; exact z, by rw [hy]⟩
  exact main its 0 [] rfl (fun k hk => by cases hk)
end
theorem cells_ok (s fl : Int) : COk (cells s fl) := ⟨cells_len s fl, cells_cb s fl, fun i => (cells_val s fl i).2⟩
theorem entsW_get (s fl seat at' : Int) (i : Nat) (hi : i < 32) : (entsW s fl seat at').getD i eN = if (within at' 32).toNat = i then heroE s fl seat at' else eN := by
  have b := within_b at' 32 (by decide)
  unfold entsW
  rw [getD_set]
  have r : (List.replicate 32 eN).getD i eN = eN := by
    rw [List.getD_eq_getElem?_getD, List.getElem?_replicate]
    split <;> rfl
  rw [r]
  by_cases z : (within at' 32).toNat = i
  · rw [if_pos ⟨z, by rw [List.length_replicate]; omega⟩, if_pos z]
  · rw [if_neg (fun y => z y.1), if_neg z]
theorem entsW_len (s fl seat at' : Int) : (entsW s fl seat at').length = 32 := by unfold entsW; rw [List.length_set, List.length_replicate]
theorem hero_row (s fl seat at' : Int) : heroE' (entsW s fl seat at') seat = within at' 32 := by
  have b := within_b at' 32 (by decide)
  have hl := entsW_len s fl seat at'
  unfold heroE'
  rw [hl]
  have h : ¬ oI ((List.range 32).find? fun i => isHero seat ((entsW s fl seat at').getD i eN)) < 0 := fun z => by
    have := find_neg.1 z (within at' 32).toNat (by omega)
    rw [entsW_get s fl seat at' _ (by omega), if_pos rfl] at this
    unfold isHero at this
    simp [heroE, kd, st] at this
  obtain ⟨k, hk, e, hp', _⟩ := find_pos h
  rw [e]
  rw [entsW_get s fl seat at' _ hk] at hp'
  split at hp'
  · omega
  · cases hp'
theorem hero_cell (s fl at' : Int) : 0 ≤ heroAt s fl at' % 24 ∧ heroAt s fl at' % 24 < 24 ∧ 0 ≤ heroAt s fl at' / 24 ∧ heroAt s fl at' / 24 < 16 ∧ (cells s fl).getD (heroAt s fl at' / 24 * 24 + heroAt s fl at' % 24).toNat 0 ≠ 0 := by
  have h := heroAt_gc s fl at'
  have h1 := h.1
  have h2 := h.2
  unfold GC at h1
  rw [wk_iff (cells_val s fl _)] at h2
  refine ⟨by omega, by omega, by omega, by omega, ?_⟩
  rw [show heroAt s fl at' / 24 * 24 + heroAt s fl at' % 24 = heroAt s fl at' by omega]
  exact h2
theorem gold_ok (seat g : Int) : GOk (goldOf seat (within g 1000) 0) (goldOf seat (within g 1000) 1) (goldOf seat (within g 1000) 2) (goldOf seat (within g 1000) 3) := by
  have b := within_b g 1000 (by decide)
  unfold GOk goldOf
  refine ⟨?_, ?_, ?_, ?_⟩ <;> split <;> omega
theorem world_wi (s fl seat at' : Int) {its : List ItT} (hI : ItsOk (cells s fl) its) {g0 g1 g2 g3 : Int} (hg : GOk g0 g1 g2 g3) : WI (cells s fl) (entsW s fl seat at') its g0 g1 g2 g3 := by
  have b20 := within_b at' 20 (by decide)
  refine ⟨⟨entsW_len _ _ _ _, fun i hi => ?_⟩, hI, hg, fun i hi hk => ?_⟩
  · rw [entsW_get _ _ _ _ _ hi]
    split
    · show -1000 ≤ 1 + within at' 20 ∧ 1 + within at' 20 ≤ 1000 ∧ (-1000 : Int) ≤ 20 ∧ (20 : Int) ≤ 1000
      omega
    · decide
  · rw [entsW_get _ _ _ _ _ hi] at hk ⊢
    split
    · exact hero_cell s fl at'
    · rename_i z
      rw [if_neg z] at hk
      exact absurd hk (by decide)
theorem one_item {c : List Int} {x : ItT} (hk : 1 ≤ x.1 ∧ x.1 ≤ 4) (hP : Placed c x) (n : Nat) (hn : n < 40) : ItsOk c ((List.replicate 40 iN).set n x) := by
  have g : ∀ i, (List.replicate 40 iN).getD i iN = iN := fun i => by
    rw [List.getD_eq_getElem?_getD, List.getElem?_replicate]
    split <;> rfl
  refine (ItsOk.none c).put hn hk hP fun i hi _ => ?_
  rw [g]
  intro z
  have := hP.wh
  rw [← z] at this
  exact absurd this.1 (by decide)
theorem known_eq : f10 = some (true, ()) := by
  unfold f10
  obtain ⟨z, e, rfl⟩ := world_one 1 1 0 1 0
  rw [e]
  clear e
  have es : within 0 4 = 0 := rfl
  simp only [Option.bind_some]
  have hcell := hero_cell 1 (1 + within 1 3) 1
  have hI : ItsOk (cells 1 (1 + within 1 3)) ((List.replicate 40 iN).set 0 (1, 1, heroAt 1 (1 + within 1 3) 1 % 24, heroAt 1 (1 + within 1 3) 1 / 24)) := one_item ⟨by decide, by decide⟩ (.inl ⟨rfl, hcell⟩) 0 (by decide)
  have hg := gold_ok (within 0 4) 0
  have hW := world_wi 1 (1 + within 1 3) (within 0 4) 1 hI hg
  have hc := cells_ok 1 (1 + within 1 3)
  rw [do_eq _ _ _ _ _ hc.b hc.len hW.hp hW.its hW.gold]
  simp only [Option.bind_some]
  rw [check_ok _ _ _ _ _ _ _ _ _ hc _ hI]
  simp only [Option.bind_some, cond_true]
  have hr := hero_row 1 (1 + within 1 3) (within 0 4) 1
  rw [es] at hr ⊢
  have w32 : within 1 32 = 1 := by decide
  rw [w32] at hr
  have e1 : (entsW 1 (1 + within 1 3) 0 1).getD (Int.toNat 1) eN = heroE 1 (1 + within 1 3) 0 1 := by
    rw [entsW_get _ _ _ _ _ (by decide), w32, if_pos rfl]
  have hx : ex (heroE 1 (1 + within 1 3) 0 1) = heroAt 1 (1 + within 1 3) 1 % 24 := rfl
  have hy : ey (heroE 1 (1 + within 1 3) 0 1) = heroAt 1 (1 + within 1 3) 1 / 24 := rfl
  unfold doP
  rw [hr, if_neg (by omega), if_pos rfl, e1, hx, hy]
  generalize heroAt 1 (1 + within 1 3) 1 % 24 = X at *
  generalize heroAt 1 (1 + within 1 3) 1 / 24 = Y at *
  have g : ∀ i, ((List.replicate 40 iN).set 0 (1, 1, X, Y)).getD i iN = if i = 0 then (1, 1, X, Y) else iN := fun i => by
    have r : (List.replicate 40 iN).getD i iN = iN := by
      rw [List.getD_eq_getElem?_getD, List.getElem?_replicate]
      split <;> rfl
    rw [getD_set, r]
    by_cases z : i = 0
    · rw [if_pos ⟨z.symm, by decide⟩, if_pos z]
    · rw [if_neg (fun y => z y.1.symm), if_neg z]
  have i0 : inI ((List.replicate 40 iN).set 0 (1, 1, X, Y)) 1 X Y = 0 := by
    have : ¬ inI ((List.replicate 40 iN).set 0 (1, 1, X, Y)) 1 X Y < 0 := fun z => by
      have := inI_none.1 z 0 (by simp)
      rw [g, if_pos rfl] at this
      simp [isAt] at this
    obtain ⟨k, _, ek, hk, _⟩ := inI_some this
    rw [g] at hk
    split at hk
    · rename_i z; rw [ek, z]; rfl
    · cases hk
  have em : emptyI ((List.replicate 40 iN).set 0 (1, 1, X, Y)) 0 = 0 := by
    have hfree : ∀ b : Nat, inI ((List.replicate 40 iN).set 0 (1, 1, X, Y)) 2 0 b < 0 := fun b => inI_none.2 fun i _ => by
      rw [g]
      split <;> rfl
    have : ¬ emptyI ((List.replicate 40 iN).set 0 (1, 1, X, Y)) 0 < 0 := fun z => by
      have := of_decide_eq_false (find_neg.1 z 0 (by decide))
      exact this (hfree 0)
    obtain ⟨k, _, ek, _, hmin⟩ := find_pos this
    have ek : emptyI ((List.replicate 40 iN).set 0 (1, 1, X, Y)) 0 = k := ek
    rw [ek]
    rcases Nat.eq_zero_or_pos k with z | z
    · rw [z]; rfl
    · exact absurd (hfree 0) (of_decide_eq_false (hmin 0 z))
  unfold pickP intoI
  rw [i0, if_neg (by decide)]
  have g0 : ((List.replicate 40 iN).set 0 (1, 1, X, Y)).getD (Int.toNat 0) iN = (1, 1, X, Y) := by
    rw [g]; rfl
  rw [g0, if_neg (by show ¬ (1 : Int) = 4; decide), em, if_neg (by decide)]
  rfl
end Go.Proofs.Ytdbfecfcoephoaa.Gd

/- The law GoodsPlaces, in plain words (own work). -/
import Derived.Test.YtdbfecfcoephoaaGoodsF
namespace Go.Proofs.Ytdbfecfcoephoaa.Pure
open Go Go.Proofs.Ytdbfecfcoephoaa.Mx Go.Proofs.Ytdbfecfcoephoaa.Pc Go.Proofs.Ytdbfecfcoephoaa.Run Go.Proofs.Ytdbfecfcoephoaa.Field Go.Proofs.Ytdbfecfcoephoaa.Gen Go.Proofs.Ytdbfecfcoephoaa.GenL Go.Proofs.Ytdbfecfcoephoaa.Fl Go.Proofs.Ytdbfecfcoephoaa.Wd Go.Proofs.Ytdbfecfcoephoaa.Gd
set_option linter.unusedVariables false
set_option linter.unusedSimpArgs false
set_option maxHeartbeats 1000000
def sweep1 (s : Int) (x : ItT) : ItT := if (x.2.1 = 2 ∨ x.2.1 = 3) ∧ x.2.2.1 = s then iN else x
def sweep (its : List ItT) (s : Int) : List ItT := its.map (sweep1 s)
theorem sweep_len (its : List ItT) (s : Int) : (sweep its s).length = its.length := by simp [sweep]
theorem sweep_get (its : List ItT) (s : Int) (i : Nat) : (sweep its s).getD i iN = sweep1 s (its.getD i iN) := by
  unfold sweep
  simp only [List.getD_eq_getElem?_getD, List.getElem?_map]
  cases its[i]? with
  | some x => rfl
  | none =>
    show iN = sweep1 s iN
    unfold sweep1; split <;> rfl
theorem sweep_items {c : List Int} {its : List ItT} (h : ItsOk c its) (s : Int) : ItsOk c (sweep its s) := by
  have hl := h.len
  refine ⟨by rw [sweep_len]; exact hl, fun i hi => ?_, fun i j hi hj hne he => ?_⟩
  · rw [sweep_get]
    unfold sweep1
    split
    · exact .inl rfl
    · exact h.kind i hi
  · rw [sweep_get] at hne he
    rw [sweep_get] at he
    unfold sweep1 at hne he
    split at hne
    · exact absurd rfl hne
    · rename_i q
      rw [if_neg q] at he
      split at he
      · rcases h.kind i hi with z | z
        · exact absurd z hne
        · have := z.2.2.wh
          rw [he] at this
          exact absurd this.1 (by decide)
      · exact h.one i j hi hj hne he
def swp (its : List ItT) (s : Int) (i : Nat) : List ItT := (its.take i).map (sweep1 s) ++ its.drop i
theorem swp_get (its : List ItT) (s : Int) (i : Nat) (hi : i ≤ its.length) (j : Nat) : (swp its s i).getD j iN = if j < i then sweep1 s (its.getD j iN) else its.getD j iN := by
  unfold swp
  have hl : ((its.take i).map (sweep1 s)).length = i := by rw [List.length_map, List.length_take]; omega
  by_cases h : j < i
  · rw [if_pos h, List.getD_eq_getElem?_getD, List.getElem?_append_left (by omega), List.getElem?_map, List.getElem?_take_of_lt h, List.getD_eq_getElem?_getD, List.getElem?_eq_getElem (by omega)]
    rfl
  · rw [if_neg h, List.getD_eq_getElem?_getD, List.getElem?_append_right (by omega), hl, List.getElem?_drop, List.getD_eq_getElem?_getD]
    congr 2
    omega
theorem swp_len (its : List ItT) (s : Int) (i : Nat) (hi : i ≤ its.length) : (swp its s i).length = its.length := by
  unfold swp
  rw [List.length_append, List.length_map, List.length_take, List.length_drop]
  omega
theorem list_ext' {A : Type} {x y : List A} (d : A) (hl : x.length = y.length) (h : ∀ i, i < x.length → x.getD i d = y.getD i d) : x = y := by
  apply List.ext_getElem hl
  intro i a b
  have := h i a
  rw [List.getD_eq_getElem?_getD, List.getD_eq_getElem?_getD, List.getElem?_eq_getElem a, List.getElem?_eq_getElem b] at this
  exact this
theorem swp_step (its : List ItT) (s : Int) (i : Nat) (hi : i < its.length) : swp its s (i + 1) = (swp its s i).set i (sweep1 s (its.getD i iN)) := by
  refine list_ext' iN (by rw [List.length_set, swp_len _ _ _ (by omega), swp_len _ _ _ (by omega)]) fun j hj => ?_
  rw [swp_len _ _ _ (by omega)] at hj
  rw [swp_get _ _ _ (by omega), getD_set, swp_len _ _ _ (by omega), swp_get _ _ _ (by omega)]
  by_cases e : i = j
  · subst e
    rw [if_pos (by omega), if_pos ⟨rfl, hi⟩]
  · rw [if_neg (show ¬ (i = j ∧ i < its.length) from fun z => e z.1)]
    by_cases e2 : j < i
    · rw [if_pos e2, if_pos (by omega)]
    · rw [if_neg e2, if_neg (by omega)]
theorem swp_keep (its : List ItT) (s : Int) (i : Nat) (hi : i < its.length) (h : sweep1 s (its.getD i iN) = its.getD i iN) : swp its s (i + 1) = swp its s i := by
  refine list_ext' iN (by rw [swp_len _ _ _ (by omega), swp_len _ _ _ (by omega)]) fun j hj => ?_
  rw [swp_len _ _ _ (by omega)] at hj
  rw [swp_get _ _ _ (by omega), swp_get _ _ _ (by omega)]
  by_cases e : i = j
  · subst e
    rw [if_pos (by omega), if_neg (by omega), h]
  · by_cases e2 : j < i
    · rw [if_pos e2, if_pos (by omega)]
    · rw [if_neg e2, if_neg (by omega)]
theorem swp_all (its : List ItT) (s : Int) : swp its s its.length = sweep its s := by unfold swp sweep; simp
section
variable (a0 a1 a2 a3 : Int) (c : List Int) (a7 a8 a9 a10 : Int)
theorem sweep_eq {l : List EntT} {its : List ItT} (hc : c.length ≤ 1000) (hl : l.length ≤ 1000) (hi : its.length ≤ 1000) (s : Int) : f21 a0 a1 a2 a3 c l its a7 a8 a9 a10 s = some (a0, a1, a2, a3, a7, a8, a9, a10, c, l, sweep its s, ()) := by
  refine OK.eq ?_
  unfold f21 f21.L1
  rw [gtwin_eq a0 a1 a2 a3 c a7 a8 a9 a10 hc hl hi]
  simp only [Option.bind_some]
  refine OK.loop (fun i : Nat => (s, (its.length : Int), (i : Int), a0, a1, a2, a3, a7, a8, a9, a10, 0, 0, 0, 0, 0, 0, 0, 0, swp its s i, c, l, ())) (fun i => i ≤ its.length) (fun i => its.length - i) (fun rec i hi' ih => ?_) 0 (by unfold swp; simp) (Nat.zero_le _) (by omega)
  dsimp only
  rw [bif_dec, swp_len _ _ _ hi']
  by_cases q : i < its.length
  · have go := ih (i + 1) (by omega) (by omega) _ rfl
    have hg := swp_get its s i (by omega) i
    rw [if_neg (by omega)] at hg
    have es := swp_step its s i q
    have ek := swp_keep its s i q
    have hg' : (swp its s i).getD i (0, 0, 0, 0) = its.getD i iN := hg
    rw [if_pos (by omega), inR (by omega), wr (by omega)]
    simp only [cond_true, Int.toNat_natCast]
    rw [hg']
    unfold sweep1 at es ek
    by_cases h2 : (its.getD i iN).2.1 = 2
    · rw [beq_iff_eq.2 h2, cond_true]
      by_cases h3 : (its.getD i iN).2.2.1 = s
      · rw [beq_iff_eq.2 h3, cond_true]
        rw [if_pos ⟨.inl h2, h3⟩] at es
        rw [es] at go
        exact go
      · rw [beq_eq_false_iff_ne.2 h3, cond_false]
        rw [ek (if_neg (fun z => h3 z.2))] at go
        exact go
    · rw [beq_eq_false_iff_ne.2 h2, cond_false]
      by_cases h4 : (its.getD i iN).2.1 = 3
      · rw [beq_iff_eq.2 h4, cond_true]
        by_cases h3 : (its.getD i iN).2.2.1 = s
        · rw [beq_iff_eq.2 h3, cond_true]
          rw [if_pos ⟨.inr h4, h3⟩] at es
          rw [es] at go
          exact go
        · rw [beq_eq_false_iff_ne.2 h3, cond_false]
          rw [ek (if_neg (fun z => h3 z.2))] at go
          exact go
      · rw [beq_eq_false_iff_ne.2 h4, cond_false]
        rw [ek (if_neg (fun z => z.1.elim h2 h4))] at go
        exact go
  · have : i = its.length := by omega
    subst this
    rw [if_neg (by omega), swp_all]
    exact OK.ret rfl
end
/-- What a hero does changes two rows at the most; what is changed is of its kind still, or gone. -/
def Near (a b : List ItT) : Prop := ∃ p q : Nat, (∀ k, k < 40 → k ≠ p → k ≠ q → b.getD k iN = a.getD k iN) ∧ ∀ k, k < 40 → (b.getD k iN).1 = (a.getD k iN).1 ∨ b.getD k iN = iN
theorem near_refl (a : List ItT) : Near a a := ⟨0, 0, fun _ _ _ _ => rfl, fun _ _ => .inl rfl⟩
theorem near_set {a : List ItT} (hl : a.length = 40) (n : Nat) {x : ItT} (hx : x.1 = (a.getD n iN).1 ∨ x = iN) : Near a (a.set n x) := by
  by_cases hn : n < 40
  · refine ⟨n, n, fun k hk h1 _ => ?_, fun k hk => ?_⟩
    · rw [set_get hl hn, if_neg (fun z => h1 z.symm)]
    · rw [set_get hl hn]
      split
      · rename_i z
        rw [← z]
        exact hx
      · exact .inl rfl
  · rw [List.set_eq_of_length_le (by omega)]
    exact near_refl a
theorem near_into {a : List ItT} (hl : a.length = 40) (s n : Int) : Near a (intoI a s n) := by
  unfold intoI
  split
  · exact near_refl a
  · exact near_set hl _ (.inl rfl)
theorem near_wear {a : List ItT} (hl : a.length = 40) (s : Int) : Near a (wearP a s) := by
  unfold wearP
  split
  · exact near_refl a
  · have hb := hold_b (its := a) (s := s) (lo := 2) (hi := 3)
    generalize hold a s 2 3 = n at *
    have hn : n.toNat < 40 := by omega
    unfold wear1
    have ob := inI_b a 3 s ((a.getD n.toNat iN).1 - 2)
    generalize inI a 3 s ((a.getD n.toNat iN).1 - 2) = o at *
    split
    · exact near_set hl _ (.inl rfl)
    · have ho : o.toNat < 40 := by omega
      have gt := set_get hl ho ((a.getD o.toNat iN).1, 2, (a.getD o.toNat iN).2.2.1, (a.getD n.toNat iN).2.2.2)
      have hl2 : (a.set o.toNat ((a.getD o.toNat iN).1, 2, (a.getD o.toNat iN).2.2.1, (a.getD n.toNat iN).2.2.2)).length = 40 := by rw [List.length_set]; exact hl
      have kk : ∀ k, ((a.set o.toNat ((a.getD o.toNat iN).1, 2, (a.getD o.toNat iN).2.2.1, (a.getD n.toNat iN).2.2.2)).getD k iN).1 = (a.getD k iN).1 := fun k => by
        rw [gt]
        split
        · rename_i z; rw [z]
        · rfl
      generalize (a.set o.toNat ((a.getD o.toNat iN).1, 2, (a.getD o.toNat iN).2.2.1, (a.getD n.toNat iN).2.2.2)) = a1 at *
      refine ⟨n.toNat, o.toNat, fun k hk h1 h2 => ?_, fun k hk => .inl ?_⟩
      · rw [set_get hl2 hn, if_neg (fun z => h1 z.symm), gt, if_neg (fun z => h2 z.symm)]
      · rw [set_get hl2 hn]
        split
        · rename_i z
          rw [← z]
          exact kk _
        · exact kk k
theorem near_do {c : List Int} {l : List EntT} {its : List ItT} {g0 g1 g2 g3 : Int} (hl : its.length = 40) (s inp : Int) : Near its (doP c l its g0 g1 g2 g3 s inp).2.2.2.2.2 := by
  unfold doP
  split
  · exact near_refl its
  split
  · unfold pickP
    dsimp only
    split
    · exact near_refl its
    split
    · exact near_set hl _ (.inr rfl)
    · exact near_into hl _ _
  split
  · unfold useP
    split
    · exact near_refl its
    · exact near_set hl _ (.inr rfl)
  split
  · exact near_wear hl s
  split
  · unfold dropP
    dsimp only
    split
    · exact near_set hl _ (.inl rfl)
    · exact near_refl its
  split
  · unfold buyP
    dsimp only
    split
    · exact near_refl its
    · exact near_into hl _ _
  · exact near_refl its
theorem eq4 (a b : ItT) : (a.1 == b.1 && (a.2.1 == b.2.1 && (a.2.2.1 == b.2.2.1 && (a.2.2.2 == b.2.2.2 && true)))) = decide (a = b) := by
  obtain ⟨a1, a2, a3, a4⟩ := a
  obtain ⟨b1, b2, b3, b4⟩ := b
  rw [Bool.eq_iff_iff]
  simp [Prod.mk.injEq]
theorem GoodsPlaces (a0 : Int) (w0 : (Lit.int .i64 a0).wf = true) (a1 : Int) (w1 : (Lit.int .i64 a1).wf = true) (a2 : Int) (w2 : (Lit.int .i64 a2).wf = true) (a3 : Int) (w3 : (Lit.int .i64 a3).wf = true) (a4 : List (Int × Int × Int × Int)) (w4 : Ty.good (.row (.prod (.int .i64) (.prod (.int .i64) (.prod (.int .i64) (.int .i64))))) a4) (z4 : a4.length * 32 ≤ 140737488351232) (a5 : Int) (w5 : (Lit.int .i64 a5).wf = true) (a6 : List Int) (w6 : Ty.good (.row (.int .i64)) a6) (z6 : a6.length * 8 ≤ 140737488351232) : f8 a0 a1 a2 a3 a4 a5 a6 = some (true, ()) := by
  refine OK.eq ?_
  unfold f8
  rw [known_eq]
  simp only [Option.bind_some, Bool.not_true, cond_false]
  refine OK.callR (world_is a0 a1 a2 a3 a4 (by omega) a5) ?_
  rintro z ⟨its0, rfl, hI, _⟩
  dsimp only
  have hW := world_wi a0 (1 + within a1 3) (within a2 4) a3 hI (gold_ok (within a2 4) a5)
  have hc := cells_ok a0 (1 + within a1 3)
  have bs := within_b a2 4 (by decide)
  generalize cells a0 (1 + within a1 3) = c at *
  generalize entsW a0 (1 + within a1 3) (within a2 4) a3 = l0 at *
  generalize 1 + within a1 3 = fl at *
  rw [check_ok a0 0 fl 0 c _ _ _ _ hc l0 hI]
  simp only [Option.bind_some, Bool.not_true, cond_false]
  rw [within7_eq a2 4 (by decide) (by decide)]
  simp only [Option.bind_some]
  generalize within a2 4 = sx at *
  generalize goldOf sx (within a5 1000) 0 = g0 at *
  generalize goldOf sx (within a5 1000) 1 = g1 at *
  generalize goldOf sx (within a5 1000) 2 = g2 at *
  generalize goldOf sx (within a5 1000) 3 = g3 at *
  have is : inRange sx 4 = true := inR (by omega)
  have hcl := hc.len
  refine OK.callR (R := fun z => ∃ D : DT, z = Sum.inl (sx, a0, 0, fl, 0, D.1, D.2.1, D.2.2.1, D.2.2.2.1, c, D.2.2.2.2.1, D.2.2.2.2.2, ()) ∧ WI c D.2.2.2.2.1 D.2.2.2.2.2 D.1 D.2.1 D.2.2.1 D.2.2.2.1) ?_ ?_
  rotate_left
  · rintro z ⟨⟨g0, g1, g2, g3, l, its⟩, rfl, hW⟩
    simp only [Sum.elim_inl]
    dsimp only at hW ⊢
    have hll := hW.hp.1
    have hil := hW.its.len
    rw [sweep_eq a0 0 fl 0 c g0 g1 g2 g3 (by omega) (by omega) (by omega)]
    simp only [Option.bind_some]
    have hS := sweep_items hW.its sx
    have hsl := hS.len
    unfold f8.L3
    refine OK.loop (fun i : Nat => (sx, (i : Int), a0, 0, fl, 0, g0, g1, g2, g3, c, l, sweep its sx, ())) (fun i => i ≤ 40) (fun i => 40 - i) (fun rec i hi ih => ?_) 0 rfl (Nat.zero_le _) (by decide)
    dsimp only
    rw [bif_dec, hsl]
    by_cases q : i < 40
    · have go := ih (i + 1) (by omega) (by omega) _ rfl
      have no : ¬ (((sweep its sx).getD i iN).2.1 = 2 ∨ ((sweep its sx).getD i iN).2.1 = 3) ∨ ((sweep its sx).getD i iN).2.2.1 ≠ sx := by
        rw [sweep_get]
        unfold sweep1
        split
        · exact .inl (by decide)
        · rename_i z
          by_cases y : (its.getD i iN).2.1 = 2 ∨ (its.getD i iN).2.1 = 3
          · exact .inr fun x => z ⟨y, x⟩
          · exact .inl y
      have e : (sweep its sx).getD (Int.toNat (i : Int)) (0, 0, 0, 0) = (sweep its sx).getD i iN := rfl
      have r : inRange (i : Int) 40 = true := inR (by omega)
      rw [if_pos (by omega)]
      simp only [r, cond_true, e]
      rw [wr (by omega)]
      generalize (sweep its sx).getD i iN = x at *
      refine OK.bif (fun y1 => ?_) (fun y1 => ?_)
      · refine OK.bif (fun y2 => ?_) (fun _ => go)
        have := beq_iff_eq.1 y1
        have := beq_iff_eq.1 y2
        omega
      · refine OK.bif (fun y1 => ?_) (fun _ => go)
        refine OK.bif (fun y2 => ?_) (fun _ => go)
        have := beq_iff_eq.1 y1
        have := beq_iff_eq.1 y2
        omega
    · rw [if_neg (by omega), check_ok a0 0 fl 0 c g0 g1 g2 g3 hc l hS]
      exact OK.ret rfl
  unfold f8.L2
  refine OK.loop (fun j : Nat × DT => (sx, a6, (j.1 : Int), a0, 0, fl, 0, j.2.1, j.2.2.1, j.2.2.2.1, j.2.2.2.2.1, c, j.2.2.2.2.2.1, j.2.2.2.2.2.2, ())) (fun j => j.1 ≤ 20 ∧ WI c j.2.2.2.2.2.1 j.2.2.2.2.2.2 j.2.1 j.2.2.1 j.2.2.2.1 j.2.2.2.2.1) (fun j => 20 - j.1) (fun rec j hj ih => ?_) (0, g0, g1, g2, g3, l0, its0) rfl ⟨Nat.zero_le _, hW⟩ (by dsimp only; decide)
  clear hW hI
  obtain ⟨i, g0, g1, g2, g3, l, its⟩ := j
  obtain ⟨hi, hW⟩ := hj
  dsimp only at hi hW ih ⊢
  have done : OK (some (Sum.inl (β := Bool × Unit) (sx, a0, (0 : Int), fl, (0 : Int), g0, g1, g2, g3, c, l, its, ()))) fun z => ∃ D : DT, z = Sum.inl (sx, a0, 0, fl, 0, D.1, D.2.1, D.2.2.1, D.2.2.2.1, c, D.2.2.2.2.1, D.2.2.2.2.2, ()) ∧ WI c D.2.2.2.2.1 D.2.2.2.2.2 D.1 D.2.1 D.2.2.1 D.2.2.2.1 := OK.ret ⟨(g0, g1, g2, g3, l, its), rfl, hW⟩
  rw [bif_dec, bif_dec]
  by_cases q1 : (i : Int) < a6.length
  · by_cases q2 : (i : Int) < 20
    · rw [if_pos q1, if_pos q2]
      have ir : inRange (i : Int) a6.length = true := inR (by omega)
      have hil := hW.its.len
      simp only [ir, is, cond_true]
      rw [do_eq a0 0 fl 0 c hc.b hc.len hW.hp hW.its hW.gold]
      simp only [Option.bind_some]
      have hD := do_ok hW sx (a6.getD (Int.toNat (i : Int)) 0)
      have hN := near_do (c := c) (l := l) (g0 := g0) (g1 := g1) (g2 := g2) (g3 := g3) hil sx (a6.getD (Int.toNat (i : Int)) 0)
      generalize doP c l its g0 g1 g2 g3 sx (a6.getD (Int.toNat (i : Int)) 0) = D at *
      have hDi := hD.its.len
      have gb := gget_b (s := sx) hD.gold
      unfold gget at gb
      rw [check_ok a0 0 fl 0 c _ _ _ _ hc _ hD.its]
      simp only [Option.bind_some, Bool.not_true, cond_false]
      rw [decide_eq_false (by omega), cond_false, decide_eq_false (by omega), cond_false, hDi, hil, bne_self_eq_false, cond_false]
      have go := ih (i + 1, D) ⟨by dsimp only; omega, hD⟩ (by dsimp only; omega) _ rfl
      dsimp only at go
      obtain ⟨p, q, hsame, hkind⟩ := hN
      unfold f8.L1
      refine OK.loop (fun j : Nat × Nat => (sx, a6, (i : Int), (j.2 : Int), (j.1 : Int), a0, 0, fl, 0, g0, g1, g2, g3, a0, 0, fl, 0, D.1, D.2.1, D.2.2.1, D.2.2.2.1, c, l, its, c, D.2.2.2.2.1, D.2.2.2.2.2, ())) (fun j => j.1 ≤ 40 ∧ j.2 ≤ (if p < j.1 then 1 else 0) + (if q < j.1 then 1 else 0)) (fun j => 40 - j.1) (fun rec' j hj ih' => ?_) (0, 0) rfl ⟨Nat.zero_le _, Nat.zero_le _⟩ (by dsimp only; decide)
      obtain ⟨k, ch⟩ := j
      obtain ⟨hk, hch⟩ := hj
      dsimp only at hk hch ih' ⊢
      rw [bif_dec, hil]
      have hch2 : ch ≤ 2 := by
        refine Nat.le_trans hch ?_
        split <;> split <;> omega
      by_cases q3 : k < 40
      · have r : inRange (k : Int) 40 = true := inR (by omega)
        have ea : D.2.2.2.2.2.getD (Int.toNat (k : Int)) (0, 0, 0, 0) = D.2.2.2.2.2.getD k iN := rfl
        have eb : its.getD (Int.toNat (k : Int)) (0, 0, 0, 0) = its.getD k iN := rfl
        rw [if_pos (by omega)]
        simp only [hDi, r, cond_true, ea, eb]
        have e4 := eq4 (D.2.2.2.2.2.getD k iN) (its.getD k iN)
        have e0 := eq4 (D.2.2.2.2.2.getD k iN) iN
        rw [e4]
        have e0' : ((D.2.2.2.2.2.getD k iN).1 == 0 && ((D.2.2.2.2.2.getD k iN).2.1 == 0 && ((D.2.2.2.2.2.getD k iN).2.2.1 == 0 && ((D.2.2.2.2.2.getD k iN).2.2.2 == 0 && true)))) = decide (D.2.2.2.2.2.getD k iN = iN) := e0
        rw [e0', wr (x := (k : Int) + 1) (by omega), wr (x := (ch : Int) + 1) (by omega)]
        have hkk := hkind k q3
        have hss := hsame k q3
        by_cases q4 : D.2.2.2.2.2.getD k iN = its.getD k iN
        · rw [decide_eq_true q4, Bool.not_true, cond_false]
          exact ih' (k + 1, ch) ⟨by dsimp only; omega, by dsimp only; refine Nat.le_trans hch ?_; split <;> split <;> split <;> split <;> omega⟩ (by dsimp only; omega) _ rfl
        · have go' := ih' (k + 1, ch + 1) ⟨by dsimp only; omega, by
            dsimp only
            have hpq : k = p ∨ k = q := Decidable.byContradiction fun z => q4 (hss (fun y => z (.inl y)) fun y => z (.inr y))
            rcases hpq with z | z
            · rw [if_neg (by omega)] at hch
              rw [if_pos (by omega)]
              split at hch <;> split <;> omega
            · rw [if_neg (show ¬ q < k by omega)] at hch
              rw [if_pos (show q < k + 1 by omega)]
              split at hch <;> split <;> omega⟩ (by dsimp only; omega) _ rfl
          rw [decide_eq_false q4, Bool.not_false, cond_true]
          refine OK.bif (fun y => ?_) (fun _ => go')
          have := bne_iff_ne.1 y
          have hz := hkk.resolve_left this
          rw [decide_eq_true hz, Bool.not_true, cond_false]
          exact go'
      · rw [if_neg (by omega), decide_eq_false (by omega), cond_false, wr (x := (i : Int) + 1) (by omega)]
        exact go
    · rw [if_pos q1, if_neg q2]
      exact done
  · rw [if_neg q1]
    exact done
end Go.Proofs.Ytdbfecfcoephoaa.Pure

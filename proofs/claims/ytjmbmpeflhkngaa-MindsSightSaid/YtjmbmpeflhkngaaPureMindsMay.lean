/- The law MindsMay, in plain words (own work). -/
import Derived.Test.YtjmbmpeflhkngaaZ12
namespace Go.Proofs.Ytjmbmpeflhkngaa.Pure
open Go Go.Proofs.Ytjmbmpeflhkngaa.Mx Go.Proofs.Ytjmbmpeflhkngaa.Pc Go.Proofs.Ytjmbmpeflhkngaa.Run Go.Proofs.Ytjmbmpeflhkngaa.Field Go.Proofs.Ytjmbmpeflhkngaa.Gen Go.Proofs.Ytjmbmpeflhkngaa.GenL Go.Proofs.Ytjmbmpeflhkngaa.Fl Go.Proofs.Ytjmbmpeflhkngaa.Wd Go.Proofs.Ytjmbmpeflhkngaa.Ft Go.Proofs.Ytjmbmpeflhkngaa.Ln Go.Proofs.Ytjmbmpeflhkngaa.Nav Go.Proofs.Ytjmbmpeflhkngaa.Mn
set_option linter.unusedVariables false
set_option linter.unusedSimpArgs false
set_option maxHeartbeats 1000000
/-- A step that leads nearer goes to a cell that can be walked on, where nobody stands. -/
theorem tow_may {c : List Int} (hc : CB c) {l : List EntT} (h : Ents l) {m : Int} (hm : GC m) (t : Int) : towI c l m t = 0 ∨ ∃ j : Nat, j < 4 ∧ towI c l m t = 1 + (j : Int) ∧ walkable (atC c (m % 24 + ddx j) (m / 24 + ddy j)) = true ∧ atE l (m % 24 + ddx j) (m / 24 + ddy j) < 0 := by
  obtain ⟨_, _, f, hf, hT⟩ := tow_all hc h hm t
  rcases hT with ⟨z, _⟩ | ⟨h1, j, hj, ej, ⟨g, hv, hF⟩, _⟩
  · exact .inl z
  · refine .inr ⟨j, hj, ej, (gn_row hm hj).2 ⟨g, ?_⟩, ?_⟩
    · by_cases z0 : Field.rd f (nbr m j) = 0
      · exact ((hf.zero _ g).1 z0).2
      · exact ((hf.up _ g (by omega)).1).1
    · obtain ⟨_, _, e1, e2⟩ := nbr_xy hm hj g
      rw [e1, e2]
      refine (atE_none h.len).2 fun r hr hk hz => ?_
      exact hF r (by rw [h.len]; exact hr) hk hz
theorem tow_may' {c : List Int} (hc : CB c) {l : List EntT} (h : Ents l) {x y : Int} (hg : InG x y) (t : Int) : towI c l (cel x y) t = 0 ∨ ∃ j : Nat, j < 4 ∧ towI c l (cel x y) t = 1 + (j : Int) ∧ walkable (atC c (x + ddx j) (y + ddy j)) = true ∧ atE l (x + ddx j) (y + ddy j) < 0 := by
  obtain ⟨a, b, d⟩ := cel_mod hg
  have := tow_may hc h d t
  rw [a, b] at this
  exact this
/-- What may be wanted by a monster: to stay, or a way. -/
theorem mon_may {c : List Int} (hc : CB c) (hv : ∀ i, 0 ≤ c.getD i 0 ∧ c.getD i 0 ≤ 5) {l : List EntT} (hC : COk c l) (sd fr : Int) {r : Nat} (hr : r < 32) : monI c l sd fr r = 0 ∨ (2 ≤ kd (l.getD r eN) ∧ ∃ j : Nat, j < 4 ∧ monI c l sd fr r = 1 + (j : Int) ∧ walkable (atC c (ex (l.getD r eN) + ddx j) (ey (l.getD r eN) + ddy j)) = true ∧
    (atE l (ex (l.getD r eN) + ddx j) (ey (l.getD r eN) + ddy j) < 0 ∨ kd (l.getD (atE l (ex (l.getD r eN) + ddx j) (ey (l.getD r eN) + ddy j)).toNat eN) = 1)) := by
  have A := cok_apart hC
  unfold monI
  rw [Int.toNat_natCast]
  split
  · exact .inl rfl
  · rename_i hn
    have k0 : kd (l.getD r eN) ≠ 0 := fun z => hn (.inr (.inr (.inl z)))
    have k1 : kd (l.getD r eN) ≠ 1 := fun z => hn (.inr (.inr (.inr z)))
    have k2 : 2 ≤ kd (l.getD r eN) := by
      rcases A.ok.ent r hr with q | q
      · exact absurd q.1 k0
      · omega
    have hG := in_grid A.ents hr k0
    generalize l.getD r eN = E at *
    unfold monT
    by_cases p : 0 ≤ (Mn.seen c l E 4).1
    · rw [if_pos p]
      obtain ⟨q, hq, eq, hk, hgq, _⟩ := seen_row A.ents p
      rw [eq, Int.toNat_natCast]
      have hb := (bes_all hG hgq).2.2
      by_cases b : besI (ex E) (ey E) (ex (l.getD q eN)) (ey (l.getD q eN)) = 0
      · rw [if_neg (fun z => z b)]
        rcases tow_may' hc A.ents hG (ey (l.getD q eN) * 24 + ex (l.getD q eN)) with w | ⟨j, hj, ej, w1, w2⟩
        · exact .inl w
        · exact .inr ⟨k2, j, hj, ej, w1, .inl w2⟩
      · rw [if_pos b]
        rcases hb with ⟨j, hj, ej, d1, d2⟩ | ⟨z, _⟩
        · refine .inr ⟨k2, j, hj, ej, ?_, .inr ?_⟩
          · rw [← d1, ← d2, show ex E + (ex (l.getD q eN) - ex E) = ex (l.getD q eN) by omega, show ey E + (ey (l.getD q eN) - ey E) = ey (l.getD q eN) by omega]
            have ps := hC.pos q hq (by rw [hk]; decide)
            unfold atC
            rw [if_pos ⟨ps.1, ps.2.1, ps.2.2.1, ps.2.2.2.1⟩]
            have v := hv (ey (l.getD q eN) * 24 + ex (l.getD q eN)).toNat
            have p5 := ps.2.2.2.2.1
            unfold walkable Field.rd
            exact decide_eq_true (by omega)
          · rw [← d1, ← d2, show ex E + (ex (l.getD q eN) - ex E) = ex (l.getD q eN) by omega, show ey E + (ey (l.getD q eN) - ey E) = ey (l.getD q eN) by omega, atE_at A hq (by rw [hk]; decide), Int.toNat_natCast, hk]
        · exact absurd z b
    · rw [if_neg p]
      by_cases q : 1 ≤ dval 8 sd [fr, (r : Int), 90] ∧ dval 8 sd [fr, (r : Int), 90] ≤ 4 ∧ walkable (atC c (ex E + ddx (dval 8 sd [fr, (r : Int), 90] - 1).toNat) (ey E + ddy (dval 8 sd [fr, (r : Int), 90] - 1).toNat)) = true ∧ atE l (ex E + ddx (dval 8 sd [fr, (r : Int), 90] - 1).toNat) (ey E + ddy (dval 8 sd [fr, (r : Int), 90] - 1).toNat) < 0
      · rw [if_pos q]
        exact .inr ⟨k2, (dval 8 sd [fr, (r : Int), 90] - 1).toNat, by omega, by omega, q.2.2.1, .inl q.2.2.2⟩
      · rw [if_neg q]
        exact .inl rfl
/-- What may be wanted by a robot. -/
theorem rob_may {c : List Int} (hc : CB c) (hv : ∀ i, 0 ≤ c.getD i 0 ∧ c.getD i 0 ≤ 5) {l : List EntT} (hC : COk c l) (its : List ItT) (s : Int) {h : Nat} (hh : h < 32) (eh : heroE' l s = h) :
    robI c l its s = 0 ∨
    (∃ j : Nat, j < 4 ∧ robI c l its s = 1 + (j : Int) ∧ walkable (atC c (ex (l.getD h eN) + ddx j) (ey (l.getD h eN) + ddy j)) = true ∧ (atE l (ex (l.getD h eN) + ddx j) (ey (l.getD h eN) + ddy j) < 0 ∨ kd (l.getD (atE l (ex (l.getD h eN) + ddx j) (ey (l.getD h eN) + ddy j)).toNat eN) ≠ 1)) ∨
    (robI c l its s = 5 ∧ 0 ≤ inI its 1 (ex (l.getD h eN)) (ey (l.getD h eN))) ∨ (robI c l its s = 6 ∧ 0 ≤ hold its s 1 1 ∧ hp (l.getD h eN) ≤ Int.tdiv (mxh (l.getD h eN)) 3) ∨ (robI c l its s = 9 ∧ atC c (ex (l.getD h eN)) (ey (l.getD h eN)) = 4) := by
  have A := cok_apart hC
  have hl := A.ents.len
  obtain ⟨r, hr, er, hk, _⟩ := hero_at hl (s := s) (by rw [eh]; omega)
  have : r = h := by rw [eh] at er; omega
  subst this
  have hG := in_grid A.ents hr (by rw [hk]; decide)
  unfold robI
  rw [eh, if_neg (by omega), Int.toNat_natCast]
  generalize l.getD r eN = E at *
  by_cases p : 0 ≤ hold its s 1 1 ∧ hp E ≤ Int.tdiv (mxh E) 3
  · rw [if_pos p]
    exact .inr (.inr (.inr (.inl ⟨rfl, p⟩)))
  · rw [if_neg p]
    cases ef : (List.range 4).find? (foe l E) with
    | some j =>
      obtain ⟨f1, f2, _⟩ := List.find?_range_eq_some.1 ef
      have hj := List.mem_range.1 f2
      have e : robT c l its s E = 1 + (j : Int) := by unfold robT; rw [ef]
      rw [e]
      unfold foe at f1
      rw [Bool.and_eq_true, decide_eq_true_eq, bne_iff_ne] at f1
      refine .inr (.inl ⟨j, hj, rfl, ?_, .inr f1.2⟩)
      obtain ⟨q, hq, _, kq, xq, yq⟩ := atE_some hl f1.1
      have ps := hC.pos q hq kq
      rw [xq, yq] at ps
      unfold atC
      rw [if_pos ⟨ps.1, ps.2.1, ps.2.2.1, ps.2.2.2.1⟩]
      have v := hv ((ey E + ddy j) * 24 + (ex E + ddx j)).toNat
      have p5 := ps.2.2.2.2.1
      unfold walkable Field.rd
      exact decide_eq_true (by omega)
    | none =>
      have e : robT c l its s E = if worthI its (ex E) (ey E) (decide (0 ≤ emptyI its s)) = true then 5 else if atC c (ex E) (ey E) = 4 then 9 else towI c l (cel (ex E) (ey E)) (findC c 4) := by unfold robT; rw [ef]
      rw [e]
      split
      · rename_i w
        unfold worthI at w
        rw [Bool.and_eq_true, decide_eq_true_eq] at w
        exact .inr (.inr (.inl ⟨rfl, w.1⟩))
      · split
        · rename_i w
          exact .inr (.inr (.inr (.inr ⟨rfl, w⟩)))
        · rcases tow_may' hc A.ents hG (findC c 4) with w | ⟨j, hj, ej, w1, w2⟩
          · exact .inl w
          · exact .inr (.inl ⟨j, hj, ej, w1, .inl w2⟩)
theorem rway_zero : f16 0 = some (0, 0, ()) := rfl
theorem rway_5 : f16 5 = some (0, 0, ()) := rfl
theorem rway_6 : f16 6 = some (0, 0, ()) := rfl
theorem rway_9 : f16 9 = some (0, 0, ()) := rfl
theorem MindsMay (a0 : Int) (w0 : (Lit.int .i64 a0).wf = true) (a1 : Int) (w1 : (Lit.int .i64 a1).wf = true) (a2 : List Int) (w2 : Ty.good (.row (.int .i64)) a2) (z2 : a2.length * 8 ≤ 140737488351232) (a3 : List ItT) (w3 : Ty.good (.row (.prod (.int .i64) (.prod (.int .i64) (.prod (.int .i64) (.int .i64))))) a3) (z3 : a3.length * 32 ≤ 140737488351232) (a4 : Int) (w4 : (Lit.int .i64 a4).wf = true) : f4 a0 a1 a2 a3 a4 = some (true, ()) := by
  refine OK.eq ?_
  unfold f4
  rw [known9]
  simp only [Option.bind_some, Bool.not_true, cond_false]
  refine OK.callR (crowd_is a0 a1 a2 a3 (by omega) a4) ?_
  rintro z ⟨l, its, rfl, hC, _, hI, _⟩
  dsimp only
  have hcl := cells_len a0 (1 + within a1 3)
  have hcb := cells_cb a0 (1 + within a1 3)
  have hv := cells_val a0 (1 + within a1 3)
  have A := cok_apart hC
  have hl := A.ents.len
  have hil := hI.len
  have hM := mx_b A.ok
  generalize cells a0 (1 + within a1 3) = c at *
  generalize 1 + within a1 3 = fl at *
  generalize within a4 1048576 = fr at *
  have ob : ∀ r, r < 32 → -1000 ≤ ex (l.getD r eN) ∧ ex (l.getD r eN) ≤ 1000 ∧ -1000 ≤ ey (l.getD r eN) ∧ ey (l.getD r eN) ≤ 1000 := fun r hr => by
    by_cases k : kd (l.getD r eN) = 0
    · rcases A.ok.ent r hr with ⟨_, q⟩ | q
      · rw [q]
        show -1000 ≤ (0 : Int) ∧ (0 : Int) ≤ 1000 ∧ -1000 ≤ (0 : Int) ∧ (0 : Int) ≤ 1000
        decide
      · omega
    · have := in_grid A.ents hr k
      unfold InG at this
      omega
  unfold f4.L2
  refine OK.loop (fun j : Nat => ((j : Int), a0, fr, fl, 0, 50, 0, 0, 0, c, l, its, ())) (fun j => j ≤ 32) (fun j => 32 - j) (fun rec j hj ih => ?_) 0 rfl (Nat.zero_le _) (by decide)
  dsimp only at hj ih ⊢
  rw [bif_dec]
  by_cases q : j < 32
  · have nx := ih (j + 1) (by omega) (by omega) _ rfl
    have o := ob j q
    have fX : (l.getD j (0, 0, 0, 0, 0, 0, 0, 0, 0, 0, 0)).2.2.2.1 = ex (l.getD j eN) := rfl
    have fY : (l.getD j (0, 0, 0, 0, 0, 0, 0, 0, 0, 0, 0)).2.2.2.2.1 = ey (l.getD j eN) := rfl
    have fK : (l.getD j (0, 0, 0, 0, 0, 0, 0, 0, 0, 0, 0)).1 = kd (l.getD j eN) := rfl
    rw [if_pos (by omega), inR (by omega), cond_true, monster_eq a0 fr fl 0 50 0 0 0 hcb A.ents its (j : Int), wr (x := (j : Int) + 1) (by omega), Int.toNat_natCast, fX, fY, fK]
    simp only [Option.bind_some]
    rcases mon_may hcb hv hC a0 fr q with e | ⟨k2, i, hi, e, w1, w2⟩
    · rw [e, rway_zero]
      simp only [Option.bind_some]
      rw [wr (x := ex (l.getD j eN) + 0) (by omega), wr (x := ey (l.getD j eN) + 0) (by omega), rat_eq l (by omega)]
      simp only [Option.bind_some]
      rw [bif_dec, if_neg (by decide), bif_dec, if_neg (by decide), bif_dec, if_neg (by decide)]
      exact nx
    · have d := dd i hi
      rw [e, rway_eq i hi]
      simp only [Option.bind_some]
      rw [wr (x := ex (l.getD j eN) + ddx i) (by omega), wr (x := ey (l.getD j eN) + ddy i) (by omega), rat_eq l (by omega), rat_c c hcb]
      simp only [Option.bind_some]
      rw [rwalk_eq, w1]
      simp only [Option.bind_some, Bool.not_true, cond_false]
      rw [bif_dec, if_neg (by omega), bif_dec, if_neg (by omega), bif_dec, if_pos (by omega), bif_dec, if_neg (by omega), bif_dec]
      have ab := atE_b l (ex (l.getD j eN) + ddx i) (ey (l.getD j eN) + ddy i)
      rcases w2 with w2 | w2
      · rw [if_neg (by omega)]
        exact nx
      · by_cases z : atE l (ex (l.getD j eN) + ddx i) (ey (l.getD j eN) + ddy i) ≥ 0
        · have w3 : ((l.getD (atE l (ex (l.getD j eN) + ddx i) (ey (l.getD j eN) + ddy i)).toNat (0, 0, 0, 0, 0, 0, 0, 0, 0, 0, 0)).1 != 1) = false := by
            rw [bne_eq_false_iff_eq]
            exact w2
          rw [if_pos z, inR (by omega), cond_true, w3, cond_false]
          exact nx
        · rw [if_neg z]
          exact nx
  · rw [if_neg (by omega)]
    clear ih
    unfold f4.L1
    refine OK.loop (fun j : Nat => ((j : Int), a0, fr, fl, 0, 50, 0, 0, 0, c, l, its, ())) (fun j => j ≤ 4) (fun j => 4 - j) (fun rec j hj ih => ?_) 0 rfl (Nat.zero_le _) (by decide)
    dsimp only at hj ih ⊢
    rw [bif_dec]
    by_cases q : j < 4
    · have nx := ih (j + 1) (by omega) (by omega) _ rfl
      rw [if_pos (by omega), rhero_eq l (by omega), robot_eq a0 fr fl 0 50 0 0 0 hcb hcl A.ents hI (j : Int) hM, wr (x := (j : Int) + 1) (by omega)]
      simp only [Option.bind_some]
      rw [bif_dec]
      by_cases h0 : heroE' l j < 0
      · have e : robI c l its j = 0 := by unfold robI; rw [if_pos h0]
        rw [if_pos h0, e]
        exact nx
      · obtain ⟨h, hh, eh, hk, _⟩ := hero_at hl h0
        have o := ob h hh
        rw [if_neg h0, eh, inR (by omega), cond_true, Int.toNat_natCast]
        have fX : (l.getD h (0, 0, 0, 0, 0, 0, 0, 0, 0, 0, 0)).2.2.2.1 = ex (l.getD h eN) := rfl
        have fY : (l.getD h (0, 0, 0, 0, 0, 0, 0, 0, 0, 0, 0)).2.2.2.2.1 = ey (l.getD h eN) := rfl
        have fH : (l.getD h (0, 0, 0, 0, 0, 0, 0, 0, 0, 0, 0)).2.2.2.2.2.1 = hp (l.getD h eN) := rfl
        have fM : (l.getD h (0, 0, 0, 0, 0, 0, 0, 0, 0, 0, 0)).2.2.2.2.2.2.1 = mxh (l.getD h eN) := rfl
        rw [fX, fY]
        rcases rob_may hcb hv hC its (j : Int) hh eh with e | ⟨i, hi, e, w1, w2⟩ | ⟨e, w1⟩ | ⟨e, w1, w2⟩ | ⟨e, w1⟩
        · rw [e, rway_zero]
          simp only [Option.bind_some]
          rw [wr (x := ex (l.getD h eN) + 0) (by omega), wr (x := ey (l.getD h eN) + 0) (by omega), rat_eq l (by omega)]
          simp only [Option.bind_some, beq_self_eq_true, cond_true]
          exact nx
        · have d := dd i hi
          rw [e, rway_eq i hi]
          simp only [Option.bind_some]
          rw [wr (x := ex (l.getD h eN) + ddx i) (by omega), wr (x := ey (l.getD h eN) + ddy i) (by omega), rat_eq l (by omega)]
          simp only [Option.bind_some]
          rw [beq_eq_false_iff_ne.2 (show 1 + (i : Int) ≠ 0 by omega), cond_false]
          refine OK.callR (R := fun z => z = Sum.inl ((j : Int), ddx i, ddy i, atE l (ex (l.getD h eN) + ddx i) (ey (l.getD h eN) + ddy i), 1 + (i : Int), true, a0, fr, fl, 0, 50, 0, 0, 0, (l.getD h eN).1, (l.getD h eN).2.1, (l.getD h eN).2.2.1, (l.getD h eN).2.2.2.1, (l.getD h eN).2.2.2.2.1, (l.getD h eN).2.2.2.2.2.1, (l.getD h eN).2.2.2.2.2.2.1, (l.getD h eN).2.2.2.2.2.2.2.1, (l.getD h eN).2.2.2.2.2.2.2.2.1, (l.getD h eN).2.2.2.2.2.2.2.2.2.1, (l.getD h eN).2.2.2.2.2.2.2.2.2.2, c, l, its, ())) ?_ ?_
          · match i, hi with
            | 0, _ => exact OK.ret rfl
            | 1, _ => exact OK.ret rfl
            | 2, _ => exact OK.ret rfl
            | 3, _ => exact OK.ret rfl
          · rintro z rfl
            simp only [Sum.elim_inl, cond_true]
            have gX : (l.getD h eN).2.2.2.1 = ex (l.getD h eN) := rfl
            have gY : (l.getD h eN).2.2.2.2.1 = ey (l.getD h eN) := rfl
            rw [gX, gY, wr (x := ex (l.getD h eN) + ddx i) (by omega), wr (x := ey (l.getD h eN) + ddy i) (by omega), rat_c c hcb]
            simp only [Option.bind_some]
            rw [rwalk_eq, w1]
            simp only [Option.bind_some, Bool.not_true, cond_false]
            have ab := atE_b l (ex (l.getD h eN) + ddx i) (ey (l.getD h eN) + ddy i)
            rw [bif_dec, wr (x := (j : Int) + 1) (by omega)]
            rcases w2 with w2 | w2
            · rw [if_neg (by omega)]
              exact nx
            · by_cases z : atE l (ex (l.getD h eN) + ddx i) (ey (l.getD h eN) + ddy i) ≥ 0
              · have w3 : ((l.getD (atE l (ex (l.getD h eN) + ddx i) (ey (l.getD h eN) + ddy i)).toNat (0, 0, 0, 0, 0, 0, 0, 0, 0, 0, 0)).1 == 1) = false := by
                  rw [beq_eq_false_iff_ne]
                  exact w2
                rw [if_pos z, inR (by omega), cond_true, w3, cond_false]
                exact nx
              · rw [if_neg z]
                exact nx
        · rw [e, rway_5]
          simp only [Option.bind_some]
          rw [wr (x := ex (l.getD h eN) + 0) (by omega), wr (x := ey (l.getD h eN) + 0) (by omega), rat_eq l (by omega)]
          simp only [Option.bind_some]
          have b0 : ((5 : Int) == 0) = false := rfl
          have b1 : ((5 : Int) == 1) = false := rfl
          have b2 : ((5 : Int) == 2) = false := rfl
          have b3 : ((5 : Int) == 3) = false := rfl
          have b4 : ((5 : Int) == 4) = false := rfl
          have b5 : ((5 : Int) == 5) = true := rfl
          rw [b0, b1, b2, b3, b4]
          simp only [cond_false, Option.bind_some, Sum.elim_inl]
          rw [b5, cond_true, rin_eq its (by omega)]
          simp only [Option.bind_some]
          rw [bif_dec, if_neg (by omega), wr (x := (j : Int) + 1) (by omega)]
          exact nx
        · rw [e, rway_6]
          simp only [Option.bind_some]
          rw [wr (x := ex (l.getD h eN) + 0) (by omega), wr (x := ey (l.getD h eN) + 0) (by omega), rat_eq l (by omega)]
          simp only [Option.bind_some]
          have b0 : ((6 : Int) == 0) = false := rfl
          have b1 : ((6 : Int) == 1) = false := rfl
          have b2 : ((6 : Int) == 2) = false := rfl
          have b3 : ((6 : Int) == 3) = false := rfl
          have b4 : ((6 : Int) == 4) = false := rfl
          have b5 : ((6 : Int) == 5) = false := rfl
          have b6 : ((6 : Int) == 6) = true := rfl
          rw [b0, b1, b2, b3, b4]
          simp only [cond_false, Option.bind_some, Sum.elim_inl]
          rw [b5, cond_false, b6, cond_true, rpotion_eq its (by omega)]
          simp only [Option.bind_some]
          have hm := hM h hh
          have wm : IntKind.wrap .i64 (Int.tdiv (mxh (l.getD h eN)) 3) = Int.tdiv (mxh (l.getD h eN)) 3 := by
            rw [Int.tdiv_eq_ediv_of_nonneg hm.1]
            exact wr (by omega)
          rw [fH, fM, wm, bif_dec, if_neg (by omega), bif_dec, if_neg (by omega), wr (x := (j : Int) + 1) (by omega)]
          exact nx
        · rw [e, rway_9]
          simp only [Option.bind_some]
          rw [wr (x := ex (l.getD h eN) + 0) (by omega), wr (x := ey (l.getD h eN) + 0) (by omega), rat_eq l (by omega)]
          simp only [Option.bind_some]
          have b0 : ((9 : Int) == 0) = false := rfl
          have b1 : ((9 : Int) == 1) = false := rfl
          have b2 : ((9 : Int) == 2) = false := rfl
          have b3 : ((9 : Int) == 3) = false := rfl
          have b4 : ((9 : Int) == 4) = false := rfl
          have b5 : ((9 : Int) == 5) = false := rfl
          have b6 : ((9 : Int) == 6) = false := rfl
          have b9 : ((9 : Int) == 9) = true := rfl
          rw [b0, b1, b2, b3, b4]
          simp only [cond_false, Option.bind_some, Sum.elim_inl]
          rw [b5, cond_false, b6, cond_false, b9, cond_true, rat_c c hcb, w1]
          simp only [Option.bind_some, bne_self_eq_false, cond_false]
          rw [wr (x := (j : Int) + 1) (by omega)]
          exact nx
    · rw [if_neg (by omega)]
      exact OK.ret rfl
end Go.Proofs.Ytjmbmpeflhkngaa.Pure

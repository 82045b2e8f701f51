/- The law NavFree, in plain words (own work). -/
import Derived.Test.YtldgilfchpfblaaNav
namespace Go.Proofs.Ytldgilfchpfblaa.Nav
open Go Go.Proofs.Ytldgilfchpfblaa.Mx Go.Proofs.Ytldgilfchpfblaa.Pc Go.Proofs.Ytldgilfchpfblaa.Run Go.Proofs.Ytldgilfchpfblaa.Field Go.Proofs.Ytldgilfchpfblaa.Gen
set_option linter.unusedVariables false
set_option linter.unusedSimpArgs false
theorem beside_ok (a b c d : Int) : OK (f22 a b c d) fun y => (∃ j : Nat, j < 4 ∧ y.1 = 1 + (j : Int) ∧ IntKind.wrap .i64 (c - a) = ddx j ∧ IntKind.wrap .i64 (d - b) = ddy j) ∨ (y.1 = 0 ∧ ∀ j : Nat, j < 4 → ¬ (IntKind.wrap .i64 (c - a) = ddx j ∧ IntKind.wrap .i64 (d - b) = ddy j)) := by
  unfold f22 f22.L1
  refine OK.loop (fun j : Nat => (a, b, c, d, 1 + (j : Int), ())) (fun j => j ≤ 4 ∧ ∀ k, k < j → ¬ (IntKind.wrap .i64 (c - a) = ddx k ∧ IntKind.wrap .i64 (d - b) = ddy k)) (fun j => 4 - j) (fun rec j hj ih => ?_) 0 rfl ⟨Nat.zero_le _, fun k hk => absurd hk (Nat.not_lt_zero k)⟩ (by omega)
  obtain ⟨hj, hn⟩ := hj
  dsimp only at hj hn ih ⊢
  rw [bif_dec]
  by_cases q : j < 4
  · have wj : IntKind.wrap .i64 (1 + (j : Int) + 1) = 1 + ((j + 1 : Nat) : Int) := by rw [wr (by omega)]; omega
    rw [if_pos (by omega), way_eq j q, wj]
    simp only [Option.bind_some]
    have skip : ¬ (IntKind.wrap .i64 (c - a) = ddx j ∧ IntKind.wrap .i64 (d - b) = ddy j) → OK (rec (a, b, c, d, 1 + ((j + 1 : Nat) : Int), ())) _ := fun h => ih (j + 1) ⟨by omega, fun k hk => by
      rcases (by omega : k < j ∨ k = j) with z | z
      · exact hn k z
      · subst z; exact h⟩ (by omega) _ rfl
    refine OK.bif (fun h1 => ?_) (fun h1 => skip (fun h => by have := beq_eq_false_iff_ne.1 h1; exact this h.1))
    refine OK.bif (fun h2 => ?_) (fun h2 => skip (fun h => by have := beq_eq_false_iff_ne.1 h2; exact this h.2))
    exact OK.ret (.inl ⟨j, q, rfl, beq_iff_eq.1 h1, beq_iff_eq.1 h2⟩)
  · rw [if_neg (by omega)]
    exact OK.ret (.inr ⟨rfl, fun k hk => hn k (by omega)⟩)
theorem known_eq : f10 = some (true, ()) := by
  refine OK.eq ?_
  unfold f10
  refine OK.callR (beside_ok 3 3 4 3) fun y hy => ?_
  have w1 : IntKind.wrap .i64 ((4 : Int) - 3) = 1 := wr (by omega)
  have w2 : IntKind.wrap .i64 ((3 : Int) - 3) = 0 := wr (by omega)
  have w3 : IntKind.wrap .i64 ((5 : Int) - 3) = 2 := wr (by omega)
  rw [w1, w2] at hy
  have e : y.1 = 2 := by
    rcases hy with ⟨j, hj, e, h1, h2⟩ | ⟨_, hy⟩
    · match j, hj with
      | 0, _ => cases h1
      | 1, _ => exact e
      | 2, _ => cases h1
      | 3, _ => cases h1
    · exact absurd ⟨rfl, rfl⟩ (hy 1 (by decide))
  rw [e]
  refine OK.callR (beside_ok 3 3 5 3) fun z hz => ?_
  rw [w3, w2] at hz
  have e : z.1 = 0 := by
    rcases hz with ⟨j, hj, e, h1, h2⟩ | ⟨hz, _⟩
    · match j, hj with
      | 0, _ => cases h1
      | 1, _ => cases h1
      | 2, _ => cases h1
      | 3, _ => cases h1
    · exact hz
  rw [e]
  exact OK.ret rfl
theorem NavFree (a0 : Int) (w0 : (Lit.int .i64 a0).wf = true) (a1 : Int) (w1 : (Lit.int .i64 a1).wf = true) (a2 : List Int) (w2 : Ty.good (.row (.int .i64)) a2) (z2 : a2.length * 8 ≤ 140737488351232) (a3 : Int) (w3 : (Lit.int .i64 a3).wf = true) (a4 : Int) (w4 : (Lit.int .i64 a4).wf = true) : f4 a0 a1 a2 a3 a4 = some (true, ()) := by
  refine OK.eq ?_
  unfold f4
  have b1 := within_b a1 3 (by decide)
  have b3 := within_b a3 384 (by decide)
  have b4 := within_b a4 384 (by decide)
  rw [known_eq, within_eq a1 _ (by decide) (by decide)]
  simp only [Option.bind_some, Bool.not_true, cond_false]
  rw [wr (by omega)]
  refine OK.callR (make_ok a0 _ (by omega) (by omega)) fun y2 ⟨u, hu, hG⟩ => ?_
  refine OK.callR (some_ok a2 (by omega)) fun y3 he => ?_
  rw [within_eq a3 _ (by decide) (by decide), within_eq a4 _ (by decide) (by decide)]
  simp only [Option.bind_some]
  generalize within a3 384 = m at *
  generalize within a4 384 = to at *
  have hm : GC m := ⟨by omega, by omega⟩
  have hcb := hG.toF.cb
  have hcl := hG.len
  have wd : IntKind.wrap .i64 (m / 24) = m / 24 := wr (by omega)
  rw [Int.tmod_eq_emod_of_nonneg (by omega), Int.tdiv_eq_ediv_of_nonneg (by omega), wd]
  refine OK.callR (toward_ok y2.1 hcb y3.1 he m hm [to] (by simp)) fun y6 ⟨f, hf, hy⟩ => ?_
  rcases hy with hy | ⟨j, hj, e6, hg, r1, r2, r3⟩
  · rw [hy]
    exact OK.ret rfl
  have n6 : (y6.1 == 0) = false := by rw [e6]; simp; omega
  rw [n6, cond_false, e6, rway_eq j hj]
  simp only [Option.bind_some]
  generalize y2.1 = c at *
  generalize y3.1 = l at *
  have hl := he.len
  unfold f4.L1
  refine OK.loop (fun i : Nat => (m, to, m % 24, m / 24, 1 + (j : Int), ddx j, ddy j, (i : Int), c, l, stand m l i, ())) (fun i => i ≤ 32) (fun i => 32 - i) (fun rec i hi ih => ?_) 0 rfl (Nat.zero_le _) (by omega)
  dsimp only at hi ih ⊢
  rw [bif_dec]
  by_cases q : (i : Int) < (l.length : Int)
  · have wi : IntKind.wrap .i64 ((i : Int) + 1) = ((i + 1 : Nat) : Int) := by rw [wr (by omega)]; omega
    rw [if_pos q, inR (by omega), cond_true, cond_true, cond_true, wi, Int.toNat_natCast]
    have nx := ih (i + 1) (by omega) (by omega) _ rfl
    rw [stand_succ m l i (by omega)] at nx
    have hlen := stand_len m l i
    have hh := he.at_ i (by omega)
    generalize stand m l i = b at *
    unfold mk at nx
    generalize hE : l.getD i e0 = E at *
    by_cases k0 : E.1 = 0
    · have q0 : (E.1 != 0) = false := by simp [k0]
      rw [if_neg (fun hx => hx.1 k0)] at nx
      rw [q0, cond_false]
      exact nx
    · have q0 : (E.1 != 0) = true := by simpa using k0
      have g := hh.resolve_left k0
      have eN : IntKind.wrap .i64 (IntKind.wrap .i64 (E.2.2.2.2.1 * 24) + E.2.2.2.1) = eyy E * 24 + exx E := by
        have e1 : E.2.2.2.2.1 = eyy E := rfl
        have e2 : E.2.2.2.1 = exx E := rfl
        rw [e1, e2, wr (x := eyy E * 24) (by omega), wr (by omega)]
      rw [q0, cond_true, eN]
      by_cases k1 : eyy E * 24 + exx E = m
      · have q1 : (eyy E * 24 + exx E != m) = false := by simp [k1]
        rw [if_neg (fun hx => hx.2 k1)] at nx
        rw [q1, cond_false]
        exact nx
      · have q1 : (eyy E * 24 + exx E != m) = true := by simpa using k1
        rw [if_pos ⟨k0, k1⟩] at nx
        rw [q1, cond_true, inR (by omega), cond_true]
        exact nx
  · have e : i = 32 := by omega
    subst e
    rw [if_neg q]
    refine OK.callR (rfield_is c hcb (stand m l 32) [to] (by simp)) fun y hy => ?_
    have ef : y.1 = f := field_one hy hf
    have d := dd j hj
    have sm := field_small hf m hm
    unfold GC at hm hg
    have hfl := hf.len
    rcases dir_place m hm j hj with ⟨hin, hcel⟩ | ⟨_, hn⟩
    · unfold InG at hin
      unfold cel at hcel
      rw [bif_dec, if_pos (by omega), bif_dec, if_pos (by omega), wr (x := m % 24 + ddx j) (by omega), wr (x := m / 24 + ddy j) (by omega), wr (x := (m / 24 + ddy j) * 24) (by omega), wr (x := (m / 24 + ddy j) * 24 + m % 24) (by omega), wr (x := (m / 24 + ddy j) * 24 + m % 24 + ddx j) (by omega)]
      have ek : (m / 24 + ddy j) * 24 + m % 24 + ddx j = nbr m j := by omega
      rw [ek, ef]
      refine OK.callR (rat_ok l (by omega) _ _) fun z ⟨hz0, hz⟩ => ?_
      have zn : z.1 < 0 := by
        rcases hz with hz | ⟨i, hi, g1, g2, g3⟩
        · exact hz
        · exfalso
          have ep : eyy (l.getD i e0) * 24 + exx (l.getD i e0) = nbr m j := by rw [g2, g3]; omega
          have ne : nbr m j ≠ m := fun e => by rw [e] at r2; omega
          have := stand_at m l he i hi g1 (by rw [ep]; exact ne) 32 (by omega) (by omega)
          rw [ep, r3] at this
          cases this
      have hwalk : walkable (Field.rd c (nbr m j)) = true := by
        have lo := hf.lo (nbr m j) hg
        by_cases h0 : Field.rd f (nbr m j) = 0
        · exact ((hf.zero _ hg).1 h0).2
        · exact ((hf.up _ hg (by omega)).1).1
      have hv := hcb (nbr m j).toNat
      have ew : IntKind.wrap .i64 (c.getD (nbr m j).toNat 0) = Field.rd c (nbr m j) := wr (by omega)
      have er : IntKind.wrap .i64 (f.getD m.toNat 0 - 1) = Field.rd f m - 1 := by
        have : f.getD m.toNat 0 = Field.rd f m := rfl
        rw [this, wr (by omega)]
      rw [bif_dec, if_pos zn, inR (by omega), cond_true, ew, rwalk_eq, hwalk]
      simp only [Option.bind_some, cond_true]
      rw [inR (by omega), cond_true, inR (by omega), cond_true, er]
      refine OK.ret ?_
      have : f.getD (nbr m j).toNat 0 = Field.rd f m - 1 := r2
      rw [this]
      simp
    · omega
end Go.Proofs.Ytldgilfchpfblaa.Nav
namespace Go.Proofs.Ytldgilfchpfblaa.Pure
open Go Go.Proofs.Ytldgilfchpfblaa.Mx Go.Proofs.Ytldgilfchpfblaa.Pc Go.Proofs.Ytldgilfchpfblaa.Run Go.Proofs.Ytldgilfchpfblaa.Field Go.Proofs.Ytldgilfchpfblaa.Gen
theorem NavFree (a0 : Int) (w0 : (Lit.int .i64 a0).wf = true) (a1 : Int) (w1 : (Lit.int .i64 a1).wf = true) (a2 : List Int) (w2 : Ty.good (.row (.int .i64)) a2) (z2 : a2.length * 8 ≤ 140737488351232) (a3 : Int) (w3 : (Lit.int .i64 a3).wf = true) (a4 : Int) (w4 : (Lit.int .i64 a4).wf = true) : f4 a0 a1 a2 a3 a4 = some (true, ()) := Go.Proofs.Ytldgilfchpfblaa.Nav.NavFree a0 w0 a1 w1 a2 w2 z2 a3 w3 a4 w4
end Go.Proofs.Ytldgilfchpfblaa.Pure

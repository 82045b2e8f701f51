/- Goods in plain words: what the document's hero does (own work). -/
import Derived.Test.YtdbfecfcoephoaaGoods2
namespace Go.Proofs.Ytdbfecfcoephoaa.Gd
open Go Go.Proofs.Ytdbfecfcoephoaa.Mx Go.Proofs.Ytdbfecfcoephoaa.Pc Go.Proofs.Ytdbfecfcoephoaa.Run Go.Proofs.Ytdbfecfcoephoaa.Field Go.Proofs.Ytdbfecfcoephoaa.Gen Go.Proofs.Ytdbfecfcoephoaa.GenL Go.Proofs.Ytdbfecfcoephoaa.Fl Go.Proofs.Ytdbfecfcoephoaa.Wd
set_option linter.unusedVariables false
set_option linter.unusedSimpArgs false
set_option maxHeartbeats 1000000
theorem wareI_eq (its : List ItT) : wareI its = if 0 ≤ inI its 4 0 0 then inI its 4 0 0 else if 0 ≤ inI its 4 1 0 then inI its 4 1 0 else if 0 ≤ inI its 4 2 0 then inI its 4 2 0 else -1 := by
  unfold wareI
  rw [show List.range 3 = [0, 1, 2] from rfl]
  simp only [List.find?_cons, List.find?_nil, show ((0 : Nat) : Int) = 0 from rfl, show ((1 : Nat) : Int) = 1 from rfl, show ((2 : Nat) : Int) = 2 from rfl]
  by_cases h0 : 0 ≤ inI its 4 0 0
  · simp [h0]
  · by_cases h1 : 0 ≤ inI its 4 1 0
    · simp [h0, h1]
    · by_cases h2 : 0 ≤ inI its 4 2 0
      · simp [h0, h1, h2]
      · simp [h0, h1, h2]
theorem wareI_b (its : List ItT) : -1 ≤ wareI its ∧ wareI its < its.length := by
  rw [wareI_eq]
  have h0 := inI_b its 4 0 0
  have h1 := inI_b its 4 1 0
  have h2 := inI_b its 4 2 0
  split
  · exact h0
  · split
    · exact h1
    · split
      · exact h2
      · omega
section
variable (a0 a1 a2 a3 : Int) (c : List Int)
theorem ware_loop {its : List ItT} (hl : its.length ≤ 1000) (l : List EntT) (s fr g0 g1 g2 g3 z0 z1 z2 z3 z4 z5 z6 z7 e0 e1 e2 e3 e4 e5 e6 e7 e8 e9 e10 : Int) :
    f16.L1 (s, fr, -1, 0, a0, a1, a2, a3, g0, g1, g2, g3, z0, z1, z2, z3, z4, z5, z6, z7, e0, e1, e2, e3, e4, e5, e6, e7, e8, e9, e10, its, c, l, ()) =
    some (Sum.inl (s, fr, wareI its, a0, a1, a2, a3, g0, g1, g2, g3, z0, z1, z2, z3, z4, z5, z6, z7, e0, e1, e2, e3, e4, e5, e6, e7, e8, e9, e10, its, c, l, ())) := by
  have h0 := inI_b its 4 0 0
  have h1 := inI_b its 4 1 0
  have h2 := inI_b its 4 2 0
  have w1 : IntKind.wrap .i64 (0 + 1) = 1 := by decide
  have w2 : IntKind.wrap .i64 (1 + 1) = 2 := by decide
  have w3 : IntKind.wrap .i64 (2 + 1) = 3 := by decide
  rw [wareI_eq]
  unfold f16.L1
  rw [it_pos (by decide)]
  dsimp only
  rw [decide_eq_true (show (0 : Int) < 3 by decide), cond_true, decide_eq_true (show (-1 : Int) < 0 by decide), cond_true, rin_eq its (by omega)]
  simp only [Option.bind_some]
  rw [w1, it_pos (by decide)]
  dsimp only
  rw [decide_eq_true (show (1 : Int) < 3 by decide), cond_true, bif_dec]
  by_cases q0 : inI its 4 0 0 < 0
  · rw [if_pos q0, if_neg (by omega), rin_eq its (by omega)]
    simp only [Option.bind_some]
    rw [w2, it_pos (by decide)]
    dsimp only
    rw [decide_eq_true (show (2 : Int) < 3 by decide), cond_true, bif_dec]
    by_cases q1 : inI its 4 1 0 < 0
    · rw [if_pos q1, if_neg (by omega), rin_eq its (by omega)]
      simp only [Option.bind_some]
      rw [w3, it_pos (by decide)]
      dsimp only
      rw [decide_eq_false (show ¬ (3 : Int) < 3 by decide), cond_false]
      by_cases q2 : inI its 4 2 0 < 0
      · rw [if_neg (by omega), show inI its 4 2 0 = -1 by omega]
      · rw [if_pos (by omega)]
    · rw [if_neg q1, if_pos (by omega)]
  · rw [if_neg q0, if_pos (by omega)]
theorem rdo_eq (hcb : CB c) (hcl : c.length = 384) {l : List EntT} (hl : HpOk l) {its : List ItT} (hI : ItsOk c its) {g0 g1 g2 g3 : Int} (hg : GOk g0 g1 g2 g3) (s inp : Int) :
    f16 a0 a1 a2 a3 c l its g0 g1 g2 g3 s inp = some (a0, a1, a2, a3, (doP c l its g0 g1 g2 g3 s inp).1, (doP c l its g0 g1 g2 g3 s inp).2.1, (doP c l its g0 g1 g2 g3 s inp).2.2.1, (doP c l its g0 g1 g2 g3 s inp).2.2.2.1, c, (doP c l its g0 g1 g2 g3 s inp).2.2.2.2.1, (doP c l its g0 g1 g2 g3 s inp).2.2.2.2.2, ()) := by
  have hi := its_iok hI
  have hil := hI.len
  have hll := hl.1
  unfold f16 doP
  rw [rtwin_eq a0 a1 a2 a3 c g0 g1 g2 g3 (by omega) (by omega) (by omega)]
  simp only [Option.bind_some]
  rw [rhero_eq l (by omega)]
  simp only [Option.bind_some]
  rw [bif_dec]
  by_cases q1 : heroE' l s < 0
  · rw [if_pos q1, if_pos (.inl q1)]
  rw [if_neg q1, bif_dec]
  by_cases q2 : s < 0
  · rw [if_pos q2, if_pos (.inr (.inl q2))]
  rw [if_neg q2, bif_dec]
  by_cases q3 : s ≥ 4
  · rw [if_pos q3, if_pos (.inr (.inr q3))]
  have hb : -1 ≤ heroE' l s ∧ heroE' l s < (l.length : Int) := find_b
  have rh : inRange (heroE' l s) l.length = true := inR (by omega)
  rw [if_neg q3, if_neg (by omega)]
  simp only [rh, cond_true]
  have hhp := hl.2 (heroE' l s).toNat (by omega)
  have e0 : l.getD (heroE' l s).toNat (0, 0, 0, 0, 0, 0, 0, 0, 0, 0, 0) = l.getD (heroE' l s).toNat eN := rfl
  have is : inRange s 4 = true := inR (by omega)
  have gb := gget_b (s := s) hg
  simp only [e0]
  rw [rin_eq its (by omega)]
  simp only [Option.bind_some]
  rw [rslot_eq its (by omega)]
  simp only [Option.bind_some]
  have gs : ∀ (n : Int), 0 ≤ n → n < its.length → ∀ x : ItT, (its.set n.toNat x).getD n.toNat (0, 0, 0, 0) = x := fun n h0 h1 x => by rw [getD_set, if_pos ⟨rfl, by omega⟩]
  by_cases i5 : inp = 5
  · rw [if_pos i5, beq_iff_eq.2 i5, cond_true]
    unfold pickP
    have ib := inI_b its 1 (ex (l.getD (heroE' l s).toNat eN)) (ey (l.getD (heroE' l s).toNat eN))
    have e1 : inI its 1 (l.getD (heroE' l s).toNat eN).2.2.2.1 (l.getD (heroE' l s).toNat eN).2.2.2.2.1 = inI its 1 (ex (l.getD (heroE' l s).toNat eN)) (ey (l.getD (heroE' l s).toNat eN)) := rfl
    rw [e1]
    generalize inI its 1 (ex (l.getD (heroE' l s).toNat eN)) (ey (l.getD (heroE' l s).toNat eN)) = n at *
    rw [bif_dec]
    by_cases q : n < 0
    · rw [if_neg (by omega), if_pos q]
      simp only [Option.bind_some, Sum.elim_inl, cond_false]
      rw [decide_eq_false (by omega), cond_false]
      rfl
    · have ir : inRange n its.length = true := inR (by omega)
      rw [if_pos (by omega), if_neg q]
      simp only [ir, cond_true, Option.bind_some, Sum.elim_inl, is]
      by_cases k : (its.getD n.toNat iN).1 = 4
      · have e : minI (IntKind.wrap .i64 ([g0, g1, g2, g3].getD s.toNat 0 + 5)) 999 = min (gget g0 g1 g2 g3 s + 5) 999 := by
          unfold gget at gb ⊢
          rw [wr (by omega), minI_eq]
        rw [if_pos k, beq_iff_eq.2 k, cond_true]
        simp only [e]
        rfl
      · rw [if_neg k, beq_eq_false_iff_ne.2 k, cond_false, decide_eq_true (by omega), cond_true, bif_dec]
        unfold intoI
        by_cases q6 : emptyI its s < 0
        · rw [if_neg (by omega), if_pos q6]
          rfl
        · rw [if_pos (by omega), if_neg q6]
          simp only [List.length_set, ir, cond_true, List.set_set, gs n (by omega) (by omega), Option.bind_some, Sum.elim_inl]
          rfl
  rw [if_neg i5, beq_eq_false_iff_ne.2 i5, cond_false]
  by_cases i6 : inp = 6
  · rw [if_pos i6, beq_iff_eq.2 i6, cond_true, rpotion_eq its (by omega)]
    simp only [Option.bind_some]
    have hb := hold_b (its := its) (s := s) (lo := 1) (hi := 1)
    unfold useP
    rw [bif_dec]
    by_cases q4 : hold its s 1 1 < 0
    · rw [if_neg (by omega), if_pos q4]
      rfl
    · have ge : ∀ x : EntT, (l.set (heroE' l s).toNat x).getD (heroE' l s).toNat (0, 0, 0, 0, 0, 0, 0, 0, 0, 0, 0) = x := fun x => by rw [getD_set, if_pos ⟨rfl, by omega⟩]
      have w6 : IntKind.wrap .i64 (hp (l.getD (heroE' l s).toNat eN) + 6) = hp (l.getD (heroE' l s).toNat eN) + 6 := wr (by omega)
      have e6 : minI (IntKind.wrap .i64 ((l.getD (heroE' l s).toNat eN).2.2.2.2.2.1 + 6)) (l.getD (heroE' l s).toNat eN).2.2.2.2.2.2.1 = min (hp (l.getD (heroE' l s).toNat eN) + 6) (mxh (l.getD (heroE' l s).toNat eN)) := by
        rw [show (l.getD (heroE' l s).toNat eN).2.2.2.2.2.1 = hp (l.getD (heroE' l s).toNat eN) from rfl, w6, minI_eq]
        rfl
      rw [if_pos (by omega), if_neg q4, inR (by omega), cond_true]
      simp only [rh, List.length_set, cond_true, List.set_set, ge, e6, Option.bind_some, Sum.elim_inl]
      rfl
  rw [if_neg i6, beq_eq_false_iff_ne.2 i6, cond_false]
  by_cases i7 : inp = 7
  · rw [if_pos i7, beq_iff_eq.2 i7, cond_true, rhas_eq its (by omega)]
    simp only [Option.bind_some]
    unfold wearP
    have hb := hold_b (its := its) (s := s) (lo := 2) (hi := 3)
    rw [bif_dec]
    by_cases q : hold its s 2 3 < 0
    · rw [if_neg (by omega), if_pos q]
      rfl
    · have hk := hold_kind (its := its) (s := s) (lo := 2) (hi := 3) (by omega)
      have rI : inRange (hold its s 2 3) its.length = true := inR (by omega)
      have e2 : IntKind.wrap .i64 ((its.getD (hold its s 2 3).toNat (0, 0, 0, 0)).1 - 2) = (its.getD (hold its s 2 3).toNat iN).1 - 2 := wr (x := (its.getD (hold its s 2 3).toNat iN).1 - 2) (by omega)
      rw [if_pos (by omega), if_neg q]
      simp only [rI, cond_true, e2]
      rw [rin_eq its (by omega)]
      simp only [Option.bind_some]
      unfold wear1
      have ib := inI_b its 3 s ((its.getD (hold its s 2 3).toNat iN).1 - 2)
      generalize inI its 3 s ((its.getD (hold its s 2 3).toNat iN).1 - 2) = o at *
      have fin : ∀ its1 : List ItT, its1.length = its.length → ∀ x : ItT, (its1.set (hold its s 2 3).toNat x).getD (hold its s 2 3).toNat (0, 0, 0, 0) = x := fun its1 h x => by rw [getD_set, if_pos ⟨rfl, by omega⟩]
      rw [bif_dec]
      by_cases q2 : o < 0
      · rw [if_neg (by omega), if_pos q2]
        simp only [Option.bind_some, Sum.elim_inl, rI, List.length_set, cond_true, List.set_set, fin its rfl]
      · have r1 : inRange o its.length = true := inR (by omega)
        rw [if_pos (by omega), if_neg q2]
        simp only [List.length_set, r1, rI, cond_true, Option.bind_some, Sum.elim_inl, List.set_set, gs o (by omega) (by omega)]
        rw [fin (its.set o.toNat _) (by rw [List.length_set])]
  rw [if_neg i7, beq_eq_false_iff_ne.2 i7, cond_false]
  by_cases i8 : inp = 8
  · rw [if_pos i8, beq_iff_eq.2 i8, cond_true, rhas_eq its (by omega)]
    simp only [Option.bind_some]
    have hb := hold_b (its := its) (s := s) (lo := 1) (hi := 3)
    unfold dropP
    rw [bif_dec]
    by_cases q4 : hold its s 1 3 ≥ 0
    · have rI : inRange (hold its s 1 3) its.length = true := inR (by omega)
      rw [if_pos q4, bif_dec]
      by_cases q5 : inI its 1 (l.getD (heroE' l s).toNat eN).2.2.2.1 (l.getD (heroE' l s).toNat eN).2.2.2.2.1 < 0
      · rw [if_pos q5, if_pos ⟨q4, q5⟩]
        simp only [List.length_set, rI, cond_true, List.set_set, gs (hold its s 1 3) (by omega) (by omega), Option.bind_some, Sum.elim_inl]
        rfl
      · rw [if_neg q5, if_neg (fun z => q5 z.2)]
        rfl
    · rw [if_neg q4, if_neg (fun z => q4 z.1)]
      rfl
  rw [if_neg i8, beq_eq_false_iff_ne.2 i8, cond_false]
  by_cases i10 : inp = 10
  · rw [if_pos i10, beq_iff_eq.2 i10, cond_true, ware_loop a0 a1 a2 a3 c (by omega)]
    simp only [Option.bind_some, Sum.elim_inl]
    rw [at_eq c hcb]
    simp only [Option.bind_some]
    have wb := wareI_b its
    have eat : (open Classical in if InG (l.getD (heroE' l s).toNat eN).2.2.2.1 (l.getD (heroE' l s).toNat eN).2.2.2.2.1 then Field.rd c (cel (l.getD (heroE' l s).toNat eN).2.2.2.1 (l.getD (heroE' l s).toNat eN).2.2.2.2.1) else 0) = atC c (ex (l.getD (heroE' l s).toNat eN)) (ey (l.getD (heroE' l s).toNat eN)) := rfl
    rw [eat]
    unfold buyP
    by_cases h5 : atC c (ex (l.getD (heroE' l s).toNat eN)) (ey (l.getD (heroE' l s).toNat eN)) = 5
    · rw [beq_iff_eq.2 h5, cond_true]
      simp only [is, cond_true]
      rw [bif_dec]
      by_cases h6 : gget g0 g1 g2 g3 s < 5
      · rw [if_neg (show ¬ [g0, g1, g2, g3].getD s.toNat 0 ≥ 5 by unfold gget at h6; omega), if_pos (.inr (.inl h6))]
        rfl
      · rw [if_pos (show [g0, g1, g2, g3].getD s.toNat 0 ≥ 5 by unfold gget at h6; omega), bif_dec]
        by_cases h7 : emptyI its s < 0
        · rw [if_neg (by omega), if_pos (.inr (.inr (.inr h7)))]
          rfl
        · rw [if_pos (by omega)]
          simp only [Option.bind_some, Sum.elim_inl]
          rw [bif_dec]
          by_cases h8 : wareI its < 0
          · rw [if_neg (by omega), if_pos (.inr (.inr (.inl h8)))]
            rfl
          · have rW : inRange (wareI its) its.length = true := inR (by omega)
            have e5 : IntKind.wrap .i64 ([g0, g1, g2, g3].getD s.toNat 0 - 5) = gget g0 g1 g2 g3 s - 5 := by
              unfold gget at gb ⊢
              exact wr (by omega)
            have hn : ¬ (atC c (ex (l.getD (heroE' l s).toNat eN)) (ey (l.getD (heroE' l s).toNat eN)) ≠ 5 ∨ gget g0 g1 g2 g3 s < 5 ∨ wareI its < 0 ∨ emptyI its s < 0) := fun z => by
              rcases z with z | z | z | z
              · exact z h5
              · exact h6 z
              · exact h8 z
              · exact h7 z
            rw [if_pos (by omega), if_neg hn]
            simp only [List.length_set, rW, is, cond_true, List.set_set, gs (wareI its) (by omega) (by omega), Option.bind_some, Sum.elim_inl, e5]
            unfold intoI
            rw [if_neg h7]
            rfl
    · rw [beq_eq_false_iff_ne.2 h5, cond_false, if_pos (.inl h5)]
      rfl
  rw [if_neg i10, beq_eq_false_iff_ne.2 i10, cond_false]
  rfl
end
end Go.Proofs.Ytdbfecfcoephoaa.Gd

/- Goods in plain words: what a hero does (own work). -/
import Derived.Test.YtdbfecfcoephoaaGoods1
namespace Go.Proofs.Ytdbfecfcoephoaa.Gd
open Go Go.Proofs.Ytdbfecfcoephoaa.Mx Go.Proofs.Ytdbfecfcoephoaa.Pc Go.Proofs.Ytdbfecfcoephoaa.Run Go.Proofs.Ytdbfecfcoephoaa.Field Go.Proofs.Ytdbfecfcoephoaa.Gen Go.Proofs.Ytdbfecfcoephoaa.GenL Go.Proofs.Ytdbfecfcoephoaa.Fl Go.Proofs.Ytdbfecfcoephoaa.Wd
set_option linter.unusedVariables false
set_option linter.unusedSimpArgs false
set_option maxHeartbeats 1000000
def healE (e : EntT) : EntT := (e.1, e.2.1, e.2.2.1, e.2.2.2.1, e.2.2.2.2.1, min (hp e + 6) (mxh e), mxh e, e.2.2.2.2.2.2.2.1, e.2.2.2.2.2.2.2.2.1, 0, e.2.2.2.2.2.2.2.2.2.2)
abbrev DT := Int × Int × Int × Int × List EntT × List ItT
def useP (l : List EntT) (its : List ItT) (s : Int) : List EntT × List ItT :=
  if hold its s 1 1 < 0 then (l, its) else (l.set (heroE' l s).toNat (healE (l.getD (heroE' l s).toNat eN)), its.set (hold its s 1 1).toNat iN)
noncomputable def doP (c : List Int) (l : List EntT) (its : List ItT) (g0 g1 g2 g3 s inp : Int) : DT :=
  if heroE' l s < 0 ∨ s < 0 ∨ 4 ≤ s then (g0, g1, g2, g3, l, its) else
  if inp = 5 then ((pickP its g0 g1 g2 g3 s (ex (l.getD (heroE' l s).toNat eN)) (ey (l.getD (heroE' l s).toNat eN))).1, (pickP its g0 g1 g2 g3 s (ex (l.getD (heroE' l s).toNat eN)) (ey (l.getD (heroE' l s).toNat eN))).2.1, (pickP its g0 g1 g2 g3 s (ex (l.getD (heroE' l s).toNat eN)) (ey (l.getD (heroE' l s).toNat eN))).2.2.1, (pickP its g0 g1 g2 g3 s (ex (l.getD (heroE' l s).toNat eN)) (ey (l.getD (heroE' l s).toNat eN))).2.2.2.1, l, (pickP its g0 g1 g2 g3 s (ex (l.getD (heroE' l s).toNat eN)) (ey (l.getD (heroE' l s).toNat eN))).2.2.2.2) else
  if inp = 6 then (g0, g1, g2, g3, (useP l its s).1, (useP l its s).2) else
  if inp = 7 then (g0, g1, g2, g3, l, wearP its s) else
  if inp = 8 then (g0, g1, g2, g3, l, dropP its s (ex (l.getD (heroE' l s).toNat eN)) (ey (l.getD (heroE' l s).toNat eN))) else
  if inp = 10 then ((buyP c its g0 g1 g2 g3 s (ex (l.getD (heroE' l s).toNat eN)) (ey (l.getD (heroE' l s).toNat eN))).1, (buyP c its g0 g1 g2 g3 s (ex (l.getD (heroE' l s).toNat eN)) (ey (l.getD (heroE' l s).toNat eN))).2.1, (buyP c its g0 g1 g2 g3 s (ex (l.getD (heroE' l s).toNat eN)) (ey (l.getD (heroE' l s).toNat eN))).2.2.1, (buyP c its g0 g1 g2 g3 s (ex (l.getD (heroE' l s).toNat eN)) (ey (l.getD (heroE' l s).toNat eN))).2.2.2.1, l, (buyP c its g0 g1 g2 g3 s (ex (l.getD (heroE' l s).toNat eN)) (ey (l.getD (heroE' l s).toNat eN))).2.2.2.2)
  else (g0, g1, g2, g3, l, its)
def HpOk (l : List EntT) : Prop := l.length = 32 ∧ ∀ i, i < 32 → -1000 ≤ hp (l.getD i eN) ∧ hp (l.getD i eN) ≤ 1000 ∧ -1000 ≤ mxh (l.getD i eN) ∧ mxh (l.getD i eN) ≤ 1000
theorem bag_kind {c : List Int} {its : List ItT} (h : ItsOk c its) {s b : Int} (hb : 0 ≤ inI its 2 s b) : 1 ≤ (its.getD (inI its 2 s b).toNat iN).1 ∧ (its.getD (inI its 2 s b).toNat iN).1 ≤ 3 := by
  obtain ⟨k, h1, e, h3, _⟩ := inI_some (l := its) (w := 2) (a := s) (b := b) (by omega)
  have hl := h.len
  rw [e, Int.toNat_natCast]
  unfold isAt at h3
  simp only [Bool.and_eq_true, beq_iff_eq] at h3
  rcases h.kind k (by omega) with q | ⟨q1, q2, q3⟩
  · rw [q] at h3; exact absurd h3.1 (by decide)
  · unfold Placed at q3
    omega
section
variable (a0 a1 a2 a3 : Int) (c : List Int)
theorem do_eq (hcb : CB c) (hcl : c.length = 384) {l : List EntT} (hl : HpOk l) {its : List ItT} (hI : ItsOk c its) {g0 g1 g2 g3 : Int} (hg : GOk g0 g1 g2 g3) (s inp : Int) :
    f14 a0 a1 a2 a3 c l its g0 g1 g2 g3 s inp = some (a0, a1, a2, a3, (doP c l its g0 g1 g2 g3 s inp).1, (doP c l its g0 g1 g2 g3 s inp).2.1, (doP c l its g0 g1 g2 g3 s inp).2.2.1, (doP c l its g0 g1 g2 g3 s inp).2.2.2.1, c, (doP c l its g0 g1 g2 g3 s inp).2.2.2.2.1, (doP c l its g0 g1 g2 g3 s inp).2.2.2.2.2, ()) := by
  have hi := its_iok hI
  have hS := its_sok hI
  have hil := hI.len
  have hll := hl.1
  unfold f14 doP
  rw [gtwin_eq a0 a1 a2 a3 c g0 g1 g2 g3 (by omega) (by omega) (by omega)]
  simp only [Option.bind_some]
  rw [hero_eq l hll]
  simp only [Option.bind_some]
  rw [bif_dec]
  by_cases q1 : heroE' l s < 0
  · rw [if_pos q1, if_pos (.inl q1)]
  rw [if_neg q1, bif_dec]
  by_cases q2 : s < 0
  · rw [if_pos q2, if_pos (.inr (.inl q2))]
  rw [if_neg q2, bif_dec]
  by_cases q3 : s ≥ 4
  · rw [if_pos q3, if_pos (.inr (.inr q3))]
  have hb : -1 ≤ heroE' l s ∧ heroE' l s < (l.length : Int) := find_b
  have rh : inRange (heroE' l s) l.length = true := inR (by omega)
  rw [if_neg q3, if_neg (by omega)]
  simp only [rh, cond_true]
  have hhp := hl.2 (heroE' l s).toNat (by omega)
  have e0 : l.getD (heroE' l s).toNat (0, 0, 0, 0, 0, 0, 0, 0, 0, 0, 0) = l.getD (heroE' l s).toNat eN := rfl
  simp only [e0]
  by_cases i5 : inp = 5
  · rw [if_pos i5, beq_iff_eq.2 i5, cond_true, pick_eq a0 a1 a2 a3 c hi l g0 g1 g2 g3 s _ _ _ _ _ _ _ _ _ _ _ (by omega) hg]
    rfl
  rw [if_neg i5, beq_eq_false_iff_ne.2 i5, cond_false]
  by_cases i6 : inp = 6
  · rw [if_pos i6, beq_iff_eq.2 i6, cond_true, holding_eq a0 a1 a2 a3 c g0 g1 g2 g3 hi s 1 1 [1] (by decide) (fun b hb h => by
      rw [Bool.eq_iff_iff]
      simp only [List.mem_cons, List.not_mem_nil, or_false, decide_eq_true_eq, Bool.and_eq_true]
      omega)]
    simp only [Option.bind_some]
    have hb := hold_b (its := its) (s := s) (lo := 1) (hi := 1)
    unfold useP
    rw [bif_dec]
    by_cases q4 : hold its s 1 1 < 0
    · rw [if_neg (by omega), if_pos q4]
      rfl
    · have gs : ∀ x : EntT, (l.set (heroE' l s).toNat x).getD (heroE' l s).toNat (0, 0, 0, 0, 0, 0, 0, 0, 0, 0, 0) = x := fun x => by rw [getD_set, if_pos ⟨rfl, by omega⟩]
      have w6 : IntKind.wrap .i64 (hp (l.getD (heroE' l s).toNat eN) + 6) = hp (l.getD (heroE' l s).toNat eN) + 6 := wr (by omega)
      have e6 : minI (IntKind.wrap .i64 ((l.getD (heroE' l s).toNat eN).2.2.2.2.2.1 + 6)) (l.getD (heroE' l s).toNat eN).2.2.2.2.2.2.1 = min (hp (l.getD (heroE' l s).toNat eN) + 6) (mxh (l.getD (heroE' l s).toNat eN)) := by
        rw [show (l.getD (heroE' l s).toNat eN).2.2.2.2.2.1 = hp (l.getD (heroE' l s).toNat eN) from rfl, w6, minI_eq]
        rfl
      rw [if_pos (by omega), if_neg q4, inR (by omega), cond_true]
      simp only [List.set_set, gs, e6, Option.bind_some, Sum.elim_inl]
      rfl
  rw [if_neg i6, beq_eq_false_iff_ne.2 i6, cond_false]
  by_cases i7 : inp = 7
  · rw [if_pos i7, beq_iff_eq.2 i7, cond_true, wear_eq a0 a1 a2 a3 c g0 g1 g2 g3 hi l s]
    rfl
  rw [if_neg i7, beq_eq_false_iff_ne.2 i7, cond_false]
  by_cases i8 : inp = 8
  · rw [if_pos i8, beq_iff_eq.2 i8, cond_true, holding_eq a0 a1 a2 a3 c g0 g1 g2 g3 hi s 1 3 [1, 2, 3, 4] (by decide) (fun b hb h => by
      have := bag_kind hI h
      rw [Bool.eq_iff_iff]
      simp only [List.mem_cons, List.not_mem_nil, or_false, decide_eq_true_eq, Bool.and_eq_true]
      omega)]
    simp only [Option.bind_some]
    have hb := hold_b (its := its) (s := s) (lo := 1) (hi := 3)
    unfold dropP
    rw [bif_dec]
    by_cases q4 : hold its s 1 3 ≥ 0
    · rw [if_pos q4, find_eq a0 a1 a2 a3 c g0 g1 g2 g3 hi 1 _ _ (by decide)]
      simp only [Option.bind_some, Sum.elim_inl]
      rw [bif_dec]
      by_cases q5 : inI its 1 (l.getD (heroE' l s).toNat eN).2.2.2.1 (l.getD (heroE' l s).toNat eN).2.2.2.2.1 < 0
      · have gs : ∀ x : ItT, (its.set (hold its s 1 3).toNat x).getD (hold its s 1 3).toNat (0, 0, 0, 0) = x := fun x => by rw [getD_set, if_pos ⟨rfl, by omega⟩]
        rw [if_pos q5, inR (by omega), cond_true, if_pos ⟨q4, q5⟩]
        simp only [List.set_set, gs, Option.bind_some, Sum.elim_inl]
        rfl
      · rw [if_neg q5, if_neg (fun z => q5 z.2)]
        rfl
    · rw [if_neg q4, if_neg (fun z => q4 z.1)]
      rfl
  rw [if_neg i8, beq_eq_false_iff_ne.2 i8, cond_false]
  by_cases i10 : inp = 10
  · rw [if_pos i10, beq_iff_eq.2 i10, cond_true, buy_eq a0 a1 a2 a3 c hi hS l hcb hcl g0 g1 g2 g3 s _ _ _ _ _ _ _ _ _ _ _ (by omega) hg]
    rfl
  rw [if_neg i10, beq_eq_false_iff_ne.2 i10, cond_false]
  rfl
end
end Go.Proofs.Ytdbfecfcoephoaa.Gd

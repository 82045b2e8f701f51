/- Goods in plain words: what stays as a hero does things (own work). -/
import Derived.Test.YtdbfecfcoephoaaGoodsR
namespace Go.Proofs.Ytdbfecfcoephoaa.Gd
open Go Go.Proofs.Ytdbfecfcoephoaa.Mx Go.Proofs.Ytdbfecfcoephoaa.Pc Go.Proofs.Ytdbfecfcoephoaa.Run Go.Proofs.Ytdbfecfcoephoaa.Field Go.Proofs.Ytdbfecfcoephoaa.Gen Go.Proofs.Ytdbfecfcoephoaa.GenL Go.Proofs.Ytdbfecfcoephoaa.Fl Go.Proofs.Ytdbfecfcoephoaa.Wd
set_option linter.unusedVariables false
set_option linter.unusedSimpArgs false
set_option maxHeartbeats 1000000
theorem isAt_iff {w a b : Int} {x : ItT} : isAt w a b x = true ↔ x.2 = (w, a, b) := by
  unfold isAt
  simp only [Bool.and_eq_true, beq_iff_eq]
  constructor
  · rintro ⟨h1, h2, h3⟩
    exact Prod.ext h1 (Prod.ext h2 h3)
  · intro h
    rw [h]
    exact ⟨rfl, rfl, rfl⟩
theorem isAt_not {w a b : Int} {x : ItT} (h : isAt w a b x = false) : x.2 ≠ (w, a, b) := fun z => by
  rw [isAt_iff.2 z] at h
  cases h
/-- The item that was found. -/
theorem inI_at {c : List Int} {its : List ItT} (h : ItsOk c its) {w a b : Int} (hw : w ≠ 0) (h0 : 0 ≤ inI its w a b) : ∃ k : Nat, k < 40 ∧ inI its w a b = k ∧ (its.getD k iN).2 = (w, a, b) ∧ its.getD k iN ≠ iN ∧ 1 ≤ (its.getD k iN).1 ∧ (its.getD k iN).1 ≤ 4 ∧ Placed c (its.getD k iN) := by
  obtain ⟨k, h1, e, h3, _⟩ := inI_some (l := its) (w := w) (a := a) (b := b) (by omega)
  have hl := h.len
  have e3 := isAt_iff.1 h3
  have ne : its.getD k iN ≠ iN := fun z => by
    rw [z] at e3
    exact hw (congrArg Prod.fst e3).symm
  rcases h.kind k (by omega) with q | ⟨q1, q2, q3⟩
  · exact absurd q ne
  · exact ⟨k, by omega, e, e3, ne, q1, q2, q3⟩
theorem free_at {c : List Int} {its : List ItT} (h : ItsOk c its) {w a b : Int} (h0 : inI its w a b < 0) : ∀ i, i < 40 → (its.getD i iN).2 ≠ (w, a, b) := fun i hi => isAt_not (inI_none.1 h0 i (by have := h.len; omega))
theorem empty_some {its : List ItT} {s : Int} (h : 0 ≤ emptyI its s) : ∃ b : Nat, b < 4 ∧ emptyI its s = b ∧ inI its 2 s b < 0 ∧ ∀ j : Nat, j < b → 0 ≤ inI its 2 s j := by
  obtain ⟨b, h1, h2, h3, h4⟩ := find_pos (p := fun b : Nat => decide (inI its 2 s b < 0)) (n := 4) (by unfold emptyI at h; omega)
  refine ⟨b, h1, h2, of_decide_eq_true h3, fun j hj => ?_⟩
  have := of_decide_eq_false (h4 j hj)
  omega
theorem into_ok {c : List Int} {its : List ItT} (h : ItsOk c its) {s : Int} (hs : 0 ≤ s ∧ s < 4) {n : Nat} (hn : n < 40) (hk : 1 ≤ (its.getD n iN).1 ∧ (its.getD n iN).1 ≤ 3) : ItsOk c (intoI its s n) := by
  unfold intoI
  split
  · exact h
  · rename_i q
    obtain ⟨b, hb, e, hf, _⟩ := empty_some (its := its) (s := s) (by omega)
    rw [e, Int.toNat_natCast]
    refine h.put hn ⟨hk.1, by show (its.getD n iN).1 ≤ 4; omega⟩ (.inr (.inl ⟨rfl, hs.1, hs.2, ?_, ?_, ?_⟩)) (fun i hi _ => free_at h hf i hi)
    · show (0 : Int) ≤ (b : Int); omega
    · show (b : Int) < 4; omega
    · show (its.getD n iN).1 ≠ 4; omega
theorem gset_ok {s v g0 g1 g2 g3 : Int} (h : GOk g0 g1 g2 g3) (hv : 0 ≤ v ∧ v ≤ 999) : GOk (gset s v 0 g0) (gset s v 1 g1) (gset s v 2 g2) (gset s v 3 g3) := by
  unfold GOk at h ⊢
  unfold gset
  refine ⟨?_, ?_, ?_, ?_⟩ <;> split <;> first | exact hv | exact h.1 | exact h.2.1 | exact h.2.2.1 | exact h.2.2.2
/-- What holds of a world of goods. -/
structure WI (c : List Int) (l : List EntT) (its : List ItT) (g0 g1 g2 g3 : Int) : Prop where
  hp : HpOk l
  its : ItsOk c its
  gold : GOk g0 g1 g2 g3
  pos : ∀ i, i < 32 → kd (l.getD i eN) = 1 → 0 ≤ ex (l.getD i eN) ∧ ex (l.getD i eN) < 24 ∧ 0 ≤ ey (l.getD i eN) ∧ ey (l.getD i eN) < 16 ∧ c.getD (ey (l.getD i eN) * 24 + ex (l.getD i eN)).toNat 0 ≠ 0
theorem pick_ok {c : List Int} {its : List ItT} {g0 g1 g2 g3 : Int} (h : ItsOk c its) (hg : GOk g0 g1 g2 g3) {s x y : Int} (hs : 0 ≤ s ∧ s < 4) : GOk (pickP its g0 g1 g2 g3 s x y).1 (pickP its g0 g1 g2 g3 s x y).2.1 (pickP its g0 g1 g2 g3 s x y).2.2.1 (pickP its g0 g1 g2 g3 s x y).2.2.2.1 ∧ ItsOk c (pickP its g0 g1 g2 g3 s x y).2.2.2.2 := by
  unfold pickP
  split
  · exact ⟨hg, h⟩
  · rename_i q
    obtain ⟨k, hk, e, _, _, k1, k4, _⟩ := inI_at h (w := 1) (a := x) (b := y) (by decide) (by omega)
    rw [e, Int.toNat_natCast]
    split
    · have := gget_b (s := s) hg
      exact ⟨gset_ok hg (by omega), h.drop k⟩
    · rename_i q4
      exact ⟨hg, into_ok h hs hk (by omega)⟩
theorem hold_at {c : List Int} {its : List ItT} (h : ItsOk c its) {s lo hi : Int} (h0 : 0 ≤ hold its s lo hi) : ∃ (k b : Nat), k < 40 ∧ b < 4 ∧ hold its s lo hi = k ∧ (its.getD k iN).2 = (2, s, (b : Int)) ∧ its.getD k iN ≠ iN ∧ lo ≤ (its.getD k iN).1 ∧ (its.getD k iN).1 ≤ hi ∧ 1 ≤ (its.getD k iN).1 ∧ (its.getD k iN).1 ≤ 4 ∧ Placed c (its.getD k iN) := by
  have hk := hold_kind h0
  obtain ⟨b, hb, e, _, _⟩ := hold_some h0
  rw [e] at h0
  obtain ⟨k, h1, h2, h3, h4, h5, h6, h7⟩ := inI_at h (w := 2) (a := s) (b := b) (by decide) h0
  rw [e, h2, Int.toNat_natCast] at hk
  exact ⟨k, b, h1, hb, e.trans h2, h3, h4, hk.1, hk.2, h5, h6, h7⟩
theorem wear_ok {c : List Int} {its : List ItT} (h : ItsOk c its) {s : Int} : ItsOk c (wearP its s) := by
  unfold wearP
  split
  · exact h
  · rename_i q
    obtain ⟨k, b, hk, hb, e, e2, ne, l1, l2, _, _, hP⟩ := hold_at h (s := s) (lo := 2) (hi := 3) (by omega)
    have hl := h.len
    rw [e, Int.toNat_natCast]
    have p2 : (its.getD k iN).2.1 = 2 := congrArg Prod.fst e2
    have ps : (its.getD k iN).2.2.1 = s := congrArg (fun z => z.2.1) e2
    have pb : (its.getD k iN).2.2.2 = b := congrArg (fun z => z.2.2) e2
    have hs : 0 ≤ s ∧ s < 4 := by
      rw [← ps]
      unfold Placed at hP
      omega
    unfold wear1
    rw [Int.toNat_natCast]
    have hd := h.drop k
    have gd : ∀ i, (its.set k iN).getD i iN = if k = i then iN else its.getD i iN := fun i => by
      rw [getD_set]
      by_cases z : k = i
      · rw [if_pos ⟨z, by omega⟩, if_pos z]
      · rw [if_neg (fun y => z y.1), if_neg z]
    have kk : Placed c ((its.getD k iN).1, 3, s, (its.getD k iN).1 - 2) := by
      refine .inr (.inr (.inl ⟨rfl, hs.1, hs.2, ?_⟩))
      show ((its.getD k iN).1 = 2 ∧ (its.getD k iN).1 - 2 = 0) ∨ ((its.getD k iN).1 = 3 ∧ (its.getD k iN).1 - 2 = 1)
      omega
    split
    · rename_i q2
      have := hd.put (n := k) (x := ((its.getD k iN).1, 3, s, (its.getD k iN).1 - 2)) hk ⟨by show 1 ≤ (its.getD k iN).1; omega, by show (its.getD k iN).1 ≤ 4; omega⟩ kk (fun i hi hne => by
        rw [gd, if_neg (fun z => hne z.symm)]
        exact free_at h q2 i hi)
      rw [List.set_set] at this
      rw [ps]
      exact this
    · rename_i q2
      obtain ⟨o, ho, eo, eo2, neo, o1, o4, hPo⟩ := inI_at h (w := 3) (a := s) (b := (its.getD k iN).1 - 2) (by decide) (by omega)
      have oa : (its.getD o iN).2.2.1 = s := congrArg (fun z => z.2.1) eo2
      have nko : k ≠ o := fun z => by
        rw [z, eo2] at p2
        exact absurd p2 (by show ¬ (3 : Int) = 2; decide)
      have ok4 : (its.getD o iN).1 ≠ 4 := by
        have w3 : (its.getD o iN).2.1 = 3 := congrArg Prod.fst eo2
        unfold Placed at hPo
        omega
      rw [eo, Int.toNat_natCast, oa, pb]
      have h1 := hd.put (n := o) (x := ((its.getD o iN).1, 2, s, (b : Int))) ho ⟨o1, o4⟩ (.inr (.inl ⟨rfl, hs.1, hs.2, by show (0 : Int) ≤ b; omega, by show (b : Int) < 4; omega, ok4⟩)) (fun i hi hne => by
        rw [gd]
        split
        · exact fun z => absurd (congrArg Prod.fst z) (by show (0 : Int) ≠ 2; decide)
        · rename_i z
          intro y
          exact z (h.one k i hk hi ne (e2.trans y.symm)))
      have h2 := h1.put (n := k) (x := ((its.getD k iN).1, 3, s, (its.getD k iN).1 - 2)) hk ⟨by show 1 ≤ (its.getD k iN).1; omega, by show (its.getD k iN).1 ≤ 4; omega⟩ kk (fun i hi hne => by
        rw [getD_set]
        split
        · exact fun z => absurd (congrArg Prod.fst z) (by show (2 : Int) ≠ 3; decide)
        · rename_i z
          rw [gd, if_neg (fun y => hne y.symm)]
          intro y
          have := h.one o i ho hi neo (eo2.trans y.symm)
          exact z ⟨this, by rw [List.length_set]; omega⟩)
      rw [List.set_comm _ _ (fun z => nko z), List.set_set] at h2
      have ge : ((its.set o ((its.getD o iN).1, 2, s, (b : Int))).getD k iN) = its.getD k iN := by
        rw [getD_set, if_neg (fun z => nko z.1.symm)]
      rw [ge, ps]
      exact h2
theorem drop_ok {c : List Int} {its : List ItT} (h : ItsOk c its) {s x y : Int} (hx : 0 ≤ x ∧ x < 24 ∧ 0 ≤ y ∧ y < 16 ∧ c.getD (y * 24 + x).toNat 0 ≠ 0) : ItsOk c (dropP its s x y) := by
  unfold dropP
  split
  · rename_i q
    obtain ⟨k, b, hk, _, e, _, _, l1, l2, k1, k4, _⟩ := hold_at h q.1
    rw [e, Int.toNat_natCast]
    exact h.put hk ⟨k1, k4⟩ (.inl ⟨rfl, hx⟩) (fun i hi _ => free_at h q.2 i hi)
  · exact h
theorem ware_at {its : List ItT} (h : 0 ≤ wareI its) : ∃ k : Nat, k < 3 ∧ wareI its = inI its 4 k 0 := by
  unfold wareI at h ⊢
  split at h
  · rename_i k e
    obtain ⟨h1, h2, _⟩ := List.find?_range_eq_some.1 e
    exact ⟨k, List.mem_range.1 h2, rfl⟩
  · omega
theorem buy_ok {c : List Int} {its : List ItT} {g0 g1 g2 g3 : Int} (h : ItsOk c its) (hg : GOk g0 g1 g2 g3) {s x y : Int} (hs : 0 ≤ s ∧ s < 4) : GOk (buyP c its g0 g1 g2 g3 s x y).1 (buyP c its g0 g1 g2 g3 s x y).2.1 (buyP c its g0 g1 g2 g3 s x y).2.2.1 (buyP c its g0 g1 g2 g3 s x y).2.2.2.1 ∧ ItsOk c (buyP c its g0 g1 g2 g3 s x y).2.2.2.2 := by
  unfold buyP
  split
  · exact ⟨hg, h⟩
  · rename_i q
    have q3 : 0 ≤ wareI its := Int.not_lt.1 fun z => q (.inr (.inr (.inl z)))
    have q2 : 5 ≤ gget g0 g1 g2 g3 s := Int.not_lt.1 fun z => q (.inr (.inl z))
    obtain ⟨m, _, em⟩ := ware_at q3
    rw [em] at q3
    obtain ⟨k, hk, e, e2, _, k1, k4, hP⟩ := inI_at h (w := 4) (a := m) (b := 0) (by decide) q3
    have w4 : (its.getD k iN).2.1 = 4 := congrArg Prod.fst e2
    have n4 : (its.getD k iN).1 ≠ 4 := by
      unfold Placed at hP
      omega
    have := gget_b (s := s) hg
    rw [em, e]
    exact ⟨gset_ok hg (by omega), into_ok h hs hk (by omega)⟩
theorem do_ok {c : List Int} {l : List EntT} {its : List ItT} {g0 g1 g2 g3 : Int} (h : WI c l its g0 g1 g2 g3) (s inp : Int) :
    WI c (doP c l its g0 g1 g2 g3 s inp).2.2.2.2.1 (doP c l its g0 g1 g2 g3 s inp).2.2.2.2.2 (doP c l its g0 g1 g2 g3 s inp).1 (doP c l its g0 g1 g2 g3 s inp).2.1 (doP c l its g0 g1 g2 g3 s inp).2.2.1 (doP c l its g0 g1 g2 g3 s inp).2.2.2.1 := by
  unfold doP
  split
  · exact h
  · rename_i q
    have hs : 0 ≤ s ∧ s < 4 := by omega
    have hl := h.hp.1
    obtain ⟨k, hk, ek, hh, _⟩ := find_pos (p := fun i => isHero s (l.getD i eN)) (n := l.length) (fun z => q (.inl z))
    have ek : heroE' l s = k := ek
    have hh : isHero s (l.getD k eN) = true := hh
    have hk1 : kd (l.getD k eN) = 1 := by
      unfold isHero at hh
      simp only [Bool.and_eq_true, beq_iff_eq] at hh
      exact hh.1
    have hpos := h.pos k (by omega) hk1
    rw [ek, Int.toNat_natCast]
    split
    · have := pick_ok h.its h.gold (s := s) (x := ex (l.getD k eN)) (y := ey (l.getD k eN)) hs
      exact ⟨h.hp, this.2, this.1, h.pos⟩
    split
    · unfold useP
      rw [ek, Int.toNat_natCast]
      split
      · exact h
      · have b := h.hp.2 k (by omega)
        have g : ∀ j, (l.set k (healE (l.getD k eN))).getD j eN = if k = j then healE (l.getD k eN) else l.getD j eN := fun j => by
          rw [getD_set]
          by_cases z : k = j
          · rw [if_pos ⟨z, hk⟩, if_pos z]
          · rw [if_neg (fun y => z y.1), if_neg z]
        refine ⟨⟨by rw [List.length_set]; exact hl, fun i hi => ?_⟩, h.its.drop _, h.gold, fun i hi hki => ?_⟩
        · rw [g]
          split
          · show -1000 ≤ min (hp (l.getD k eN) + 6) (mxh (l.getD k eN)) ∧ min (hp (l.getD k eN) + 6) (mxh (l.getD k eN)) ≤ 1000 ∧ -1000 ≤ mxh (l.getD k eN) ∧ mxh (l.getD k eN) ≤ 1000
            omega
          · exact h.hp.2 i hi
        · rw [g] at hki ⊢
          split
          · exact hpos
          · rename_i z
            rw [if_neg z] at hki
            exact h.pos i hi hki
    split
    · exact ⟨h.hp, wear_ok h.its, h.gold, h.pos⟩
    split
    · exact ⟨h.hp, drop_ok h.its hpos, h.gold, h.pos⟩
    split
    · have := buy_ok h.its h.gold (s := s) (x := ex (l.getD k eN)) (y := ey (l.getD k eN)) hs
      exact ⟨h.hp, this.2, this.1, h.pos⟩
    · exact h
end Go.Proofs.Ytdbfecfcoephoaa.Gd

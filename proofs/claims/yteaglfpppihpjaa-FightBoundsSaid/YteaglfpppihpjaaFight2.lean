/- Both texts' blows are those in plain words: hits, ailments (own work). -/
import Derived.Test.YteaglfpppihpjaaFight
namespace Go.Proofs.Yteaglfpppihpjaa.Ft
open Go Go.Proofs.Yteaglfpppihpjaa.Mx Go.Proofs.Yteaglfpppihpjaa.Pc Go.Proofs.Yteaglfpppihpjaa.Run Go.Proofs.Yteaglfpppihpjaa.Field Go.Proofs.Yteaglfpppihpjaa.Gen Go.Proofs.Yteaglfpppihpjaa.GenL Go.Proofs.Yteaglfpppihpjaa.Fl Go.Proofs.Yteaglfpppihpjaa.Wd
set_option linter.unusedVariables false
set_option linter.unusedSimpArgs false
set_option maxHeartbeats 1000000
section
variable (a0 a1 a2 a3 : Int) (c : List Int) (a7 a8 a9 a10 : Int)
theorem bon_b (its : List ItT) (s : Int) : 0 ≤ (bon its s).1 ∧ (bon its s).1 ≤ 3 ∧ 0 ≤ (bon its s).2 ∧ (bon its s).2 ≤ 2 := by
  unfold bon
  dsimp only
  refine ⟨?_, ?_, ?_, ?_⟩ <;> split <;> decide
theorem arm_b {l : List EntT} (h : LOk l) (its : List ItT) {r : Int} (ha : alive l r = true) : 0 ≤ arm (l.getD r.toNat eN) its ∧ arm (l.getD r.toNat eN) its ≤ 8 ∧ 0 ≤ guard' (l.getD r.toNat eN) its ∧ guard' (l.getD r.toNat eN) its ≤ 3 := by
  have t := h.taken ha
  have b := bon_b its (st (l.getD r.toNat eN))
  unfold arm guard'
  refine ⟨?_, ?_, ?_, ?_⟩ <;> split <;> omega
theorem blow_b {l : List EntT} (h : LOk l) (its : List ItT) {r q : Int} (ha : alive l r = true) (hb : alive l q = true) (sd fr : Int) : 1 ≤ blow sd fr r q l its ∧ blow sd fr r q l its ≤ 100 := by
  have a := arm_b h its ha
  have b := arm_b h its hb
  have d := (die_is 3 sd [fr, r, q, 77] (by simp) (by decide) (by decide)).2
  unfold blow
  omega
theorem strength_eq {l : List EntT} {its : List ItT} (h : LOk l) (hi : IOk its) {r : Int} (ha : alive l r = true) : f31 a0 a1 a2 a3 c l its a7 a8 a9 a10 r = some (arm (l.getD r.toNat eN) its, guard' (l.getD r.toNat eN) its, ()) := by
  obtain ⟨h0, h1, _⟩ := alive_iff.1 ha
  have t := h.taken ha
  have b := bon_b its (st (l.getD r.toNat eN))
  unfold f31 arm guard'
  rw [inR (by omega), cond_true]
  have eS : (l.getD r.toNat (0, 0, 0, 0, 0, 0, 0, 0, 0, 0, 0)).2.2.1 = st (l.getD r.toNat eN) := rfl
  have eA : (l.getD r.toNat (0, 0, 0, 0, 0, 0, 0, 0, 0, 0, 0)).2.2.2.2.2.2.2.1 = atk (l.getD r.toNat eN) := rfl
  have eD : (l.getD r.toNat (0, 0, 0, 0, 0, 0, 0, 0, 0, 0, 0)).2.2.2.2.2.2.2.2.1 = df (l.getD r.toNat eN) := rfl
  by_cases q3 : kd (l.getD r.toNat eN) = 1
  · have e3 : ((l.getD r.toNat (0, 0, 0, 0, 0, 0, 0, 0, 0, 0, 0)).1 == 1) = true := beq_iff_eq.2 q3
    rw [e3, cond_true, if_pos q3, if_pos q3, bonus_eq a0 a1 a2 a3 c a7 a8 a9 a10 hi, eS]
    simp only [Option.bind_some, Sum.elim_inl]
    rw [eA, eD, wr (by omega), wr (by omega)]
  · have e3 : ((l.getD r.toNat (0, 0, 0, 0, 0, 0, 0, 0, 0, 0, 0)).1 == 1) = false := beq_eq_false_iff_ne.2 q3
    rw [e3, cond_false, if_neg q3, if_neg q3]
    simp only [Option.bind_some, Sum.elim_inl]
    rw [eA, eD, wr (by omega), wr (by omega), Int.add_zero, Int.add_zero]
theorem hit_eq {l : List EntT} {its : List ItT} (hc : c.length ≤ 1000) (h : LOk l) (hi : IOk its) (a b : Int) : f14 a0 a1 a2 a3 c l its a7 a8 a9 a10 a b = some (a0, a1, a2, a3, a7, a8, a9, a10, c, (hit a0 a1 l its a b).1, (hit a0 a1 l its a b).2, ()) := by
  have hl := h.len
  have hil := hi.1
  unfold f14 hit
  rw [is_eq a0 a1 a2 a3 c a7 a8 a9 a10 hl]
  simp only [Option.bind_some]
  cases ha : alive l a with
  | false =>
    rw [if_pos (.inl rfl), Bool.not_false, cond_true, ftwin_eq a0 a1 a2 a3 c a7 a8 a9 a10 hc (by omega) hil]
    rfl
  | true =>
    rw [Bool.not_true, cond_false, is_eq a0 a1 a2 a3 c a7 a8 a9 a10 hl]
    simp only [Option.bind_some]
    cases hb : alive l b with
    | false =>
      rw [if_pos (.inr rfl), Bool.not_false, cond_true, ftwin_eq a0 a1 a2 a3 c a7 a8 a9 a10 hc (by omega) hil]
      rfl
    | true =>
      have bb := blow_b h its ha hb a0 a1
      have aa := arm_b h its ha
      have ab := arm_b h its hb
      have d := die_is 3 a0 [a1, a, b, 77] (by simp) (by decide) (by decide)
      obtain ⟨p0, p1, _⟩ := alive_iff.1 ha
      have eB : IntKind.wrap .i64 (maxI 1 (IntKind.wrap .i64 (arm (l.getD a.toNat eN) its - guard' (l.getD b.toNat eN) its)) + dval 3 a0 [a1, a, b, 77]) = blow a0 a1 a b l its := by
        rw [wr (x := arm (l.getD a.toNat eN) its - guard' (l.getD b.toNat eN) its) (by omega), maxI_eq, wr (by omega)]
        rfl
      rw [if_neg (by simp), Bool.not_true, cond_false, strength_eq a0 a1 a2 a3 c a7 a8 a9 a10 h hi ha]
      simp only [Option.bind_some]
      rw [strength_eq a0 a1 a2 a3 c a7 a8 a9 a10 h hi hb]
      simp only [Option.bind_some]
      rw [inR (by omega), cond_true, die_same, d.1]
      simp only [Option.bind_some]
      rw [eB, hurt_eq a0 a1 a2 a3 c a7 a8 a9 a10 hc h hil]
      simp only [Option.bind_some]
      have hh := hurt_ok h hi b (blow a0 a1 a b l its)
      generalize hurt l its b (blow a0 a1 a b l its) = p at *
      obtain ⟨l1, its1⟩ := p
      dsimp only at hh ⊢
      rw [is_eq a0 a1 a2 a3 c a7 a8 a9 a10 hh.1.len]
      simp only [Option.bind_some]
      cases h1 : alive l1 b with
      | false => rw [if_pos rfl]; rfl
      | true =>
        have t := hh.1.taken h1
        obtain ⟨q0, q1, _⟩ := alive_iff.1 h1
        rw [if_neg (by simp), Bool.not_true, cond_false, inR (by omega), cond_true]
        unfold leave
        have eP : (l1.getD b.toNat (0, 0, 0, 0, 0, 0, 0, 0, 0, 0, 0)).2.2.2.2.2.2.2.2.2.1 = po (l1.getD b.toNat eN) := rfl
        have eS : (l1.getD b.toNat (0, 0, 0, 0, 0, 0, 0, 0, 0, 0, 0)).2.2.2.2.2.2.2.2.2.2 = sn (l1.getD b.toNat eN) := rfl
        by_cases k4 : kd (l.getD a.toNat eN) = 4
        · have e4 : ((l.getD a.toNat (0, 0, 0, 0, 0, 0, 0, 0, 0, 0, 0)).1 == 4) = true := beq_iff_eq.2 k4
          rw [e4, cond_true, if_pos k4]
          simp only [Option.bind_some, Sum.elim_inl]
          rw [eP, wr (x := po (l1.getD b.toNat eN) + 3) (by omega), minI_eq]
          rfl
        · have e4 : ((l.getD a.toNat (0, 0, 0, 0, 0, 0, 0, 0, 0, 0, 0)).1 == 4) = false := beq_eq_false_iff_ne.2 k4
          rw [e4, cond_false, if_neg k4]
          by_cases k3 : kd (l.getD a.toNat eN) = 3
          · have e3 : ((l.getD a.toNat (0, 0, 0, 0, 0, 0, 0, 0, 0, 0, 0)).1 == 3) = true := beq_iff_eq.2 k3
            have d2 := die_is 4 a0 [a1, a, b, 78] (by simp) (by decide) (by decide)
            rw [e3, cond_true, if_pos k3, die_same, d2.1]
            simp only [Option.bind_some]
            by_cases z : dval 4 a0 [a1, a, b, 78] = 0
            · have ez : (dval 4 a0 [a1, a, b, 78] != 0) = false := by rw [z]; rfl
              rw [ez, cond_false, if_pos z]
              simp only [Option.bind_some, Sum.elim_inl]
              rw [eS, wr (x := sn (l1.getD b.toNat eN) + 2) (by omega), minI_eq]
              rfl
            · have ez : (dval 4 a0 [a1, a, b, 78] != 0) = true := bne_iff_ne.2 z
              rw [ez, cond_true, if_neg z]
              rfl
          · have e3 : ((l.getD a.toNat (0, 0, 0, 0, 0, 0, 0, 0, 0, 0, 0)).1 == 3) = false := beq_eq_false_iff_ne.2 k3
            rw [e3, cond_false, if_neg k3]
            rfl
theorem rhit_eq {l : List EntT} {its : List ItT} (hc : c.length ≤ 1000) (h : LOk l) (hi : IOk its) (a b : Int) : f17 a0 a1 a2 a3 c l its a7 a8 a9 a10 a b = some (a0, a1, a2, a3, a7, a8, a9, a10, c, (hit a0 a1 l its a b).1, (hit a0 a1 l its a b).2, ()) := by
  have hl := h.len
  have hil := hi.1
  refine OK.eq ?_
  unfold f17 hit
  rw [there_eq a0 a1 a2 a3 c a7 a8 a9 a10]
  simp only [Option.bind_some]
  cases ha : alive l a with
  | false =>
    rw [if_pos (.inl rfl), Bool.not_false, cond_true, rtwin_eq a0 a1 a2 a3 c a7 a8 a9 a10 hc (by omega) hil]
    exact OK.ret rfl
  | true =>
    rw [Bool.not_true, cond_false, there_eq a0 a1 a2 a3 c a7 a8 a9 a10]
    simp only [Option.bind_some]
    cases hb : alive l b with
    | false =>
      rw [if_pos (.inr rfl), Bool.not_false, cond_true, rtwin_eq a0 a1 a2 a3 c a7 a8 a9 a10 hc (by omega) hil]
      exact OK.ret rfl
    | true =>
      have bb := blow_b h its ha hb a0 a1
      have aa := arm_b h its ha
      have ab := arm_b h its hb
      have ta := h.taken ha
      have tb := h.taken hb
      have d := die_is 3 a0 [a1, a, b, 77] (by simp) (by decide) (by decide)
      obtain ⟨p0, p1, _⟩ := alive_iff.1 ha
      obtain ⟨r0, r1, _⟩ := alive_iff.1 hb
      have ba := bon_b its (st (l.getD a.toNat eN))
      have bd := bon_b its (st (l.getD b.toNat eN))
      rw [if_neg (by simp), Bool.not_true, cond_false, inR (i := a) (by omega), inR (i := b) (by omega), cond_true, cond_true]
      have eA : (l.getD a.toNat (0, 0, 0, 0, 0, 0, 0, 0, 0, 0, 0)).2.2.2.2.2.2.2.1 = atk (l.getD a.toNat eN) := rfl
      have eD : (l.getD b.toNat (0, 0, 0, 0, 0, 0, 0, 0, 0, 0, 0)).2.2.2.2.2.2.2.2.1 = df (l.getD b.toNat eN) := rfl
      have eSa : (l.getD a.toNat (0, 0, 0, 0, 0, 0, 0, 0, 0, 0, 0)).2.2.1 = st (l.getD a.toNat eN) := rfl
      have eSb : (l.getD b.toNat (0, 0, 0, 0, 0, 0, 0, 0, 0, 0, 0)).2.2.1 = st (l.getD b.toNat eN) := rfl
      have eB : IntKind.wrap .i64 (maxI 1 (IntKind.wrap .i64 (arm (l.getD a.toNat eN) its - guard' (l.getD b.toNat eN) its)) + dval 3 a0 [a1, a, b, 77]) = blow a0 a1 a b l its := by
        rw [wr (x := arm (l.getD a.toNat eN) its - guard' (l.getD b.toNat eN) its) (by omega), maxI_eq, wr (by omega)]
        rfl
      refine OK.callR (R := fun z => z = Sum.inl (a, b, arm (l.getD a.toNat eN) its, df (l.getD b.toNat eN), a0, a1, a2, a3, c, l, its, a7, a8, a9, a10, 0, 0, 0, 0, 0, 0, 0, 0, (l.getD a.toNat eN).1, (l.getD a.toNat eN).2.1, (l.getD a.toNat eN).2.2.1, (l.getD a.toNat eN).2.2.2.1, (l.getD a.toNat eN).2.2.2.2.1, (l.getD a.toNat eN).2.2.2.2.2.1, (l.getD a.toNat eN).2.2.2.2.2.2.1, (l.getD a.toNat eN).2.2.2.2.2.2.2.1, (l.getD a.toNat eN).2.2.2.2.2.2.2.2.1, (l.getD a.toNat eN).2.2.2.2.2.2.2.2.2.1, (l.getD a.toNat eN).2.2.2.2.2.2.2.2.2.2, (l.getD b.toNat eN).1, (l.getD b.toNat eN).2.1, (l.getD b.toNat eN).2.2.1, (l.getD b.toNat eN).2.2.2.1, (l.getD b.toNat eN).2.2.2.2.1, (l.getD b.toNat eN).2.2.2.2.2.1, (l.getD b.toNat eN).2.2.2.2.2.2.1, (l.getD b.toNat eN).2.2.2.2.2.2.2.1, (l.getD b.toNat eN).2.2.2.2.2.2.2.2.1, (l.getD b.toNat eN).2.2.2.2.2.2.2.2.2.1, (l.getD b.toNat eN).2.2.2.2.2.2.2.2.2.2, ())) ?_ ?_
      · by_cases k1 : kd (l.getD a.toNat eN) = 1
        · have e1 : ((l.getD a.toNat (0, 0, 0, 0, 0, 0, 0, 0, 0, 0, 0)).1 == 1) = true := beq_iff_eq.2 k1
          have eR : arm (l.getD a.toNat eN) its = atk (l.getD a.toNat eN) + (bon its (st (l.getD a.toNat eN))).1 := if_pos k1
          rw [e1, cond_true, rbonus_eq a0 a1 a2 a3 c a7 a8 a9 a10 hil, eSa]
          simp only [Option.bind_some]
          rw [eA, wr (by omega), ← eR]
          exact OK.ret rfl
        · have e1 : ((l.getD a.toNat (0, 0, 0, 0, 0, 0, 0, 0, 0, 0, 0)).1 == 1) = false := beq_eq_false_iff_ne.2 k1
          have eR : arm (l.getD a.toNat eN) its = atk (l.getD a.toNat eN) := if_neg k1
          rw [e1, cond_false, eR]
          exact OK.ret rfl
      · rintro z rfl
        simp only [Sum.elim_inl]
        refine OK.callR (R := fun z => z = Sum.inl (a, b, arm (l.getD a.toNat eN) its, guard' (l.getD b.toNat eN) its, a0, a1, a2, a3, c, l, its, a7, a8, a9, a10, 0, 0, 0, 0, 0, 0, 0, 0, (l.getD a.toNat eN).1, (l.getD a.toNat eN).2.1, (l.getD a.toNat eN).2.2.1, (l.getD a.toNat eN).2.2.2.1, (l.getD a.toNat eN).2.2.2.2.1, (l.getD a.toNat eN).2.2.2.2.2.1, (l.getD a.toNat eN).2.2.2.2.2.2.1, (l.getD a.toNat eN).2.2.2.2.2.2.2.1, (l.getD a.toNat eN).2.2.2.2.2.2.2.2.1, (l.getD a.toNat eN).2.2.2.2.2.2.2.2.2.1, (l.getD a.toNat eN).2.2.2.2.2.2.2.2.2.2, ())) ?_ ?_
        · by_cases k1 : kd (l.getD b.toNat eN) = 1
          · have e1 : ((l.getD b.toNat eN).1 == 1) = true := beq_iff_eq.2 k1
            have eR : guard' (l.getD b.toNat eN) its = df (l.getD b.toNat eN) + (bon its (st (l.getD b.toNat eN))).2 := if_pos k1
            rw [e1, cond_true, rbonus_eq a0 a1 a2 a3 c a7 a8 a9 a10 hil]
            simp only [Option.bind_some]
            have eW : IntKind.wrap .i64 (df (l.getD b.toNat eN) + (bon its (l.getD b.toNat eN).2.2.1).2) = guard' (l.getD b.toNat eN) its := by
              rw [eR, show (l.getD b.toNat eN).2.2.1 = st (l.getD b.toNat eN) from rfl, wr (by omega)]
            rw [eW]
            exact OK.ret rfl
          · have e1 : ((l.getD b.toNat eN).1 == 1) = false := beq_eq_false_iff_ne.2 k1
            have eR : guard' (l.getD b.toNat eN) its = df (l.getD b.toNat eN) := if_neg k1
            rw [e1, cond_false, eR]
            exact OK.ret rfl
        · rintro z rfl
          simp only [Sum.elim_inl]
          rw [d.1]
          simp only [Option.bind_some]
          rw [eB, rhurt_eq a0 a1 a2 a3 c a7 a8 a9 a10 hc h hil]
          simp only [Option.bind_some]
          have hh := hurt_ok h hi b (blow a0 a1 a b l its)
          generalize hurt l its b (blow a0 a1 a b l its) = p at *
          obtain ⟨l1, its1⟩ := p
          dsimp only at hh ⊢
          rw [there_eq a0 a1 a2 a3 c a7 a8 a9 a10]
          simp only [Option.bind_some]
          cases h1 : alive l1 b with
          | false => rw [if_pos rfl]; exact OK.ret rfl
          | true =>
            have t := hh.1.taken h1
            obtain ⟨q0, q1, _⟩ := alive_iff.1 h1
            have ir : inRange b l1.length = true := inR (by omega)
            have eP : (l1.getD b.toNat (0, 0, 0, 0, 0, 0, 0, 0, 0, 0, 0)).2.2.2.2.2.2.2.2.2.1 = po (l1.getD b.toNat eN) := rfl
            have eS : (l1.getD b.toNat (0, 0, 0, 0, 0, 0, 0, 0, 0, 0, 0)).2.2.2.2.2.2.2.2.2.2 = sn (l1.getD b.toNat eN) := rfl
            have eK : (l.getD a.toNat eN).1 = kd (l.getD a.toNat eN) := rfl
            rw [if_neg (by simp), Bool.not_true, cond_false]
            simp only [ir, cond_true]
            unfold leave
            by_cases k4 : kd (l.getD a.toNat eN) = 4
            · have e4 : ((l.getD a.toNat eN).1 == 4) = true := beq_iff_eq.2 k4
              have e3 : ((l.getD a.toNat eN).1 == 3) = false := beq_eq_false_iff_ne.2 (by rw [eK, k4]; decide)
              rw [e4, cond_true, if_pos k4]
              simp only [Option.bind_some, Sum.elim_inl]
              rw [e3, cond_false, eP, wr (x := po (l1.getD b.toNat eN) + 3) (by omega), minI_eq]
              exact OK.ret rfl
            · have e4 : ((l.getD a.toNat eN).1 == 4) = false := beq_eq_false_iff_ne.2 k4
              rw [e4, cond_false, if_neg k4]
              simp only [Option.bind_some, Sum.elim_inl]
              by_cases k3 : kd (l.getD a.toNat eN) = 3
              · have e3 : ((l.getD a.toNat eN).1 == 3) = true := beq_iff_eq.2 k3
                have d2 := die_is 4 a0 [a1, a, b, 78] (by simp) (by decide) (by decide)
                rw [e3, cond_true, if_pos k3, d2.1]
                simp only [Option.bind_some, ir, cond_true]
                by_cases z : dval 4 a0 [a1, a, b, 78] = 0
                · have ez : (dval 4 a0 [a1, a, b, 78] == 0) = true := beq_iff_eq.2 z
                  rw [ez, cond_true, if_pos z]
                  simp only [Option.bind_some, Sum.elim_inl]
                  rw [eS, wr (x := sn (l1.getD b.toNat eN) + 2) (by omega), minI_eq]
                  exact OK.ret rfl
                · have ez : (dval 4 a0 [a1, a, b, 78] == 0) = false := beq_eq_false_iff_ne.2 z
                  rw [ez, cond_false, if_neg z]
                  exact OK.ret rfl
              · have e3 : ((l.getD a.toNat eN).1 == 3) = false := beq_eq_false_iff_ne.2 k3
                rw [e3, cond_false, if_neg k3]
                exact OK.ret rfl
theorem ail_eq {l : List EntT} {its : List ItT} (hc : c.length ≤ 1000) (h : LOk l) (hi : IOk its) : f20 a0 a1 a2 a3 c l its a7 a8 a9 a10 = some (a0, a1, a2, a3, a7, a8, a9, a10, c, (ail l its 32).1, (ail l its 32).2, ()) := by
  have hl := h.len
  have hil := hi.1
  refine OK.eq ?_
  unfold f20 f20.L1
  rw [ftwin_eq a0 a1 a2 a3 c a7 a8 a9 a10 hc (by omega) hil]
  simp only [Option.bind_some]
  have e32 : ((Int.toNat (minI (l.length : Int) 32) - 0 : Nat) : Int) = 32 := by rw [minI_eq]; omega
  rw [decide_eq_true (by rw [minI_eq]; omega), cond_true, e32]
  refine OK.loop (fun i : Nat => (32, (i : Int), a0, a1, a2, a3, a7, a8, a9, a10, 0, 0, 0, 0, 0, 0, 0, 0, c, (ail l its i).1, (ail l its i).2, ())) (fun i => i ≤ 32) (fun i => 32 - i) (fun rec i hi' ih => ?_) 0 rfl (Nat.zero_le _) (by decide)
  dsimp only
  rw [bif_dec]
  by_cases q : i < 32
  · have go := ih (i + 1) (by omega) (by omega) _ rfl
    rw [ail_succ] at go
    obtain ⟨hL, hI, hN⟩ := ail_ok h hi i
    generalize ail l its i = p at *
    obtain ⟨l1, its1⟩ := p
    dsimp only at hL hI hN go ⊢
    have hl1 := hL.len
    rw [if_pos (by omega), is_eq a0 a1 a2 a3 c a7 a8 a9 a10 hl1]
    simp only [Option.bind_some]
    unfold ail1 at go
    cases ha : alive l1 (i : Int) with
    | false =>
      rw [ha, if_pos rfl] at go
      rw [Bool.not_false, cond_true, wr (by omega)]
      exact go
    | true =>
      have t := hL.taken ha
      rw [Int.toNat_natCast] at t
      rw [ha, if_neg (by decide)] at go
      dsimp only at go
      rw [Bool.not_true, cond_false, inR (by omega), cond_true, Int.toNat_natCast]
      have eS : (l1.getD i (0, 0, 0, 0, 0, 0, 0, 0, 0, 0, 0)).2.2.2.2.2.2.2.2.2.2 = sn (l1.getD i eN) := rfl
      refine OK.callR (R := fun z => z = Sum.inl ((i : Int), i, 32, (i : Int), a0, a1, a2, a3, a7, a8, a9, a10, 0, 0, 0, 0, 0, 0, 0, 0, (if 0 < sn (l1.getD i eN) then l1.set i (setSn (l1.getD i eN) (sn (l1.getD i eN) - 1)) else l1), c, its1, ())) ?_ ?_
      · rw [bif_dec, eS]
        by_cases z : 0 < sn (l1.getD i eN)
        · rw [if_pos (show sn (l1.getD i eN) > 0 from z), if_pos z, wr (by omega)]
          exact OK.ret rfl
        · rw [if_neg (show ¬ sn (l1.getD i eN) > 0 from z), if_neg z]
          exact OK.ret rfl
      · rintro z rfl
        simp only [Sum.elim_inl]
        have hl2 : LOk (if 0 < sn (l1.getD i eN) then l1.set i (setSn (l1.getD i eN) (sn (l1.getD i eN) - 1)) else l1) := by
          split
          · refine hL.set _ (.inr ?_)
            show 1 ≤ kd (l1.getD i eN) ∧ kd (l1.getD i eN) ≤ 4 ∧ 1 ≤ hp (l1.getD i eN) ∧ hp (l1.getD i eN) ≤ mxh (l1.getD i eN) ∧ mxh (l1.getD i eN) ≤ 20 ∧ 0 ≤ atk (l1.getD i eN) ∧ atk (l1.getD i eN) ≤ 5 ∧ 0 ≤ df (l1.getD i eN) ∧ df (l1.getD i eN) ≤ 1 ∧ 0 ≤ po (l1.getD i eN) ∧ po (l1.getD i eN) ≤ 9 ∧ 0 ≤ sn (l1.getD i eN) - 1 ∧ sn (l1.getD i eN) - 1 ≤ 9
            omega
          · exact hL
        generalize (if 0 < sn (l1.getD i eN) then l1.set i (setSn (l1.getD i eN) (sn (l1.getD i eN) - 1)) else l1) = l2 at *
        have eP : (l2.getD i (0, 0, 0, 0, 0, 0, 0, 0, 0, 0, 0)).2.2.2.2.2.2.2.2.2.1 = po (l2.getD i eN) := rfl
        have he := hl2.ent i q
        rw [bif_dec, eP]
        by_cases z : 0 < po (l2.getD i eN)
        · have bp : 1 ≤ kd (l2.getD i eN) ∧ kd (l2.getD i eN) ≤ 4 ∧ 1 ≤ hp (l2.getD i eN) ∧ hp (l2.getD i eN) ≤ mxh (l2.getD i eN) ∧ mxh (l2.getD i eN) ≤ 20 ∧ 0 ≤ atk (l2.getD i eN) ∧ atk (l2.getD i eN) ≤ 5 ∧ 0 ≤ df (l2.getD i eN) ∧ df (l2.getD i eN) ≤ 1 ∧ 0 ≤ po (l2.getD i eN) ∧ po (l2.getD i eN) ≤ 9 ∧ 0 ≤ sn (l2.getD i eN) ∧ sn (l2.getD i eN) ≤ 9 := by
            rcases he with ⟨_, e⟩ | e
            · rw [e] at z
              exact absurd z (by show ¬ (0 : Int) < 0; decide)
            · exact e
          have hl3 : LOk (l2.set i (setPo (l2.getD i eN) (po (l2.getD i eN) - 1))) := hl2.set _ (.inr (by
            show 1 ≤ kd (l2.getD i eN) ∧ kd (l2.getD i eN) ≤ 4 ∧ 1 ≤ hp (l2.getD i eN) ∧ hp (l2.getD i eN) ≤ mxh (l2.getD i eN) ∧ mxh (l2.getD i eN) ≤ 20 ∧ 0 ≤ atk (l2.getD i eN) ∧ atk (l2.getD i eN) ≤ 5 ∧ 0 ≤ df (l2.getD i eN) ∧ df (l2.getD i eN) ≤ 1 ∧ 0 ≤ po (l2.getD i eN) - 1 ∧ po (l2.getD i eN) - 1 ≤ 9 ∧ 0 ≤ sn (l2.getD i eN) ∧ sn (l2.getD i eN) ≤ 9
            omega))
          rw [if_pos (show po (l2.getD i eN) > 0 from z), wr (x := po (l2.getD i eN) - 1) (by omega), wr (x := (i : Int) + 1) (by omega)]
          rw [if_pos z] at go
          have hx := hurt_eq a0 a1 a2 a3 c a7 a8 a9 a10 hc hl3 hI.1 (i : Int) 1
          refine OK.call hx ?_
          exact go
        · rw [if_neg (show ¬ po (l2.getD i eN) > 0 from z), wr (by omega)]
          rw [if_neg z] at go
          exact go
  · have : i = 32 := by omega
    subst this
    rw [if_neg (by omega)]
    exact OK.ret rfl
theorem rail_eq {l : List EntT} {its : List ItT} (hc : c.length ≤ 1000) (h : LOk l) (hi : IOk its) : f21 a0 a1 a2 a3 c l its a7 a8 a9 a10 = some (a0, a1, a2, a3, a7, a8, a9, a10, c, (ail l its 32).1, (ail l its 32).2, ()) := by
  have hl := h.len
  have hil := hi.1
  refine OK.eq ?_
  unfold f21 f21.L1
  rw [rtwin_eq a0 a1 a2 a3 c a7 a8 a9 a10 hc (by omega) hil]
  simp only [Option.bind_some]
  refine OK.loop (fun i : Nat => ((i : Int), a0, a1, a2, a3, a7, a8, a9, a10, 0, 0, 0, 0, 0, 0, 0, 0, c, (ail l its i).1, (ail l its i).2, ())) (fun i => i ≤ 32) (fun i => 32 - i) (fun rec i hi' ih => ?_) 0 rfl (Nat.zero_le _) (by decide)
  dsimp only
  rw [bif_dec]
  obtain ⟨hL, hI, hN⟩ := ail_ok h hi i
  have hl1 := hL.len
  rw [hl1]
  by_cases q : i < 32
  · have go := ih (i + 1) (by omega) (by omega) _ rfl
    rw [ail_succ] at go
    generalize ail l its i = p at *
    obtain ⟨l1, its1⟩ := p
    dsimp only at hL hI hN hl1 go ⊢
    rw [if_pos (by omega), there_eq a0 a1 a2 a3 c a7 a8 a9 a10]
    simp only [Option.bind_some]
    unfold ail1 at go
    cases ha : alive l1 (i : Int) with
    | false =>
      rw [ha, if_pos rfl] at go
      rw [Bool.not_false, cond_true, wr (by omega)]
      exact go
    | true =>
      have t := hL.taken ha
      rw [Int.toNat_natCast] at t
      rw [ha, if_neg (by decide)] at go
      dsimp only at go
      rw [Bool.not_true, cond_false]
      have eS : (l1.getD i (0, 0, 0, 0, 0, 0, 0, 0, 0, 0, 0)).2.2.2.2.2.2.2.2.2.2 = sn (l1.getD i eN) := rfl
      refine OK.callR (R := fun z => z = Sum.inl ((i : Int), a0, a1, a2, a3, a7, a8, a9, a10, 0, 0, 0, 0, 0, 0, 0, 0, c, (if 0 < sn (l1.getD i eN) then l1.set i (setSn (l1.getD i eN) (sn (l1.getD i eN) - 1)) else l1), its1, ())) ?_ ?_
      · rw [inR (by omega), cond_true, cond_true, cond_true, Int.toNat_natCast, bif_dec, eS]
        by_cases z : 0 < sn (l1.getD i eN)
        · rw [if_pos (show sn (l1.getD i eN) > 0 from z), if_pos z, wr (by omega)]
          exact OK.ret rfl
        · rw [if_neg (show ¬ sn (l1.getD i eN) > 0 from z), if_neg z]
          exact OK.ret rfl
      · rintro z rfl
        simp only [Sum.elim_inl]
        have hl2 : LOk (if 0 < sn (l1.getD i eN) then l1.set i (setSn (l1.getD i eN) (sn (l1.getD i eN) - 1)) else l1) := by
          split
          · refine hL.set _ (.inr ?_)
            show 1 ≤ kd (l1.getD i eN) ∧ kd (l1.getD i eN) ≤ 4 ∧ 1 ≤ hp (l1.getD i eN) ∧ hp (l1.getD i eN) ≤ mxh (l1.getD i eN) ∧ mxh (l1.getD i eN) ≤ 20 ∧ 0 ≤ atk (l1.getD i eN) ∧ atk (l1.getD i eN) ≤ 5 ∧ 0 ≤ df (l1.getD i eN) ∧ df (l1.getD i eN) ≤ 1 ∧ 0 ≤ po (l1.getD i eN) ∧ po (l1.getD i eN) ≤ 9 ∧ 0 ≤ sn (l1.getD i eN) - 1 ∧ sn (l1.getD i eN) - 1 ≤ 9
            omega
          · exact hL
        generalize (if 0 < sn (l1.getD i eN) then l1.set i (setSn (l1.getD i eN) (sn (l1.getD i eN) - 1)) else l1) = l2 at *
        have eP : (l2.getD i (0, 0, 0, 0, 0, 0, 0, 0, 0, 0, 0)).2.2.2.2.2.2.2.2.2.1 = po (l2.getD i eN) := rfl
        have he := hl2.ent i q
        have hl2l := hl2.len
        rw [inR (by omega), cond_true, cond_true, cond_true, Int.toNat_natCast, bif_dec, eP]
        by_cases z : 0 < po (l2.getD i eN)
        · have bp : 1 ≤ kd (l2.getD i eN) ∧ kd (l2.getD i eN) ≤ 4 ∧ 1 ≤ hp (l2.getD i eN) ∧ hp (l2.getD i eN) ≤ mxh (l2.getD i eN) ∧ mxh (l2.getD i eN) ≤ 20 ∧ 0 ≤ atk (l2.getD i eN) ∧ atk (l2.getD i eN) ≤ 5 ∧ 0 ≤ df (l2.getD i eN) ∧ df (l2.getD i eN) ≤ 1 ∧ 0 ≤ po (l2.getD i eN) ∧ po (l2.getD i eN) ≤ 9 ∧ 0 ≤ sn (l2.getD i eN) ∧ sn (l2.getD i eN) ≤ 9 := by
            rcases he with ⟨_, e⟩ | e
            · rw [e] at z
              exact absurd z (by show ¬ (0 : Int) < 0; decide)
            · exact e
          have hl3 : LOk (l2.set i (setPo (l2.getD i eN) (po (l2.getD i eN) - 1))) := hl2.set _ (.inr (by
            show 1 ≤ kd (l2.getD i eN) ∧ kd (l2.getD i eN) ≤ 4 ∧ 1 ≤ hp (l2.getD i eN) ∧ hp (l2.getD i eN) ≤ mxh (l2.getD i eN) ∧ mxh (l2.getD i eN) ≤ 20 ∧ 0 ≤ atk (l2.getD i eN) ∧ atk (l2.getD i eN) ≤ 5 ∧ 0 ≤ df (l2.getD i eN) ∧ df (l2.getD i eN) ≤ 1 ∧ 0 ≤ po (l2.getD i eN) - 1 ∧ po (l2.getD i eN) - 1 ≤ 9 ∧ 0 ≤ sn (l2.getD i eN) ∧ sn (l2.getD i eN) ≤ 9
            omega))
          rw [if_pos (show po (l2.getD i eN) > 0 from z), wr (x := po (l2.getD i eN) - 1) (by omega), wr (x := (i : Int) + 1) (by omega)]
          rw [if_pos z] at go
          have hx := rhurt_eq a0 a1 a2 a3 c a7 a8 a9 a10 hc hl3 hI.1 (i : Int) 1
          refine OK.call hx ?_
          exact go
        · rw [if_neg (show ¬ po (l2.getD i eN) > 0 from z), wr (by omega)]
          rw [if_neg z] at go
          exact go
  · have : i = 32 := by omega
    subst this
    rw [if_neg (by omega)]
    exact OK.ret rfl
end
end Go.Proofs.Yteaglfpppihpjaa.Ft

/- The law FightArms, in plain words (own work). -/
import Derived.Test.YteaglfpppihpjaaFightLaw
namespace Go.Proofs.Yteaglfpppihpjaa.Pure
open Go Go.Proofs.Yteaglfpppihpjaa.Mx Go.Proofs.Yteaglfpppihpjaa.Pc Go.Proofs.Yteaglfpppihpjaa.Run Go.Proofs.Yteaglfpppihpjaa.Field Go.Proofs.Yteaglfpppihpjaa.Gen Go.Proofs.Yteaglfpppihpjaa.GenL Go.Proofs.Yteaglfpppihpjaa.Fl Go.Proofs.Yteaglfpppihpjaa.Wd Go.Proofs.Yteaglfpppihpjaa.Ft
set_option linter.unusedVariables false
set_option linter.unusedSimpArgs false
set_option maxHeartbeats 2000000
/-- What a blow does to who is hit. -/
theorem blow_end {l : List EntT} {its : List ItT} (h : LOk l) {f t : Nat} (hf : alive l (f : Int) = true) (ht : alive l (t : Int) = true) (p0 : po (l.getD t eN) = 0) (s0 : sn (l.getD t eN) = 0) (sd fr : Int) :
    (kd ((hit sd fr l its f t).1.getD t eN) = 0 ∧ hp (l.getD t eN) ≤ blow sd fr f t l its) ∨
    (kd ((hit sd fr l its f t).1.getD t eN) ≠ 0 ∧ hp ((hit sd fr l its f t).1.getD t eN) = hp (l.getD t eN) - blow sd fr f t l its ∧ po ((hit sd fr l its f t).1.getD t eN) = (if kd (l.getD f eN) = 4 then 3 else 0) ∧ (sn ((hit sd fr l its f t).1.getD t eN) > 0 → kd (l.getD f eN) = 3)) := by
  have bb := blow_b h its hf ht sd fr
  have hl := h.len
  have tt := h.taken ht
  rw [Int.toNat_natCast] at tt
  obtain ⟨_, h1, h2⟩ := alive_iff.1 ht
  rw [Int.toNat_natCast] at h2
  have htl : t < l.length := by omega
  unfold hit
  rw [if_neg (by rw [hf, ht]; simp)]
  generalize hB : blow sd fr f t l its = B at *
  by_cases q : B < hp (l.getD t eN)
  · have hu : hurt l its (t : Int) B = (l.set t (setHP (l.getD t eN) (hp (l.getD t eN) - B)), its) := by
      unfold hurt
      rw [if_neg (by rw [ht]; simp only [reduceCtorEq, false_or]; omega), Int.toNat_natCast, if_pos q]
    rw [hu]
    have g : (l.set t (setHP (l.getD t eN) (hp (l.getD t eN) - B))).getD t eN = setHP (l.getD t eN) (hp (l.getD t eN) - B) := by rw [getD_set' _ _ _ _ _ htl, if_pos rfl]
    have al : alive (l.set t (setHP (l.getD t eN) (hp (l.getD t eN) - B))) (t : Int) = true := alive_nat (by rw [List.length_set]; exact htl) (by rw [g]; exact h2)
    rw [if_neg (by rw [al]; decide)]
    dsimp only
    unfold leave
    rw [Int.toNat_natCast, Int.toNat_natCast, g]
    have gs : ∀ x : EntT, ((l.set t (setHP (l.getD t eN) (hp (l.getD t eN) - B))).set t x).getD t eN = x := fun x => by rw [List.set_set, getD_set' _ _ _ _ _ htl, if_pos rfl]
    refine .inr ?_
    by_cases k4 : kd (l.getD f eN) = 4
    · rw [if_pos k4, gs, if_pos k4]
      refine ⟨h2, rfl, ?_, fun z => ?_⟩
      · show min (po (l.getD t eN) + 3) 9 = 3
        omega
      · have : sn (l.getD t eN) > 0 := z
        omega
    · rw [if_neg k4, if_neg k4]
      by_cases k3 : kd (l.getD f eN) = 3
      · rw [if_pos k3]
        split
        · rw [gs]
          exact ⟨h2, rfl, p0, fun _ => k3⟩
        · rw [g]
          exact ⟨h2, rfl, p0, fun _ => k3⟩
      · rw [if_neg k3, g]
        refine ⟨h2, rfl, p0, fun z => ?_⟩
        have : sn (l.getD t eN) > 0 := z
        omega
  · have hu : hurt l its (t : Int) B = (l.set t (freeE (l.getD t eN)), if kd (l.getD t eN) = 1 then sweep its (st (l.getD t eN)) else its) := by
      unfold hurt
      rw [if_neg (by rw [ht]; simp only [reduceCtorEq, false_or]; omega), Int.toNat_natCast, if_neg q]
    have g : (l.set t (freeE (l.getD t eN))).getD t eN = freeE (l.getD t eN) := by rw [getD_set' _ _ _ _ _ htl, if_pos rfl]
    rw [hu, if_pos]
    · refine .inl ⟨?_, by omega⟩
      rw [g]; rfl
    · unfold alive
      rw [Int.toNat_natCast, g]
      show (_ && ((0 : Int) != 0)) = false
      simp
def gear (sword mail : Bool) : List ItT := bif mail then (bif sword then (List.replicate 40 iN).set 0 (2, 3, 0, 0) else List.replicate 40 iN).set 1 (3, 3, 0, 1) else (bif sword then (List.replicate 40 iN).set 0 (2, 3, 0, 0) else List.replicate 40 iN)
theorem gear_ok (sword mail : Bool) : IOk (gear sword mail) := by
  cases sword <;> cases mail
  · refine ⟨by decide, ?_⟩; decide
  · refine ⟨by decide, ?_⟩; decide
  · refine ⟨by decide, ?_⟩; decide
  · refine ⟨by decide, ?_⟩; decide
theorem gear_bon (sword mail : Bool) : bon (gear sword mail) 0 = (bif sword then 3 else 0, bif mail then 2 else 0) := by
  cases sword <;> cases mail <;> decide
theorem FightArms (a0 : Int) (w0 : (Lit.int .i64 a0).wf = true) (a1 : Int) (w1 : (Lit.int .i64 a1).wf = true) (a2 : Int) (w2 : (Lit.int .i64 a2).wf = true) (a3 : Bool) (a4 : Bool) (a5 : Bool) : f3 a0 a1 a2 a3 a4 a5 = some (true, ()) := by
  refine OK.eq ?_
  unfold f3
  rw [Ft.known_eq]
  simp only [Option.bind_some, Bool.not_true, cond_false]
  refine OK.callR (world_is a0 0 0 1 [] (by decide) 0) ?_
  rintro z ⟨its, rfl, hI, hN⟩
  have hits := hN rfl
  subst hits
  have w04 : within 0 4 = 0 := by decide
  rw [w04]
  have hC := COk.one a0 (1 + within 0 3) 1 0 rfl
  have hcl := cells_len a0 (1 + within 0 3)
  have hcv := cells_val a0 (1 + within 0 3)
  have hl := hC.ok.len
  have h3 := room_first a0 (1 + within 0 3) 1
  obtain ⟨h, hh, eh, hk, hs⟩ := hero_is hl hC.hero
  have hfirst : ∃ i, firstFree (entsW a0 (1 + within 0 3) 0 1) = some i := by
    unfold firstFree
    cases q : (List.range 32).find? fun i => kd ((entsW a0 (1 + within 0 3) 0 1).getD i eN) == 0 with
    | some i => exact ⟨i, rfl⟩
    | none =>
      exfalso
      have := List.find?_range_eq_none.1 q 0 (by decide)
      have g : (entsW a0 (1 + within 0 3) 0 1).getD 0 eN = eN := rfl
      rw [g] at this
      exact absurd this (by decide)
  have gR : ∀ j, (List.replicate 32 eN).getD j eN = eN := fun j => by
    rw [List.getD_eq_getElem?_getD, List.getElem?_replicate]
    split <;> rfl
  have w132 : (within 1 32).toNat = 1 := by decide
  have g : ∀ j, (entsW a0 (1 + within 0 3) 0 1).getD j eN = if 1 = j then heroE a0 (1 + within 0 3) 0 1 else eN := fun j => by
    unfold entsW
    rw [w132]
    have := getD_set' (List.replicate 32 eN) 1 j (heroE a0 (1 + within 0 3) 0 1) eN (by rw [List.length_replicate]; decide)
    rw [gR] at this
    exact this
  have hE : (entsW a0 (1 + within 0 3) 0 1).getD h eN = heroE a0 (1 + within 0 3) 0 1 := by
    rw [g] at hk ⊢
    by_cases e : 1 = h
    · rw [if_pos e]
    · rw [if_neg e] at hk; exact absurd hk (by decide)
  have hA : atk ((entsW a0 (1 + within 0 3) 0 1).getD h eN) = 5 ∧ df ((entsW a0 (1 + within 0 3) 0 1).getD h eN) = 1 ∧ po ((entsW a0 (1 + within 0 3) 0 1).getD h eN) = 0 ∧ sn ((entsW a0 (1 + within 0 3) 0 1).getD h eN) = 0 ∧ mxh ((entsW a0 (1 + within 0 3) 0 1).getD h eN) = 20 := by
    rw [hE]; exact ⟨rfl, rfl, rfl, rfl, rfl⟩
  have bf := within_b a1 1000 (by decide)
  have bk := within_b a2 3 (by decide)
  rw [within8_eq a1 1000 (by decide) (by decide)]
  simp only [Option.bind_some]
  rw [rhero_eq _ (by omega), eh]
  simp only [Option.bind_some]
  rw [within8_eq a2 3 (by decide) (by decide)]
  simp only [Option.bind_some]
  rw [wr (x := 2 + within a2 3) (by omega), rstat_eq _ (by omega)]
  simp only [Option.bind_some]
  have sb := stat_b (2 + within a2 3) (by omega)
  have sps : po (statE (2 + within a2 3)) = 0 ∧ sn (statE (2 + within a2 3)) = 0 := by
    unfold statE
    repeat' split
    all_goals exact ⟨rfl, rfl⟩
  generalize hK : 2 + within a2 3 = K at *
  generalize statE K = m at *
  generalize within a1 1000 = fr at *
  clear hI hN g hE gR w132
  generalize entsW a0 (1 + within 0 3) 0 1 = l at *
  generalize cells a0 (1 + within 0 3) = c at *
  generalize 1 + within 0 3 = fl at *
  generalize goldOf 0 (within 0 1000) 0 = g0
  generalize goldOf 0 (within 0 1000) 1 = g1
  generalize goldOf 0 (within 0 1000) 2 = g2
  generalize goldOf 0 (within 0 1000) 3 = g3
  obtain ⟨j0, j00, j01, j02, j03⟩ := h3
  unfold f3.L1
  refine OK.loop (fun i : Nat => (a3, a4, a5, (h : Int), (i : Int), a0, fr, fl, 0, g0, g1, g2, g3, m.1, m.2.1, m.2.2.1, m.2.2.2.1, m.2.2.2.2.1, m.2.2.2.2.2.1, m.2.2.2.2.2.2.1, m.2.2.2.2.2.2.2.1, m.2.2.2.2.2.2.2.2.1, m.2.2.2.2.2.2.2.2.2.1, m.2.2.2.2.2.2.2.2.2.2, c, l, List.replicate 40 iN, ())) (fun i => (i : Int) ≤ j0) (fun i => 384 - i) (fun rec i hi ih => ?_) 0 rfl (by omega) (by decide)
  dsimp only
  have cv := hcv i
  have next : ¬ (c.getD i 0 ≠ 0 ∧ atE l ((i : Int) % 24) ((i : Int) / 24) < 0) → OK (rec (a3, a4, a5, (h : Int), IntKind.wrap .i64 ((i : Int) + 1), a0, fr, fl, 0, g0, g1, g2, g3, m.1, m.2.1, m.2.2.1, m.2.2.2.1, m.2.2.2.2.1, m.2.2.2.2.2.1, m.2.2.2.2.2.2.1, m.2.2.2.2.2.2.2.1, m.2.2.2.2.2.2.2.2.1, m.2.2.2.2.2.2.2.2.2.1, m.2.2.2.2.2.2.2.2.2.2, c, l, List.replicate 40 iN, ())) fun b => b = (true, ()) := fun hn => by
    have ne : (i : Int) ≠ j0 := fun z => hn ⟨by
      have := walk_ne j02
      rw [← z, Int.toNat_natCast] at this
      exact this, by rw [z]; exact j03⟩
    rw [wr (by omega)]
    exact ih (i + 1) (by omega) (by omega) _ rfl
  rw [inR (i := (i : Int)) (n := c.length) (by omega), cond_true, Int.toNat_natCast]
  by_cases z1 : c.getD i 0 = 0
  · rw [beq_iff_eq.2 z1, cond_true]
    simp only [Option.bind_some, Sum.elim_inl]
    exact next (fun z => z.1 z1)
  rw [beq_eq_false_iff_ne.2 z1, cond_false, Int.tmod_eq_emod_of_nonneg (by omega), Int.tdiv_eq_ediv_of_nonneg (by omega), wr (x := (i : Int) / 24) (by omega), rat_eq l (by omega)]
  simp only [Option.bind_some]
  rw [bif_dec]
  by_cases z2 : atE l ((i : Int) % 24) ((i : Int) / 24) ≥ 0
  · rw [if_pos z2]
    simp only [Option.bind_some, Sum.elim_inl]
    exact next (fun z => by omega)
  rw [if_neg z2]
  clear next ih
  -- the monster comes
  obtain ⟨r, hr⟩ := hfirst
  have hr' := List.find?_range_eq_some.1 hr
  have hr32 := List.mem_range.1 hr'.2.1
  have hr0 : kd (l.getD r eN) = 0 := beq_iff_eq.1 hr'.1
  have hsp := rspawn_eq hl (m.1, m.2.1, m.2.2.1, (i : Int) % 24, (i : Int) / 24, m.2.2.2.2.2.1, m.2.2.2.2.2.2.1, m.2.2.2.2.2.2.2.1, m.2.2.2.2.2.2.2.2.1, m.2.2.2.2.2.2.2.2.2.1, m.2.2.2.2.2.2.2.2.2.2) (by show 1 ≤ kd m ∧ kd m ≤ 4; omega)
  rw [hr] at hsp
  dsimp only at hsp
  refine OK.callR (R := fun z => z = Sum.inr (true, ())) (OK.callR (R := fun z => z = (true, ())) ?_ (fun z e => by subst e; exact OK.ret rfl)) (fun z e => by subst e; exact OK.ret rfl)
  rw [hsp]
  simp only [Option.bind_some]
  generalize Int.tmod (IntKind.wrap .i64 (gn (l.getD r eN) + 1)) 256 = G
  have ne : r ≠ h := fun z => by rw [z, hk] at hr0; cases hr0
  obtain ⟨M, hM, mK, mH, mM, mA, mD, mP, mS⟩ : ∃ M : EntT, withGen (m.1, m.2.1, m.2.2.1, (i : Int) % 24, (i : Int) / 24, m.2.2.2.2.2.1, m.2.2.2.2.2.2.1, m.2.2.2.2.2.2.2.1, m.2.2.2.2.2.2.2.2.1, m.2.2.2.2.2.2.2.2.2.1, m.2.2.2.2.2.2.2.2.2.2) G = M ∧ kd M = K ∧ hp M = hp m ∧ mxh M = mxh m ∧ atk M = atk m ∧ df M = df m ∧ po M = 0 ∧ sn M = 0 := ⟨_, rfl, sb.1, rfl, rfl, rfl, rfl, sps.1, sps.2⟩
  rw [hM]
  have gl : (l.set r M).getD h (0, 0, 0, 0, 0, 0, 0, 0, 0, 0, 0) = l.getD h eN := by
    have := getD_set' l r h M eN (by omega)
    rw [if_neg ne] at this
    exact this
  have hxx : ∀ x : EntT, EOk x → LOk ((l.set r M).set h x) := fun x hx => by
    refine (hC.ok.set r (.inr ?_)).set h hx
    rw [mK, mH, mM, mA, mD, mP, mS]
    omega
  have tk := hC.ok.taken (alive_nat (by omega) (by rw [hk]; decide) : alive l (h : Int) = true)
  rw [Int.toNat_natCast] at tk
  obtain ⟨X, hX, xK, xS, xH, xA, xD, xP, xN⟩ : ∃ X : EntT, X = setHP (l.getD h eN) 20 ∧ kd X = 1 ∧ st X = 0 ∧ hp X = 20 ∧ atk X = 5 ∧ df X = 1 ∧ po X = 0 ∧ sn X = 0 := ⟨_, rfl, hk, hs, rfl, hA.1, hA.2.1, hA.2.2.1, hA.2.2.2.1⟩
  have xM : mxh X = 20 := by rw [hX]; exact hA.2.2.2.2
  have hL : LOk ((l.set r M).set h X) := hxx X (.inr (by omega))
  have gX : ((l.set r M).set h X).getD h eN = X := by rw [getD_set' _ _ _ _ _ (by rw [List.length_set]; omega), if_pos rfl]
  have gM : ((l.set r M).set h X).getD r eN = M := by rw [getD_set' _ _ _ _ _ (by rw [List.length_set]; omega), if_neg (fun z => ne z.symm), getD_set' _ _ _ _ _ (by omega), if_pos rfl]
  have hll := hL.len
  have eSet : (l.set r M).set h ((l.getD h eN).1, (l.getD h eN).2.1, (l.getD h eN).2.2.1, (l.getD h eN).2.2.2.1, (l.getD h eN).2.2.2.2.1, 20, (l.getD h eN).2.2.2.2.2.2.1, (l.getD h eN).2.2.2.2.2.2.2.1, (l.getD h eN).2.2.2.2.2.2.2.2.1, (l.getD h eN).2.2.2.2.2.2.2.2.2.1, (l.getD h eN).2.2.2.2.2.2.2.2.2.2) = (l.set r M).set h X := by rw [hX]; rfl
  rw [Int.toNat_natCast, List.length_set, hl, inR (i := (h : Int)) (n := 32) (by omega), cond_true, gl, eSet]
  have lh : alive ((l.set r M).set h X) (h : Int) = true := alive_nat (by omega) (by rw [gX, xK]; decide)
  have lr : alive ((l.set r M).set h X) (r : Int) = true := alive_nat (by omega) (by rw [gM, mK]; omega)
  generalize (l.set r M).set h X = L at *
  refine OK.callR (R := fun z => z = Sum.inl (a3, a4, a5, (h : Int), (r : Int), a0, fr, fl, 0, g0, g1, g2, g3, m.1, m.2.1, m.2.2.1, (i : Int) % 24, (i : Int) / 24, m.2.2.2.2.2.1, m.2.2.2.2.2.2.1, m.2.2.2.2.2.2.2.1, m.2.2.2.2.2.2.2.2.1, m.2.2.2.2.2.2.2.2.2.1, m.2.2.2.2.2.2.2.2.2.2, c, L, (bif a3 then (List.replicate 40 iN).set 0 (2, 3, 0, 0) else List.replicate 40 iN), ())) ?_ ?_
  · cases a3 with
    | true => exact OK.ret rfl
    | false => exact OK.ret rfl
  rintro z rfl
  simp only [Sum.elim_inl]
  refine OK.callR (R := fun z => z = Sum.inl (a3, a4, a5, (h : Int), (r : Int), a0, fr, fl, 0, g0, g1, g2, g3, m.1, m.2.1, m.2.2.1, (i : Int) % 24, (i : Int) / 24, m.2.2.2.2.2.1, m.2.2.2.2.2.2.1, m.2.2.2.2.2.2.2.1, m.2.2.2.2.2.2.2.2.1, m.2.2.2.2.2.2.2.2.2.1, m.2.2.2.2.2.2.2.2.2.2, c, L, gear a3 a4, ())) ?_ ?_
  · cases a4 with
    | true =>
      have : inRange 1 (bif a3 then (List.replicate 40 iN).set 0 (2, 3, 0, 0) else List.replicate 40 iN).length = true := by cases a3 <;> rfl
      rw [this]
      exact OK.ret rfl
    | false => exact OK.ret rfl
  rintro z rfl
  simp only [Sum.elim_inl]
  refine OK.callR (R := fun z => z = Sum.inl (a3, a5, (h : Int), (r : Int), atk m, (bif a4 then 3 else 1), (r : Int), (h : Int), a0, fr, fl, 0, g0, g1, g2, g3, m.1, m.2.1, m.2.2.1, (i : Int) % 24, (i : Int) / 24, m.2.2.2.2.2.1, m.2.2.2.2.2.2.1, m.2.2.2.2.2.2.2.1, m.2.2.2.2.2.2.2.2.1, m.2.2.2.2.2.2.2.2.2.1, m.2.2.2.2.2.2.2.2.2.2, c, L, gear a3 a4, ())) ?_ ?_
  · cases a4 with
    | true => exact OK.ret rfl
    | false => exact OK.ret rfl
  rintro z rfl
  simp only [Sum.elim_inl]
  refine OK.callR (R := fun z => z = Sum.inl (a5, (bif a5 then (bif a3 then 8 else 5) else atk m), (bif a5 then df m else (bif a4 then 3 else 1)), (((bif a5 then h else r : Nat)) : Int), (((bif a5 then r else h : Nat)) : Int), a0, fr, fl, 0, g0, g1, g2, g3, m.1, m.2.1, m.2.2.1, (i : Int) % 24, (i : Int) / 24, m.2.2.2.2.2.1, m.2.2.2.2.2.2.1, m.2.2.2.2.2.2.2.1, m.2.2.2.2.2.2.2.2.1, m.2.2.2.2.2.2.2.2.2.1, m.2.2.2.2.2.2.2.2.2.2, c, L, gear a3 a4, ())) ?_ ?_
  · cases a5 with
    | true =>
      cases a3 with
      | true => exact OK.ret rfl
      | false => exact OK.ret rfl
    | false => exact OK.ret rfl
  rintro z rfl
  simp only [Sum.elim_inl]
  have hgo := gear_ok a3 a4
  have hgb := gear_bon a3 a4
  have hcl' : c.length ≤ 1000 := by omega
  rw [hit_eq a0 fr fl 0 c g0 g1 g2 g3 hcl' hL hgo]
  simp only [Option.bind_some]
  have hho := (hit_ok hL hgo a0 fr ((bif a5 then h else r : Nat) : Int) ((bif a5 then r else h : Nat) : Int)).1.len
  have aF : alive L ((bif a5 then h else r : Nat) : Int) = true := by cases a5 <;> assumption
  have aT : alive L ((bif a5 then r else h : Nat) : Int) = true := by cases a5 <;> assumption
  have pT : po (L.getD (bif a5 then r else h) eN) = 0 := by
    cases a5
    · show po (L.getD h eN) = 0; rw [gX]; exact xP
    · show po (L.getD r eN) = 0; rw [gM]; exact mP
  have sT : sn (L.getD (bif a5 then r else h) eN) = 0 := by
    cases a5
    · show sn (L.getD h eN) = 0; rw [gX]; exact xN
    · show sn (L.getD r eN) = 0; rw [gM]; exact mS
  have be := blow_end (its := gear a3 a4) hL aF aT pT sT a0 fr
  have d := (die_is 3 a0 [fr, ((bif a5 then h else r : Nat) : Int), ((bif a5 then r else h : Nat) : Int), 77] (by simp) (by decide) (by decide)).2
  have eB : blow a0 fr ((bif a5 then h else r : Nat) : Int) ((bif a5 then r else h : Nat) : Int) L (gear a3 a4) = max 1 ((bif a5 then (bif a3 then 8 else 5) else atk m) - (bif a5 then df m else (bif a4 then 3 else 1))) + dval 3 a0 [fr, ((bif a5 then h else r : Nat) : Int), ((bif a5 then r else h : Nat) : Int), 77] := by
    unfold blow
    rw [Int.toNat_natCast, Int.toNat_natCast]
    congr 1
    congr 1
    have nM : kd M ≠ 1 := by rw [mK]; omega
    cases a5
    · show arm (L.getD r eN) _ - guard' (L.getD h eN) _ = atk m - _
      rw [gX, gM]
      unfold arm guard'
      rw [if_neg nM, if_pos xK, xS, hgb, mA, xD]
      cases a4 <;> rfl
    · show arm (L.getD h eN) _ - guard' (L.getD r eN) _ = _ - df m
      rw [gX, gM]
      unfold arm guard'
      rw [if_neg nM, if_pos xK, xS, hgb, mD, xA]
      cases a3 <;> rfl
  have kF : (bif a5 then true else decide (kd (L.getD (bif a5 then h else r) eN) = K)) = true ∧ (a5 = true → kd (L.getD (bif a5 then h else r) eN) = 1) := by
    cases a5
    · refine ⟨?_, fun z => by cases z⟩
      show decide (kd (L.getD r eN) = K) = true
      rw [gM, mK]; simp
    · refine ⟨rfl, fun _ => ?_⟩
      show kd (L.getD h eN) = 1
      rw [gX]; exact xK
  have tT := hL.taken aT
  rw [Int.toNat_natCast] at tT
  have bA : 0 ≤ (bif a5 then (bif a3 then 8 else 5) else atk m) ∧ (bif a5 then (bif a3 then 8 else 5) else atk m) ≤ 8 := by
    cases a5
    · show 0 ≤ atk m ∧ atk m ≤ 8; omega
    · cases a3 <;> exact ⟨by simp, by simp⟩
  have bD : 0 ≤ (bif a5 then df m else (bif a4 then 3 else 1)) ∧ (bif a5 then df m else (bif a4 then 3 else 1)) ≤ 3 := by
    cases a5
    · cases a4 <;> exact ⟨by simp, by simp⟩
    · show 0 ≤ df m ∧ df m ≤ 3; omega
  have eT : ((bif a5 then r else h : Nat) : Int).toNat = (bif a5 then r else h) := Int.toNat_natCast _
  have tlt : (bif a5 then r else h) < 32 := by cases a5 <;> assumption
  generalize (bif a5 then (bif a3 then 8 else 5) else atk m) = A at *
  generalize (bif a5 then df m else (bif a4 then 3 else 1)) = D at *
  generalize hP : hit a0 fr L (gear a3 a4) ((bif a5 then h else r : Nat) : Int) ((bif a5 then r else h : Nat) : Int) = P at *
  rw [eB] at be
  generalize dval 3 a0 [fr, ((bif a5 then h else r : Nat) : Int), ((bif a5 then r else h : Nat) : Int), 77] = dd at *
  generalize (bif a5 then r else h) = T at *
  generalize (bif a5 then h else r) = F at *
  have ir : inRange (T : Int) 32 = true := inR (by omega)
  rw [hll, hho]
  simp only [ir, cond_true, Int.toNat_natCast]
  have p1 : (P.1.getD T (0, 0, 0, 0, 0, 0, 0, 0, 0, 0, 0)).1 = kd (P.1.getD T eN) := rfl
  have p2 : (P.1.getD T (0, 0, 0, 0, 0, 0, 0, 0, 0, 0, 0)).2.2.2.2.2.1 = hp (P.1.getD T eN) := rfl
  have p3 : (P.1.getD T (0, 0, 0, 0, 0, 0, 0, 0, 0, 0, 0)).2.2.2.2.2.2.2.2.2.1 = po (P.1.getD T eN) := rfl
  have p4 : (P.1.getD T (0, 0, 0, 0, 0, 0, 0, 0, 0, 0, 0)).2.2.2.2.2.2.2.2.2.2 = sn (P.1.getD T eN) := rfl
  have p5 : (L.getD T (0, 0, 0, 0, 0, 0, 0, 0, 0, 0, 0)).2.2.2.2.2.1 = hp (L.getD T eN) := rfl
  have m1 : m.1 = K := sb.1
  simp only [p1, p2, p3, p4, p5, m1]
  rw [wr (x := A - D) (by omega), maxI_eq]
  rcases be with ⟨b1, b2⟩ | ⟨b1, b2, b3, b4⟩
  · rw [beq_iff_eq.2 b1, cond_true, wr (by omega), decide_eq_true (by omega)]
    exact OK.ret rfl
  · rw [beq_eq_false_iff_ne.2 b1, cond_false]
    refine OK.callR (R := fun z => z = Sum.inl (max 1 (A - D), hp (L.getD T eN) - hp (P.1.getD T eN), ())) ?_ ?_
    · have eW : IntKind.wrap .i64 (hp (L.getD T eN) - hp (P.1.getD T eN)) = hp (L.getD T eN) - hp (P.1.getD T eN) := wr (by omega)
      rw [eW]
      cases a5 with
      | true =>
        have k1 := kF.2 rfl
        have nP : ¬ po (P.1.getD T eN) > 0 := by rw [b3, if_neg (by omega)]; decide
        have nS : ¬ sn (P.1.getD T eN) > 0 := fun z => by have := b4 z; omega
        rw [cond_true, decide_eq_false nP, cond_false, decide_eq_false nS, cond_false]
        simp only [Bool.not_true, cond_false]
        exact OK.ret rfl
      | false =>
        have k1 : kd (L.getD F eN) = K := of_decide_eq_true kF.1
        rw [cond_false, Bool.not_false, cond_true]
        have eP : decide (po (P.1.getD T eN) > 0) = (K == 4) := by
          rw [b3, k1]
          by_cases z : K = 4
          · rw [if_pos z, beq_iff_eq.2 z]; decide
          · rw [if_neg z, beq_eq_false_iff_ne.2 z]; decide
        have eN' : (!decide (po (P.1.getD T eN) > 0) == (K == 4)) = false := by rw [eP]; cases K == 4 <;> rfl
        rw [eN', cond_false]
        by_cases z : sn (P.1.getD T eN) > 0
        · have k3 := b4 z
          rw [decide_eq_true z, cond_true]
          have : (K != 3) = false := by rw [← k1, k3]; rfl
          rw [this, cond_false]
          exact OK.ret rfl
        · rw [decide_eq_false z, cond_false]
          exact OK.ret rfl
    · rintro z rfl
      simp only [Sum.elim_inl]
      rw [decide_eq_true (by omega), cond_true, wr (by omega), decide_eq_true (by omega)]
      exact OK.ret rfl
end Go.Proofs.Yteaglfpppihpjaa.Pure

/- What the laws of chapter 8 share (own work). -/
import Derived.Test.YteaglfpppihpjaaCrowd2
namespace Go.Proofs.Yteaglfpppihpjaa.Ft
open Go Go.Proofs.Yteaglfpppihpjaa.Mx Go.Proofs.Yteaglfpppihpjaa.Pc Go.Proofs.Yteaglfpppihpjaa.Run Go.Proofs.Yteaglfpppihpjaa.Field Go.Proofs.Yteaglfpppihpjaa.Gen Go.Proofs.Yteaglfpppihpjaa.GenL Go.Proofs.Yteaglfpppihpjaa.Fl Go.Proofs.Yteaglfpppihpjaa.Wd
set_option linter.unusedVariables false
set_option linter.unusedSimpArgs false
set_option maxHeartbeats 1000000
theorem same_eq (a0 a1 a2 a3 a7 a8 a9 a10 : Int) (c : List Int) (l : List EntT) (its : List ItT) (h1 : l.length ≤ 100000) (h2 : its.length ≤ 100000) :
    f22 a0 a1 a2 a3 c l its a7 a8 a9 a10 a0 a1 a2 a3 c l its a7 a8 a9 a10 = some (true, ()) := by
  have items : f22.L1 (0, a0, a1, a2, a3, c, l, its, a7, a8, a9, a10, a0, a1, a2, a3, c, l, its, a7, a8, a9, a10, ()) = some (true, ()) := by
    refine OK.eq ?_
    unfold f22.L1
    refine OK.loop (fun i : Nat => ((i : Int), a0, a1, a2, a3, c, l, its, a7, a8, a9, a10, a0, a1, a2, a3, c, l, its, a7, a8, a9, a10, ())) (fun i => i ≤ its.length) (fun i => its.length - i) (fun rec i hi ih => ?_) 0 rfl (Nat.zero_le _) (by omega)
    dsimp only
    rw [bif_dec]
    by_cases q : (i : Int) < its.length
    · rw [if_pos q, inR (by omega), cond_true, cond_true, wr (by omega)]
      simp only [beq_self_eq_true, Bool.and_self, Bool.not_true, cond_false]
      exact ih (i + 1) (by omega) (by omega) _ rfl
    · rw [if_neg q]
      exact OK.ret rfl
  refine OK.eq ?_
  unfold f22 f22.L2
  simp only [beq_self_eq_true, Bool.not_true, cond_false, bne_self_eq_false, Bool.and_self]
  refine OK.loop (fun i : Nat => ((i : Int), a0, a1, a2, a3, c, l, its, a7, a8, a9, a10, a0, a1, a2, a3, c, l, its, a7, a8, a9, a10, ())) (fun i => i ≤ l.length) (fun i => l.length - i) (fun rec i hi ih => ?_) 0 rfl (Nat.zero_le _) (by omega)
  dsimp only
  rw [bif_dec]
  by_cases q : (i : Int) < l.length
  · rw [if_pos q, inR (by omega), cond_true, cond_true, wr (by omega)]
    simp only [beq_self_eq_true, Bool.and_self, Bool.not_true, cond_false]
    exact ih (i + 1) (by omega) (by omega) _ rfl
  · rw [if_neg q, items]
    exact OK.ret rfl
theorem its_iok {c : List Int} {its : List ItT} (h : ItsOk c its) : IOk its := ⟨by have := h.len; omega, fun i hi hw => by
  have hl := h.len
  rcases h.kind i (by omega) with q | q
  · rw [q] at hw
    exact absurd rfl hw
  · omega⟩
theorem hero_is {l : List EntT} (hl : l.length = 32) {s : Int} (h : ∃ i, i < 32 ∧ kd (l.getD i eN) = 1 ∧ st (l.getD i eN) = s) : ∃ k : Nat, k < 32 ∧ heroE' l s = k ∧ kd (l.getD k eN) = 1 ∧ st (l.getD k eN) = s := by
  obtain ⟨i, hi, h1, h2⟩ := h
  have : ¬ heroE' l s < 0 := fun z => by
    have := find_neg.1 z i (by omega)
    unfold isHero at this
    rw [h1, h2] at this
    simp at this
  obtain ⟨k, hk, e, hp', _⟩ := find_pos this
  unfold isHero at hp'
  simp only [Bool.and_eq_true, beq_iff_eq] at hp'
  exact ⟨k, by omega, e, hp'.1, hp'.2⟩
theorem alive_nat {l : List EntT} {k : Nat} (hk : k < l.length) (h : kd (l.getD k eN) ≠ 0) : alive l (k : Int) = true := alive_iff.2 ⟨by omega, by omega, by rw [Int.toNat_natCast]; exact h⟩
theorem known_eq : f7 = some (true, ()) := by
  unfold f7
  obtain ⟨z, e, l, its, rfl, hC, hX, hI, _⟩ := crowd_is 1 0 [1] [] (by decide) 1
  rw [e]
  clear e
  simp only [Option.bind_some]
  have hl := hC.ok.len
  obtain ⟨h, hh, eh, hk, hs⟩ := hero_is hl hC.hero
  rw [rhero_eq l (by omega), eh]
  simp only [Option.bind_some]
  have rat : ∀ r, r < 32 → kd (l.getD r eN) = 2 → hp (l.getD r eN) = 1 := fun r hr h2 => by
    rcases hX.all r hr (by rw [h2]; decide) with q | ⟨j, hj, q1, q2⟩
    · rw [q.1] at h2; cases h2
    · have : j = 0 := by simp at hj; exact hj
      subst this
      rw [q2]
      decide
  obtain ⟨r0, hr0, hr2⟩ := hX.some' (by decide) (by decide) (by decide)
  have e2 : 1 + within ([1].getD 0 0) 4 = 2 := by decide
  rw [e2] at hr2
  have hcl := cells_len 1 (1 + within 0 3)
  generalize cells 1 (1 + within 0 3) = c at *
  generalize 1 + within 0 3 = fl at *
  generalize within 1 1048576 = fr at *
  refine OK.eq ?_
  unfold f7.L1
  refine OK.loop (fun j : Nat × Nat => ((h : Int), (j.2 : Int), (j.1 : Int), 1, fr, fl, 0, 50, 0, 0, 0, c, l, its, ())) (fun j => j.1 ≤ 32 ∧ j.2 < 32 ∧ (r0 < j.1 → kd (l.getD j.2 eN) = 2)) (fun j => 32 - j.1) (fun rec j hj ih => ?_) (0, 0) rfl ⟨Nat.zero_le _, by dsimp only; decide, fun z => absurd z (Nat.not_lt_zero _)⟩ (by dsimp only; decide)
  obtain ⟨i, r⟩ := j
  obtain ⟨hi, hr, hrr⟩ := hj
  dsimp only at hi hr hrr ih ⊢
  rw [bif_dec, hl]
  by_cases q : i < 32
  · rw [if_pos (by omega), inR (by omega), cond_true, wr (by omega), Int.toNat_natCast]
    have ek : (l.getD i (0, 0, 0, 0, 0, 0, 0, 0, 0, 0, 0)).1 = kd (l.getD i eN) := rfl
    rw [ek]
    by_cases k2 : kd (l.getD i eN) = 2
    · rw [beq_iff_eq.2 k2, cond_true]
      exact ih (i + 1, i) ⟨by dsimp only; omega, q, fun _ => k2⟩ (by dsimp only; omega) _ rfl
    · rw [beq_eq_false_iff_ne.2 k2, cond_false]
      refine ih (i + 1, r) ⟨by dsimp only; omega, hr, fun z => ?_⟩ (by dsimp only; omega) _ rfl
      dsimp only at z
      by_cases e : r0 = i
      · subst e; exact absurd hr2 k2
      · exact hrr (by omega)
  · have k2 := hrr (by omega)
    have hR := rat r hr k2
    have ah : alive l (h : Int) = true := alive_nat (by omega) (by rw [hk]; decide)
    have ar : alive l (r : Int) = true := alive_nat (by omega) (by rw [k2]; decide)
    have bb := blow_b hC.ok its ah ar 1 fr
    have ne : r ≠ h := fun z => by rw [z, hk] at k2; cases k2
    have hu : hurt l its (r : Int) (blow 1 fr h r l its) = (l.set r (freeE (l.getD r eN)), if kd (l.getD r eN) = 1 then sweep its (st (l.getD r eN)) else its) := by
      unfold hurt
      rw [if_neg (by rw [ar]; simp only [reduceCtorEq, false_or]; omega), Int.toNat_natCast, if_neg (by omega)]
    have hh' : hit 1 fr l its h r = (l.set r (freeE (l.getD r eN)), if kd (l.getD r eN) = 1 then sweep its (st (l.getD r eN)) else its) := by
      unfold hit
      rw [if_neg (by rw [ah, ar]; simp), hu, if_pos]
      unfold alive
      rw [Int.toNat_natCast, getD_set' _ _ _ _ _ (by omega), if_pos rfl]
      show (_ && ((0 : Int) != 0)) = false
      simp
    rw [if_neg (by omega), hit_eq 1 fr fl 0 c 50 0 0 0 (by omega) hC.ok (its_iok hI) (h : Int) (r : Int), hh']
    simp only [Option.bind_some]
    have er : (l.getD r (0, 0, 0, 0, 0, 0, 0, 0, 0, 0, 0)).1 = kd (l.getD r eN) := rfl
    have es : ((l.set r (freeE (l.getD r eN))).getD r (0, 0, 0, 0, 0, 0, 0, 0, 0, 0, 0)).1 = 0 := by
      have := getD_set' l r r (freeE (l.getD r eN)) eN (by omega)
      rw [if_pos rfl] at this
      rw [this]; rfl
    have eh' : ((l.set r (freeE (l.getD r eN))).getD h (0, 0, 0, 0, 0, 0, 0, 0, 0, 0, 0)).1 = 1 := by
      have := getD_set' l r h (freeE (l.getD r eN)) eN (by omega)
      rw [if_neg ne] at this
      rw [this]; exact hk
    have el : ((l.set r (freeE (l.getD r eN))).length : Int) = 32 := by rw [List.length_set]; omega
    have el' : (l.set r (freeE (l.getD r eN))).length = 32 := by omega
    rw [el, beq_self_eq_true, cond_true, inR (by omega), cond_true, Int.toNat_natCast, er, k2, beq_self_eq_true, cond_true, el', inR (by omega), cond_true, es, beq_self_eq_true, cond_true, inR (by omega), cond_true, Int.toNat_natCast, eh']
    exact OK.ret rfl
end Go.Proofs.Yteaglfpppihpjaa.Ft

/- Crowds: what Crowd makes (own work). -/
import Derived.Test.YteaglfpppihpjaaCrowd
namespace Go.Proofs.Yteaglfpppihpjaa.Ft
open Go Go.Proofs.Yteaglfpppihpjaa.Mx Go.Proofs.Yteaglfpppihpjaa.Pc Go.Proofs.Yteaglfpppihpjaa.Run Go.Proofs.Yteaglfpppihpjaa.Field Go.Proofs.Yteaglfpppihpjaa.Gen Go.Proofs.Yteaglfpppihpjaa.GenL Go.Proofs.Yteaglfpppihpjaa.Fl Go.Proofs.Yteaglfpppihpjaa.Wd
set_option linter.unusedVariables false
set_option linter.unusedSimpArgs false
set_option maxHeartbeats 2000000
/-- Where those of a crowd come from. -/
structure CX (kinds : List Int) (i : Nat) (l : List EntT) : Prop where
  all : ∀ r, r < 32 → kd (l.getD r eN) ≠ 0 → (kd (l.getD r eN) = 1 ∧ st (l.getD r eN) = 0) ∨ ∃ j, j < kinds.length ∧ kd (l.getD r eN) = 1 + within (kinds.getD j 0) 4 ∧ hp (l.getD r eN) = 1 + within (IntKind.wrap .i64 (Int.tdiv (kinds.getD j 0) 7)) (mxh (statE (1 + within (kinds.getD j 0) 4)))
  some' : 1 ≤ i → 1 ≤ kinds.length → within (kinds.getD 0 0) 4 ≠ 0 → ∃ r, r < 32 ∧ kd (l.getD r eN) = 1 + within (kinds.getD 0 0) 4
theorem CX.one (kinds : List Int) (s fl at' : Int) : CX kinds 0 (entsW s fl 0 at') := by
  have b := within_b at' 32 (by decide)
  have gR : ∀ j, (List.replicate 32 eN).getD j eN = eN := fun j => by
    rw [List.getD_eq_getElem?_getD, List.getElem?_replicate]
    split <;> rfl
  have g : ∀ j, (entsW s fl 0 at').getD j eN = if (within at' 32).toNat = j then heroE s fl 0 at' else eN := fun j => by
    unfold entsW
    have := getD_set' (List.replicate 32 eN) (within at' 32).toNat j (heroE s fl 0 at') eN (by rw [List.length_replicate]; omega)
    rw [gR] at this
    exact this
  refine ⟨fun r hr => ?_, fun h => absurd h (by decide)⟩
  rw [g]
  split
  · exact fun _ => .inl ⟨rfl, rfl⟩
  · exact fun z => absurd rfl z
/-- Somebody can come to a floor on which the hero alone stands. -/
theorem room_first (s fl at' : Int) : ∃ j : Int, 0 ≤ j ∧ j < 384 ∧ walkable ((cells s fl).getD j.toNat 0) = true ∧ atE (entsW s fl 0 at') (j % 24) (j / 24) < 0 := by
  have b := within_b at' 32 (by decide)
  have gR : ∀ j, (List.replicate 32 eN).getD j eN = eN := fun j => by
    rw [List.getD_eq_getElem?_getD, List.getElem?_replicate]
    split <;> rfl
  have g : ∀ j, (entsW s fl 0 at').getD j eN = if (within at' 32).toNat = j then heroE s fl 0 at' else eN := fun j => by
    unfold entsW
    have := getD_set' (List.replicate 32 eN) (within at' 32).toNat j (heroE s fl 0 at') eN (by rw [List.length_replicate]; omega)
    rw [gR] at this
    exact this
  have hg := (heroAt_gc s fl at').1
  unfold GC at hg
  have free : ∀ j : Int, 0 ≤ j → j ≠ heroAt s fl at' → atE (entsW s fl 0 at') (j % 24) (j / 24) < 0 := fun j h0 hj => by
    unfold atE
    refine find_neg.2 fun i hi => ?_
    rw [g]
    split
    · unfold standsAt
      rw [Bool.and_eq_false_iff]
      refine .inr ?_
      rw [Bool.and_eq_false_iff, beq_eq_false_iff_ne, beq_eq_false_iff_ne]
      show heroAt s fl at' % 24 ≠ j % 24 ∨ heroAt s fl at' / 24 ≠ j / 24
      omega
    · rfl
  have gu := upc_gc s fl
  have gf := far_gc s fl
  unfold GC at gu gf
  by_cases e : upc s fl = heroAt s fl at'
  · exact ⟨far s fl, gf.1, gf.2, (cells_wk s fl _).2 (far_wk s fl), free _ gf.1 (fun z => far_ne s fl (z.trans e.symm))⟩
  · exact ⟨upc s fl, gu.1, gu.2, (cells_wk s fl _).2 (up_wk s fl), free _ gu.1 e⟩
theorem crowd_is (s f : Int) (kinds : List Int) (items : List ItT) (hit' : items.length ≤ 1000000000000000) (frame : Int) :
    OK (f15 s f kinds items frame) fun z => ∃ l its, z = (s, within frame 1048576, 1 + within f 3, 0, 50, 0, 0, 0, cells s (1 + within f 3), l, its, ()) ∧ COk (cells s (1 + within f 3)) l ∧ CX kinds kinds.length l ∧ ItsOk (cells s (1 + within f 3)) its ∧ (kinds = [] → l = entsW s (1 + within f 3) 0 1) := by
  unfold f15
  have hw := world_is s f 0 1 items hit' 50
  obtain ⟨z, e, its, rfl, hI, _⟩ := hw
  rw [e]
  clear e
  simp only [Option.bind_some]
  rw [within8_eq _ _ (by decide) (by decide)]
  simp only [Option.bind_some]
  have w0 : within 0 4 = 0 := by decide
  have w50 : within 50 1000 = 50 := by decide
  rw [w0, w50]
  have g0 : goldOf 0 50 0 = 50 := by decide
  have g1 : goldOf 0 50 1 = 0 := by decide
  have g2 : goldOf 0 50 2 = 0 := by decide
  have g3 : goldOf 0 50 3 = 0 := by decide
  rw [g0, g1, g2, g3]
  have bf := within_b f 3 (by decide)
  generalize 1 + within f 3 = fl at *
  generalize within frame 1048576 = fr at *
  have hcl := cells_len s fl
  have hcb := cells_cb s fl
  have h1 := COk.one s fl 1 0 rfl
  have h2 := CX.one kinds s fl 1
  have h3 := room_first s fl 1
  have hfirst : ∃ i, firstFree (entsW s fl 0 1) = some i := by
    unfold firstFree
    cases q : (List.range 32).find? fun i => kd ((entsW s fl 0 1).getD i eN) == 0 with
    | some i => exact ⟨i, rfl⟩
    | none =>
      exfalso
      have := List.find?_range_eq_none.1 q 0 (by decide)
      have g : (entsW s fl 0 1).getD 0 eN = eN := rfl
      rw [g] at this
      exact absurd this (by decide)
  refine OK.callR (R := fun z => ∃ l, z = Sum.inl (0, 0, 0, 0, 0, 0, 0, 0, s, fr, fl, 0, 50, 0, 0, 0, cells s fl, l, its, ()) ∧ COk (cells s fl) l ∧ CX kinds kinds.length l ∧ (kinds = [] → l = entsW s fl 0 1)) ?_ (fun z ⟨l, e, h⟩ => by subst e; exact OK.ret ⟨l, its, rfl, h.1, h.2.1, hI, h.2.2⟩)
  unfold f15.L2
  refine OK.loop (fun j : Nat × Int × List EntT => (kinds, j.2.1, (j.1 : Int), 0, 0, 0, 0, 0, 0, 0, 0, s, fr, fl, 0, 50, 0, 0, 0, cells s fl, j.2.2, its, ())) (fun j => j.1 ≤ 12 ∧ j.1 ≤ kinds.length ∧ 0 ≤ j.2.1 ∧ j.2.1 ≤ 990 ∧ COk (cells s fl) j.2.2 ∧ CX kinds j.1 j.2.2 ∧ (j.1 = 0 → j.2.1 = 0 ∧ j.2.2 = entsW s fl 0 1)) (fun j => 12 - j.1) (fun rec j hj ih => ?_) (0, 0, entsW s fl 0 1) rfl ⟨by dsimp only; omega, by dsimp only; omega, by dsimp only; omega, by dsimp only; omega, h1, h2, fun _ => ⟨rfl, rfl⟩⟩ (by dsimp only; omega)
  obtain ⟨i, at', l⟩ := j
  obtain ⟨hi, hik, ha0, ha1, hC, hX, hz⟩ := hj
  dsimp only at hi hik ha0 ha1 hC hX hz ih ⊢
  have hl := hC.ok.len
  have upX : ∀ {l : List EntT}, CX kinds i l → (1 ≤ i ∨ kinds.length = 0 ∨ within (kinds.getD 0 0) 4 = 0) → CX kinds kinds.length l := fun {l} h hc => ⟨h.all, fun a b c => by
    rcases hc with q | q | q
    · exact h.some' q b c
    · omega
    · exact absurd q c⟩
  have stop : (1 ≤ i ∨ kinds.length = 0 ∨ within (kinds.getD 0 0) 4 = 0) → OK (some (Sum.inl (α := Int × Int × Int × Int × Int × Int × Int × Int × Int × Int × Int × Int × Int × Int × Int × Int × List Int × List EntT × List ItT × Unit) (β := WT) (0, 0, 0, 0, 0, 0, 0, 0, s, fr, fl, 0, 50, 0, 0, 0, cells s fl, l, its, ()))) fun z => ∃ l, z = Sum.inl (0, 0, 0, 0, 0, 0, 0, 0, s, fr, fl, 0, 50, 0, 0, 0, cells s fl, l, its, ()) ∧ COk (cells s fl) l ∧ CX kinds kinds.length l ∧ (kinds = [] → l = entsW s fl 0 1) := fun hc =>
    OK.ret ⟨l, rfl, hC, upX hX hc, fun e => by
      subst e
      have : i = 0 := by simp at hik; omega
      exact (hz this).2⟩
  rw [bif_dec, bif_dec]
  by_cases q1 : (i : Int) < kinds.length
  · rw [if_pos q1]
    by_cases q2 : (i : Int) < 12
    · rw [if_pos q2]
      refine OK.callR (seek kinds (i : Int) 0 0 0 0 0 0 0 0 s fr fl 0 50 0 0 0 (cells s fl) l its hcl hcb hl at' ⟨ha0, by omega⟩) ?_
      rintro z ⟨k, rfl, hk0, hk1, hk2, hk3⟩
      simp only [Sum.elim_inl]
      rw [bif_dec]
      by_cases q3 : k ≥ 384
      · rw [if_pos q3]
        refine stop ?_
        by_cases e : i = 0
        · exfalso
          obtain ⟨e1, e2⟩ := hz e
          subst e2
          obtain ⟨j, j0, j1, j2, j3⟩ := h3
          exact hk3 j (by omega) (by omega) j1 ⟨j2, j3⟩
        · exact .inl (by omega)
      · rw [if_neg q3]
        obtain ⟨hw, hat⟩ := hk2 (by omega)
        have bk := within_b (kinds.getD i 0) 4 (by decide)
        have ir : inRange (i : Int) kinds.length = true := inR (by omega)
        have b3 := within_b (Int.tdiv (kinds.getD i 0) 3) 4 (by decide)
        have bp := within_b (Int.tdiv (kinds.getD i 0) 5) 10 (by decide)
        have bs := within_b (Int.tdiv (kinds.getD i 0) 11) 10 (by decide)
        have skipX : i = 0 → within (kinds.getD 0 0) 4 ≠ 0 → kd (statE (1 + within (kinds.getD i 0) 4)) = 1 → False := fun e h h' => by
          subst e
          rw [(stat_b _ (by omega)).1] at h'
          omega
        rw [ir, cond_true, Int.toNat_natCast, within8_eq _ _ (by decide) (by decide)]
        simp only [Option.bind_some]
        rw [wr (x := 1 + within (kinds.getD i 0) 4) (by omega), rstat_eq _ (by omega)]
        simp only [Option.bind_some]
        have sb := stat_b (1 + within (kinds.getD i 0) 4) (by omega)
        generalize hK : 1 + within (kinds.getD i 0) 4 = K at *
        generalize hE : statE K = e at *
        have eK : e.1 = K := sb.1
        -- the body of what comes behind
        refine OK.callR (R := fun z => (∃ seat, z = Sum.inl (kinds, k, (i : Int), 0, 0, 0, 0, 0, 0, 0, 0, s, fr, fl, 0, 50, 0, 0, 0, e.1, e.2.1, seat, e.2.2.2.1, e.2.2.2.2.1, e.2.2.2.2.2.1, e.2.2.2.2.2.2.1, e.2.2.2.2.2.2.2.1, e.2.2.2.2.2.2.2.2.1, e.2.2.2.2.2.2.2.2.2.1, e.2.2.2.2.2.2.2.2.2.2, cells s fl, l, its, ()) ∧ 0 ≤ seat ∧ seat < 4 ∧ (kd e = 1 → ∀ j, j < 32 → isHero seat (l.getD j eN) = false)) ∨ ∃ q, z = Sum.inr q ∧ ∃ l, q = Sum.inl (0, 0, 0, 0, 0, 0, 0, 0, s, fr, fl, 0, 50, 0, 0, 0, cells s fl, l, its, ()) ∧ COk (cells s fl) l ∧ CX kinds kinds.length l ∧ (kinds = [] → l = entsW s fl 0 1)) ?_ ?_
        · by_cases h1 : kd e = 1
          · have h1' : (e.1 == 1) = true := beq_iff_eq.2 h1
            have bt := within_b (Int.tdiv (kinds.getD i 0) 4) 3 (by decide)
            have ew : IntKind.wrap .i64 (Int.tdiv (kinds.getD i 0) 4) = IntKind.wrap .i64 (Int.tdiv (kinds.getD i 0) 4) := rfl
            have bt' := within_b (IntKind.wrap .i64 (Int.tdiv (kinds.getD i 0) 4)) 3 (by decide)
            rw [h1', cond_true, within8_eq _ _ (by decide) (by decide)]
            simp only [Option.bind_some]
            rw [wr (x := 1 + within (IntKind.wrap .i64 (Int.tdiv (kinds.getD i 0) 4)) 3) (by omega), rhero_eq l (by omega)]
            simp only [Option.bind_some]
            rw [bif_dec]
            by_cases h5 : heroE' l (1 + within (IntKind.wrap .i64 (Int.tdiv (kinds.getD i 0) 4)) 3) ≥ 0
            · rw [if_pos h5, wr (x := (i : Int) + 1) (by omega)]
              refine OK.callR (ih (i + 1, k, l) ⟨by dsimp only; omega, by dsimp only; omega, by dsimp only; omega, by dsimp only; omega, hC, ⟨hX.all, fun _ b c => ?_⟩, fun h => by dsimp only at h; omega⟩ (by dsimp only; omega) _ rfl) fun q hq => OK.ret (.inr ⟨q, rfl, hq⟩)
              by_cases e0 : i = 0
              · exact (skipX e0 c h1).elim
              · exact hX.some' (by omega) b c
            · rw [if_neg h5]
              refine OK.ret (.inl ⟨_, rfl, by omega, by omega, fun _ j hj => ?_⟩)
              have : heroE' l (1 + within (IntKind.wrap .i64 (Int.tdiv (kinds.getD i 0) 4)) 3) < 0 := by omega
              exact find_neg.1 this j (by omega)
          · have h1' : (e.1 == 1) = false := beq_eq_false_iff_ne.2 h1
            rw [h1', cond_false]
            have e2 : e.2.2.1 = 0 := by
              rw [← hE]
              unfold statE
              repeat' split
              all_goals rfl
            exact OK.ret (.inl ⟨e.2.2.1, rfl, by omega, by omega, fun h => absurd h h1⟩)
        · rintro z (⟨seat, rfl, hs0, hs1, hsN⟩ | ⟨q, rfl, hq⟩)
          · simp only [Sum.elim_inl]
            simp only [ir, cond_true, Int.toNat_natCast]
            have em : e.2.2.2.2.2.2.1 = mxh e := rfl
            have bh := within_b (IntKind.wrap .i64 (Int.tdiv (kinds.getD i 0) 7)) (mxh e) (by omega)
            have bp' := within_b (IntKind.wrap .i64 (Int.tdiv (kinds.getD i 0) 5)) 10 (by decide)
            have bs' := within_b (IntKind.wrap .i64 (Int.tdiv (kinds.getD i 0) 11)) 10 (by decide)
            rw [em, within8_eq _ _ (by omega) (by omega)]
            simp only [Option.bind_some]
            rw [within8_eq _ _ (by decide) (by decide)]
            simp only [Option.bind_some]
            rw [within8_eq _ _ (by decide) (by decide)]
            simp only [Option.bind_some]
            rw [Int.tmod_eq_emod_of_nonneg (by omega), Int.tdiv_eq_ediv_of_nonneg (a := k) (by omega), wr (x := k / 24) (by omega), wr (x := 1 + within (IntKind.wrap .i64 (Int.tdiv (kinds.getD i 0) 7)) (mxh e)) (by omega)]
            have hsp := rspawn_eq hl (e.1, e.2.1, seat, k % 24, k / 24, 1 + within (IntKind.wrap .i64 (Int.tdiv (kinds.getD i 0) 7)) (mxh e), mxh e, e.2.2.2.2.2.2.2.1, e.2.2.2.2.2.2.2.2.1, within (IntKind.wrap .i64 (Int.tdiv (kinds.getD i 0) 5)) 10, within (IntKind.wrap .i64 (Int.tdiv (kinds.getD i 0) 11)) 10) (by show 1 ≤ e.1 ∧ e.1 ≤ 4; omega)
            dsimp only at hsp
            rw [hsp]
            clear hsp
            have fin : ∀ l', COk (cells s fl) l' → CX kinds (i + 1) l' → OK (rec (kinds, k + 1 + within (IntKind.wrap .i64 (Int.tdiv (kinds.getD i 0) 3)) 4, (i : Int) + 1, 0, 0, 0, 0, 0, 0, 0, 0, s, fr, fl, 0, 50, 0, 0, 0, cells s fl, l', its, ())) fun z => ∃ l, z = Sum.inl (0, 0, 0, 0, 0, 0, 0, 0, s, fr, fl, 0, 50, 0, 0, 0, cells s fl, l, its, ()) ∧ COk (cells s fl) l ∧ CX kinds kinds.length l ∧ (kinds = [] → l = entsW s fl 0 1) := fun l' hC' hX' => by
              have b3' := within_b (IntKind.wrap .i64 (Int.tdiv (kinds.getD i 0) 3)) 4 (by decide)
              exact ih (i + 1, k + 1 + within (IntKind.wrap .i64 (Int.tdiv (kinds.getD i 0) 3)) 4, l') ⟨by dsimp only; omega, by dsimp only; omega, by dsimp only; omega, by dsimp only; omega, hC', hX', fun h => by dsimp only at h; omega⟩ (by dsimp only; omega) _ rfl
            have b3' := within_b (IntKind.wrap .i64 (Int.tdiv (kinds.getD i 0) 3)) 4 (by decide)
            cases hff : firstFree l with
            | none =>
              simp only [Option.bind_some]
              rw [show ((5 : Int) == 0) = false from rfl, cond_false]
              simp only [Option.bind_some, Sum.elim_inl]
              rw [ir, cond_true, Int.toNat_natCast, within8_eq _ _ (by decide) (by decide)]
              simp only [Option.bind_some]
              rw [wr (x := k + 1) (by omega), wr (x := (i : Int) + 1) (by omega), wr (by omega)]
              refine fin l hC ⟨hX.all, fun _ b c => ?_⟩
              by_cases e0 : i = 0
              · obtain ⟨_, e2⟩ := hz e0
                subst e2
                obtain ⟨r, hr⟩ := hfirst
                rw [hff] at hr
                cases hr
              · exact hX.some' (by omega) b c
            | some r =>
              have hr := List.find?_range_eq_some.1 hff
              have hr32 := List.mem_range.1 hr.2.1
              have hr0 : kd (l.getD r eN) = 0 := beq_iff_eq.1 hr.1
              simp only [Option.bind_some]
              rw [beq_self_eq_true, cond_true]
              simp only [Option.bind_some, Sum.elim_inl]
              rw [ir, cond_true, Int.toNat_natCast, within8_eq _ _ (by decide) (by decide)]
              simp only [Option.bind_some]
              rw [wr (x := k + 1) (by omega), wr (x := (i : Int) + 1) (by omega), wr (by omega)]
              generalize Int.tmod (IntKind.wrap .i64 (gn (l.getD r eN) + 1)) 256 = G
              have eR : withGen (e.1, e.2.1, seat, k % 24, k / 24, 1 + within (IntKind.wrap .i64 (Int.tdiv (kinds.getD i 0) 7)) (mxh e), mxh e, e.2.2.2.2.2.2.2.1, e.2.2.2.2.2.2.2.2.1, within (IntKind.wrap .i64 (Int.tdiv (kinds.getD i 0) 5)) 10, within (IntKind.wrap .i64 (Int.tdiv (kinds.getD i 0) 11)) 10) G = (e.1, G, seat, k % 24, k / 24, 1 + within (IntKind.wrap .i64 (Int.tdiv (kinds.getD i 0) 7)) (mxh e), mxh e, e.2.2.2.2.2.2.2.1, e.2.2.2.2.2.2.2.2.1, within (IntKind.wrap .i64 (Int.tdiv (kinds.getD i 0) 5)) 10, within (IntKind.wrap .i64 (Int.tdiv (kinds.getD i 0) 11)) 10) := rfl
              rw [eR]
              have hne := walk_ne hw
              refine fin _ (hC.add hr32 hr0 (.inr ?_) ?_ ?_ ?_) ⟨fun j hj => ?_, fun _ b c => ?_⟩
              · show 1 ≤ e.1 ∧ e.1 ≤ 4 ∧ 1 ≤ 1 + within (IntKind.wrap .i64 (Int.tdiv (kinds.getD i 0) 7)) (mxh e) ∧ 1 + within (IntKind.wrap .i64 (Int.tdiv (kinds.getD i 0) 7)) (mxh e) ≤ mxh e ∧ mxh e ≤ 20 ∧ 0 ≤ atk e ∧ atk e ≤ 5 ∧ 0 ≤ df e ∧ df e ≤ 1 ∧ 0 ≤ within (IntKind.wrap .i64 (Int.tdiv (kinds.getD i 0) 5)) 10 ∧ within (IntKind.wrap .i64 (Int.tdiv (kinds.getD i 0) 5)) 10 ≤ 9 ∧ 0 ≤ within (IntKind.wrap .i64 (Int.tdiv (kinds.getD i 0) 11)) 10 ∧ within (IntKind.wrap .i64 (Int.tdiv (kinds.getD i 0) 11)) 10 ≤ 9
                omega
              · show 0 ≤ k % 24 ∧ k % 24 < 24 ∧ 0 ≤ k / 24 ∧ k / 24 < 16 ∧ (cells s fl).getD (k / 24 * 24 + k % 24).toNat 0 ≠ 0 ∧ 0 ≤ seat ∧ seat < 4
                rw [show k / 24 * 24 + k % 24 = k by omega]
                exact ⟨by omega, by omega, by omega, by omega, hne, hs0, hs1⟩
              · intro j hj
                exact find_neg.1 hat j (by omega)
              · intro h j hj
                exact hsN h j hj
              · rw [getD_set' _ _ _ _ _ (by omega)]
                split
                · intro _
                  refine .inr ⟨i, by omega, ?_, ?_⟩
                  · rw [hK]; exact eK
                  · rw [hK, hE]
                    rfl
                · exact hX.all j hj
              · by_cases e0 : i = 0
                · subst e0
                  refine ⟨r, hr32, ?_⟩
                  rw [getD_set' _ _ _ _ _ (by omega), if_pos rfl, hK]
                  exact eK
                · obtain ⟨r', hr', h'⟩ := hX.some' (by omega) b c
                  refine ⟨r', hr', ?_⟩
                  rw [getD_set' _ _ _ _ _ (by omega), if_neg]
                  · exact h'
                  · intro z
                    subst z
                    have b0 := within_b (kinds.getD 0 0) 4 (by decide)
                    omega
          · simp only [Sum.elim_inr]
            exact OK.ret hq
    · rw [if_neg q2]
      exact stop (.inl (by omega))
  · rw [if_neg q1]
    refine stop ?_
    by_cases e : i = 0
    · exact .inr (.inl (by omega))
    · exact .inl (by omega)
end Go.Proofs.Yteaglfpppihpjaa.Ft

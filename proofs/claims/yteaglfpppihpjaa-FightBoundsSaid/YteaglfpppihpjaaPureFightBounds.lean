/- The law FightBounds, in plain words (own work). -/
import Derived.Test.YteaglfpppihpjaaFightLaw
namespace Go.Proofs.Yteaglfpppihpjaa.Pure
open Go Go.Proofs.Yteaglfpppihpjaa.Mx Go.Proofs.Yteaglfpppihpjaa.Pc Go.Proofs.Yteaglfpppihpjaa.Run Go.Proofs.Yteaglfpppihpjaa.Field Go.Proofs.Yteaglfpppihpjaa.Gen Go.Proofs.Yteaglfpppihpjaa.GenL Go.Proofs.Yteaglfpppihpjaa.Fl Go.Proofs.Yteaglfpppihpjaa.Wd Go.Proofs.Yteaglfpppihpjaa.Ft
set_option linter.unusedVariables false
set_option linter.unusedSimpArgs false
set_option maxHeartbeats 1000000
/-- A hero of the first seat is there, or nothing is in its bag or hand. -/
def H0 (l : List EntT) (its : List ItT) : Prop := (∃ i, i < 32 ∧ kd (l.getD i eN) = 1 ∧ st (l.getD i eN) = 0) ∨ ∀ k, k < its.length → ¬ (((its.getD k iN).2.1 = 2 ∨ (its.getD k iN).2.1 = 3) ∧ (its.getD k iN).2.2.1 = 0)
theorem H0.keep {l : List EntT} {its : List ItT} (h : H0 l its) (hl : l.length = 32) (i : Nat) {e : EntT} (h1 : kd e = kd (l.getD i eN)) (h2 : st e = st (l.getD i eN)) : H0 (l.set i e) its := by
  rcases h with ⟨k, hk, a, b⟩ | h
  · refine .inl ⟨k, hk, ?_, ?_⟩
    · rw [getD_set]
      split
      · rename_i z; rw [h1, z.1]; exact a
      · exact a
    · rw [getD_set]
      split
      · rename_i z; rw [h2, z.1]; exact b
      · exact b
  · exact .inr h
theorem sweep_items {c : List Int} {its : List ItT} (h : ItsOk c its) (s : Int) : ItsOk c (sweep its s) := by
  have hl := h.len
  refine ⟨by rw [sweep_len]; exact hl, fun i hi => ?_, fun i j hi hj hne he => ?_⟩
  · rw [sweep_get]
    unfold sweep1
    split
    · exact .inl rfl
    · exact h.kind i hi
  · rw [sweep_get] at hne he
    rw [sweep_get] at he
    unfold sweep1 at hne he
    split at hne
    · exact absurd rfl hne
    · rename_i q
      rw [if_neg q] at he
      split at he
      · rcases h.kind i hi with z | z
        · exact absurd z hne
        · have := z.2.2.wh
          rw [he] at this
          exact absurd this.1 (by decide)
      · exact h.one i j hi hj hne he
/-- What holds from blow to blow. -/
structure HI (c : List Int) (l : List EntT) (its : List ItT) : Prop where
  ok : LOk l
  its' : ItsOk c its
  h0 : H0 l its
theorem hurt_hi {c : List Int} {l : List EntT} {its : List ItT} (h : HI c l its) (r n : Int) : HI c (hurt l its r n).1 (hurt l its r n).2 := by
  have hk := hurt_ok h.ok (its_iok h.its') r n
  have hl := h.ok.len
  refine ⟨hk.1, ?_, ?_⟩
  · unfold hurt
    split
    · exact h.its'
    · split
      · exact h.its'
      · dsimp only
        split
        · exact sweep_items h.its' _
        · exact h.its'
  · unfold hurt
    split
    · exact h.h0
    · rename_i q
      have ha : alive l r = true := by
        cases e : alive l r with
        | true => rfl
        | false => exact absurd (.inl e) q
      obtain ⟨p0, p1, p2⟩ := alive_iff.1 ha
      split
      · exact h.h0.keep hl _ rfl rfl
      · dsimp only
        have g : ∀ j, (l.set r.toNat (freeE (l.getD r.toNat eN))).getD j eN = if r.toNat = j then freeE (l.getD r.toNat eN) else l.getD j eN := fun j => getD_set' _ _ _ _ _ (by omega)
        split
        · rename_i k1
          by_cases s0 : st (l.getD r.toNat eN) = 0
          · refine .inr fun k hk => ?_
            rw [s0, sweep_get]
            unfold sweep1
            split
            · intro z
              rcases z.1 with w | w
              · exact absurd w (by decide)
              · exact absurd w (by decide)
            · assumption
          · rcases h.h0 with ⟨k, hk, a, b⟩ | hh
            · have ne : r.toNat ≠ k := fun z => s0 (by rw [z]; exact b)
              exact .inl ⟨k, hk, by rw [g, if_neg ne]; exact a, by rw [g, if_neg ne]; exact b⟩
            · refine .inr fun k hk => ?_
              rw [sweep_len] at hk
              rw [sweep_get]
              unfold sweep1
              split
              · intro z
                rcases z.1 with w | w
                · exact absurd w (by decide)
                · exact absurd w (by decide)
              · exact hh k hk
        · rename_i k1
          rcases h.h0 with ⟨k, hk, a, b⟩ | hh
          · have ne : r.toNat ≠ k := fun z => k1 (by rw [z]; exact a)
            exact .inl ⟨k, hk, by rw [g, if_neg ne]; exact a, by rw [g, if_neg ne]; exact b⟩
          · exact .inr hh
theorem hit_hi {c : List Int} {l : List EntT} {its : List ItT} (h : HI c l its) (sd fr a b : Int) : HI c (hit sd fr l its a b).1 (hit sd fr l its a b).2 := by
  have hk := hit_ok h.ok (its_iok h.its') sd fr a b
  have hu := hurt_hi h b (blow sd fr a b l its)
  refine ⟨hk.1, ?_, ?_⟩
  · unfold hit
    split
    · exact h.its'
    · split
      · exact hu.its'
      · exact hu.its'
  · unfold hit
    split
    · exact h.h0
    · split
      · exact hu.h0
      · dsimp only
        generalize (hurt l its b (blow sd fr a b l its)).1 = l1 at *
        have hl1 := hu.ok.len
        unfold leave
        split
        · exact hu.h0.keep hl1 _ rfl rfl
        · split
          · split
            · exact hu.h0.keep hl1 _ rfl rfl
            · exact hu.h0
          · exact hu.h0
theorem ail1_hi {c : List Int} {l : List EntT} {its : List ItT} (h : HI c l its) (i : Nat) : HI c (ail1 l its i).1 (ail1 l its i).2 := by
  have hl := h.ok.len
  unfold ail1
  split
  · exact h
  · rename_i q
    have ha : alive l i = true := by cases e : alive l i with | true => rfl | false => exact absurd e q
    have t := h.ok.taken ha
    obtain ⟨_, p1, p2⟩ := alive_iff.1 ha
    rw [Int.toNat_natCast] at t p2
    have h1 : HI c (if 0 < sn (l.getD i eN) then l.set i (setSn (l.getD i eN) (sn (l.getD i eN) - 1)) else l) its := by
      split
      · refine ⟨h.ok.set _ (.inr ?_), h.its', h.h0.keep hl _ rfl rfl⟩
        show 1 ≤ kd (l.getD i eN) ∧ kd (l.getD i eN) ≤ 4 ∧ 1 ≤ hp (l.getD i eN) ∧ hp (l.getD i eN) ≤ mxh (l.getD i eN) ∧ mxh (l.getD i eN) ≤ 20 ∧ 0 ≤ atk (l.getD i eN) ∧ atk (l.getD i eN) ≤ 5 ∧ 0 ≤ df (l.getD i eN) ∧ df (l.getD i eN) ≤ 1 ∧ 0 ≤ po (l.getD i eN) ∧ po (l.getD i eN) ≤ 9 ∧ 0 ≤ sn (l.getD i eN) - 1 ∧ sn (l.getD i eN) - 1 ≤ 9
        omega
      · exact h
    have k1 : kd ((if 0 < sn (l.getD i eN) then l.set i (setSn (l.getD i eN) (sn (l.getD i eN) - 1)) else l).getD i eN) ≠ 0 := by
      split
      · rw [getD_set' _ _ _ _ _ (by omega), if_pos rfl]; exact p2
      · exact p2
    dsimp only
    generalize (if 0 < sn (l.getD i eN) then l.set i (setSn (l.getD i eN) (sn (l.getD i eN) - 1)) else l) = l1 at *
    have hl1 := h1.ok.len
    split
    · rename_i q3
      have hO : LOk (l1.set i (setPo (l1.getD i eN) (po (l1.getD i eN) - 1))) := by
        refine h1.ok.set _ (.inr ?_)
        rcases h1.ok.ent i (by omega) with q4 | q4
        · exact absurd q4.1 k1
        · show 1 ≤ kd (l1.getD i eN) ∧ kd (l1.getD i eN) ≤ 4 ∧ 1 ≤ hp (l1.getD i eN) ∧ hp (l1.getD i eN) ≤ mxh (l1.getD i eN) ∧ mxh (l1.getD i eN) ≤ 20 ∧ 0 ≤ atk (l1.getD i eN) ∧ atk (l1.getD i eN) ≤ 5 ∧ 0 ≤ df (l1.getD i eN) ∧ df (l1.getD i eN) ≤ 1 ∧ 0 ≤ po (l1.getD i eN) - 1 ∧ po (l1.getD i eN) - 1 ≤ 9 ∧ 0 ≤ sn (l1.getD i eN) ∧ sn (l1.getD i eN) ≤ 9
          omega
      exact hurt_hi (l := l1.set i (setPo (l1.getD i eN) (po (l1.getD i eN) - 1))) ⟨hO, h1.its', h1.h0.keep hl1 i (e := setPo (l1.getD i eN) (po (l1.getD i eN) - 1)) rfl rfl⟩ i 1
    · exact h1
theorem ail_hi {c : List Int} {l : List EntT} {its : List ItT} (h : HI c l its) : ∀ n, HI c (ail l its n).1 (ail l its n).2
  | 0 => h
  | n + 1 => by
    rw [ail_succ]
    exact ail1_hi (ail_hi h n) n
/-- The document's check of items that may be. -/
theorem placed_eq (a0 a1 a2 a3 : Int) (c : List Int) (a7 a8 a9 a10 : Int) (hcb : CB c) (hc5 : ∀ i, c.getD i 0 ≤ 5) {l : List EntT} {its : List ItT} (x : ItT) (h : Placed c x) :
    f40 a0 a1 a2 a3 c l its a7 a8 a9 a10 x.1 x.2.1 x.2.2.1 x.2.2.2 = some (true, ()) := by
  unfold f40
  rcases h with ⟨h1, h2, h3, h4, h5, h6⟩ | ⟨h1, h2, h3, h4, h5, h6⟩ | ⟨h1, h2, h3, h4⟩ | ⟨h1, h2, h3, h4, h5⟩
  · have hin : InG x.2.2.1 x.2.2.2 := ⟨h2, h3, h4, h5⟩
    rw [beq_iff_eq.2 h1, cond_true, in_eq]
    simp only [Option.bind_some]
    rw [decide_eq_true (show 0 ≤ x.2.2.1 ∧ x.2.2.1 < 24 ∧ 0 ≤ x.2.2.2 ∧ x.2.2.2 < 16 from hin), cond_true, at_eq c hcb, if_pos hin]
    simp only [Option.bind_some]
    rw [rwalk_eq]
    simp only [Option.bind_some]
    have b := hcb (cel x.2.2.1 x.2.2.2).toNat
    have b5 := hc5 (cel x.2.2.1 x.2.2.2).toNat
    have h6' : c.getD (cel x.2.2.1 x.2.2.2).toNat 0 ≠ 0 := h6
    have : walkable (Field.rd c (cel x.2.2.1 x.2.2.2)) = true := by
      show walkable (c.getD (cel x.2.2.1 x.2.2.2).toNat 0) = true
      unfold walkable
      rw [decide_eq_true_eq]
      omega
    rw [this]
  · rw [beq_eq_false_iff_ne.2 (show x.2.1 ≠ 1 by omega), cond_false, beq_iff_eq.2 h1, cond_true, bif_dec, if_pos (by omega), bif_dec, if_pos (by omega), bif_dec, if_pos (by omega), bif_dec, if_pos (by omega), bne_iff_ne.2 h6]
  · rw [beq_eq_false_iff_ne.2 (show x.2.1 ≠ 1 by omega), cond_false, beq_eq_false_iff_ne.2 (show x.2.1 ≠ 2 by omega), cond_false, beq_iff_eq.2 h1, cond_true, bif_dec, if_pos (by omega), bif_dec, if_pos (by omega)]
    rcases h4 with ⟨k, b⟩ | ⟨k, b⟩
    · rw [k, b]; rfl
    · rw [k, b]; rfl
  · rw [beq_eq_false_iff_ne.2 (show x.2.1 ≠ 1 by omega), cond_false, beq_eq_false_iff_ne.2 (show x.2.1 ≠ 2 by omega), cond_false, beq_eq_false_iff_ne.2 (show x.2.1 ≠ 3 by omega), cond_false, beq_iff_eq.2 h1, cond_true, bif_dec, if_pos (by omega), bif_dec, if_pos (by omega), beq_iff_eq.2 h4, cond_true, bne_iff_ne.2 h5]
theorem check_eq (a0 a1 a2 a3 : Int) (c : List Int) (a7 a8 a9 a10 : Int) (hcb : CB c) (hc5 : ∀ i, c.getD i 0 ≤ 5) {l : List EntT} {its : List ItT} (h : ItsOk c its) :
    f23 a0 a1 a2 a3 c l its a7 a8 a9 a10 = some (true, ()) := by
  have hl := h.len
  refine OK.eq ?_
  unfold f23 f23.L2
  have q : ((its.length : Int) != 40) = false := by rw [hl]; rfl
  rw [q, cond_false]
  refine OK.loop (fun i : Nat => ((i : Int), a0, a1, a2, a3, c, l, its, a7, a8, a9, a10, ())) (fun i => i ≤ 40) (fun i => 40 - i) (fun rec i hi ih => ?_) 0 rfl (Nat.zero_le _) (by decide)
  dsimp only
  rw [bif_dec, hl]
  by_cases q1 : i < 40
  · have go := ih (i + 1) (by omega) (by omega) _ rfl
    have e : its.getD i (0, 0, 0, 0) = its.getD i iN := rfl
    rw [if_pos (by omega), inR (by omega), cond_true, Int.toNat_natCast, e, wr (by omega)]
    refine OK.bif (fun _ => go) (fun hz => ?_)
    rcases h.kind i q1 with z | ⟨k1, k2, hp⟩
    · rw [z] at hz
      exact absurd hz (by decide)
    · rw [bif_dec, if_neg (by omega), bif_dec, if_neg (by omega), placed_eq a0 a1 a2 a3 c a7 a8 a9 a10 hcb hc5 _ hp]
      simp only [Option.bind_some, Bool.not_true, cond_false]
      have ne : its.getD i iN ≠ iN := fun z => by rw [z] at k1; exact absurd k1 (by decide)
      unfold f23.L1
      refine OK.loop (fun k : Nat => ((i : Int), (k : Int), a0, a1, a2, a3, c, l, its, a7, a8, a9, a10, (its.getD i iN).1, (its.getD i iN).2.1, (its.getD i iN).2.2.1, (its.getD i iN).2.2.2, ())) (fun k => k ≤ i) (fun k => i - k) (fun rec' k hk ih' => ?_) 0 rfl (Nat.zero_le _) (by omega)
      dsimp only
      rw [bif_dec]
      by_cases q2 : k < i
      · have go' := ih' (k + 1) (by omega) (by omega) _ rfl
        have ek : its.getD k (0, 0, 0, 0) = its.getD k iN := rfl
        rw [if_pos (by omega), hl, inR (by omega), cond_true, Int.toNat_natCast, ek, wr (by omega)]
        refine OK.bif (fun x1 => ?_) (fun _ => go')
        refine OK.bif (fun x2 => ?_) (fun _ => go')
        refine OK.bif (fun x3 => ?_) (fun _ => go')
        exfalso
        have := h.one i k q1 (by omega) ne (by
          have y1 := beq_iff_eq.1 x1
          have y2 := beq_iff_eq.1 x2
          have y3 := beq_iff_eq.1 x3
          exact Prod.ext y1.symm (Prod.ext y2.symm y3.symm))
        omega
      · rw [if_neg (by omega), wr (by omega)]
        exact go
  · rw [if_neg (by omega)]
    exact OK.ret rfl
theorem FightBounds (a0 : Int) (w0 : (Lit.int .i64 a0).wf = true) (a1 : Int) (w1 : (Lit.int .i64 a1).wf = true) (a2 : List Int) (w2 : Ty.good (.row (.int .i64)) a2) (z2 : a2.length * 8 ≤ 140737488351232) (a3 : List ItT) (w3 : Ty.good (.row (.prod (.int .i64) (.prod (.int .i64) (.prod (.int .i64) (.int .i64))))) a3) (z3 : a3.length * 32 ≤ 140737488351232) (a4 : Int) (w4 : (Lit.int .i64 a4).wf = true) (a5 : List Int) (w5 : Ty.good (.row (.int .i64)) a5) (z5 : a5.length * 8 ≤ 140737488351232) (a6 : List Int) (w6 : Ty.good (.row (.int .i64)) a6) (z6 : a6.length * 8 ≤ 140737488351232) : f5 a0 a1 a2 a3 a4 a5 a6 = some (true, ()) := by
  refine OK.eq ?_
  unfold f5
  rw [Ft.known_eq]
  simp only [Option.bind_some, Bool.not_true, cond_false]
  refine OK.callR (crowd_is a0 a1 a2 a3 (by omega) a4) ?_
  rintro z ⟨l0, its0, rfl, hC, _, hI, _⟩
  dsimp only
  have hcl := cells_len a0 (1 + within a1 3)
  have hcb := cells_cb a0 (1 + within a1 3)
  have hc5 := fun i => (cells_val a0 (1 + within a1 3) i).2
  generalize cells a0 (1 + within a1 3) = c at *
  generalize 1 + within a1 3 = fl at *
  generalize within a4 1048576 = fr at *
  have hH : HI c l0 its0 := ⟨hC.ok, hI, .inl hC.hero⟩
  clear hC hI
  refine OK.callR (R := fun z => ∃ l its, z = Sum.inl (a0, fr, fl, 0, 50, 0, 0, 0, c, l, its, ()) ∧ HI c l its) ?_ ?_
  rotate_left
  · rintro z ⟨l, its, rfl, h⟩
    simp only [Sum.elim_inl]
    rw [check_eq a0 fr fl 0 c 50 0 0 0 hcb hc5 h.its']
    exact OK.ret rfl
  unfold f5.L4
  refine OK.loop (fun j : Nat × List EntT × List ItT => (a5, a6, (j.1 : Int), a0, fr, fl, 0, 50, 0, 0, 0, c, j.2.1, j.2.2, ())) (fun j => j.1 ≤ 20 ∧ HI c j.2.1 j.2.2) (fun j => 20 - j.1) (fun rec j hj ih => ?_) (0, l0, its0) rfl ⟨Nat.zero_le _, hH⟩ (by dsimp only; decide)
  clear hH
  obtain ⟨i, l, its⟩ := j
  obtain ⟨hi, hH⟩ := hj
  dsimp only at hi hH ih ⊢
  rw [bif_dec, bif_dec, bif_dec]
  by_cases q1 : (i : Int) < a5.length
  · by_cases q2 : (i : Int) < a6.length
    · by_cases q3 : (i : Int) < 20
      · have r5 : inRange (i : Int) a5.length = true := inR (by omega)
        have r6 : inRange (i : Int) a6.length = true := inR (by omega)
        rw [if_pos q1, if_pos q2, if_pos q3]
        simp only [r5, r6, cond_true]
        rw [within8_eq _ 32 (by decide) (by decide)]
        simp only [Option.bind_some]
        rw [within8_eq _ 32 (by decide) (by decide)]
        simp only [Option.bind_some]
        rw [hit_eq a0 fr fl 0 c 50 0 0 0 (by omega) hH.ok (its_iok hH.its')]
        simp only [Option.bind_some]
        have hh := hit_hi hH a0 fr (within (a5.getD (Int.toNat (i : Int)) 0) 32) (within (a6.getD (Int.toNat (i : Int)) 0) 32)
        generalize hit a0 fr l its (within (a5.getD (Int.toNat (i : Int)) 0) 32) (within (a6.getD (Int.toNat (i : Int)) 0) 32) = P at *
        refine OK.callR (R := fun z => ∃ l1 its1, z = Sum.inl (a5, a6, (i : Int), a0, fr, fl, 0, 50, 0, 0, 0, c, l1, its1, ()) ∧ HI c l1 its1) ?_ ?_
        · refine OK.bif (fun _ => ?_) (fun _ => ?_)
          · have ha := ail_hi hh 32
            rw [ail_eq a0 fr fl 0 c 50 0 0 0 (by omega) hh.ok (its_iok hh.its')]
            generalize ail P.1 P.2 32 = A at *
            exact OK.ret ⟨A.1, A.2, rfl, ha⟩
          · exact OK.ret ⟨P.1, P.2, rfl, hh⟩
        · rintro z ⟨l1, its1, rfl, h1⟩
          simp only [Sum.elim_inl]
          have go := ih (i + 1, l1, its1) ⟨by dsimp only; omega, h1⟩ (by dsimp only; omega) _ rfl
          dsimp only at go
          have hl1 := h1.ok.len
          -- the heroes' bags
          have bags : OK (f5.L2 rec (a5, a6, (i : Int), 0, a0, fr, fl, 0, 50, 0, 0, 0, c, l1, its1, ())) fun z => ∃ l its, z = Sum.inl (a0, fr, fl, 0, 50, 0, 0, 0, c, l, its, ()) ∧ HI c l its := by
            unfold f5.L2
            refine OK.loop (fun s : Nat => (a5, a6, (i : Int), (s : Int), a0, fr, fl, 0, 50, 0, 0, 0, c, l1, its1, ())) (fun s => s ≤ 4) (fun s => 4 - s) (fun rec2 s hs ih2 => ?_) 0 rfl (Nat.zero_le _) (by decide)
            dsimp only
            rw [bif_dec]
            by_cases q4 : s < 4
            · have go2 := ih2 (s + 1) (by omega) (by omega) _ rfl
              rw [if_pos (by omega)]
              have hil := h1.its'.len
              unfold f5.L1
              refine OK.loop (fun k : Nat => (a5, a6, (i : Int), (s : Int), (k : Int), a0, fr, fl, 0, 50, 0, 0, 0, c, l1, its1, ())) (fun k => k ≤ 40) (fun k => 40 - k) (fun rec3 k hk ih3 => ?_) 0 rfl (Nat.zero_le _) (by decide)
              dsimp only
              rw [bif_dec, hil, wr (x := (s : Int) + 1) (by omega)]
              by_cases q5 : k < 40
              · rw [if_pos (by omega)]
                refine OK.bif (fun y1 => ?_) (fun _ => go2)
                have s0 := beq_iff_eq.1 y1
                rw [rhero_eq l1 (by omega)]
                simp only [Option.bind_some]
                rw [bif_dec]
                by_cases q6 : heroE' l1 s < 0
                · have go3 := ih3 (k + 1) (by omega) (by omega) _ rfl
                  have no : ¬ (((its1.getD k iN).2.1 = 2 ∨ (its1.getD k iN).2.1 = 3) ∧ (its1.getD k iN).2.2.1 = 0) := by
                    rcases h1.h0 with ⟨j, hj, b1, b2⟩ | hn
                    · exfalso
                      have := find_neg.1 q6 j (by omega)
                      unfold isHero at this
                      rw [b1, b2, s0] at this
                      simp at this
                    · exact hn k (by omega)
                  have ek : its1.getD k (0, 0, 0, 0) = its1.getD k iN := rfl
                  have r7 : inRange (k : Int) 40 = true := inR (by omega)
                  rw [if_pos q6, Int.toNat_natCast, ek, wr (x := (k : Int) + 1) (by omega)]
                  simp only [r7, cond_true]
                  refine OK.bif (fun y2 => ?_) (fun _ => go3)
                  refine OK.bif (fun y3 => ?_) (fun _ => ?_)
                  · exact absurd ⟨.inl (beq_iff_eq.1 y3), by rw [beq_iff_eq.1 y2]; exact s0⟩ no
                  · refine OK.bif (fun y4 => ?_) (fun _ => go3)
                    exact absurd ⟨.inr (beq_iff_eq.1 y4), by rw [beq_iff_eq.1 y2]; exact s0⟩ no
                · rw [if_neg q6]
                  exact go2
              · rw [if_neg (by omega)]
                exact go2
            · rw [if_neg (by omega), wr (by omega)]
              exact go
          unfold f5.L3
          refine OK.loop (fun k : Nat => (a5, a6, (i : Int), (k : Int), a0, fr, fl, 0, 50, 0, 0, 0, c, l1, its1, ())) (fun k => k ≤ 32) (fun k => 32 - k) (fun rec3 k hk ih3 => ?_) 0 rfl (Nat.zero_le _) (by decide)
          dsimp only
          rw [bif_dec, hl1]
          by_cases q4 : k < 32
          · have go3 := ih3 (k + 1) (by omega) (by omega) _ rfl
            have ek : l1.getD k (0, 0, 0, 0, 0, 0, 0, 0, 0, 0, 0) = l1.getD k eN := rfl
            rw [if_pos (by omega), inR (by omega), cond_true, Int.toNat_natCast, ek, wr (x := (k : Int) + 1) (by omega)]
            rcases h1.ok.ent k q4 with ⟨k0, ke⟩ | kk
            · rw [ke]
              have x1 : ((0 : Int) == 0) = true := rfl
              simp only [beq_self_eq_true, Bool.and_self, Bool.and_true, Bool.not_true, cond_true, cond_false, bne_self_eq_false]
              exact go3
            · have x0 : (l1.getD k eN).1 = kd (l1.getD k eN) := rfl
              have x1 : (l1.getD k eN).2.2.2.2.2.1 = hp (l1.getD k eN) := rfl
              have x2 : (l1.getD k eN).2.2.2.2.2.2.1 = mxh (l1.getD k eN) := rfl
              have x3 : (l1.getD k eN).2.2.2.2.2.2.2.2.2.1 = po (l1.getD k eN) := rfl
              have x4 : (l1.getD k eN).2.2.2.2.2.2.2.2.2.2 = sn (l1.getD k eN) := rfl
              have y0 : (kd (l1.getD k eN) == 0) = false := beq_eq_false_iff_ne.2 (by omega)
              have y1 : (kd (l1.getD k eN) != 0) = true := bne_iff_ne.2 (by omega)
              rw [x0, y0, cond_false, y1, cond_true, x1, x2, x3, x4, bif_dec, if_neg (by omega), bif_dec, if_neg (by omega), bif_dec, if_neg (by omega), bif_dec, if_neg (by omega)]
              exact go3
          · rw [if_neg (by omega)]
            exact bags
      · rw [if_pos q1, if_pos q2, if_neg q3]
        exact OK.ret ⟨l, its, rfl, hH⟩
    · rw [if_pos q1, if_neg q2]
      exact OK.ret ⟨l, its, rfl, hH⟩
  · rw [if_neg q1]
    exact OK.ret ⟨l, its, rfl, hH⟩
end Go.Proofs.Yteaglfpppihpjaa.Pure

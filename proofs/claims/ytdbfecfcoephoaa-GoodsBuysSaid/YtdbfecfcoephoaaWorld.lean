/- Worlds of the laws: what World makes (own work). -/
import Derived.Test.YtdbfecfcoephoaaWorld0
namespace Go.Proofs.Ytdbfecfcoephoaa.Wd
open Go Go.Proofs.Ytdbfecfcoephoaa.Mx Go.Proofs.Ytdbfecfcoephoaa.Pc Go.Proofs.Ytdbfecfcoephoaa.Run Go.Proofs.Ytdbfecfcoephoaa.Field Go.Proofs.Ytdbfecfcoephoaa.Gen Go.Proofs.Ytdbfecfcoephoaa.GenL Go.Proofs.Ytdbfecfcoephoaa.Fl
set_option linter.unusedVariables false
set_option linter.unusedSimpArgs false
theorem hero_stats : f25 1 = some (1, 0, 0, 0, 0, 20, 20, 5, 1, 0, 0, ()) := rfl
theorem gold_eq (seat g : Int) (j : Nat) (hs : 0 ≤ seat) : (if seat.toNat = j then g else 0) = goldOf seat g j := by
  unfold goldOf
  by_cases h : seat.toNat = j
  · rw [if_pos h, if_pos (by omega)]
  · rw [if_neg h, if_neg (by omega)]
theorem world_is (s f seat at' : Int) (l : List ItT) (hl : l.length ≤ 1000000000000000) (gold : Int) :
    OK (f11 s f seat at' l gold) fun z => ∃ its, z = (s, 0, 1 + within f 3, 0, goldOf (within seat 4) (within gold 1000) 0, goldOf (within seat 4) (within gold 1000) 1, goldOf (within seat 4) (within gold 1000) 2, goldOf (within seat 4) (within gold 1000) 3, cells s (1 + within f 3), entsW s (1 + within f 3) (within seat 4) at', its, ()) ∧ ItsOk (cells s (1 + within f 3)) its ∧ (l = [] → its = List.replicate 40 iN) := by
  have bf := within_b f 3 (by decide)
  unfold f11
  rw [within7_eq _ _ (by decide) (by decide)]
  simp only [Option.bind_some]
  rw [wr (x := 1 + within f 3) (by omega)]
  generalize hfl : 1 + within f 3 = fl at *
  have f1 : 1 ≤ fl := by omega
  have f2 : fl ≤ 10000 := by omega
  rw [rmake_eq s fl f1 f2]
  simp only [Option.bind_some]
  have e1 : (floor s fl).1 = cells s fl := rfl
  rw [e1]
  have hcl := cells_len s fl
  have hcb := cells_cb s fl
  unfold f11.L2
  refine OK.loop (fun i : Nat => (seat, at', l, gold, (i : Int), 0, 0, 0, 0, 0, 0, 0, 0, s, 0, fl, 0, 0, 0, 0, 0, opens (cells s fl) i, cells s fl, List.replicate 32 eN, List.replicate 40 iN, ())) (fun i => i ≤ 384) (fun i => 384 - i) (fun rec i hi ih => ?_) 0 rfl (Nat.zero_le _) (by decide)
  dsimp only
  rw [bif_dec]
  by_cases q : i < 384
  · have b := hcb i
    have ho := opens_len (cells s fl) i
    have go := ih (i + 1) (by omega) (by omega) _ rfl
    rw [opens_succ] at go
    rw [if_pos (by omega), inR (by omega), cond_true, wr (x := (i : Int) + 1) (by omega), Int.toNat_natCast, wr (x := (cells s fl).getD i 0) (by omega), rwalk_eq]
    simp only [Option.bind_some]
    cases hw : walkable ((cells s fl).getD i 0) with
    | true =>
      rw [cond_true, decide_eq_true (by simp [limit]; omega), cond_true]
      rw [hw] at go
      exact go
    | false =>
      rw [cond_false]
      rw [hw, if_neg (by decide), List.append_nil] at go
      exact go
  · have : i = 384 := by omega
    subst this
    have h1 := opens_some s fl
    have h2 := opens_len (cells s fl) 384
    have bs := within_b seat 4 (by decide)
    have ba := within_b at' (opens (cells s fl) 384).length (by omega)
    rw [if_neg (by omega), within7_eq _ _ (by decide) (by decide)]
    simp only [Option.bind_some]
    rw [within7_eq _ _ (by omega) (by omega)]
    simp only [Option.bind_some]
    rw [inR (by omega), cond_true]
    have hg := heroAt_gc s fl at'
    refine OK.callR (R := fun z => z = Sum.inl (within seat 4, at', l, gold, heroAt s fl at', 0, 0, 0, 0, 0, 0, 0, 0, s, 0, fl, 0, 0, 0, 0, 0, opens (cells s fl) 384, cells s fl, List.replicate 32 eN, List.replicate 40 iN, ())) ?_ ?_
    · have eK : heroAt s fl at' = if Int.tmod at' 3 = 0 ∧ (shopAt s fl).isSome then (((shopAt s fl).getD 0 : Nat) : Int) else (opens (cells s fl) 384).getD (within at' (opens (cells s fl) 384).length).toNat 0 := rfl
      rw [find_r _ hcb hcl, find_shop]
      simp only [Option.bind_some]
      by_cases z : Int.tmod at' 3 = 0
      · have z' : (Int.tmod at' 3 == 0) = true := beq_iff_eq.2 z
        rw [z', cond_true]
        cases hsh : shopAt s fl with
        | none =>
          rw [hsh] at eK
          rw [if_neg (by simp)] at eK
          rw [eK]
          exact OK.ret rfl
        | some k =>
          rw [hsh] at eK
          rw [if_pos ⟨z, rfl⟩] at eK
          rw [eK, decide_eq_true (show ((k : Nat) : Int) ≥ 0 by omega), cond_true]
          exact OK.ret rfl
      · have z' : (Int.tmod at' 3 == 0) = false := beq_eq_false_iff_ne.2 z
        rw [z', cond_false]
        rw [if_neg (fun y => z y.1)] at eK
        rw [eK]
        exact OK.ret rfl
    · rintro z rfl
      simp only [Sum.elim_inl]
      rw [hero_stats]
      simp only [Option.bind_some]
      have b20 := within_b at' 20 (by decide)
      have b32 := within_b at' 32 (by decide)
      have bg := within_b gold 1000 (by decide)
      rw [within7_eq at' 20 (by decide) (by decide)]
      simp only [Option.bind_some]
      rw [within7_eq at' 32 (by decide) (by decide)]
      simp only [Option.bind_some]
      rw [inR (by rw [List.length_replicate]; omega), cond_true, within7_eq gold 1000 (by decide) (by decide)]
      simp only [Option.bind_some]
      rw [inR (by omega), cond_true]
      have hg' := hg.1
      unfold GC at hg'
      have ewk := hg.2
      rw [wk_iff (cells_val s fl _)] at ewk
      have hop : ∀ n ∈ opens (cells s fl) 384, 0 ≤ n ∧ n < 384 ∧ (cells s fl).getD n.toNat 0 ≠ 0 := fun n hn => by
        have := opens_mem hn
        exact ⟨this.1, by omega, walk_ne this.2.2⟩
      refine OK.callR (items_w s fl (within seat 4) (heroAt s fl at') l hl (cells s fl) (opens (cells s fl) 384) bs.2.2 hg.1 ewk hop ⟨h1, h2⟩ 0 0 0 0 0 0 0 0 s 0 fl 0 _ _ _ _ _) ?_
      rintro z ⟨its, rfl, hI, hN⟩
      simp only [Sum.elim_inl]
      refine OK.ret ⟨its, ?_, hI, hN⟩
      have g0 := gold_eq (within seat 4) (within gold 1000) 0 bs.2.2.1
      have g1 := gold_eq (within seat 4) (within gold 1000) 1 bs.2.2.1
      have g2 := gold_eq (within seat 4) (within gold 1000) 2 bs.2.2.1
      have g3 := gold_eq (within seat 4) (within gold 1000) 3 bs.2.2.1
      rw [← show ((0 : Nat) : Int) = 0 from rfl, ← show ((1 : Nat) : Int) = 1 from rfl, ← show ((2 : Nat) : Int) = 2 from rfl, ← show ((3 : Nat) : Int) = 3 from rfl, ← g0, ← g1, ← g2, ← g3]
      have ee : entsW s fl (within seat 4) at' = (List.replicate 32 eN).set (within at' 32).toNat (1, 0, within seat 4, Int.tmod (heroAt s fl at') 24, IntKind.wrap .i64 (Int.tdiv (heroAt s fl at') 24), IntKind.wrap .i64 (1 + within at' 20), 20, 5, 1, 0, 0) := by
        rw [Int.tmod_eq_emod_of_nonneg hg'.1, Int.tdiv_eq_ediv_of_nonneg hg'.1, wr (by omega), wr (by omega)]
        rfl
      rw [ee]
      rfl
end Go.Proofs.Ytdbfecfcoephoaa.Wd

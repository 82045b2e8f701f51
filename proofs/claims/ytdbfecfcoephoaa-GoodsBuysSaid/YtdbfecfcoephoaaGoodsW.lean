/- Worlds: one item at the hero's feet (own work). -/
import Derived.Test.YtdbfecfcoephoaaGoodsI
namespace Go.Proofs.Ytdbfecfcoephoaa.Gd
open Go Go.Proofs.Ytdbfecfcoephoaa.Mx Go.Proofs.Ytdbfecfcoephoaa.Pc Go.Proofs.Ytdbfecfcoephoaa.Run Go.Proofs.Ytdbfecfcoephoaa.Field Go.Proofs.Ytdbfecfcoephoaa.Gen Go.Proofs.Ytdbfecfcoephoaa.GenL Go.Proofs.Ytdbfecfcoephoaa.Fl Go.Proofs.Ytdbfecfcoephoaa.Wd
set_option linter.unusedVariables false
set_option linter.unusedSimpArgs false
set_option maxHeartbeats 1000000
theorem items_one (s fl seat k : Int) (c : List Int) (op : List Int) (hk : GC k) (hop1 : 1 ≤ op.length ∧ op.length ≤ 384)
    (z0 z1 z2 z3 z4 z5 z6 z7 w0 w1 w2 w3 g0 g1 g2 g3 : Int) (es : List EntT) :
    f11.L1 (seat, [(0, 0, 0, 0)], k, 0, z0, z1, z2, z3, z4, z5, z6, z7, w0, w1, w2, w3, g0, g1, g2, g3, op, c, es, List.replicate 40 iN, ()) = some (Sum.inl (z0, z1, z2, z3, z4, z5, z6, z7, w0, w1, w2, w3, g0, g1, g2, g3, c, es, (List.replicate 40 iN).set 0 (1, 1, k % 24, k / 24), ())) := by
  have e4 : f12 0 4 = some (0, ()) := rfl
  have en : f12 0 (op.length : Int) = some (0, ()) := by
    rw [within7_eq 0 _ (by omega) (by omega)]
    unfold within
    rw [Int.zero_tmod, if_neg (by decide)]
  have r0 : inRange 0 ([(0, 0, 0, 0)] : List ItT).length = true := by decide
  have rop : inRange 0 op.length = true := inR (by omega)
  have gd : ([(0, 0, 0, 0)] : List ItT).getD (Int.toNat 0) (0, 0, 0, 0) = (0, 0, 0, 0) := rfl
  have d1 : decide ((0 : Int) < (([(0, 0, 0, 0)] : List ItT).length : Int)) = true := by decide
  have d2 : decide ((0 : Int) < 20) = true := by decide
  have w1 : IntKind.wrap .i64 (1 + 0) = 1 := by decide
  have ri : f26 (List.replicate 40 iN) 1 (k % 24) (k / 24) = some (-1, ()) := by
    rw [rin_eq _ (by simp)]
    have : inI (List.replicate 40 iN) 1 (k % 24) (k / 24) = -1 := by
      have hb := inI_b (List.replicate 40 iN) 1 (k % 24) (k / 24)
      have : inI (List.replicate 40 iN) 1 (k % 24) (k / 24) < 0 := inI_none.2 fun i hi => by
        have : (List.replicate 40 iN).getD i iN = iN := by
          rw [List.getD_eq_getElem?_getD, List.getElem?_replicate]
          split <;> rfl
        rw [this]
        rfl
      omega
    rw [this]
  unfold GC at hk
  have ek : IntKind.wrap .i64 (Int.tdiv k 24) = k / 24 := by
    rw [Int.tdiv_eq_ediv_of_nonneg hk.1, wr (by omega)]
  have em : Int.tmod k 24 = k % 24 := Int.tmod_eq_emod_of_nonneg hk.1
  have b1 : ((1 : Int) == 1) = true := rfl
  have b4 : ((1 : Int) == 4) = false := rfl
  have t0 : (Int.tmod 0 2 == 0) = true := rfl
  unfold f11.L1
  rw [it_pos (by decide)]
  dsimp only
  simp only [d1, d2, r0, gd, e4, cond_true, cond_false, Option.bind_some, w1, b1, b4, en, rop, t0, Sum.elim_inl, ek, em]
  rw [ri]
  simp only [Option.bind_some]
  have m : Int.tmod (IntKind.wrap .i64 (2 * 0)) 40 = 0 := by decide
  have w2 : IntKind.wrap .i64 (0 + 1) = 1 := by decide
  rw [m, decide_eq_true (show (-1 : Int) < 0 by decide), cond_true, inR (by simp), cond_true, w2, it_pos (by decide)]
  dsimp only
  rw [decide_eq_false (by decide), cond_false]
  rfl
theorem world_one (s f seat at' gold : Int) :
    OK (f11 s f seat at' [(0, 0, 0, 0)] gold) fun z => z = (s, 0, 1 + within f 3, 0, goldOf (within seat 4) (within gold 1000) 0, goldOf (within seat 4) (within gold 1000) 1, goldOf (within seat 4) (within gold 1000) 2, goldOf (within seat 4) (within gold 1000) 3, cells s (1 + within f 3), entsW s (1 + within f 3) (within seat 4) at', (List.replicate 40 iN).set 0 (1, 1, heroAt s (1 + within f 3) at' % 24, heroAt s (1 + within f 3) at' / 24), ()) := by
  have bf := within_b f 3 (by decide)
  unfold f11
  rw [within7_eq _ _ (by decide) (by decide)]
  simp only [Option.bind_some]
  rw [wr (x := 1 + within f 3) (by omega)]
  generalize hfl : 1 + within f 3 = fl at *
  have f1 : 1 ≤ fl := by omega
  have f2 : fl ≤ 10000 := by omega
  rw [rmake_eq s fl f1 f2]
  simp only [Option.bind_some]
  have e1 : (floor s fl).1 = cells s fl := rfl
  rw [e1]
  have hcl := cells_len s fl
  have hcb := cells_cb s fl
  unfold f11.L2
  refine OK.loop (fun i : Nat => (seat, at', [(0, 0, 0, 0)], gold, (i : Int), 0, 0, 0, 0, 0, 0, 0, 0, s, 0, fl, 0, 0, 0, 0, 0, opens (cells s fl) i, cells s fl, List.replicate 32 eN, List.replicate 40 iN, ())) (fun i => i ≤ 384) (fun i => 384 - i) (fun rec i hi ih => ?_) 0 rfl (Nat.zero_le _) (by decide)
  dsimp only
  rw [bif_dec]
  by_cases q : i < 384
  · have b := hcb i
    have ho := opens_len (cells s fl) i
    have go := ih (i + 1) (by omega) (by omega) _ rfl
    rw [opens_succ] at go
    rw [if_pos (by omega), inR (by omega), cond_true, wr (x := (i : Int) + 1) (by omega), Int.toNat_natCast, wr (x := (cells s fl).getD i 0) (by omega), rwalk_eq]
    simp only [Option.bind_some]
    cases hw : walkable ((cells s fl).getD i 0) with
    | true =>
      rw [cond_true, decide_eq_true (by simp [limit]; omega), cond_true]
      rw [hw] at go
      exact go
    | false =>
      rw [cond_false]
      rw [hw, if_neg (by decide), List.append_nil] at go
      exact go
  · have : i = 384 := by omega
    subst this
    have h1 := opens_some s fl
    have h2 := opens_len (cells s fl) 384
    have bs := within_b seat 4 (by decide)
    have ba := within_b at' (opens (cells s fl) 384).length (by omega)
    rw [if_neg (by omega), within7_eq _ _ (by decide) (by decide)]
    simp only [Option.bind_some]
    rw [within7_eq _ _ (by omega) (by omega)]
    simp only [Option.bind_some]
    rw [inR (by omega), cond_true]
    have hg := heroAt_gc s fl at'
    refine OK.callR (R := fun z => z = Sum.inl (within seat 4, at', [(0, 0, 0, 0)], gold, heroAt s fl at', 0, 0, 0, 0, 0, 0, 0, 0, s, 0, fl, 0, 0, 0, 0, 0, opens (cells s fl) 384, cells s fl, List.replicate 32 eN, List.replicate 40 iN, ())) ?_ ?_
    · have eK : heroAt s fl at' = if Int.tmod at' 3 = 0 ∧ (shopAt s fl).isSome then (((shopAt s fl).getD 0 : Nat) : Int) else (opens (cells s fl) 384).getD (within at' (opens (cells s fl) 384).length).toNat 0 := rfl
      rw [find_r _ hcb hcl, find_shop]
      simp only [Option.bind_some]
      by_cases z : Int.tmod at' 3 = 0
      · have z' : (Int.tmod at' 3 == 0) = true := beq_iff_eq.2 z
        rw [z', cond_true]
        cases hsh : shopAt s fl with
        | none =>
          rw [hsh] at eK
          rw [if_neg (by simp)] at eK
          rw [eK]
          exact OK.ret rfl
        | some k =>
          rw [hsh] at eK
          rw [if_pos ⟨z, rfl⟩] at eK
          rw [eK, decide_eq_true (show ((k : Nat) : Int) ≥ 0 by omega), cond_true]
          exact OK.ret rfl
      · have z' : (Int.tmod at' 3 == 0) = false := beq_eq_false_iff_ne.2 z
        rw [z', cond_false]
        rw [if_neg (fun y => z y.1)] at eK
        rw [eK]
        exact OK.ret rfl
    · rintro z rfl
      simp only [Sum.elim_inl]
      rw [hero_stats]
      simp only [Option.bind_some]
      have b20 := within_b at' 20 (by decide)
      have b32 := within_b at' 32 (by decide)
      have bg := within_b gold 1000 (by decide)
      rw [within7_eq at' 20 (by decide) (by decide)]
      simp only [Option.bind_some]
      rw [within7_eq at' 32 (by decide) (by decide)]
      simp only [Option.bind_some]
      rw [inR (by rw [List.length_replicate]; omega), cond_true, within7_eq gold 1000 (by decide) (by decide)]
      simp only [Option.bind_some]
      rw [inR (by omega), cond_true]
      have hg' := hg.1
      unfold GC at hg'
      have ewk := hg.2
      rw [wk_iff (cells_val s fl _)] at ewk
      have hop : ∀ n ∈ opens (cells s fl) 384, 0 ≤ n ∧ n < 384 ∧ (cells s fl).getD n.toNat 0 ≠ 0 := fun n hn => by
        have := opens_mem hn
        exact ⟨this.1, by omega, walk_ne this.2.2⟩
      rw [items_one s fl (within seat 4) (heroAt s fl at') (cells s fl) (opens (cells s fl) 384) hg.1 ⟨h1, h2⟩]
      simp only [Option.bind_some, Sum.elim_inl]
      refine OK.ret ?_
      have g0 := gold_eq (within seat 4) (within gold 1000) 0 bs.2.2.1
      have g1 := gold_eq (within seat 4) (within gold 1000) 1 bs.2.2.1
      have g2 := gold_eq (within seat 4) (within gold 1000) 2 bs.2.2.1
      have g3 := gold_eq (within seat 4) (within gold 1000) 3 bs.2.2.1
      rw [← show ((0 : Nat) : Int) = 0 from rfl, ← show ((1 : Nat) : Int) = 1 from rfl, ← show ((2 : Nat) : Int) = 2 from rfl, ← show ((3 : Nat) : Int) = 3 from rfl, ← g0, ← g1, ← g2, ← g3]
      have ee : entsW s fl (within seat 4) at' = (List.replicate 32 eN).set (within at' 32).toNat (1, 0, within seat 4, Int.tmod (heroAt s fl at') 24, IntKind.wrap .i64 (Int.tdiv (heroAt s fl at') 24), IntKind.wrap .i64 (1 + within at' 20), 20, 5, 1, 0, 0) := by
        rw [Int.tmod_eq_emod_of_nonneg hg'.1, Int.tdiv_eq_ediv_of_nonneg hg'.1, wr (by omega), wr (by omega)]
        rfl
      rw [ee]
      rfl
end Go.Proofs.Ytdbfecfcoephoaa.Gd

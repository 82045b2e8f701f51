/- The law ChunkBits, in plain words (own work). -/
import Derived.Test.YtmffnlcmklapmaaTaker
namespace Go.Proofs.Ytmffnlcmklapmaa.Pure
open Go Go.Proofs.Ytmffnlcmklapmaa.Mx Go.Proofs.Ytmffnlcmklapmaa.Pc Go.Proofs.Ytmffnlcmklapmaa.Run Go.Proofs.Ytmffnlcmklapmaa.Chunk Go.Proofs.Ytmffnlcmklapmaa.Tkr
set_option linter.unusedVariables false
set_option maxHeartbeats 1000000
set_option maxRecDepth 4000
theorem flat64 (p : Ps) : ∀ n, (∀ i, i < n → (p i).length = 64) → (row p n).flatten.length = 64 * n
  | 0, _ => rfl
  | n + 1, h => by
    rw [row_flat, List.length_append, flat64 p n fun i hi => h i (by omega), h n (by omega)]
    omega
theorem whole0 : f12_1 0 0 = some (false, 0, 0, [], ()) := rfl
theorem ChunkBits (a0 : Int) (w0 : (Lit.int .i64 a0).wf = true) (a1 : List Int) (w1 : Ty.good (.row (.int .i64)) a1) (z1 : a1.length * 8 ≤ 140737488351232) : f4 a0 a1 = some (true, ()) := by
  have b0 := within_b a0 16 (by decide)
  refine OK.eq ?_
  unfold f4
  rw [known_eq]
  simp only [Option.bind_some, Bool.not_true, cond_false]
  rw [Chunk.within_eq _ _ (by decide) (by decide)]
  simp only [Option.bind_some]
  unfold f7
  simp only [Option.bind_some]
  have e0 : f12 [] [] [] [] [] [] [] [] [] [] [] [] [] [] [] [] 0 0 = some (false, [], [], [], [], [], [], [], [], [], [], [], [], [], [], [], [], 0, 0, [], ()) := whole_eq (fun _ => []) 0 0 (by omega) (fun i hi => absurd hi (Nat.not_lt_zero _))
  rw [e0]
  simp only [Option.bind_some]
  rw [bits_eq]
  simp only [Option.bind_some, bne_self_eq_false, cond_false]
  rw [wr (x := 1 + within a0 16) (by omega)]
  obtain ⟨n, en⟩ : ∃ n : Nat, 1 + within a0 16 = n := ⟨(1 + within a0 16).toNat, by omega⟩
  rw [en]
  have hn1 : 1 ≤ n := by omega
  have hn2 : n ≤ 16 := by omega
  unfold f4.L1
  refine OK.loop (fun j : Nat × Ps × Nat × Nat => ((n : Int), a1, (j.2.2.1 : Int), (j.1 : Int), j.2.1 0, j.2.1 1, j.2.1 2, j.2.1 3, j.2.1 4, j.2.1 5, j.2.1 6, j.2.1 7, j.2.1 8, j.2.1 9, j.2.1 10, j.2.1 11, j.2.1 12, j.2.1 13, j.2.1 14, j.2.1 15, (j.2.2.1 : Int), (j.2.2.2 : Int), ())) (fun j => j.1 ≤ 40 ∧ j.2.2.1 < 65536 ∧ (∀ i, j.2.2.1.testBit i = true → i < n ∧ (j.2.1 i).length = 64) ∧ (∀ i, (j.2.1 i).length ≤ 64) ∧ ((j.2.2.2 = 0 ∧ j.2.2.1 = 0) ∨ j.2.2.2 = n)) (fun j => 40 - j.1) (fun rec j hj ih => ?_) (0, (fun _ => []), 0, 0) rfl ⟨Nat.zero_le _, by dsimp only; omega, fun i hi => by simp at hi, fun i => Nat.zero_le _, .inl ⟨rfl, rfl⟩⟩ (by dsimp only; omega)
  obtain ⟨k, p, m, t⟩ := j
  obtain ⟨hk, hm, hbit, hlen, ht⟩ := hj
  dsimp only at hk hm hbit hlen ht ih ⊢
  rw [bif_dec, bif_dec]
  by_cases c0 : (k : Int) < a1.length
  · by_cases c1 : (k : Int) < 40
    · have bk := within_b (a1.getD k 0) n (by omega)
      have w3 : IntKind.wrap .i64 ((k : Int) + 1) = (k : Int) + 1 := wr (by omega)
      have w4 : IntKind.wrap .i64 (64 * (n : Int)) = 64 * (n : Int) := wr (by omega)
      rw [if_pos c0, if_pos c1, inR (by omega), cond_true, Int.toNat_natCast, Chunk.within_eq _ _ (by omega) (by omega)]
      simp only [Option.bind_some]
      obtain ⟨i, ei⟩ : ∃ i : Nat, within (a1.getD k 0) n = i := ⟨(within (a1.getD k 0) n).toNat, by omega⟩
      rw [ei]
      have hi : i < n := by omega
      have hC : putC (i : Int) (n : Int) (List.replicate 64 0) (t : Int) = 0 := by
        unfold putC
        rw [if_neg (by omega), if_neg (by rw [List.length_replicate]; omega)]
      obtain ⟨p', m', eS, hm', hor, hbit', hlen'⟩ : ∃ p' m', Tkr.putS (i : Int) (n : Int) (List.replicate 64 0) p m (t : Int) = (p', m', (n : Int)) ∧ m' < 65536 ∧ m' = m ||| 2 ^ i ∧ (∀ i, m'.testBit i = true → i < n ∧ (p' i).length = 64) ∧ (∀ i, (p' i).length ≤ 64) := by
        unfold Tkr.putS
        rw [if_pos hC, Int.toNat_natCast]
        cases e : m.testBit i with
        | true =>
          refine ⟨p, m, rfl, hm, ?_, hbit, hlen⟩
          refine Nat.eq_of_testBit_eq fun j => ?_
          rw [or_bit]
          by_cases q : i = j
          · subst q; rw [e]; simp
          · simp [q]
        | false =>
          refine ⟨_, _, rfl, or_lt hm (by omega), rfl, fun j hj => ?_, fun j => ?_⟩
          · rw [or_bit] at hj
            unfold Tkr.upd
            by_cases q : i = j
            · subst q; rw [if_pos rfl]; exact ⟨hi, List.length_replicate⟩
            · rw [if_neg q]; exact hbit j (by simpa [q] using hj)
          · unfold Tkr.upd
            split
            · rw [List.length_replicate]; omega
            · exact hlen j
      rw [put_eq _ _ _ p m _ (by rw [List.length_replicate]; omega) hm, hC, eS]
      simp only [Option.bind_some, bne_self_eq_false, cond_false]
      rw [decide_eq_false (by omega), cond_false, whole_eq p' m' n hn2 (fun j _ => Nat.le_trans (hlen' j) (by decide))]
      simp only [Option.bind_some, Int.toNat_natCast]
      rw [or_w hm (by omega), ← hor, full_w hn2, bits_eq]
      simp only [Option.bind_some]
      rw [bne_self_eq_false, cond_false, decide_eq_false (by omega), cond_false, w3, w4]
      have go := ih (k + 1, p', m', n) ⟨by dsimp only; omega, hm', hbit', hlen', .inr rfl⟩ (by dsimp only; omega) _ rfl
      dsimp only at go
      have hfi := full_iff (m := m') (n := n) fun j hj => (hbit' j hj).1
      unfold whl
      by_cases q : m' = 2 ^ n - 1
      · have hl := flat64 p' n fun j hj => (hbit' j (hfi.1 q j hj)).2
        have e1 : ((m' : Int) == ((2 ^ n - 1 : Nat) : Int)) = true := by rw [q]; exact beq_self_eq_true _
        have e2 : ((((row p' n).flatten.length : Nat) : Int) != 64 * (n : Int)) = false := by
          rw [hl]
          simp
        rw [if_pos ⟨by omega, q⟩, e1]
        simp only [beq_self_eq_true, Bool.not_true, cond_false, cond_true]
        rw [e2, cond_false]
        exact go
      · have e1 : ((m' : Int) == ((2 ^ n - 1 : Nat) : Int)) = false := by
          rw [beq_eq_false_iff_ne]
          exact fun h => q (Int.ofNat.inj h)
        rw [if_neg (fun h => q h.2), e1]
        simp only [beq_self_eq_true, Bool.not_true, cond_false]
        exact go
    · rw [if_pos c0, if_neg c1]
      exact OK.ret rfl
  · rw [if_neg c0]
    exact OK.ret rfl
end Go.Proofs.Ytmffnlcmklapmaa.Pure

/- The law ChunkTakes, in plain words (own work). -/
import Derived.Test.YtmffnlcmklapmaaTakerR
namespace Go.Proofs.Ytmffnlcmklapmaa.Tkr
open Go Go.Proofs.Ytmffnlcmklapmaa.Mx Go.Proofs.Ytmffnlcmklapmaa.Pc Go.Proofs.Ytmffnlcmklapmaa.Run Go.Proofs.Ytmffnlcmklapmaa.Chunk
set_option linter.unusedVariables false
set_option maxHeartbeats 1000000
set_option maxRecDepth 4000
/-- Two takers that have the same. -/
structure Tki (p : Ps) (m t : Nat) (h : Nat → Bool) : Prop where
  tb : t ≤ 16
  mb : m < 65536
  bit : ∀ i, i < 16 → m.testBit i = h i
  lt : ∀ i, m.testBit i = true → i < t
  len : ∀ i, (p i).length ≤ 64
theorem Tki.zero : Tki (fun _ => []) 0 0 (fun _ => false) := ⟨by omega, by decide, fun i _ => by simp, fun i h => by simp at h, fun _ => by simp⟩
theorem Tki.put {p : Ps} {m t : Nat} {h : Nat → Bool} (T : Tki p m t h) (i n : Int) (b : List Int) : ∃ p' m' h', ∃ t' : Nat, putS i n b p m t = (p', m', (t' : Int)) ∧ rputS i n b t h p = ((t' : Int), h', p') ∧ Tki p' m' t' h' := by
  unfold putS rputS
  by_cases h0 : putC i n b (t : Int) = 0
  · obtain ⟨c1, c2, c3, c4, c5, c6, c7⟩ := putC0 h0
    obtain ⟨k, rfl⟩ : ∃ k : Nat, i = k := ⟨i.toNat, by omega⟩
    obtain ⟨N, rfl⟩ : ∃ N : Nat, n = N := ⟨n.toNat, by omega⟩
    have hk : k < 16 := by omega
    have hlt : ∀ i, m.testBit i = true → i < N := fun i hi => by
      have := T.lt i hi
      omega
    rw [if_pos h0, if_pos h0, Int.toNat_natCast, T.bit k hk]
    cases e : h k with
    | true => exact ⟨p, m, h, N, rfl, rfl, by omega, T.mb, T.bit, hlt, T.len⟩
    | false =>
      refine ⟨upd p k b, m ||| 2 ^ k, upd h k true, N, rfl, rfl, by omega, or_lt T.mb hk, fun i hi => ?_, fun i hi => ?_, fun i => ?_⟩
      · rw [or_bit, T.bit i hi]
        unfold upd
        by_cases q : k = i
        · simp [q]
        · simp [q]
      · rw [or_bit] at hi
        by_cases q : k = i
        · omega
        · exact hlt i (by simpa [q] using hi)
      · unfold upd
        split
        · exact c6
        · exact T.len i
  · rw [if_neg h0, if_neg h0]
    exact ⟨p, m, h, t, rfl, rfl, T⟩
end Go.Proofs.Ytmffnlcmklapmaa.Tkr
namespace Go.Proofs.Ytmffnlcmklapmaa.Pure
open Go Go.Proofs.Ytmffnlcmklapmaa.Mx Go.Proofs.Ytmffnlcmklapmaa.Pc Go.Proofs.Ytmffnlcmklapmaa.Run Go.Proofs.Ytmffnlcmklapmaa.Chunk Go.Proofs.Ytmffnlcmklapmaa.Tkr
set_option linter.unusedVariables false
set_option maxHeartbeats 1000000
set_option maxRecDepth 4000
theorem ChunkTakes (a0 : List (Int × Int × List Int)) (w0 : Ty.good (.row (.prod (.int .i64) (.prod (.int .i64) (.row (.int .u8))))) a0) (z0 : a0.length * 40 ≤ 140737488351232) : f3 a0 = some (true, ()) := by
  refine OK.eq ?_
  unfold f3
  rw [known_eq]
  simp only [Option.bind_some, Bool.not_true, cond_false]
  unfold f7
  simp only [Option.bind_some]
  unfold f3.L2
  refine OK.loop (fun j : Nat × Ps × Nat × Nat × (Nat → Bool) => (a0, (j.1 : Int), j.2.1 0, j.2.1 1, j.2.1 2, j.2.1 3, j.2.1 4, j.2.1 5, j.2.1 6, j.2.1 7, j.2.1 8, j.2.1 9, j.2.1 10, j.2.1 11, j.2.1 12, j.2.1 13, j.2.1 14, j.2.1 15, (j.2.2.1 : Int), (j.2.2.2.1 : Int), (j.2.2.2.1 : Int), j.2.2.2.2 0, j.2.2.2.2 1, j.2.2.2.2 2, j.2.2.2.2 3, j.2.2.2.2 4, j.2.2.2.2 5, j.2.2.2.2 6, j.2.2.2.2 7, j.2.2.2.2 8, j.2.2.2.2 9, j.2.2.2.2 10, j.2.2.2.2 11, j.2.2.2.2 12, j.2.2.2.2 13, j.2.2.2.2 14, j.2.2.2.2 15, j.2.1 0, j.2.1 1, j.2.1 2, j.2.1 3, j.2.1 4, j.2.1 5, j.2.1 6, j.2.1 7, j.2.1 8, j.2.1 9, j.2.1 10, j.2.1 11, j.2.1 12, j.2.1 13, j.2.1 14, j.2.1 15, ())) (fun j => j.1 ≤ 60 ∧ Tki j.2.1 j.2.2.1 j.2.2.2.1 j.2.2.2.2) (fun j => 60 - j.1) (fun rec j hj ih => ?_) (0, (fun _ => []), 0, 0, fun _ => false) rfl ⟨Nat.zero_le _, Tki.zero⟩ (by dsimp only; omega)
  obtain ⟨k, p, m, t, h⟩ := j
  obtain ⟨hk, T⟩ := hj
  dsimp only at hk T ih ⊢
  rw [bif_dec, bif_dec]
  by_cases c0 : (k : Int) < a0.length
  · by_cases c1 : (k : Int) < 60
    · have w3 : IntKind.wrap .i64 ((k : Int) + 1) = (k : Int) + 1 := wr (by omega)
      have ir : inRange (k : Int) a0.length = true := inR (by omega)
      rw [if_pos c0, if_pos c1]
      simp only [ir, cond_true, w3, Int.toNat_natCast]
      rw [bif_dec]
      by_cases c2 : ((a0.getD k (0, 0, [])).2.2.length : Int) > 300
      · rw [if_pos c2]
        exact ih (k + 1, p, m, t, h) ⟨by dsimp only; omega, T⟩ (by dsimp only; omega) _ rfl
      · rw [if_neg c2, decide_eq_true (show 0 + (a0.getD k (0, 0, [])).2.2.length ≤ limit 1 from Nat.le_trans (show _ ≤ 300 by omega) (by decide)), cond_true, put_eq _ _ _ p m t (by omega) T.mb]
        simp only [Option.bind_some]
        rw [rput_eq _ _ _ t h p (by omega)]
        simp only [Option.bind_some, bne_self_eq_false, cond_false]
        obtain ⟨p', m', h', t', e1, e2, T'⟩ := T.put (a0.getD k (0, 0, [])).1 (a0.getD k (0, 0, [])).2.1 (a0.getD k (0, 0, [])).2.2
        rw [e1, e2]
        dsimp only
        unfold f10
        simp only [Option.bind_some]
        rw [rbits_eq _ h' p' T'.mb T'.bit]
        simp only [Option.bind_some, bne_self_eq_false, cond_false]
        clear e1 e2
        unfold f3.L1
        refine OK.loop (fun j : Nat × List Int => (a0, (k : Int), (j.1 : Int), p' 0, p' 1, p' 2, p' 3, p' 4, p' 5, p' 6, p' 7, p' 8, p' 9, p' 10, p' 11, p' 12, p' 13, p' 14, p' 15, (m' : Int), (t' : Int), (t' : Int), h' 0, h' 1, h' 2, h' 3, h' 4, h' 5, h' 6, h' 7, h' 8, h' 9, h' 10, h' 11, h' 12, h' 13, h' 14, h' 15, p' 0, p' 1, p' 2, p' 3, p' 4, p' 5, p' 6, p' 7, p' 8, p' 9, p' 10, p' 11, p' 12, p' 13, p' 14, p' 15, j.2, ())) (fun j => j.1 ≤ j.2.length ∧ j.2.length ≤ 300) (fun j => j.2.length - j.1) (fun rec' j hj ih' => ?_) (0, (a0.getD k (0, 0, [])).2.2) rfl ⟨Nat.zero_le _, by dsimp only; omega⟩ (by dsimp only; omega)
        obtain ⟨x, l⟩ := j
        obtain ⟨hx, hl⟩ := hj
        dsimp only at hx hl ih' ⊢
        rw [bif_dec]
        by_cases c3 : (x : Int) < l.length
        · rw [if_pos c3, inR (by omega), cond_true, wr (by omega)]
          exact ih' (x + 1, l.set x 238) (by dsimp only; rw [List.length_set]; omega) (by dsimp only; rw [List.length_set]; omega) _ rfl
        · rw [if_neg c3, whole_eq p' m' t' T'.tb (fun i _ => Nat.le_trans (T'.len i) (by decide))]
          simp only [Option.bind_some]
          rw [rwhole_eq t' h' p' T'.tb T'.bit T'.lt (fun i _ => Nat.le_trans (T'.len i) (by decide))]
          simp only [Option.bind_some, beq_self_eq_true, Bool.not_true, cond_false]
          rw [w3]
          exact ih (k + 1, p', m', t', h') ⟨by dsimp only; omega, T'⟩ (by dsimp only; omega) _ rfl
    · rw [if_pos c0, if_neg c1]
      exact OK.ret rfl
  · rw [if_neg c0]
    exact OK.ret rfl
end Go.Proofs.Ytmffnlcmklapmaa.Pure

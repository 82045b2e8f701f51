/- What the takers of chunk do (own work). -/
import Derived.Test.YtmffnlcmklapmaaChunkLaw
namespace Go.Proofs.Ytmffnlcmklapmaa.Tkr
open Go Go.Proofs.Ytmffnlcmklapmaa.Mx Go.Proofs.Ytmffnlcmklapmaa.Pc Go.Proofs.Ytmffnlcmklapmaa.Run Go.Proofs.Ytmffnlcmklapmaa.Chunk
set_option autoImplicit false
set_option linter.unusedVariables false
set_option linter.unusedSimpArgs false
set_option maxHeartbeats 1000000
set_option maxRecDepth 4000
abbrev Ps := Nat → List Int
def upd {α : Type} (p : Nat → α) (i : Nat) (x : α) : Nat → α := fun j => if i = j then x else p j
/-! ### bits -/
theorem w32 (x : Nat) (h : x < 4294967296) : IntKind.wrap .u32 (x : Int) = (x : Int) := by
  have e : IntKind.wrap .u32 (x : Int) = (x : Int) % 4294967296 := by simp [IntKind.wrap, IntKind.signed, IntKind.bits]
  rw [e]; omega
theorem pw {i : Nat} (h : i ≤ 16) : 2 ^ i ≤ 65536 := by
  have := Nat.pow_le_pow_right (n := 2) (by decide) h
  exact this
theorem shl_w {i : Nat} (h : i ≤ 16) : IntKind.wrap .u32 (1 * 2 ^ (min i (IntKind.bits .u32))) = ((2 ^ i : Nat) : Int) := by
  have hm : min i (IntKind.bits .u32) = i := Nat.min_eq_left (Nat.le_trans h (by decide))
  have := pw h
  rw [hm, Int.one_mul, show ((2 : Int) ^ i) = ((2 ^ i : Nat) : Int) by simp]
  exact w32 _ (by omega)
theorem nat32 {x : Nat} (h : x < 4294967296) : (BitVec.ofInt (IntKind.bits .u32) (x : Int)).toNat = x := by
  rw [BitVec.ofInt_natCast, BitVec.toNat_ofNat]
  exact Nat.mod_eq_of_lt h
theorem or_w {m i : Nat} (hm : m < 65536) (h : i < 16) : IntKind.wrap .u32 (((BitVec.ofInt (IntKind.bits .u32) (m : Int) ||| BitVec.ofInt (IntKind.bits .u32) (IntKind.wrap .u32 (1 * 2 ^ (min i (IntKind.bits .u32))))).toNat : Nat) : Int) = ((m ||| 2 ^ i : Nat) : Int) := by
  have h2 := pw (i := i) (by omega)
  rw [shl_w (by omega), BitVec.toNat_or, nat32 (by omega), nat32 (by omega)]
  have : m ||| 2 ^ i < 2 ^ 17 := Nat.or_lt_two_pow (by omega) (by omega)
  exact w32 _ (by omega)
theorem or_lt {m i : Nat} (hm : m < 65536) (h : i < 16) : m ||| 2 ^ i < 65536 := by
  have : 2 ^ i < 2 ^ 16 := Nat.pow_lt_pow_right (by decide) h
  exact Nat.or_lt_two_pow (n := 16) (by omega) this
theorem or_bit (m i j : Nat) : (m ||| 2 ^ i).testBit j = (m.testBit j || decide (i = j)) := by
  rw [Nat.testBit_or, Nat.testBit_two_pow]
theorem bit_eq {m i : Nat} (hm : m < 65536) (h : i < 16) : bit (m : Int) i = m.testBit i := by
  have hmin : min i (IntKind.bits .u32) = i := Nat.min_eq_left (Nat.le_trans (Nat.le_of_lt h) (by decide))
  have hd : Int.fdiv (m : Int) (2 ^ i) = ((m / 2 ^ i : Nat) : Int) := by
    rw [show ((2 : Int) ^ i) = ((2 ^ i : Nat) : Int) by simp, Int.fdiv_eq_ediv_of_nonneg _ (Int.natCast_nonneg _)]
    rfl
  have hle : m / 2 ^ i ≤ m := Nat.div_le_self _ _
  unfold bit
  rw [hmin, hd, BitVec.toNat_and, nat32 (by omega), show (BitVec.ofInt (IntKind.bits .u32) 1).toNat = 1 from rfl, Nat.and_one_is_mod, w32 _ (by omega), Nat.testBit_eq_decide_div_mod_eq]
  have : m / 2 ^ i % 2 = 0 ∨ m / 2 ^ i % 2 = 1 := by omega
  rcases this with e | e <;> rw [e] <;> rfl
theorem bit0_eq {m i : Nat} (hm : m < 65536) (h : i < 16) : (IntKind.wrap .u32 ((((BitVec.ofInt (IntKind.bits .u32) (Int.fdiv (m : Int) (2 ^ min i (IntKind.bits .u32)))) &&& (BitVec.ofInt (IntKind.bits .u32) 1)).toNat : Nat) : Int) == 0) = !m.testBit i := by
  have hb := bit_eq hm h
  unfold bit at hb
  have h0 : (((BitVec.ofInt (IntKind.bits .u32) (Int.fdiv (m : Int) (2 ^ min i (IntKind.bits .u32)))) &&& (BitVec.ofInt (IntKind.bits .u32) 1)).toNat : Nat) ≤ 1 := by
    rw [BitVec.toNat_and]
    exact Nat.le_trans Nat.and_le_right (by decide)
  rw [← hb]
  generalize (((BitVec.ofInt (IntKind.bits .u32) (Int.fdiv (m : Int) (2 ^ min i (IntKind.bits .u32)))) &&& (BitVec.ofInt (IntKind.bits .u32) 1)).toNat : Nat) = v at *
  have : v = 0 ∨ v = 1 := by omega
  rcases this with rfl | rfl <;> rfl
theorem full_w {n : Nat} (h : n ≤ 16) : IntKind.wrap .u32 (IntKind.wrap .u32 (1 * 2 ^ (min n (IntKind.bits .u32))) - 1) = ((2 ^ n - 1 : Nat) : Int) := by
  have := pw h
  have h1 : 1 ≤ 2 ^ n := Nat.one_le_two_pow
  rw [shl_w h, show ((2 ^ n : Nat) : Int) - 1 = ((2 ^ n - 1 : Nat) : Int) by omega]
  exact w32 _ (by omega)
/-- All of the first n bits, and no other. -/
theorem full_iff {m n : Nat} (hlt : ∀ i, m.testBit i = true → i < n) : m = 2 ^ n - 1 ↔ ∀ i, i < n → m.testBit i = true := by
  constructor
  · rintro rfl i hi
    rw [Nat.testBit_two_pow_sub_one]
    exact decide_eq_true hi
  · intro h
    refine Nat.eq_of_testBit_eq fun i => ?_
    rw [Nat.testBit_two_pow_sub_one]
    by_cases hi : i < n
    · rw [h i hi, decide_eq_true hi]
    · rw [decide_eq_false hi]
      cases e : m.testBit i with
      | false => rfl
      | true => exact absurd (hlt i e) hi
/-! ### a piece is taken -/
def putC (i n : Int) (b : List Int) (t : Int) : Int :=
  if n < 1 ∨ n > 16 ∨ i < 0 ∨ i ≥ n then 1 else if (t ≠ 0 ∧ t ≠ n) ∨ (b.length : Int) > 64 ∨ ((b.length : Int) < 64 ∧ i ≠ n - 1) then 9 else 0
theorem putC0 {i n : Int} {b : List Int} {t : Int} (h : putC i n b t = 0) : 1 ≤ n ∧ n ≤ 16 ∧ 0 ≤ i ∧ i < n ∧ (t = 0 ∨ t = n) ∧ b.length ≤ 64 ∧ (b.length = 64 ∨ i = n - 1) := by
  unfold putC at h
  split at h
  · cases h
  · split at h
    · cases h
    · omega
def putS (i n : Int) (b : List Int) (p : Ps) (m : Nat) (t : Int) : Ps × Nat × Int :=
  if putC i n b t = 0 then (if m.testBit i.toNat = true then (p, m, n) else (upd p i.toNat b, m ||| 2 ^ i.toNat, n)) else (p, m, t)
theorem clone_eq (l : List Int) (h : l.length ≤ 100000) : f20 l = some (l, ()) := by
  unfold f20 cloneF
  rw [decide_eq_true (by simp [limit]; omega)]
  rfl
theorem put_eq (i n : Int) (b : List Int) (p : Ps) (m : Nat) (t : Int) (hb : b.length ≤ 1000) (hm : m < 65536) :
    f8_1 i n (p 0) (p 1) (p 2) (p 3) (p 4) (p 5) (p 6) (p 7) (p 8) (p 9) (p 10) (p 11) (p 12) (p 13) (p 14) (p 15) (m : Int) t b = some (putC i n b t, (putS i n b p m t).1 0, (putS i n b p m t).1 1, (putS i n b p m t).1 2, (putS i n b p m t).1 3, (putS i n b p m t).1 4, (putS i n b p m t).1 5, (putS i n b p m t).1 6, (putS i n b p m t).1 7, (putS i n b p m t).1 8, (putS i n b p m t).1 9, (putS i n b p m t).1 10, (putS i n b p m t).1 11, (putS i n b p m t).1 12, (putS i n b p m t).1 13, (putS i n b p m t).1 14, (putS i n b p m t).1 15, ((putS i n b p m t).2.1 : Int), (putS i n b p m t).2.2, b, ()) := by
  refine OK.eq ?_
  unfold f8_1
  have bad1 : (n < 1 ∨ n > 16 ∨ i < 0 ∨ i ≥ n) → putC i n b t = 1 ∧ putS i n b p m t = (p, m, t) := fun h => by
    have e : putC i n b t = 1 := if_pos h
    exact ⟨e, by unfold putS; rw [e]; rfl⟩
  have bad9 : ¬ (n < 1 ∨ n > 16 ∨ i < 0 ∨ i ≥ n) → ((t ≠ 0 ∧ t ≠ n) ∨ (b.length : Int) > 64 ∨ ((b.length : Int) < 64 ∧ i ≠ n - 1)) → putC i n b t = 9 ∧ putS i n b p m t = (p, m, t) := fun h h2 => by
    have e : putC i n b t = 9 := by unfold putC; rw [if_neg h, if_pos h2]
    exact ⟨e, by unfold putS; rw [e]; rfl⟩
  have good : ¬ (n < 1 ∨ n > 16 ∨ i < 0 ∨ i ≥ n) → ¬ ((t ≠ 0 ∧ t ≠ n) ∨ (b.length : Int) > 64 ∨ ((b.length : Int) < 64 ∧ i ≠ n - 1)) → putC i n b t = 0 := fun h h2 => by
    unfold putC; rw [if_neg h, if_neg h2]
  refine OK.callR (R := fun y => y = if putC i n b t = 0 then Sum.inl (i, n, p 0, p 1, p 2, p 3, p 4, p 5, p 6, p 7, p 8, p 9, p 10, p 11, p 12, p 13, p 14, p 15, (m : Int), t, b, ()) else Sum.inr (putC i n b t, p 0, p 1, p 2, p 3, p 4, p 5, p 6, p 7, p 8, p 9, p 10, p 11, p 12, p 13, p 14, p 15, (m : Int), t, b, ())) ?_ ?_
  · refine OK.callR (R := fun y => y = Sum.inl (i, n, decide (n < 1 ∨ n > 16 ∨ i < 0 ∨ i ≥ n), p 0, p 1, p 2, p 3, p 4, p 5, p 6, p 7, p 8, p 9, p 10, p 11, p 12, p 13, p 14, p 15, (m : Int), t, b, ())) ?_ ?_
    · simp only [bif_cl]
      by_cases h1 : n < 1
      · rw [if_pos h1]; exact OK.ret (by rw [decide_eq_true (.inl h1)])
      · by_cases h2 : n > 16
        · rw [if_neg h1, if_pos h2]; exact OK.ret (by rw [decide_eq_true (.inr (.inl h2))])
        · by_cases h3 : i < 0
          · rw [if_neg h1, if_neg h2, if_pos h3]; exact OK.ret (by rw [decide_eq_true (.inr (.inr (.inl h3)))])
          · rw [if_neg h1, if_neg h2, if_neg h3]
            refine OK.ret ?_
            have : decide (i ≥ n) = decide (n < 1 ∨ n > 16 ∨ i < 0 ∨ i ≥ n) := decide_eq_decide.2 ⟨fun h => .inr (.inr (.inr h)), fun h => by omega⟩
            rw [this]
    · rintro _ rfl
      simp only [Sum.elim_inl]
      by_cases hB : n < 1 ∨ n > 16 ∨ i < 0 ∨ i ≥ n
      · rw [decide_eq_true hB, cond_true, (bad1 hB).1, if_neg (by decide)]
        exact OK.ret rfl
      · rw [decide_eq_false hB, cond_false]
        have q1 : IntKind.wrap .i64 (n - 1) = n - 1 := wr (by omega)
        simp only [q1]
        have tail : (t ≠ 0 → t = n) → OK (bif decide ((b.length : Int) > 64) then some (Sum.inr (9, p 0, p 1, p 2, p 3, p 4, p 5, p 6, p 7, p 8, p 9, p 10, p 11, p 12, p 13, p 14, p 15, (m : Int), t, b, ())) else bif decide ((b.length : Int) < 64) then bif i != n - 1 then some (Sum.inr (9, p 0, p 1, p 2, p 3, p 4, p 5, p 6, p 7, p 8, p 9, p 10, p 11, p 12, p 13, p 14, p 15, (m : Int), t, b, ())) else some (Sum.inl (i, n, p 0, p 1, p 2, p 3, p 4, p 5, p 6, p 7, p 8, p 9, p 10, p 11, p 12, p 13, p 14, p 15, (m : Int), t, b, ())) else some (Sum.inl (i, n, p 0, p 1, p 2, p 3, p 4, p 5, p 6, p 7, p 8, p 9, p 10, p 11, p 12, p 13, p 14, p 15, (m : Int), t, b, ()))) fun y => y = if putC i n b t = 0 then Sum.inl (i, n, p 0, p 1, p 2, p 3, p 4, p 5, p 6, p 7, p 8, p 9, p 10, p 11, p 12, p 13, p 14, p 15, (m : Int), t, b, ()) else Sum.inr (putC i n b t, p 0, p 1, p 2, p 3, p 4, p 5, p 6, p 7, p 8, p 9, p 10, p 11, p 12, p 13, p 14, p 15, (m : Int), t, b, ()) := fun ht => by
          by_cases h1 : (b.length : Int) > 64
          · rw [decide_eq_true h1, cond_true, (bad9 hB (.inr (.inl h1))).1]; exact OK.ret rfl
          · rw [decide_eq_false h1, cond_false]
            by_cases h2 : (b.length : Int) < 64
            · rw [decide_eq_true h2, cond_true]
              by_cases h3 : i = n - 1
              · rw [good hB (by omega), h3, bne_self_eq_false, cond_false]; exact OK.ret rfl
              · rw [(bad9 hB (.inr (.inr ⟨h2, h3⟩))).1, bne_iff_ne.2 h3, cond_true]; exact OK.ret rfl
            · rw [decide_eq_false h2, cond_false, good hB (by omega)]; exact OK.ret rfl
        by_cases h0 : t = 0
        · have e0 : (t != 0) = false := by rw [h0]; rfl
          rw [e0, cond_false]
          exact tail fun h => absurd h0 h
        · rw [bne_iff_ne.2 h0, cond_true]
          by_cases h1 : t = n
          · have e1 : (t != n) = false := by rw [h1]; exact bne_self_eq_false n
            rw [e1, cond_false]
            exact tail fun _ => h1
          · rw [bne_iff_ne.2 h1, cond_true, (bad9 hB (.inl ⟨h0, h1⟩)).1]; exact OK.ret rfl
  · rintro _ rfl
    by_cases h0 : putC i n b t = 0
    · obtain ⟨c1, c2, c3, c4, c5, c6, c7⟩ := putC0 h0
      obtain ⟨k, rfl⟩ : ∃ k : Nat, i = k := ⟨i.toNat, by omega⟩
      have hk : k < 16 := by omega
      have eS : putS (k : Int) n b p m t = if m.testBit k = true then (p, m, n) else (upd p k b, m ||| 2 ^ k, n) := by unfold putS; rw [if_pos h0]; rfl
      rw [if_pos h0, eS, h0]
      simp only [Sum.elim_inl]
      rw [decide_eq_false (by omega), cond_false, Int.toNat_natCast, bit0_eq hm hk]
      cases hbit : m.testBit k with
      | true => exact OK.ret rfl
      | false =>
        rw [Bool.not_false, cond_true, clone_eq b (by omega)]
        simp only [Option.bind_some]
        rw [inR (by omega), cond_true, cond_false, or_w hm hk]
        exact OK.ret rfl
    · rw [if_neg h0]
      have eS : putS i n b p m t = (p, m, t) := by unfold putS; rw [if_neg h0]
      rw [eS]
      exact OK.ret rfl
theorem putr_eq (i n : Int) (b : List Int) (p : Ps) (m : Nat) (t : Int) (hb : b.length ≤ 1000) (hm : m < 65536) :
    f8 i n b (p 0) (p 1) (p 2) (p 3) (p 4) (p 5) (p 6) (p 7) (p 8) (p 9) (p 10) (p 11) (p 12) (p 13) (p 14) (p 15) (m : Int) t = some (putC i n b t, (putS i n b p m t).1 0, (putS i n b p m t).1 1, (putS i n b p m t).1 2, (putS i n b p m t).1 3, (putS i n b p m t).1 4, (putS i n b p m t).1 5, (putS i n b p m t).1 6, (putS i n b p m t).1 7, (putS i n b p m t).1 8, (putS i n b p m t).1 9, (putS i n b p m t).1 10, (putS i n b p m t).1 11, (putS i n b p m t).1 12, (putS i n b p m t).1 13, (putS i n b p m t).1 14, (putS i n b p m t).1 15, ((putS i n b p m t).2.1 : Int), (putS i n b p m t).2.2, ()) := by
  refine OK.eq ?_
  unfold f8
  have bad1 : (n < 1 ∨ n > 16 ∨ i < 0 ∨ i ≥ n) → putC i n b t = 1 ∧ putS i n b p m t = (p, m, t) := fun h => by
    have e : putC i n b t = 1 := if_pos h
    exact ⟨e, by unfold putS; rw [e]; rfl⟩
  have bad9 : ¬ (n < 1 ∨ n > 16 ∨ i < 0 ∨ i ≥ n) → ((t ≠ 0 ∧ t ≠ n) ∨ (b.length : Int) > 64 ∨ ((b.length : Int) < 64 ∧ i ≠ n - 1)) → putC i n b t = 9 ∧ putS i n b p m t = (p, m, t) := fun h h2 => by
    have e : putC i n b t = 9 := by unfold putC; rw [if_neg h, if_pos h2]
    exact ⟨e, by unfold putS; rw [e]; rfl⟩
  have good : ¬ (n < 1 ∨ n > 16 ∨ i < 0 ∨ i ≥ n) → ¬ ((t ≠ 0 ∧ t ≠ n) ∨ (b.length : Int) > 64 ∨ ((b.length : Int) < 64 ∧ i ≠ n - 1)) → putC i n b t = 0 := fun h h2 => by
    unfold putC; rw [if_neg h, if_neg h2]
  refine OK.callR (R := fun y => y = if putC i n b t = 0 then Sum.inl (i, n, b, p 0, p 1, p 2, p 3, p 4, p 5, p 6, p 7, p 8, p 9, p 10, p 11, p 12, p 13, p 14, p 15, (m : Int), t, ()) else Sum.inr (putC i n b t, p 0, p 1, p 2, p 3, p 4, p 5, p 6, p 7, p 8, p 9, p 10, p 11, p 12, p 13, p 14, p 15, (m : Int), t, ())) ?_ ?_
  · refine OK.callR (R := fun y => y = Sum.inl (i, n, b, decide (n < 1 ∨ n > 16 ∨ i < 0 ∨ i ≥ n), p 0, p 1, p 2, p 3, p 4, p 5, p 6, p 7, p 8, p 9, p 10, p 11, p 12, p 13, p 14, p 15, (m : Int), t, ())) ?_ ?_
    · simp only [bif_cl]
      by_cases h1 : n < 1
      · rw [if_pos h1]; exact OK.ret (by rw [decide_eq_true (.inl h1)])
      · by_cases h2 : n > 16
        · rw [if_neg h1, if_pos h2]; exact OK.ret (by rw [decide_eq_true (.inr (.inl h2))])
        · by_cases h3 : i < 0
          · rw [if_neg h1, if_neg h2, if_pos h3]; exact OK.ret (by rw [decide_eq_true (.inr (.inr (.inl h3)))])
          · rw [if_neg h1, if_neg h2, if_neg h3]
            refine OK.ret ?_
            have : decide (i ≥ n) = decide (n < 1 ∨ n > 16 ∨ i < 0 ∨ i ≥ n) := decide_eq_decide.2 ⟨fun h => .inr (.inr (.inr h)), fun h => by omega⟩
            rw [this]
    · rintro _ rfl
      simp only [Sum.elim_inl]
      by_cases hB : n < 1 ∨ n > 16 ∨ i < 0 ∨ i ≥ n
      · rw [decide_eq_true hB, cond_true, (bad1 hB).1, if_neg (by decide)]
        exact OK.ret rfl
      · rw [decide_eq_false hB, cond_false]
        have q1 : IntKind.wrap .i64 (n - 1) = n - 1 := wr (by omega)
        simp only [q1]
        have tail : (t ≠ 0 → t = n) → OK (bif decide ((b.length : Int) > 64) then some (Sum.inr (9, p 0, p 1, p 2, p 3, p 4, p 5, p 6, p 7, p 8, p 9, p 10, p 11, p 12, p 13, p 14, p 15, (m : Int), t, ())) else bif decide ((b.length : Int) < 64) then bif i != n - 1 then some (Sum.inr (9, p 0, p 1, p 2, p 3, p 4, p 5, p 6, p 7, p 8, p 9, p 10, p 11, p 12, p 13, p 14, p 15, (m : Int), t, ())) else some (Sum.inl (i, n, b, p 0, p 1, p 2, p 3, p 4, p 5, p 6, p 7, p 8, p 9, p 10, p 11, p 12, p 13, p 14, p 15, (m : Int), t, ())) else some (Sum.inl (i, n, b, p 0, p 1, p 2, p 3, p 4, p 5, p 6, p 7, p 8, p 9, p 10, p 11, p 12, p 13, p 14, p 15, (m : Int), t, ()))) fun y => y = if putC i n b t = 0 then Sum.inl (i, n, b, p 0, p 1, p 2, p 3, p 4, p 5, p 6, p 7, p 8, p 9, p 10, p 11, p 12, p 13, p 14, p 15, (m : Int), t, ()) else Sum.inr (putC i n b t, p 0, p 1, p 2, p 3, p 4, p 5, p 6, p 7, p 8, p 9, p 10, p 11, p 12, p 13, p 14, p 15, (m : Int), t, ()) := fun ht => by
          by_cases h1 : (b.length : Int) > 64
          · rw [decide_eq_true h1, cond_true, (bad9 hB (.inr (.inl h1))).1]; exact OK.ret rfl
          · rw [decide_eq_false h1, cond_false]
            by_cases h2 : (b.length : Int) < 64
            · rw [decide_eq_true h2, cond_true]
              by_cases h3 : i = n - 1
              · rw [good hB (by omega), h3, bne_self_eq_false, cond_false]; exact OK.ret rfl
              · rw [(bad9 hB (.inr (.inr ⟨h2, h3⟩))).1, bne_iff_ne.2 h3, cond_true]; exact OK.ret rfl
            · rw [decide_eq_false h2, cond_false, good hB (by omega)]; exact OK.ret rfl
        by_cases h0 : t = 0
        · have e0 : (t != 0) = false := by rw [h0]; rfl
          rw [e0, cond_false]
          exact tail fun h => absurd h0 h
        · rw [bne_iff_ne.2 h0, cond_true]
          by_cases h1 : t = n
          · have e1 : (t != n) = false := by rw [h1]; exact bne_self_eq_false n
            rw [e1, cond_false]
            exact tail fun _ => h1
          · rw [bne_iff_ne.2 h1, cond_true, (bad9 hB (.inl ⟨h0, h1⟩)).1]; exact OK.ret rfl
  · rintro _ rfl
    by_cases h0 : putC i n b t = 0
    · obtain ⟨c1, c2, c3, c4, c5, c6, c7⟩ := putC0 h0
      obtain ⟨k, rfl⟩ : ∃ k : Nat, i = k := ⟨i.toNat, by omega⟩
      have hk : k < 16 := by omega
      have eS : putS (k : Int) n b p m t = if m.testBit k = true then (p, m, n) else (upd p k b, m ||| 2 ^ k, n) := by unfold putS; rw [if_pos h0]; rfl
      rw [if_pos h0, eS, h0]
      simp only [Sum.elim_inl]
      rw [decide_eq_false (by omega), cond_false, Int.toNat_natCast, bit0_eq hm hk]
      cases hbit : m.testBit k with
      | true => exact OK.ret rfl
      | false =>
        rw [Bool.not_false, cond_true, clone_eq b (by omega)]
        simp only [Option.bind_some]
        rw [inR (by omega), cond_true, cond_false, or_w hm hk]
        exact OK.ret rfl
    · rw [if_neg h0]
      have eS : putS i n b p m t = (p, m, t) := by unfold putS; rw [if_neg h0]
      rw [eS]
      exact OK.ret rfl
theorem bits_eq (x : (List Int × List Int × List Int × List Int × List Int × List Int × List Int × List Int × List Int × List Int × List Int × List Int × List Int × List Int × List Int × List Int) × Int × Int) : f10 x = some (x.2.1, ()) := rfl
/-! ### all pieces -/
theorem grow_eq (n : Int) (h : 0 ≤ n ∧ n ≤ 100000) : f23 n = some ([], ()) := by
  unfold f23
  have e1 : IntKind.wrap .i64 (0 - 0) = 0 := wr (by omega)
  have e2 : IntKind.wrap .i64 (n - 0) = n := by rw [Int.sub_zero]; exact wr (by omega)
  simp only [e1, e2, bif_cl]
  rw [if_neg (by omega)]
  by_cases h0 : n > 0
  · rw [if_pos h0, if_pos ⟨by omega, by simp [limit]; omega⟩]
    simp
  · rw [if_neg h0]
    simp
theorem flat_le {L : List (List Int)} {c : Nat} (h : ∀ x, x ∈ L → x.length ≤ c) : L.flatten.length ≤ L.length * c := by
  induction L with
  | nil => simp
  | cons x L ih =>
    have h1 := h x List.mem_cons_self
    have h2 := ih fun y hy => h y (List.mem_cons_of_mem _ hy)
    rw [List.flatten_cons, List.length_append, List.length_cons, Nat.add_mul]
    omega
theorem take_flat (L : List (List Int)) {k : Nat} (hk : k < L.length) : (L.take (k + 1)).flatten = (L.take k).flatten ++ L.getD k [] := by
  rw [List.take_succ_eq_append_getElem hk, List.flatten_append]
  simp [List.getD_eq_getElem?_getD, hk]
theorem concat_eq (L : List (List Int)) (hl : L.length ≤ 100) (h : ∀ x, x ∈ L → x.length ≤ 1000) : f21 L = some (L.flatten, ()) := by
  have tot : ∀ k, (L.take k).flatten.length ≤ 100000 := fun k => by
    have h1 := flat_le (L := L.take k) (c := 1000) fun x hx => h x (List.mem_of_mem_take hx)
    have h2 : (L.take k).length * 1000 ≤ 100 * 1000 := Nat.mul_le_mul_right _ (by rw [List.length_take]; omega)
    omega
  refine OK.eq ?_
  unfold f21 f21.L2
  refine OK.loop (fun k : Nat => (L, (((L.take k).flatten.length : Nat) : Int), L, (L.length : Int), (k : Int), ())) (fun k => k ≤ L.length) (fun k => L.length - k) (fun rec k hk ih => ?_) 0 rfl (Nat.zero_le _) (by omega)
  have t1 := tot (k + 1)
  have t0 := tot k
  simp only [bif_cl, Int.toNat_natCast]
  by_cases c : (k : Int) < L.length
  · have go := ih (k + 1) (by omega) (by omega)
    rw [take_flat L (by omega), List.length_append] at go t1
    have w1 : IntKind.wrap .i64 ((((L.take k).flatten.length : Nat) : Int) + (((L.getD k []).length : Nat) : Int)) = (((L.take k).flatten.length : Nat) : Int) + (((L.getD k []).length : Nat) : Int) := wr (by omega)
    have w2 : IntKind.wrap .i64 ((k : Int) + 1) = (k : Int) + 1 := wr (by omega)
    rw [if_pos c, inR (by omega), cond_true, w1, w2, if_neg (by omega)]
    exact go _ (by simp)
  · have hkl : k = L.length := by omega
    subst hkl
    rw [if_neg c, grow_eq _ (by omega)]
    simp only [Option.bind_some]
    unfold f21.L1
    clear ih
    refine OK.loop (fun k : Nat => (L, (L.length : Int), (k : Int), (L.take k).flatten, ())) (fun k => k ≤ L.length) (fun k => L.length - k) (fun rec k hk ih => ?_) 0 rfl (Nat.zero_le _) (by omega)
    have t1 := tot (k + 1)
    simp only [bif_cl, Int.toNat_natCast]
    by_cases c : (k : Int) < L.length
    · have go := ih (k + 1) (by omega) (by omega)
      rw [take_flat L (by omega)] at go t1
      rw [List.length_append] at t1
      have w2 : IntKind.wrap .i64 ((k : Int) + 1) = (k : Int) + 1 := wr (by omega)
      rw [if_pos c, inR (by omega), cond_true, if_pos (Nat.le_trans t1 (by decide)), w2]
      exact go _ (by simp)
    · rw [if_neg c]
      refine OK.ret ?_
      rw [List.take_of_length_le (by omega)]
/-- The pieces in a row. -/
def row (p : Ps) (n : Nat) : List (List Int) := (List.range n).map p
theorem row16 (p : Ps) : [p 0, p 1, p 2, p 3, p 4, p 5, p 6, p 7, p 8, p 9, p 10, p 11, p 12, p 13, p 14, p 15] = row p 16 := rfl
theorem row_take (p : Ps) {n : Nat} (h : n ≤ 16) : (row p 16).take n = row p n := by
  unfold row
  rw [← List.map_take, List.take_range, Nat.min_eq_left h]
theorem row_len (p : Ps) (n : Nat) : (row p n).length = n := by simp [row]
theorem row_flat (p : Ps) (n : Nat) : (row p (n + 1)).flatten = (row p n).flatten ++ p n := by
  unfold row
  rw [List.range_succ, List.map_append, List.flatten_append]
  simp
theorem row_getD (p : Ps) {n k : Nat} (h : k < n) : (row p n).getD k [] = p k := by
  simp [row, List.getD_eq_getElem?_getD, h]
theorem row_mem {p : Ps} {n : Nat} {x : List Int} (h : x ∈ row p n) : ∃ i, i < n ∧ x = p i := by
  simp only [row, List.mem_map, List.mem_range] at h
  obtain ⟨i, hi, rfl⟩ := h
  exact ⟨i, hi, rfl⟩
/-- What is whole. -/
def whl (p : Ps) (m t : Nat) : Bool × List Int := if t ≠ 0 ∧ m = 2 ^ t - 1 then (true, (row p t).flatten) else (false, [])
theorem whole_eq (p : Ps) (m t : Nat) (ht : t ≤ 16) (hp : ∀ i, i < t → (p i).length ≤ 1000) : f12 (p 0) (p 1) (p 2) (p 3) (p 4) (p 5) (p 6) (p 7) (p 8) (p 9) (p 10) (p 11) (p 12) (p 13) (p 14) (p 15) (m : Int) (t : Int) = some ((whl p m t).1, p 0, p 1, p 2, p 3, p 4, p 5, p 6, p 7, p 8, p 9, p 10, p 11, p 12, p 13, p 14, p 15, (m : Int), (t : Int), (whl p m t).2, ()) := by
  unfold f12 whl
  rw [row16, Int.toNat_natCast, full_w ht, row_take p ht, List.drop_zero]
  by_cases h0 : t = 0
  · subst h0
    rw [if_neg (fun h => h.1 rfl)]
    rfl
  · have e0 : ((t : Int) == 0) = false := by rw [beq_eq_false_iff_ne]; omega
    rw [e0, cond_false, decide_eq_false (by omega), cond_false]
    by_cases h1 : m = 2 ^ t - 1
    · rw [if_pos ⟨h0, h1⟩, h1, bne_self_eq_false, cond_false, decide_eq_true (by omega), cond_true, concat_eq _ (by rw [row_len]; omega) (fun x hx => by obtain ⟨i, hi, rfl⟩ := row_mem hx; exact hp i hi)]
      rfl
    · have e1 : ((m : Int) != ((2 ^ t - 1 : Nat) : Int)) = true := by
        rw [bne_iff_ne]
        exact fun h => h1 (Int.ofNat.inj h)
      rw [if_neg (fun h => h1 h.2), e1, cond_true]
end Go.Proofs.Ytmffnlcmklapmaa.Tkr

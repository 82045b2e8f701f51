/- What the document's taker does (own work). -/
import Derived.Test.YtmffnlcmklapmaaTaker
namespace Go.Proofs.Ytmffnlcmklapmaa.Tkr
open Go Go.Proofs.Ytmffnlcmklapmaa.Mx Go.Proofs.Ytmffnlcmklapmaa.Pc Go.Proofs.Ytmffnlcmklapmaa.Run Go.Proofs.Ytmffnlcmklapmaa.Chunk
set_option autoImplicit false
set_option linter.unusedVariables false
set_option linter.unusedSimpArgs false
set_option maxHeartbeats 1000000
set_option maxRecDepth 4000
theorem has16 (h : Nat → Bool) : [h 0, h 1, h 2, h 3, h 4, h 5, h 6, h 7, h 8, h 9, h 10, h 11, h 12, h 13, h 14, h 15] = (List.range 16).map h := rfl
theorem has_getD (h : Nat → Bool) {n k : Nat} (hk : k < n) : ((List.range n).map h).getD k false = h k := by
  simp [List.getD_eq_getElem?_getD, hk]
def rputS (i n : Int) (b : List Int) (t : Int) (h : Nat → Bool) (q : Ps) : Int × (Nat → Bool) × Ps :=
  if putC i n b t = 0 then (if h i.toNat = true then (n, h, q) else (n, upd h i.toNat true, upd q i.toNat b)) else (t, h, q)
theorem rput_eq (i n : Int) (b : List Int) (t : Int) (h : Nat → Bool) (q : Ps) (hb : b.length ≤ 1000) :
    f9 i n b t (h 0) (h 1) (h 2) (h 3) (h 4) (h 5) (h 6) (h 7) (h 8) (h 9) (h 10) (h 11) (h 12) (h 13) (h 14) (h 15) (q 0) (q 1) (q 2) (q 3) (q 4) (q 5) (q 6) (q 7) (q 8) (q 9) (q 10) (q 11) (q 12) (q 13) (q 14) (q 15) = some (putC i n b t, (rputS i n b t h q).1, (rputS i n b t h q).2.1 0, (rputS i n b t h q).2.1 1, (rputS i n b t h q).2.1 2, (rputS i n b t h q).2.1 3, (rputS i n b t h q).2.1 4, (rputS i n b t h q).2.1 5, (rputS i n b t h q).2.1 6, (rputS i n b t h q).2.1 7, (rputS i n b t h q).2.1 8, (rputS i n b t h q).2.1 9, (rputS i n b t h q).2.1 10, (rputS i n b t h q).2.1 11, (rputS i n b t h q).2.1 12, (rputS i n b t h q).2.1 13, (rputS i n b t h q).2.1 14, (rputS i n b t h q).2.1 15, (rputS i n b t h q).2.2 0, (rputS i n b t h q).2.2 1, (rputS i n b t h q).2.2 2, (rputS i n b t h q).2.2 3, (rputS i n b t h q).2.2 4, (rputS i n b t h q).2.2 5, (rputS i n b t h q).2.2 6, (rputS i n b t h q).2.2 7, (rputS i n b t h q).2.2 8, (rputS i n b t h q).2.2 9, (rputS i n b t h q).2.2 10, (rputS i n b t h q).2.2 11, (rputS i n b t h q).2.2 12, (rputS i n b t h q).2.2 13, (rputS i n b t h q).2.2 14, (rputS i n b t h q).2.2 15, ()) := by
  refine OK.eq ?_
  unfold f9
  have bad1 : (n < 1 ∨ n > 16 ∨ i < 0 ∨ i ≥ n) → putC i n b t = 1 ∧ rputS i n b t h q = (t, h, q) := fun hh => by
    have e : putC i n b t = 1 := if_pos hh
    exact ⟨e, by unfold rputS; rw [e]; rfl⟩
  have bad9 : ¬ (n < 1 ∨ n > 16 ∨ i < 0 ∨ i ≥ n) → ((t ≠ 0 ∧ t ≠ n) ∨ (b.length : Int) > 64 ∨ ((b.length : Int) < 64 ∧ i ≠ n - 1)) → putC i n b t = 9 ∧ rputS i n b t h q = (t, h, q) := fun hh h2 => by
    have e : putC i n b t = 9 := by unfold putC; rw [if_neg hh, if_pos h2]
    exact ⟨e, by unfold rputS; rw [e]; rfl⟩
  have good : ¬ (n < 1 ∨ n > 16 ∨ i < 0 ∨ i ≥ n) → ¬ ((t ≠ 0 ∧ t ≠ n) ∨ (b.length : Int) > 64 ∨ ((b.length : Int) < 64 ∧ i ≠ n - 1)) → putC i n b t = 0 := fun hh h2 => by
    unfold putC; rw [if_neg hh, if_neg h2]
  have early : (n < 1 ∨ n > 16 ∨ i < 0 ∨ i ≥ n) → OK (some ((1 : Int), t, h 0, h 1, h 2, h 3, h 4, h 5, h 6, h 7, h 8, h 9, h 10, h 11, h 12, h 13, h 14, h 15, q 0, q 1, q 2, q 3, q 4, q 5, q 6, q 7, q 8, q 9, q 10, q 11, q 12, q 13, q 14, q 15, ())) fun y => y = (putC i n b t, (rputS i n b t h q).1, (rputS i n b t h q).2.1 0, (rputS i n b t h q).2.1 1, (rputS i n b t h q).2.1 2, (rputS i n b t h q).2.1 3, (rputS i n b t h q).2.1 4, (rputS i n b t h q).2.1 5, (rputS i n b t h q).2.1 6, (rputS i n b t h q).2.1 7, (rputS i n b t h q).2.1 8, (rputS i n b t h q).2.1 9, (rputS i n b t h q).2.1 10, (rputS i n b t h q).2.1 11, (rputS i n b t h q).2.1 12, (rputS i n b t h q).2.1 13, (rputS i n b t h q).2.1 14, (rputS i n b t h q).2.1 15, (rputS i n b t h q).2.2 0, (rputS i n b t h q).2.2 1, (rputS i n b t h q).2.2 2, (rputS i n b t h q).2.2 3, (rputS i n b t h q).2.2 4, (rputS i n b t h q).2.2 5, (rputS i n b t h q).2.2 6, (rputS i n b t h q).2.2 7, (rputS i n b t h q).2.2 8, (rputS i n b t h q).2.2 9, (rputS i n b t h q).2.2 10, (rputS i n b t h q).2.2 11, (rputS i n b t h q).2.2 12, (rputS i n b t h q).2.2 13, (rputS i n b t h q).2.2 14, (rputS i n b t h q).2.2 15, ()) := fun hh => by
    rw [(bad1 hh).1, (bad1 hh).2]
    exact OK.ret rfl
  rw [bif_dec, bif_dec, bif_dec, bif_dec]
  by_cases h1 : n < 1
  · rw [if_pos h1]; exact early (.inl h1)
  rw [if_neg h1]
  by_cases h2 : n > 16
  · rw [if_pos h2]; exact early (.inr (.inl h2))
  rw [if_neg h2]
  by_cases h3 : i < 0
  · rw [if_pos h3]; exact early (.inr (.inr (.inl h3)))
  rw [if_neg h3]
  by_cases h4 : i ≥ n
  · rw [if_pos h4]; exact early (.inr (.inr (.inr h4)))
  rw [if_neg h4]
  have hB : ¬ (n < 1 ∨ n > 16 ∨ i < 0 ∨ i ≥ n) := by omega
  refine OK.callR (R := fun y => y = if putC i n b t = 0 then Sum.inl (i, n, b, t, h 0, h 1, h 2, h 3, h 4, h 5, h 6, h 7, h 8, h 9, h 10, h 11, h 12, h 13, h 14, h 15, q 0, q 1, q 2, q 3, q 4, q 5, q 6, q 7, q 8, q 9, q 10, q 11, q 12, q 13, q 14, q 15, ()) else Sum.inr (putC i n b t, t, h 0, h 1, h 2, h 3, h 4, h 5, h 6, h 7, h 8, h 9, h 10, h 11, h 12, h 13, h 14, h 15, q 0, q 1, q 2, q 3, q 4, q 5, q 6, q 7, q 8, q 9, q 10, q 11, q 12, q 13, q 14, q 15, ())) ?_ ?_
  · have q1 : IntKind.wrap .i64 (n - 1) = n - 1 := wr (by omega)
    simp only [q1]
    have tail : (t ≠ 0 → t = n) → OK (bif decide ((b.length : Int) > 64) then some (Sum.inr (9, t, h 0, h 1, h 2, h 3, h 4, h 5, h 6, h 7, h 8, h 9, h 10, h 11, h 12, h 13, h 14, h 15, q 0, q 1, q 2, q 3, q 4, q 5, q 6, q 7, q 8, q 9, q 10, q 11, q 12, q 13, q 14, q 15, ())) else bif decide ((b.length : Int) < 64) then bif i != n - 1 then some (Sum.inr (9, t, h 0, h 1, h 2, h 3, h 4, h 5, h 6, h 7, h 8, h 9, h 10, h 11, h 12, h 13, h 14, h 15, q 0, q 1, q 2, q 3, q 4, q 5, q 6, q 7, q 8, q 9, q 10, q 11, q 12, q 13, q 14, q 15, ())) else some (Sum.inl (i, n, b, t, h 0, h 1, h 2, h 3, h 4, h 5, h 6, h 7, h 8, h 9, h 10, h 11, h 12, h 13, h 14, h 15, q 0, q 1, q 2, q 3, q 4, q 5, q 6, q 7, q 8, q 9, q 10, q 11, q 12, q 13, q 14, q 15, ())) else some (Sum.inl (i, n, b, t, h 0, h 1, h 2, h 3, h 4, h 5, h 6, h 7, h 8, h 9, h 10, h 11, h 12, h 13, h 14, h 15, q 0, q 1, q 2, q 3, q 4, q 5, q 6, q 7, q 8, q 9, q 10, q 11, q 12, q 13, q 14, q 15, ()))) fun y => y = if putC i n b t = 0 then Sum.inl (i, n, b, t, h 0, h 1, h 2, h 3, h 4, h 5, h 6, h 7, h 8, h 9, h 10, h 11, h 12, h 13, h 14, h 15, q 0, q 1, q 2, q 3, q 4, q 5, q 6, q 7, q 8, q 9, q 10, q 11, q 12, q 13, q 14, q 15, ()) else Sum.inr (putC i n b t, t, h 0, h 1, h 2, h 3, h 4, h 5, h 6, h 7, h 8, h 9, h 10, h 11, h 12, h 13, h 14, h 15, q 0, q 1, q 2, q 3, q 4, q 5, q 6, q 7, q 8, q 9, q 10, q 11, q 12, q 13, q 14, q 15, ()) := fun ht => by
      by_cases h1 : (b.length : Int) > 64
      · rw [decide_eq_true h1, cond_true, (bad9 hB (.inr (.inl h1))).1]; exact OK.ret rfl
      · rw [decide_eq_false h1, cond_false]
        by_cases h2 : (b.length : Int) < 64
        · rw [decide_eq_true h2, cond_true]
          by_cases h3 : i = n - 1
          · rw [good hB (by omega), h3, bne_self_eq_false, cond_false]; exact OK.ret rfl
          · rw [(bad9 hB (.inr (.inr ⟨h2, h3⟩))).1, bne_iff_ne.2 h3, cond_true]; exact OK.ret rfl
        · rw [decide_eq_false h2, cond_false, good hB (by omega)]; exact OK.ret rfl
    by_cases h0 : t = 0
    · have e0 : (t != 0) = false := by rw [h0]; rfl
      rw [e0, cond_false]
      exact tail fun h => absurd h0 h
    · rw [bne_iff_ne.2 h0, cond_true]
      by_cases h1 : t = n
      · have e1 : (t != n) = false := by rw [h1]; exact bne_self_eq_false n
        rw [e1, cond_false]
        exact tail fun _ => h1
      · rw [bne_iff_ne.2 h1, cond_true, (bad9 hB (.inl ⟨h0, h1⟩)).1]; exact OK.ret rfl
  · rintro _ rfl
    by_cases h0 : putC i n b t = 0
    · obtain ⟨k, rfl⟩ : ∃ k : Nat, i = k := ⟨i.toNat, by omega⟩
      have hk : k < 16 := by omega
      have eS : rputS (k : Int) n b t h q = if h k = true then (n, h, q) else (n, upd h k true, upd q k b) := by unfold rputS; rw [if_pos h0]; rfl
      have ir : inRange (k : Int) 16 = true := inR (by omega)
      rw [if_pos h0, eS, h0]
      simp only [Sum.elim_inl, Int.toNat_natCast, ir, cond_true]
      rw [has16, has_getD h hk]
      cases hbit : h k with
      | true => exact OK.ret rfl
      | false =>
        rw [Bool.not_false, cond_true, decide_eq_true (by simp [limit]; omega), cond_true]
        exact OK.ret rfl
    · rw [if_neg h0]
      have eS : rputS i n b t h q = (t, h, q) := by unfold rputS; rw [if_neg h0]
      rw [eS]
      exact OK.ret rfl
/-- The bits, one by one. -/
def bitsN (h : Nat → Bool) : Nat → Nat
  | 0 => 0
  | k + 1 => if h k = true then bitsN h k ||| 2 ^ k else bitsN h k
theorem bitsN_spec (h : Nat → Bool) : ∀ k, k ≤ 16 → bitsN h k < 65536 ∧ ∀ i, (bitsN h k).testBit i = (h i && decide (i < k))
  | 0, _ => ⟨show (0 : Nat) < 65536 by decide, fun i => by simp [bitsN]⟩
  | k + 1, hk => by
    obtain ⟨h1, h2⟩ := bitsN_spec h k (by omega)
    unfold bitsN
    split
    · rename_i e
      refine ⟨or_lt h1 (by omega), fun i => ?_⟩
      rw [or_bit, h2]
      by_cases q : k = i
      · subst q; simp [e]
      · by_cases q2 : i < k
        · simp [q, q2, show i < k + 1 by omega]
        · simp [q, q2, show ¬ i < k + 1 by omega]
    · rename_i e
      refine ⟨h1, fun i => ?_⟩
      rw [h2]
      by_cases q : k = i
      · subst q; simp [e]
      · by_cases q2 : i < k
        · simp [q2, show i < k + 1 by omega]
        · simp [q2, show ¬ i < k + 1 by omega]
theorem rbits_eq (t : Int) (h : Nat → Bool) (q : Ps) {m : Nat} (hm : m < 65536) (hh : ∀ i, i < 16 → m.testBit i = h i) : f11 t (h 0) (h 1) (h 2) (h 3) (h 4) (h 5) (h 6) (h 7) (h 8) (h 9) (h 10) (h 11) (h 12) (h 13) (h 14) (h 15) (q 0) (q 1) (q 2) (q 3) (q 4) (q 5) (q 6) (q 7) (q 8) (q 9) (q 10) (q 11) (q 12) (q 13) (q 14) (q 15) = some ((m : Int), t, h 0, h 1, h 2, h 3, h 4, h 5, h 6, h 7, h 8, h 9, h 10, h 11, h 12, h 13, h 14, h 15, q 0, q 1, q 2, q 3, q 4, q 5, q 6, q 7, q 8, q 9, q 10, q 11, q 12, q 13, q 14, q 15, ()) := by
  have em : m = bitsN h 16 := by
    obtain ⟨h1, h2⟩ := bitsN_spec h 16 (Nat.le_refl _)
    refine Nat.eq_of_testBit_eq fun i => ?_
    rw [h2]
    by_cases hi : i < 16
    · rw [hh i hi]; simp [hi]
    · have : m < 2 ^ i := Nat.lt_of_lt_of_le (show m < 2 ^ 16 from hm) (Nat.pow_le_pow_right (by decide) (by omega))
      rw [Nat.testBit_lt_two_pow this]; simp [hi]
  rw [em]
  refine OK.eq ?_
  unfold f11 f11.L1
  refine OK.loop (fun k : Nat => (((bitsN h k : Nat) : Int), (k : Int), t, h 0, h 1, h 2, h 3, h 4, h 5, h 6, h 7, h 8, h 9, h 10, h 11, h 12, h 13, h 14, h 15, q 0, q 1, q 2, q 3, q 4, q 5, q 6, q 7, q 8, q 9, q 10, q 11, q 12, q 13, q 14, q 15, ())) (fun k => k ≤ 16) (fun k => 16 - k) (fun rec k hk ih => ?_) 0 rfl (Nat.zero_le _) (by omega)
  obtain ⟨b1, _⟩ := bitsN_spec h k hk
  dsimp only
  rw [bif_dec]
  by_cases c : k < 16
  · have go := ih (k + 1) (by omega) (by omega) _ rfl
    rw [if_pos (by omega), inR (by omega), cond_true, Int.toNat_natCast, has16, has_getD h c, wr (by omega), decide_eq_false (by omega), cond_false]
    unfold bitsN at go
    cases e : h k with
    | true =>
      rw [e, if_pos rfl] at go
      rw [cond_true, or_w b1 c]
      exact go
    | false =>
      rw [e, if_neg (by decide)] at go
      exact go
  · have : k = 16 := by omega
    subst this
    rw [if_neg (by omega)]
    exact OK.ret rfl
theorem rwhole_eq (t : Nat) (h : Nat → Bool) (q : Ps) {m : Nat} (ht : t ≤ 16) (hh : ∀ i, i < 16 → m.testBit i = h i) (hlt : ∀ i, m.testBit i = true → i < t) (hq : ∀ i, i < t → (q i).length ≤ 1000) :
    f13 (t : Int) (h 0) (h 1) (h 2) (h 3) (h 4) (h 5) (h 6) (h 7) (h 8) (h 9) (h 10) (h 11) (h 12) (h 13) (h 14) (h 15) (q 0) (q 1) (q 2) (q 3) (q 4) (q 5) (q 6) (q 7) (q 8) (q 9) (q 10) (q 11) (q 12) (q 13) (q 14) (q 15) = some ((whl q m t).1, (t : Int), h 0, h 1, h 2, h 3, h 4, h 5, h 6, h 7, h 8, h 9, h 10, h 11, h 12, h 13, h 14, h 15, q 0, q 1, q 2, q 3, q 4, q 5, q 6, q 7, q 8, q 9, q 10, q 11, q 12, q 13, q 14, q 15, (whl q m t).2, ()) := by
  have tot : ∀ k, k ≤ 16 → (∀ i, i < k → (q i).length ≤ 1000) → (row q k).flatten.length ≤ 100000 := fun k hk hq => by
    have h1 := flat_le (L := row q k) (c := 1000) fun x hx => by obtain ⟨i, hi, rfl⟩ := row_mem hx; exact hq i hi
    rw [row_len] at h1
    omega
  refine OK.eq ?_
  unfold f13 f13.L1
  refine OK.loop (fun k : Nat => ((k : Int), (t : Int), h 0, h 1, h 2, h 3, h 4, h 5, h 6, h 7, h 8, h 9, h 10, h 11, h 12, h 13, h 14, h 15, q 0, q 1, q 2, q 3, q 4, q 5, q 6, q 7, q 8, q 9, q 10, q 11, q 12, q 13, q 14, q 15, (row q k).flatten, ())) (fun k => k ≤ t ∧ ∀ i, i < k → h i = true) (fun k => t - k) (fun rec k hk ih => ?_) 0 rfl ⟨Nat.zero_le _, fun i hi => absurd hi (Nat.not_lt_zero _)⟩ (by omega)
  obtain ⟨hk, hall⟩ := hk
  dsimp only
  rw [bif_dec]
  by_cases c : k < t
  · rw [if_pos (by omega), inR (by omega), cond_true, Int.toNat_natCast, has16, has_getD h (by omega), row16, row_getD q (show k < 16 by omega), wr (by omega)]
    cases e : h k with
    | false =>
      rw [Bool.not_false, cond_true]
      have : whl q m t = (false, []) := if_neg fun z => by
        have := (full_iff hlt).1 z.2 k c
        rw [hh k (by omega), e] at this
        cases this
      rw [this]
      exact OK.ret rfl
    | true =>
      have t1 := tot (k + 1) (by omega) fun i hi => hq i (by omega)
      rw [row_flat, List.length_append] at t1
      have go := ih (k + 1) ⟨by omega, fun i hi => by
        rcases Nat.lt_or_ge i k with z | z
        · exact hall i z
        · rw [show i = k by omega]; exact e⟩ (by omega) _ rfl
      rw [row_flat] at go
      rw [Bool.not_true, cond_false, cond_true, decide_eq_true (Nat.le_trans t1 (by decide)), cond_true]
      exact go
  · have hkt : k = t := by omega
    subst hkt
    rw [if_neg (by omega)]
    refine OK.ret ?_
    by_cases h0 : k = 0
    · subst h0
      have : whl q m 0 = (false, []) := if_neg fun z => z.1 rfl
      rw [this]; rfl
    · have : whl q m k = (true, (row q k).flatten) := if_pos ⟨h0, (full_iff hlt).2 fun i hi => by rw [hh i (by omega)]; exact hall i hi⟩
      rw [this, decide_eq_true (by omega)]
end Go.Proofs.Ytmffnlcmklapmaa.Tkr

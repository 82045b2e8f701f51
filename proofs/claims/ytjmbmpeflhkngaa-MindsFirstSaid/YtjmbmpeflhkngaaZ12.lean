/- The law NavAsks, in plain words (own work). -/
import Derived.Test.YtjmbmpeflhkngaaZ11
namespace Go.Proofs.Ytjmbmpeflhkngaa.Nav
open Go Go.Proofs.Ytjmbmpeflhkngaa.Mx Go.Proofs.Ytjmbmpeflhkngaa.Pc Go.Proofs.Ytjmbmpeflhkngaa.Run Go.Proofs.Ytjmbmpeflhkngaa.Field Go.Proofs.Ytjmbmpeflhkngaa.Gen
set_option linter.unusedVariables false
set_option linter.unusedSimpArgs false
theorem wrap_eq (x : Int) : IntKind.wrap .i64 x = (x + 9223372036854775808) % 18446744073709551616 - 9223372036854775808 := by
  simp [IntKind.wrap, IntKind.bits, IntKind.signed]
  split <;> omega
/-- Nobody stands there. -/
def Free (l : List EntT) (x y : Int) : Prop := ∀ i, i < l.length → (l.getD i e0).1 ≠ 0 → ¬ (exx (l.getD i e0) = x ∧ eyy (l.getD i e0) = y)
theorem rat_iff (l : List EntT) (hl : l.length ≤ 1000) (x y : Int) : OK (f17 l x y) fun z => z.1 < 0 ↔ Free l x y := by
  unfold f17 f17.L1
  refine OK.loop (fun j : Nat => (l, x, y, (j : Int), ())) (fun j => j ≤ l.length ∧ ∀ i, i < j → (l.getD i e0).1 ≠ 0 → ¬ (exx (l.getD i e0) = x ∧ eyy (l.getD i e0) = y)) (fun j => l.length - j) (fun rec j hj ih => ?_) 0 rfl ⟨Nat.zero_le _, fun i hi => absurd hi (Nat.not_lt_zero i)⟩ (by omega)
  obtain ⟨hj, hn⟩ := hj
  dsimp only at hj hn ih ⊢
  rw [bif_dec]
  by_cases q : (j : Int) < (l.length : Int)
  · have wj : IntKind.wrap .i64 ((j : Int) + 1) = ((j + 1 : Nat) : Int) := by rw [wr (by omega)]; omega
    have skip : ((l.getD j e0).1 ≠ 0 → ¬ (exx (l.getD j e0) = x ∧ eyy (l.getD j e0) = y)) → OK (rec (l, x, y, ((j + 1 : Nat) : Int), ())) _ := fun h => ih (j + 1) ⟨by omega, fun i hi => by
      rcases (by omega : i < j ∨ i = j) with z | z
      · exact hn i z
      · subst z; exact h⟩ (by omega) _ rfl
    rw [if_pos q, inR (by omega), cond_true, cond_true, cond_true, wj, Int.toNat_natCast]
    refine OK.bif (fun h1 => ?_) (fun h1 => skip (fun h => absurd (bne_eq_false_iff_eq.1 h1) h))
    refine OK.bif (fun h2 => ?_) (fun h2 => skip (fun _ h => beq_eq_false_iff_ne.1 h2 h.1))
    refine OK.bif (fun h3 => ?_) (fun h3 => skip (fun _ h => beq_eq_false_iff_ne.1 h3 h.2))
    exact OK.ret ⟨fun h => by dsimp only at h; omega, fun h => absurd ⟨beq_iff_eq.1 h2, beq_iff_eq.1 h3⟩ (h j (by omega) (bne_iff_ne.1 h1))⟩
  · rw [if_neg q]
    exact OK.ret ⟨fun _ i hi => hn i (by omega), fun _ => (by dsimp only; omega)⟩
theorem at_iff (l : List EntT) (hl : l.length = 32) (x y : Int) : OK (f75 l x y) fun z => z.1 < 0 ↔ Free l x y := by
  unfold f75 f87_1 f97
  have lm : minI (l.length : Int) 32 = 32 := by rw [minI_eq]; omega
  have ld : List.drop 0 (List.take (Int.toNat (32 : Int)) l) = l := by
    rw [List.drop_zero]; exact List.take_of_length_le (by omega)
  rw [lm, bif_dec, if_pos (by omega), ld]
  simp only [Option.bind_some]
  unfold f87_1.L1
  refine OK.callR (R := fun z => z.1 < 0 ↔ Free l x y) ?_ (fun z hz => OK.ret hz)
  refine OK.loop (fun j : Nat => (l, (l.length : Int), (j : Int), x, y, ())) (fun j => j ≤ l.length ∧ ∀ i, i < j → (l.getD i e0).1 ≠ 0 → ¬ (exx (l.getD i e0) = x ∧ eyy (l.getD i e0) = y)) (fun j => l.length - j) (fun rec j hj ih => ?_) 0 rfl ⟨Nat.zero_le _, fun i hi => absurd hi (Nat.not_lt_zero i)⟩ (by omega)
  obtain ⟨hj, hn⟩ := hj
  dsimp only at hj hn ih ⊢
  rw [bif_dec]
  by_cases q : (j : Int) < (l.length : Int)
  · have wj : IntKind.wrap .i64 ((j : Int) + 1) = ((j + 1 : Nat) : Int) := by rw [wr (by omega)]; omega
    have skip : ((l.getD j e0).1 ≠ 0 → ¬ (exx (l.getD j e0) = x ∧ eyy (l.getD j e0) = y)) → OK (rec (l, (l.length : Int), ((j + 1 : Nat) : Int), x, y, ())) _ := fun h => ih (j + 1) ⟨by omega, fun i hi => by
      rcases (by omega : i < j ∨ i = j) with z | z
      · exact hn i z
      · subst z; exact h⟩ (by omega) _ rfl
    rw [if_pos q, inR (by omega), cond_true, wj, Int.toNat_natCast]
    have ep : f88 (j : Int) (l.getD j e0).1 (l.getD j e0).2.1 (l.getD j e0).2.2.1 (l.getD j e0).2.2.2.1 (l.getD j e0).2.2.2.2.1 (l.getD j e0).2.2.2.2.2.1 (l.getD j e0).2.2.2.2.2.2.1 (l.getD j e0).2.2.2.2.2.2.2.1 (l.getD j e0).2.2.2.2.2.2.2.2.1 (l.getD j e0).2.2.2.2.2.2.2.2.2.1 (l.getD j e0).2.2.2.2.2.2.2.2.2.2 x y = some ((l.getD j e0).1 != 0 && (exx (l.getD j e0) == x && (eyy (l.getD j e0) == y && true)), ()) := by
      unfold f88
      cases ((l.getD j e0).1 != 0) <;> rfl
    rw [ep]
    simp only [Option.bind_some]
    cases h1 : ((l.getD j e0).1 != 0) with
    | false => exact skip (fun h => absurd (bne_eq_false_iff_eq.1 h1) h)
    | true =>
    cases h2 : (exx (l.getD j e0) == x) with
    | false => exact skip (fun _ h => beq_eq_false_iff_ne.1 h2 h.1)
    | true =>
    cases h3 : (eyy (l.getD j e0) == y) with
    | false => exact skip (fun _ h => beq_eq_false_iff_ne.1 h3 h.2)
    | true => exact OK.ret ⟨fun h => by dsimp only at h; omega, fun h => absurd ⟨beq_iff_eq.1 h2, beq_iff_eq.1 h3⟩ (h j (by omega) (bne_iff_ne.1 h1))⟩
  · rw [if_neg q]
    exact OK.ret ⟨fun _ i hi => hn i (by omega), fun _ => (by dsimp only; omega)⟩
theorem stand_of (m : Int) (l : List EntT) (h : Ents l) (n : Nat) : ∀ i, i ≤ l.length → (stand m l i).getD n false = true → ∃ k, k < l.length ∧ (l.getD k e0).1 ≠ 0 ∧ (eyy (l.getD k e0) * 24 + exx (l.getD k e0)).toNat = n := by
  intro i
  induction i with
  | zero =>
    intro _ e
    have : (stand m l 0).getD n false = false := by
      unfold stand
      rw [List.take_zero, List.foldl_nil, List.getD_eq_getElem?_getD, List.getElem?_replicate]
      split <;> rfl
    rw [this] at e
    cases e
  | succ i ih =>
    intro hi e
    rw [stand_succ m l i (by omega)] at e
    unfold mk at e
    split at e
    · rename_i g
      rw [getD_set] at e
      split at e
      · rename_i g2
        exact ⟨i, by omega, g.1, g2.1⟩
      · exact ih (by omega) e
    · exact ih (by omega) e
/-- The first way that leads nearer. -/
def PJ (l : List EntT) (f : List Int) (m : Int) (j : Nat) : Prop := GC (nbr m j) ∧ Field.rd f (nbr m j) = Field.rd f m - 1 ∧ Free l (nbr m j % 24) (nbr m j / 24)
def TW (l : List EntT) (f : List Int) (m z : Int) : Prop := (z = 0 ∧ (Field.rd f m < 1 ∨ ∀ j, j < 4 → ¬ PJ l f m j)) ∨ (1 ≤ Field.rd f m ∧ ∃ j : Nat, j < 4 ∧ z = 1 + (j : Int) ∧ PJ l f m j ∧ ∀ k, k < j → ¬ PJ l f m k)
theorem TW.one {l : List EntT} {f : List Int} {m z z' : Int} (h : TW l f m z) (h' : TW l f m z') : z = z' := by
  rcases h with ⟨e, h⟩ | ⟨r, j, hj, e, p, n⟩
  · rcases h' with ⟨e', h'⟩ | ⟨r', j', hj', e', p', n'⟩
    · omega
    · rcases h with h | h
      · omega
      · exact absurd p' (h j' hj')
  · rcases h' with ⟨e', h'⟩ | ⟨r', j', hj', e', p', n'⟩
    · rcases h' with h' | h'
      · omega
      · exact absurd p (h' j hj)
    · rcases (by omega : j < j' ∨ j = j' ∨ j' < j) with z | z | z
      · exact absurd p (n' j z)
      · subst z; omega
      · exact absurd p' (n j' z)
theorem free_stand (m : Int) (l : List EntT) (h : Ents l) (n : Int) (hn : GC n) (ne : n ≠ m) : (stand m l 32).getD n.toNat false = false ↔ Free l (n % 24) (n / 24) := by
  have hl := h.len
  unfold GC at hn
  constructor
  · intro e i hi h1 ⟨g1, g2⟩
    have ep : eyy (l.getD i e0) * 24 + exx (l.getD i e0) = n := by rw [g1, g2]; omega
    have := stand_at m l h i hi h1 (by rw [ep]; exact ne) 32 (by omega) (by omega)
    rw [ep, e] at this
    cases this
  · intro hf
    cases e : (stand m l 32).getD n.toNat false with
    | false => rfl
    | true =>
      obtain ⟨k, hk, h1, h2⟩ := stand_of m l h n.toNat 32 (by omega) e
      have g := (h.at_ k hk).resolve_left h1
      exact absurd ⟨by omega, by omega⟩ (hf k hk h1)
theorem toward_tw (c : List Int) (hc : CB c) (l : List EntT) (h : Ents l) (m : Int) (hm : GC m) (ts : List Int) (ht : ts.length ≤ 1000000) :
    OK (f70 c l (m % 24) (m / 24) ts) fun z => ∃ f, IsField (opnC c (stand m l 32)) (IsT c ts) f ∧ TW l f m z.1 := by
  have hm' := hm
  unfold GC at hm'
  have hl := h.len
  unfold f70
  have em : m / 24 * 24 + m % 24 = m := by omega
  rw [number_eq, if_pos (by omega), em]
  simp only [Option.bind_some]
  have lm : minI (l.length : Int) 32 = 32 := by rw [minI_eq]; omega
  have ld : List.drop 0 (List.take (Int.toNat (32 : Int)) l) = l := by
    rw [List.drop_zero]; exact List.take_of_length_le (by omega)
  rw [bif_dec, if_neg (by omega), lm, bif_dec, if_pos (by omega), ld]
  unfold f70.L2
  refine OK.loop (fun j : Nat => (c, m % 24, m / 24, ts, m, l, (l.length : Int), (j : Int), stand m l j, ())) (fun j => j ≤ 32) (fun j => 32 - j) (fun rec j hj ih => ?_) 0 rfl (Nat.zero_le _) (by decide)
  dsimp only at hj ih ⊢
  rw [bif_dec]
  by_cases q : (j : Int) < (l.length : Int)
  · have wj : IntKind.wrap .i64 ((j : Int) + 1) = ((j + 1 : Nat) : Int) := by rw [wr (by omega)]; omega
    rw [if_pos q, inR (by omega), cond_true, number_eq, wj, Int.toNat_natCast]
    simp only [Option.bind_some]
    have nx := ih (j + 1) (by omega) (by omega) _ rfl
    rw [stand_succ m l j (by omega)] at nx
    have hlen := stand_len m l j
    have hh := h.at_ j (by omega)
    generalize stand m l j = b at *
    unfold mk at nx
    generalize hE : l.getD j e0 = E at *
    by_cases k0 : E.1 = 0
    · have q0 : (E.1 != 0) = false := by simp [k0]
      rw [if_neg (fun hx => hx.1 k0)] at nx
      rw [q0, cond_false]
      exact nx
    · have q0 : (E.1 != 0) = true := by simpa using k0
      have g := hh.resolve_left k0
      have eN : (if 0 ≤ E.2.2.2.1 ∧ E.2.2.2.1 < 24 ∧ 0 ≤ E.2.2.2.2.1 ∧ E.2.2.2.2.1 < 16 then E.2.2.2.2.1 * 24 + E.2.2.2.1 else -1) = eyy E * 24 + exx E := if_pos g
      rw [q0, cond_true, eN, bif_dec, if_pos (by omega)]
      by_cases k1 : eyy E * 24 + exx E = m
      · have q1 : (eyy E * 24 + exx E != m) = false := by simp [k1]
        rw [if_neg (fun hx => hx.2 k1)] at nx
        rw [q1, cond_false]
        exact nx
      · have q1 : (eyy E * 24 + exx E != m) = true := by simpa using k1
        rw [if_pos ⟨k0, k1⟩] at nx
        rw [q1, cond_true, inR (by omega), cond_true]
        exact nx
  · have e : j = 32 := by omega
    subst e
    rw [if_neg q]
    have hlen := stand_len m l 32
    refine OK.callR (field_is c hc (stand m l 32) ts ht) fun y hy => ?_
    have hfl := hy.len
    have lo := hy.lo m hm
    have sm := field_small hy m hm
    have fs := fun n hn ne => free_stand m l h n hn ne
    generalize stand m l 32 = b at *
    obtain ⟨f, u⟩ := y
    dsimp only at hy hfl lo sm ⊢
    rw [inR (by omega), cond_true, bif_dec]
    by_cases k : f.getD m.toNat 0 < 1
    · rw [if_pos k]
      exact OK.ret ⟨f, hy, .inl ⟨rfl, .inl k⟩⟩
    · rw [if_neg k]
      have k' : 1 ≤ Field.rd f m := by unfold Field.rd; omega
      unfold f70.L1
      refine OK.loop (fun j : Nat => (m % 24, m / 24, m, 1 + (j : Int), b, f, ())) (fun j => j ≤ 4 ∧ ∀ i, i < j → ¬ PJ l f m i) (fun j => 4 - j) (fun rec j hj ih => ?_) 0 rfl ⟨Nat.zero_le _, fun i hi => absurd hi (Nat.not_lt_zero i)⟩ (by decide)
      obtain ⟨hj, hnp⟩ := hj
      dsimp only at hj hnp ih ⊢
      rw [bif_dec]
      by_cases q : j < 4
      · have d := dd j q
        have wj : IntKind.wrap .i64 (1 + (j : Int) + 1) = 1 + ((j + 1 : Nat) : Int) := by rw [wr (by omega)]; omega
        have skip : ¬ PJ l f m j → OK (rec (m % 24, m / 24, m, 1 + ((j + 1 : Nat) : Int), b, f, ())) _ := fun hp => ih (j + 1) ⟨by omega, fun i hi => by
          rcases (by omega : i < j ∨ i = j) with z | z
          · exact hnp i z
          · subst z; exact hp⟩ (by omega) _ rfl
        rw [if_pos (by omega), small_of (x := m % 24) (by omega), small_of (x := m / 24) (by omega), cond_true, cond_true, step_eq _ _ (by omega) (by omega) j q, wj]
        simp only [Option.bind_some]
        rw [plain_eq _ _ (by omega) (by omega)]
        simp only [Option.bind_some]
        rw [number_eq]
        simp only [Option.bind_some]
        rcases dir_place m hm j q with ⟨hin, hcel⟩ | ⟨hout, hn⟩
        · unfold InG at hin
          unfold cel at hcel
          have hg : GC (nbr m j) := by rw [← hcel]; unfold GC; omega
          rw [if_pos hin, hcel]
          have hg' := hg
          unfold GC at hg'
          have ew : IntKind.wrap .i64 (f.getD m.toNat 0 - 1) = Field.rd f m - 1 := by
            have : f.getD m.toNat 0 = Field.rd f m := rfl
            rw [this, wr (by omega)]
          rw [bif_dec, if_pos (by omega), inR (i := nbr m j) (n := f.length) (by omega), inR (i := m) (n := f.length) (by omega), inR (i := nbr m j) (n := b.length) (by omega), cond_true, cond_true, cond_true, ew]
          refine OK.bif (fun h1 => ?_) (fun h1 => skip (fun hp => beq_eq_false_iff_ne.1 h1 hp.2.1))
          have r1 : Field.rd f (nbr m j) = Field.rd f m - 1 := beq_iff_eq.1 h1
          have ne : nbr m j ≠ m := fun e => by rw [e] at r1; omega
          have fs' := fs (nbr m j) hg ne
          cases hb : b.getD (nbr m j).toNat false with
          | false => exact OK.ret ⟨f, hy, .inr ⟨k', j, q, rfl, ⟨hg, r1, fs'.1 hb⟩, hnp⟩⟩
          | true => exact skip (fun hp => by have := fs'.2 hp.2.2; rw [hb] at this; cases this)
        · unfold InG at hout
          rw [if_neg hout, bif_dec, if_neg (by omega)]
          exact skip (fun hp => by have := hp.1; rw [hn] at this; unfold GC at this; omega)
      · rw [if_neg (by omega)]
        exact OK.ret ⟨f, hy, .inl ⟨rfl, .inr fun i hi => hnp i (by omega)⟩⟩
/-- The document's. -/
theorem blocked_ok (l : List EntT) (h : Ents l) (m : Int) (hm : GC m) : OK (f44 l (m % 24) (m / 24)) fun z => z.1 = stand m l 32 := by
  have hl := h.len
  unfold GC at hm
  unfold f44 f44.L1
  refine OK.loop (fun j : Nat => (l, m % 24, m / 24, (j : Int), stand m l j, ())) (fun j => j ≤ 32) (fun j => 32 - j) (fun rec j hj ih => ?_) 0 rfl (Nat.zero_le _) (by decide)
  dsimp only at hj ih ⊢
  rw [bif_dec]
  by_cases q : (j : Int) < (l.length : Int)
  · have wj : IntKind.wrap .i64 ((j : Int) + 1) = ((j + 1 : Nat) : Int) := by rw [wr (by omega)]; omega
    rw [if_pos q, inR (by omega)]
    simp only [cond_true]
    rw [in_eq, wj, Int.toNat_natCast]
    simp only [Option.bind_some]
    have nx := ih (j + 1) (by omega) (by omega) _ rfl
    rw [stand_succ m l j (by omega)] at nx
    have hlen := stand_len m l j
    have hh := h.at_ j (by omega)
    generalize stand m l j = b at *
    unfold mk at nx
    generalize hE : l.getD j e0 = E at *
    by_cases k0 : E.1 = 0
    · have q0 : (E.1 != 0) = false := by simp [k0]
      rw [if_neg (fun hx => hx.1 k0)] at nx
      rw [q0, cond_false]
      exact nx
    · have q0 : (E.1 != 0) = true := by simpa using k0
      have g := hh.resolve_left k0
      have e1 : E.2.2.2.2.1 = eyy E := rfl
      have e2 : E.2.2.2.1 = exx E := rfl
      rw [e1, e2]
      have eN : IntKind.wrap .i64 (IntKind.wrap .i64 (eyy E * 24) + exx E) = eyy E * 24 + exx E := by
        rw [wr (x := eyy E * 24) (by omega), wr (by omega)]
      rw [q0, cond_true, decide_eq_true g, cond_true, eN, inR (i := eyy E * 24 + exx E) (by omega)]
      simp only [cond_true]
      by_cases k1 : eyy E * 24 + exx E = m
      · have q1 : (exx E != m % 24) = false := by simp; omega
        have q2 : (eyy E != m / 24) = false := by simp; omega
        rw [if_neg (fun hx => hx.2 k1)] at nx
        rw [q1, cond_false, q2, cond_false]
        exact nx
      · rw [if_pos ⟨k0, k1⟩] at nx
        cases q1 : (exx E != m % 24) with
        | true => exact nx
        | false =>
          have := bne_eq_false_iff_eq.1 q1
          have q2 : (eyy E != m / 24) = true := by simp; omega
          rw [cond_false, q2, cond_true]
          exact nx
  · have e : j = 32 := by omega
    subst e
    rw [if_neg q]
    exact OK.ret rfl
theorem rtoward_tw (c : List Int) (hc : CB c) (l : List EntT) (h : Ents l) (m : Int) (hm : GC m) (ts : List Int) (ht : ts.length ≤ 1000000) :
    OK (f34 c l (m % 24) (m / 24) ts) fun z => ∃ f, IsField (opnC c (stand m l 32)) (IsT c ts) f ∧ TW l f m z.1 := by
  have hm' := hm
  unfold GC at hm'
  have hl := h.len
  unfold f34
  have em : IntKind.wrap .i64 (IntKind.wrap .i64 (m / 24 * 24) + m % 24) = m := by rw [wr (x := m / 24 * 24) (by omega), wr (by omega)]; omega
  rw [in_eq, decide_eq_true (by omega)]
  simp only [Option.bind_some, Bool.not_true, cond_false]
  refine OK.callR (blocked_ok l h m hm) fun y1 e1 => ?_
  rw [e1]
  refine OK.callR (rfield_is c hc (stand m l 32) ts ht) fun y hy => ?_
  have hfl := hy.len
  have lo := hy.lo m hm
  have sm := field_small hy m hm
  obtain ⟨f, u⟩ := y
  dsimp only at hy hfl lo sm ⊢
  rw [em, inR (by omega), cond_true, bif_dec]
  by_cases k : f.getD m.toNat 0 < 1
  · rw [if_pos k]
    exact OK.ret ⟨f, hy, .inl ⟨rfl, .inl k⟩⟩
  · rw [if_neg k]
    have k' : 1 ≤ Field.rd f m := by unfold Field.rd; omega
    have efm : f.getD m.toNat 0 = Field.rd f m := rfl
    rw [efm]
    unfold f34.L1
    refine OK.loop (fun j : Nat => (l, m % 24, m / 24, Field.rd f m, 1 + (j : Int), f, ())) (fun j => j ≤ 4 ∧ ∀ i, i < j → ¬ PJ l f m i) (fun j => 4 - j) (fun rec j hj ih => ?_) 0 rfl ⟨Nat.zero_le _, fun i hi => absurd hi (Nat.not_lt_zero i)⟩ (by decide)
    obtain ⟨hj, hnp⟩ := hj
    dsimp only at hj hnp ih ⊢
    rw [bif_dec]
    by_cases q : j < 4
    · have d := dd j q
      have wj : IntKind.wrap .i64 (1 + (j : Int) + 1) = 1 + ((j + 1 : Nat) : Int) := by rw [wr (by omega)]; omega
      have skip : ¬ PJ l f m j → OK (rec (l, m % 24, m / 24, Field.rd f m, 1 + ((j + 1 : Nat) : Int), f, ())) _ := fun hp => ih (j + 1) ⟨by omega, fun i hi => by
        rcases (by omega : i < j ∨ i = j) with z | z
        · exact hnp i z
        · subst z; exact hp⟩ (by omega) _ rfl
      rw [if_pos (by omega), rway_eq j q, wj]
      simp only [Option.bind_some]
      rw [wr (x := m % 24 + ddx j) (by omega), wr (x := m / 24 + ddy j) (by omega), wr (x := (m / 24 + ddy j) * 24) (by omega), wr (x := (m / 24 + ddy j) * 24 + m % 24) (by omega), wr (x := (m / 24 + ddy j) * 24 + m % 24 + ddx j) (by omega), wr (x := Field.rd f m - 1) (by omega), in_eq]
      simp only [Option.bind_some]
      rcases dir_place m hm j q with ⟨hin, hcel⟩ | ⟨hout, hn⟩
      · unfold InG at hin
        unfold cel at hcel
        have hg : GC (nbr m j) := by rw [← hcel]; unfold GC; omega
        have ek : (m / 24 + ddy j) * 24 + m % 24 + ddx j = nbr m j := by omega
        have hg' := hg
        unfold GC at hg'
        rw [decide_eq_true hin, cond_true, ek, inR (by omega), cond_true]
        refine OK.bif (fun h1 => ?_) (fun h1 => skip (fun hp => beq_eq_false_iff_ne.1 h1 hp.2.1))
        have r1 : Field.rd f (nbr m j) = Field.rd f m - 1 := beq_iff_eq.1 h1
        refine OK.callR (rat_iff l (by omega) _ _) fun z hz => ?_
        have x1 : m % 24 + ddx j = nbr m j % 24 := by omega
        have x2 : m / 24 + ddy j = nbr m j / 24 := by omega
        rw [x1, x2] at hz
        rw [bif_dec]
        by_cases zn : z.1 < 0
        · rw [if_pos zn]
          exact OK.ret ⟨f, hy, .inr ⟨k', j, q, rfl, ⟨hg, r1, hz.1 zn⟩, hnp⟩⟩
        · rw [if_neg zn]
          exact skip (fun hp => zn (hz.2 hp.2.2))
      · rw [decide_eq_false (show ¬ (0 ≤ m % 24 + ddx j ∧ m % 24 + ddx j < 24 ∧ 0 ≤ m / 24 + ddy j ∧ m / 24 + ddy j < 16) from hout), cond_false]
        exact skip (fun hp => by have := hp.1; rw [hn] at this; unfold GC at this; omega)
    · rw [if_neg (by omega)]
      exact OK.ret ⟨f, hy, .inl ⟨rfl, .inr fun i hi => hnp i (by omega)⟩⟩
end Go.Proofs.Ytjmbmpeflhkngaa.Nav
/- The law NavAsks, in plain words (own work). -/
namespace Go.Proofs.Ytjmbmpeflhkngaa.Nav
open Go Go.Proofs.Ytjmbmpeflhkngaa.Mx Go.Proofs.Ytjmbmpeflhkngaa.Pc Go.Proofs.Ytjmbmpeflhkngaa.Run Go.Proofs.Ytjmbmpeflhkngaa.Field Go.Proofs.Ytjmbmpeflhkngaa.Gen
set_option linter.unusedVariables false
set_option linter.unusedSimpArgs false
open Classical in
/-- The nearest free cell among the first. -/
noncomputable def best (f : List Int) (l : List EntT) : Nat → Int
  | 0 => -1
  | i + 1 => if 0 ≤ Field.rd f (i : Int) ∧ Free l ((i : Int) % 24) ((i : Int) / 24) ∧ (best f l i < 0 ∨ Field.rd f (i : Int) < Field.rd f (best f l i)) then (i : Int) else best f l i
theorem best_b (f : List Int) (l : List EntT) : ∀ i, -1 ≤ best f l i ∧ best f l i < (i : Int)
  | 0 => by unfold best; omega
  | i + 1 => by
    have := best_b f l i
    unfold best
    split <;> omega
theorem best_yes {f : List Int} {l : List EntT} {i : Nat} (h : 0 ≤ Field.rd f (i : Int) ∧ Free l ((i : Int) % 24) ((i : Int) / 24) ∧ (best f l i < 0 ∨ Field.rd f (i : Int) < Field.rd f (best f l i))) : best f l (i + 1) = i := by
  rw [best, if_pos h]
theorem best_no {f : List Int} {l : List EntT} {i : Nat} (h : ¬ (0 ≤ Field.rd f (i : Int) ∧ Free l ((i : Int) % 24) ((i : Int) / 24) ∧ (best f l i < 0 ∨ Field.rd f (i : Int) < Field.rd f (best f l i)))) : best f l (i + 1) = best f l i := by
  rw [best, if_neg h]
theorem none_field {opn T : Int → Prop} {f : List Int} (hf : IsField opn T f) (hT : ∀ n, GC n → ¬ T n) : ∀ (k : Nat) n, GC n → Field.rd f n ≠ k := by
  intro k
  induction k with
  | zero => intro n hn e; exact hT n hn ((hf.zero n hn).1 e)
  | succ k ih =>
    intro n hn e
    obtain ⟨_, m, hm, _, h2⟩ := hf.up n hn (by omega)
    exact ih m hm (by omega)
theorem best_none {f : List Int} (l : List EntT) (h : ∀ n, GC n → Field.rd f n < 0) : ∀ i : Nat, i ≤ 384 → best f l i = -1
  | 0, _ => rfl
  | i + 1, hi => by
    rw [best_no (fun hh => by have := h (i : Int) ⟨by omega, by omega⟩; omega)]
    exact best_none l h i (by omega)
theorem towards (c : List Int) (hc : CB c) (l : List EntT) (h : Ents l) (x y : Int) (ts : List Int) (ht : ts.length ≤ 1000000) : ∃ v, f70 c l x y ts = some (v, ()) ∧ f34 c l x y ts = some (v, ()) := by
  by_cases hin : 0 ≤ x ∧ x < 24 ∧ 0 ≤ y ∧ y < 16
  · obtain ⟨m, hm, ex, ey⟩ : ∃ m, GC m ∧ x = m % 24 ∧ y = m / 24 := ⟨y * 24 + x, ⟨by omega, by omega⟩, by omega, by omega⟩
    subst ex
    subst ey
    obtain ⟨z, e1, f, hf, h1⟩ := toward_tw c hc l h m hm ts ht
    obtain ⟨z', e2, f', hf', h2⟩ := rtoward_tw c hc l h m hm ts ht
    have ee : f' = f := field_one hf' hf
    rw [ee] at h2
    refine ⟨z.1, e1, ?_⟩
    have : z' = (z.1, ()) := by
      have : z'.1 = z.1 := h2.one h1
      rw [← this]
    rw [e2, this]
  · refine ⟨0, ?_, ?_⟩
    · unfold f70
      rw [number_eq, if_neg hin]
      rfl
    · unfold f34
      rw [in_eq, decide_eq_false hin]
      rfl
theorem rbeside_ok (a b c d : Int) : OK (f33 a b c d) fun y => (∃ j : Nat, j < 4 ∧ y.1 = 1 + (j : Int) ∧ c = IntKind.wrap .i64 (a + ddx j) ∧ d = IntKind.wrap .i64 (b + ddy j)) ∨ (y.1 = 0 ∧ ∀ j : Nat, j < 4 → ¬ (c = IntKind.wrap .i64 (a + ddx j) ∧ d = IntKind.wrap .i64 (b + ddy j))) := by
  unfold f33 f33.L1
  refine OK.loop (fun j : Nat => (a, b, c, d, 1 + (j : Int), ())) (fun j => j ≤ 4 ∧ ∀ k, k < j → ¬ (c = IntKind.wrap .i64 (a + ddx k) ∧ d = IntKind.wrap .i64 (b + ddy k))) (fun j => 4 - j) (fun rec j hj ih => ?_) 0 rfl ⟨Nat.zero_le _, fun k hk => absurd hk (Nat.not_lt_zero k)⟩ (by omega)
  obtain ⟨hj, hn⟩ := hj
  dsimp only at hj hn ih ⊢
  rw [bif_dec]
  by_cases q : j < 4
  · have wj : IntKind.wrap .i64 (1 + (j : Int) + 1) = 1 + ((j + 1 : Nat) : Int) := by rw [wr (by omega)]; omega
    rw [if_pos (by omega), rway_eq j q, wj]
    simp only [Option.bind_some]
    have skip : ¬ (c = IntKind.wrap .i64 (a + ddx j) ∧ d = IntKind.wrap .i64 (b + ddy j)) → OK (rec (a, b, c, d, 1 + ((j + 1 : Nat) : Int), ())) _ := fun h => ih (j + 1) ⟨by omega, fun k hk => by
      rcases (by omega : k < j ∨ k = j) with z | z
      · exact hn k z
      · subst z; exact h⟩ (by omega) _ rfl
    refine OK.bif (fun h1 => ?_) (fun h1 => skip (fun h => by have := beq_eq_false_iff_ne.1 h1; exact this h.1))
    refine OK.bif (fun h2 => ?_) (fun h2 => skip (fun h => by have := beq_eq_false_iff_ne.1 h2; exact this h.2))
    exact OK.ret (.inl ⟨j, q, rfl, beq_iff_eq.1 h1, beq_iff_eq.1 h2⟩)
  · rw [if_neg (by omega)]
    exact OK.ret (.inr ⟨rfl, fun k hk => hn k (by omega)⟩)
theorem besides (a b c d : Int) (ha : -9223372036854775808 ≤ a ∧ a ≤ 9223372036854775807) (hb : -9223372036854775808 ≤ b ∧ b ≤ 9223372036854775807) (hc : -9223372036854775808 ≤ c ∧ c ≤ 9223372036854775807) (hd : -9223372036854775808 ≤ d ∧ d ≤ 9223372036854775807) :
    ∃ v, f69 a b c d = some (v, ()) ∧ f33 a b c d = some (v, ()) := by
  obtain ⟨z, e1, h1⟩ := beside_ok a b c d
  obtain ⟨z', e2, h2⟩ := rbeside_ok a b c d
  have tr : ∀ a c t : Int, -9223372036854775808 ≤ a ∧ a ≤ 9223372036854775807 → -9223372036854775808 ≤ c ∧ c ≤ 9223372036854775807 → -1 ≤ t ∧ t ≤ 1 → (IntKind.wrap .i64 (c - a) = t ↔ c = IntKind.wrap .i64 (a + t)) := fun a c t h1 h2 h3 => by
    rw [wrap_eq, wrap_eq]; omega
  have both : ∀ j, j < 4 → ((IntKind.wrap .i64 (c - a) = ddx j ∧ IntKind.wrap .i64 (d - b) = ddy j) ↔ (c = IntKind.wrap .i64 (a + ddx j) ∧ d = IntKind.wrap .i64 (b + ddy j))) := fun j hj => by
    have q := dd j hj
    rw [tr a c (ddx j) ha hc ⟨q.1, q.2.1⟩, tr b d (ddy j) hb hd ⟨q.2.2.1, q.2.2.2⟩]
  have one : ∀ i : Nat, i < 4 → ∀ j : Nat, j < 4 → ddx i = ddx j → ddy i = ddy j → i = j := by decide
  have key : z'.1 = z.1 := by
    rcases h1 with ⟨j, hj, e, p⟩ | ⟨e, n⟩
    · rcases h2 with ⟨i, hi, e', p'⟩ | ⟨e', n'⟩
      · have p2 := (both i hi).2 p'
        have : i = j := one i hi j hj (by rw [← p.1, ← p2.1]) (by rw [← p.2, ← p2.2])
        subst this; omega
      · exact absurd ((both j hj).1 p) (n' j hj)
    · rcases h2 with ⟨i, hi, e', p'⟩ | ⟨e', n'⟩
      · exact absurd ((both i hi).2 p') (n i hi)
      · omega
  refine ⟨z.1, e1, ?_⟩
  have : z' = (z.1, ()) := by rw [← key]
  rw [e2, this]
end Go.Proofs.Ytjmbmpeflhkngaa.Nav
namespace Go.Proofs.Ytjmbmpeflhkngaa.Pure
end Go.Proofs.Ytjmbmpeflhkngaa.Pure
/- Lines between cells, in plain words: the nearest whole to a part, and the cells on the way (own work). -/
namespace Go.Proofs.Ytjmbmpeflhkngaa.Ln
open Go Go.Proofs.Ytjmbmpeflhkngaa.Mx Go.Proofs.Ytjmbmpeflhkngaa.Pc Go.Proofs.Ytjmbmpeflhkngaa.Run Go.Proofs.Ytjmbmpeflhkngaa.Field
set_option linter.unusedVariables false
set_option linter.unusedSimpArgs false
theorem tmod_cases (a n : Int) (hn : 0 < n) : (Int.tmod a n = a % n ∧ Int.tdiv a n = a / n ∧ (0 ≤ a ∨ a % n = 0)) ∨ (a < 0 ∧ a % n ≠ 0 ∧ Int.tmod a n = a % n - n ∧ Int.tdiv a n = a / n + 1) := by
  rw [Int.tmod_eq_emod, Int.tdiv_eq_ediv]
  by_cases h : 0 ≤ a ∨ n ∣ a
  · left
    rw [if_pos h, if_pos h]
    exact ⟨by simp, by simp, h.imp id Int.emod_eq_zero_of_dvd⟩
  · right
    rw [if_neg h, if_neg h]
    have h0 : ¬ 0 ≤ a := fun x => h (.inl x)
    have h1 : a % n ≠ 0 := fun x => h (.inr (Int.dvd_of_emod_eq_zero x))
    rw [Int.sign_eq_one_of_pos hn]
    exact ⟨by omega, h1, by omega, rfl⟩
/-- The nearest whole to p / n. -/
def nr (p n : Int) : Int := (2 * p + n) / (2 * n)
theorem nr_zero (n : Int) (hn : 0 < n) : nr 0 n = 0 := by
  unfold nr
  exact (Int.ediv_emod_unique (a := 2 * 0 + n) (b := 2 * n) (r := n) (q := 0) (by omega)).2 ⟨by omega, by omega, by omega⟩ |>.1
theorem nr_whole (n d : Int) (hn : 0 < n) : nr (n * d) n = d := by
  unfold nr
  refine ((Int.ediv_emod_unique (a := 2 * (n * d) + n) (b := 2 * n) (r := n) (q := d) (by omega)).2 ⟨?_, by omega, by omega⟩).1
  rw [Int.mul_assoc]
  omega
theorem nr_mono (p q n : Int) (hn : 0 < n) (h : p ≤ q) : nr p n ≤ nr q n := by
  unfold nr
  exact Int.ediv_le_ediv (by omega) (by omega)
/-- On the way from 0 to d in n steps nothing lies beyond. -/
theorem nr_between (k d n : Int) (hn : 0 < n) (h0 : 0 ≤ k) (h1 : k ≤ n) : (0 ≤ d → 0 ≤ nr (k * d) n ∧ nr (k * d) n ≤ d) ∧ (d ≤ 0 → d ≤ nr (k * d) n ∧ nr (k * d) n ≤ 0) := by
  have z := nr_zero n hn
  have w := nr_whole n d hn
  constructor
  · intro hd
    have a := nr_mono 0 (k * d) n hn (Int.mul_nonneg h0 hd)
    have b := nr_mono (k * d) (n * d) n hn (Int.mul_le_mul_of_nonneg_right h1 hd)
    omega
  · intro hd
    have e1 : k * d ≤ 0 := Int.mul_nonpos_of_nonneg_of_nonpos h0 hd
    have e2 : n * d ≤ k * d := Int.mul_le_mul_of_nonpos_right h1 hd
    have a := nr_mono (k * d) 0 n hn e1
    have b := nr_mono (n * d) (k * d) n hn e2
    omega
/-- How many steps a line takes. -/
def stp (dx dy : Int) : Int := max (max dx (-dx)) (max dy (-dy))
/-- The k-th cell of a line. -/
def lc (x0 y0 x1 y1 : Int) (k : Nat) : Int := cel (x0 + nr (k * (x1 - x0)) (stp (x1 - x0) (y1 - y0))) (y0 + nr (k * (y1 - y0)) (stp (x1 - x0) (y1 - y0)))
/-- The first, and so many more. -/
def lcs (x0 y0 x1 y1 : Int) (n : Nat) : List Int := cel x0 y0 :: (List.range n).map fun k => lc x0 y0 x1 y1 (k + 1)
def lineL (x0 y0 x1 y1 : Int) : List Int := lcs x0 y0 x1 y1 (stp (x1 - x0) (y1 - y0)).toNat
theorem lcs_len (x0 y0 x1 y1 : Int) (n : Nat) : (lcs x0 y0 x1 y1 n).length = n + 1 := by simp [lcs]
theorem lcs_succ (x0 y0 x1 y1 : Int) (n : Nat) : lcs x0 y0 x1 y1 (n + 1) = lcs x0 y0 x1 y1 n ++ [lc x0 y0 x1 y1 (n + 1)] := by
  unfold lcs
  rw [List.range_succ, List.map_append]
  rfl
theorem stp_le (x0 y0 x1 y1 : Int) (h0 : InG x0 y0) (h1 : InG x1 y1) : 0 ≤ stp (x1 - x0) (y1 - y0) ∧ stp (x1 - x0) (y1 - y0) ≤ 23 := by
  unfold InG at h0 h1
  unfold stp
  omega
theorem prod_small (k d : Int) (hk : 0 ≤ k ∧ k ≤ 23) (hd : -23 ≤ d ∧ d ≤ 23) : -529 ≤ k * d ∧ k * d ≤ 529 := by
  have a : k * d ≤ k * 23 := Int.mul_le_mul_of_nonneg_left hd.2 hk.1
  have b : k * (-23) ≤ k * d := Int.mul_le_mul_of_nonneg_left hd.1 hk.1
  omega
/-- A cell on the way lies within. -/
theorem on_way (x0 y0 x1 y1 k : Int) (h0 : InG x0 y0) (h1 : InG x1 y1) (hk0 : 0 ≤ k) (hk1 : k ≤ stp (x1 - x0) (y1 - y0)) (hs : 0 < stp (x1 - x0) (y1 - y0)) :
    InG (x0 + nr (k * (x1 - x0)) (stp (x1 - x0) (y1 - y0))) (y0 + nr (k * (y1 - y0)) (stp (x1 - x0) (y1 - y0))) := by
  have a := nr_between k (x1 - x0) _ hs hk0 hk1
  have b := nr_between k (y1 - y0) _ hs hk0 hk1
  generalize nr (k * (x1 - x0)) (stp (x1 - x0) (y1 - y0)) = p at a ⊢
  generalize nr (k * (y1 - y0)) (stp (x1 - x0) (y1 - y0)) = q at b ⊢
  unfold InG at h0 h1 ⊢
  omega
/-- A row of cells' numbers. -/
def InRow (l : List Int) : Prop := l.length ≤ 24 ∧ ∀ i : Nat, i < l.length → GC (l.getD i 0)
theorem line_row (x0 y0 x1 y1 : Int) (h0 : InG x0 y0) (h1 : InG x1 y1) : InRow (lineL x0 y0 x1 y1) := by
  have hle := stp_le x0 y0 x1 y1 h0 h1
  unfold lineL
  refine ⟨by rw [lcs_len]; omega, fun i hi => ?_⟩
  rw [lcs_len] at hi
  cases i with
  | zero =>
    show GC (cel x0 y0)
    unfold InG at h0
    unfold GC cel
    omega
  | succ i =>
    have e : (lcs x0 y0 x1 y1 (stp (x1 - x0) (y1 - y0)).toNat).getD (i + 1) 0 = lc x0 y0 x1 y1 (i + 1) := by
      unfold lcs
      rw [List.getD_eq_getElem?_getD, List.getElem?_cons_succ, List.getElem?_map, List.getElem?_range (by omega)]
      rfl
    rw [e]
    have := on_way x0 y0 x1 y1 ((i + 1 : Nat) : Int) h0 h1 (by omega) (by omega) (by omega)
    unfold InG at this
    unfold lc GC cel
    omega
theorem lc_zero (x0 y0 x1 y1 : Int) (hs : 0 < stp (x1 - x0) (y1 - y0)) : lc x0 y0 x1 y1 0 = cel x0 y0 := by
  unfold lc
  rw [Int.natCast_zero, Int.zero_mul, Int.zero_mul, nr_zero _ hs, Int.add_zero, Int.add_zero]
theorem range_lcs (x0 y0 x1 y1 : Int) (hs : 0 < stp (x1 - x0) (y1 - y0)) (n : Nat) : (List.range (n + 1)).map (lc x0 y0 x1 y1) = lcs x0 y0 x1 y1 n := by
  unfold lcs
  rw [List.range_succ_eq_map, List.map_cons, lc_zero _ _ _ _ hs, List.map_map]
  rfl
end Go.Proofs.Ytjmbmpeflhkngaa.Ln
/- Lines and what is seen, of both texts (own work). -/
namespace Go.Proofs.Ytjmbmpeflhkngaa.Ln
open Go Go.Proofs.Ytjmbmpeflhkngaa.Mx Go.Proofs.Ytjmbmpeflhkngaa.Pc Go.Proofs.Ytjmbmpeflhkngaa.Run Go.Proofs.Ytjmbmpeflhkngaa.Field
set_option linter.unusedVariables false
set_option linter.unusedSimpArgs false
set_option maxHeartbeats 1000000
theorem nr_b (p n : Int) (hn : 0 < n) (hp : -1000 ≤ p ∧ p ≤ 1000) : -3000 ≤ nr p n ∧ nr p n < 3000 := by
  unfold nr
  exact ⟨(Int.le_ediv_iff_mul_le (by omega)).2 (by omega), (Int.ediv_lt_iff_lt_mul (by omega)).2 (by omega)⟩
theorem near_eq (p n : Int) (hn : 0 < n) (hn2 : n ≤ 100) (hp : -1000 ≤ p ∧ p ≤ 1000) : f99 p n = some (nr p n, ()) := by
  have b := nr_b p n hn hp
  unfold f99
  unfold nr at *
  have n1 := Int.emod_nonneg (2 * p + n) (show 2 * n ≠ 0 by omega)
  have n2 := Int.emod_lt_of_pos (2 * p + n) (show 0 < 2 * n by omega)
  rw [wr (x := 2 * n) (by omega), wr (x := 2 * p) (by omega), wr (x := 2 * p + n) (by omega), bif_dec, if_neg (by omega), bif_dec, if_neg (by omega), bif_dec]
  rcases tmod_cases (2 * p + n) (2 * n) (by omega) with ⟨e1, e2, _⟩ | ⟨_, e0, e1, e2⟩
  · rw [e1, e2, if_neg (by omega), wr (by omega)]
    rfl
  · rw [e1, e2, if_pos (by omega), wr (x := (2 * p + n) / (2 * n) + 1) (by omega), wr (by omega)]
    show some (((2 * p + n) / (2 * n) + 1 - 1), ()) = _
    rw [Int.add_sub_cancel]
theorem off_eq (p n : Int) (hn : 0 < n) (hn2 : n ≤ 100) (hp : -1000 ≤ p ∧ p ≤ 1000) : f50 p n = some (nr p n, ()) := (show f50 p n = f99 p n from rfl).trans (near_eq p n hn hn2 hp)
theorem line_eq (x0 y0 x1 y1 : Int) (h0 : InG x0 y0) (h1 : InG x1 y1) : f91 x0 y0 x1 y1 = some (lineL x0 y0 x1 y1, ()) := by
  have hle := stp_le x0 y0 x1 y1 h0 h1
  have h0' := h0
  have h1' := h1
  unfold InG at h0' h1'
  unfold f91
  rw [place_eq x0 y0 (by omega) (by omega) (by omega) (by omega), if_pos h0']
  simp only [Option.bind_some]
  rw [bif_dec, if_neg (by omega), place_eq x1 y1 (by omega) (by omega) (by omega) (by omega), if_pos h1']
  simp only [Option.bind_some]
  have es : maxI (maxI (maxI (IntKind.wrap .i64 (x1 - x0)) (IntKind.wrap .i64 (x0 - x1))) (IntKind.wrap .i64 (y1 - y0))) (IntKind.wrap .i64 (y0 - y1)) = stp (x1 - x0) (y1 - y0) := by
    rw [wr (x := x1 - x0) (by omega), wr (x := x0 - x1) (by omega), wr (x := y1 - y0) (by omega), wr (x := y0 - y1) (by omega), maxI_eq, maxI_eq, maxI_eq]
    unfold stp
    omega
  rw [bif_dec, if_neg (by omega), es]
  refine OK.eq ?_
  unfold f91.L1
  refine OK.loop (fun i : Nat => (x0, y0, x1, y1, stp (x1 - x0) (y1 - y0), (i : Int) + 1, lcs x0 y0 x1 y1 i, ())) (fun i => (i : Int) ≤ stp (x1 - x0) (y1 - y0)) (fun i => 30 - i) (fun rec i hi ih => ?_) 0 rfl (by omega) (by decide)
  dsimp only at hi ih ⊢
  rw [bif_dec]
  by_cases q : (i : Int) + 1 ≤ stp (x1 - x0) (y1 - y0)
  · have hb := on_way x0 y0 x1 y1 ((i : Int) + 1) h0 h1 (by omega) q (by omega)
    have p1 := prod_small ((i : Int) + 1) (x1 - x0) (by omega) (by omega)
    have p2 := prod_small ((i : Int) + 1) (y1 - y0) (by omega) (by omega)
    have hll := lcs_len x0 y0 x1 y1 i
    rw [if_pos q, wr (x := x1 - x0) (by omega), wr (x := y1 - y0) (by omega), wr (x := ((i : Int) + 1) * (x1 - x0)) (by omega), wr (x := ((i : Int) + 1) * (y1 - y0)) (by omega), near_eq _ _ (by omega) (by omega) (by omega), near_eq _ _ (by omega) (by omega) (by omega)]
    simp only [Option.bind_some]
    have hb' := hb
    unfold InG at hb'
    rw [wr (x := x0 + nr (((i : Int) + 1) * (x1 - x0)) (stp (x1 - x0) (y1 - y0))) (by omega), wr (x := y0 + nr (((i : Int) + 1) * (y1 - y0)) (stp (x1 - x0) (y1 - y0))) (by omega), place_eq _ _ (by omega) (by omega) (by omega) (by omega), if_pos hb']
    simp only [Option.bind_some]
    rw [decide_eq_true (by rw [hll]; simp [limit]; omega), cond_true, wr (x := (i : Int) + 1 + 1) (by omega)]
    refine ih (i + 1) (by omega) (by omega) _ ?_
    rw [lcs_succ]
    rfl
  · rw [if_neg q]
    refine OK.ret ?_
    unfold lineL
    rw [show (stp (x1 - x0) (y1 - y0)).toNat = i by omega]
theorem rline_eq (x0 y0 x1 y1 : Int) (h0 : InG x0 y0) (h1 : InG x1 y1) : f42 x0 y0 x1 y1 = some (lineL x0 y0 x1 y1, ()) := by
  have hle := stp_le x0 y0 x1 y1 h0 h1
  have h0' := h0
  have h1' := h1
  unfold InG at h0' h1'
  unfold f42
  rw [in_eq, decide_eq_true h0']
  simp only [Option.bind_some, Bool.not_true, cond_false]
  rw [in_eq, decide_eq_true h1']
  simp only [Option.bind_some, Bool.not_true, cond_false]
  have es : maxI (maxI (IntKind.wrap .i64 (x1 - x0)) (IntKind.wrap .i64 (0 - IntKind.wrap .i64 (x1 - x0)))) (maxI (IntKind.wrap .i64 (y1 - y0)) (IntKind.wrap .i64 (0 - IntKind.wrap .i64 (y1 - y0)))) = stp (x1 - x0) (y1 - y0) := by
    rw [wr (x := x1 - x0) (by omega), wr (x := y1 - y0) (by omega), wr (x := 0 - (x1 - x0)) (by omega), wr (x := 0 - (y1 - y0)) (by omega), maxI_eq, maxI_eq, maxI_eq]
    unfold stp
    omega
  rw [es, wr (x := x1 - x0) (by omega), wr (x := y1 - y0) (by omega)]
  refine OK.eq ?_
  refine OK.bif (fun q => ?_) (fun q => ?_)
  · have q0 : stp (x1 - x0) (y1 - y0) = 0 := beq_iff_eq.1 q
    refine OK.ret ?_
    unfold lineL
    rw [q0, wr (x := y0 * 24) (by omega), wr (by omega)]
    rfl
  · have q0 : stp (x1 - x0) (y1 - y0) ≠ 0 := beq_eq_false_iff_ne.1 q
    have hs : 0 < stp (x1 - x0) (y1 - y0) := by omega
    unfold f42.L1
    refine OK.loop (fun i : Nat => (x0, y0, x1 - x0, y1 - y0, stp (x1 - x0) (y1 - y0), (i : Int), (List.range i).map (lc x0 y0 x1 y1), ())) (fun i => (i : Int) ≤ stp (x1 - x0) (y1 - y0) + 1) (fun i => 30 - i) (fun rec i hi ih => ?_) 0 rfl (by omega) (by decide)
    dsimp only at hi ih ⊢
    rw [bif_dec]
    by_cases q : (i : Int) ≤ stp (x1 - x0) (y1 - y0)
    · have hb := on_way x0 y0 x1 y1 (i : Int) h0 h1 (by omega) q (by omega)
      have p1 := prod_small (i : Int) (x1 - x0) (by omega) (by omega)
      have p2 := prod_small (i : Int) (y1 - y0) (by omega) (by omega)
      have hb' := hb
      unfold InG at hb'
      have n1 := nr_b ((i : Int) * (x1 - x0)) _ hs (by omega)
      have n2 := nr_b ((i : Int) * (y1 - y0)) _ hs (by omega)
      rw [if_pos q, wr (x := (i : Int) * (y1 - y0)) (by omega), wr (x := (i : Int) * (x1 - x0)) (by omega), off_eq _ _ (by omega) (by omega) (by omega), off_eq _ _ (by omega) (by omega) (by omega)]
      simp only [Option.bind_some]
      have e : IntKind.wrap .i64 (IntKind.wrap .i64 (IntKind.wrap .i64 (IntKind.wrap .i64 (y0 + nr ((i : Int) * (y1 - y0)) (stp (x1 - x0) (y1 - y0))) * 24) + x0) + nr ((i : Int) * (x1 - x0)) (stp (x1 - x0) (y1 - y0))) = lc x0 y0 x1 y1 i := by
        unfold lc cel
        generalize nr ((i : Int) * (y1 - y0)) (stp (x1 - x0) (y1 - y0)) = a at *
        generalize nr ((i : Int) * (x1 - x0)) (stp (x1 - x0) (y1 - y0)) = b at *
        rw [wr (x := y0 + a) (by omega), wr (x := (y0 + a) * 24) (by omega), wr (x := (y0 + a) * 24 + x0) (by omega), wr (by omega)]
        omega
      rw [e, decide_eq_true (by simp [limit]; omega), cond_true, wr (x := (i : Int) + 1) (by omega)]
      refine ih (i + 1) (by omega) (by omega) _ ?_
      rw [List.range_succ, List.map_append]
      rfl
    · rw [if_neg q]
      refine OK.ret ?_
      unfold lineL
      rw [show i = (stp (x1 - x0) (y1 - y0)).toNat + 1 by omega, range_lcs _ _ _ _ hs]
/-! ### what is seen -/
def clr (v : Int) : Bool := walkable v && v != 2
theorem clear_eq (v : Int) : f92 v = some (clr v, ()) := by
  unfold f92 clr
  rw [walk_eq]
  cases walkable v <;> rfl
theorem rclear_eq (v : Int) : f43 v = some (clr v, ()) := by
  unfold f43 clr
  rw [rwalk_eq]
  cases walkable v <;> rfl
/-- Nothing stands between. -/
def seesL (c L : List Int) : Bool := ((List.range (L.length - 2)).find? fun i => !clr (c.getD (L.getD (i + 1) 0).toNat 0)).isNone
def sees (c : List Int) (x0 y0 x1 y1 : Int) : Bool := seesL c (lineL x0 y0 x1 y1)
theorem sees_eq (c : List Int) (hc : CB c) (x0 y0 x1 y1 : Int) (h0 : InG x0 y0) (h1 : InG x1 y1) : f78 c x0 y0 x1 y1 = some (sees c x0 y0 x1 y1, ()) := by
  unfold f78 sees
  rw [line_eq _ _ _ _ h0 h1]
  simp only [Option.bind_some]
  have hr := line_row x0 y0 x1 y1 h0 h1
  have hl1 : 1 ≤ (lineL x0 y0 x1 y1).length := by unfold lineL; rw [lcs_len]; omega
  generalize lineL x0 y0 x1 y1 = L at *
  obtain ⟨hr1, hr2⟩ := hr
  unfold f78.L1 seesL
  refine (it_find (x := (c, 1, L, ())) (fun i => !clr (c.getD (L.getD (i + 1) 0).toNat 0)) (L.length - 2) (fun i : Nat => (c, (i : Int) + 1, L, ())) (fun _ => some (false, ())) (some (true, ())) (fun rec i hi => ?_) (by omega) rfl).trans ?_
  · dsimp only
    rw [bif_dec, wr (x := (L.length : Int) - 1) (by omega)]
    by_cases q : i < L.length - 2
    · have g := hr2 (i + 1) (by omega)
      have et : ((i : Int) + 1).toNat = i + 1 := by omega
      have g0 := g.1
      rw [if_pos q, if_pos (by omega), inR (by omega), cond_true, et, kind_eq c hc _ g0]
      simp only [Option.bind_some]
      rw [clear_eq, wr (x := (i : Int) + 1 + 1) (by omega)]
      simp only [Option.bind_some]
      rw [ite_bif]
      rfl
    · rw [if_neg q, if_neg (by omega), decide_eq_true (by omega)]
  · cases (List.range (L.length - 2)).find? fun i => !clr (c.getD (L.getD (i + 1) 0).toNat 0) <;> rfl
theorem rsees_eq (c : List Int) (hc : CB c) (x0 y0 x1 y1 : Int) (h0 : InG x0 y0) (h1 : InG x1 y1) : f29 c x0 y0 x1 y1 = some (sees c x0 y0 x1 y1, ()) := by
  unfold f29 sees
  rw [rline_eq _ _ _ _ h0 h1]
  simp only [Option.bind_some]
  have hr := line_row x0 y0 x1 y1 h0 h1
  have hl1 : 1 ≤ (lineL x0 y0 x1 y1).length := by unfold lineL; rw [lcs_len]; omega
  generalize lineL x0 y0 x1 y1 = L at *
  obtain ⟨hr1, hr2⟩ := hr
  unfold f29.L1 seesL
  refine (it_find (x := (c, 1, L, ())) (fun i => !clr (c.getD (L.getD (i + 1) 0).toNat 0)) (L.length - 2) (fun i : Nat => (c, (i : Int) + 1, L, ())) (fun _ => some (false, ())) (some (true, ())) (fun rec i hi => ?_) (by omega) rfl).trans ?_
  · dsimp only
    rw [bif_dec, wr (x := (i : Int) + 1 + 1) (by omega)]
    by_cases q : i < L.length - 2
    · have g := hr2 (i + 1) (by omega)
      have et : ((i : Int) + 1).toNat = i + 1 := by omega
      have g0 := g
      unfold GC at g0
      rw [if_pos q, if_pos (by omega), inR (by omega), cond_true, cond_true, et, Int.tmod_eq_emod_of_nonneg g0.1, Int.tdiv_eq_ediv_of_nonneg g0.1, wr (x := L.getD (i + 1) 0 / 24) (by omega), at_eq c hc]
      have hin : InG (L.getD (i + 1) 0 % 24) (L.getD (i + 1) 0 / 24) := by unfold InG; omega
      rw [if_pos hin]
      simp only [Option.bind_some]
      have ec : cel (L.getD (i + 1) 0 % 24) (L.getD (i + 1) 0 / 24) = L.getD (i + 1) 0 := by unfold cel; omega
      rw [rclear_eq, ec]
      simp only [Option.bind_some]
      rw [ite_bif]
      rfl
    · rw [if_neg q, if_neg (by omega), decide_eq_true (by omega)]
  · cases (List.range (L.length - 2)).find? fun i => !clr (c.getD (L.getD (i + 1) 0).toNat 0) <;> rfl
end Go.Proofs.Ytjmbmpeflhkngaa.Ln
/- Roots and distances, of both texts (own work). -/
namespace Go.Proofs.Ytjmbmpeflhkngaa.Ln
open Go Go.Proofs.Ytjmbmpeflhkngaa.Mx Go.Proofs.Ytjmbmpeflhkngaa.Pc Go.Proofs.Ytjmbmpeflhkngaa.Run Go.Proofs.Ytjmbmpeflhkngaa.Field
set_option linter.unusedVariables false
set_option linter.unusedSimpArgs false
set_option maxHeartbeats 1000000
set_option maxRecDepth 10000
def IsRoot (n q : Int) : Prop := 0 ≤ q ∧ q * q ≤ n ∧ n < (q + 1) * (q + 1)
theorem root_le {n q r : Int} (hq : IsRoot n q) (hr : IsRoot n r) : q ≤ r := by
  obtain ⟨a, b, _⟩ := hq
  obtain ⟨d, _, e⟩ := hr
  rcases Int.lt_or_le r q with h | h
  · have := Int.mul_le_mul (show r + 1 ≤ q by omega) (show r + 1 ≤ q by omega) (by omega) a
    omega
  · exact h
theorem root_one {n q r : Int} (hq : IsRoot n q) (hr : IsRoot n r) : q = r := by
  have := root_le hq hr
  have := root_le hr hq
  omega
/-- The bit of a round: none behind the last. -/
def bt : Nat → Int
  | 0 => 0
  | m + 1 => 2 ^ m
theorem pw_succ (m : Nat) : (2 : Int) ^ (m + 1) = 2 * 2 ^ m := by rw [Int.pow_succ]; omega
theorem pw_pos (m : Nat) : (1 : Int) ≤ 2 ^ m := by
  have : (0 : Int) < 2 ^ m := Int.pow_pos (by decide)
  omega
theorem half_bt (m : Nat) : (2 : Int) ^ m / 2 = bt m := by
  cases m with
  | zero => rfl
  | succ m =>
    rw [pw_succ]
    show _ = (2 : Int) ^ m
    omega
theorem tab_ok : tabB0.size = 256 ∧ ∀ v, v < 256 → v < 2 ^ (tabB0.data.getD v 0).toNat ∧ (tabB0.data.getD v 0).toNat ≤ 8 := by
  have h : (tabB0.size == 256 && (List.range 256).all fun v => decide (v < 2 ^ (tabB0.data.getD v 0).toNat) && decide ((tabB0.data.getD v 0).toNat ≤ 8)) = true := by decide +kernel
  rw [Bool.and_eq_true] at h
  refine ⟨beq_iff_eq.1 h.1, fun v hv => ?_⟩
  have := List.all_eq_true.1 h.2 v (List.mem_range.2 hv)
  rw [Bool.and_eq_true] at this
  exact ⟨of_decide_eq_true this.1, of_decide_eq_true this.2⟩
theorem wr8 {x : Int} (h : 0 ≤ x ∧ x < 256) : IntKind.wrap .u8 x = x := by
  have e : IntKind.wrap .u8 x = x % 256 := by simp [IntKind.wrap, IntKind.signed, IntKind.bits]
  rw [e]
  omega
theorem len_ok (n : Int) (h : 0 ≤ n ∧ n < 4294967296) : OK (f98 n) fun z => ∃ L : Nat, z.1 = (L : Int) ∧ L ≤ 32 ∧ n < 2 ^ L := by
  unfold f98
  refine OK.callR (R := fun z => ∃ L : Nat, z.1 = (L : Int) ∧ L ≤ 32 ∧ n < 2 ^ L) ?_ (fun z hz => OK.ret hz)
  unfold f101
  obtain ⟨ts, tv⟩ := tab_ok
  have e16 : (2 : Int) ^ Min.min 16 (IntKind.bits .u64) = 65536 := by decide
  have e8 : (2 : Int) ^ Min.min 8 (IntKind.bits .u64) = 256 := by decide
  rw [bif_dec, if_neg (by omega)]
  simp only [Option.bind_some, Sum.elim_inl, e16, e8]
  refine OK.callR (R := fun z => ∃ v s : Nat, z = Sum.inl ((v : Int), (s : Int), ()) ∧ (s = 0 ∨ s = 16) ∧ v < 65536 ∧ n < ((v : Int) + 1) * 2 ^ s) ?_ ?_
  · rw [bif_dec]
    split
    · refine OK.ret ⟨(n / 65536).toNat, 16, ?_, .inr rfl, by omega, by rw [show (2 : Int) ^ 16 = 65536 by decide]; omega⟩
      rw [Int.fdiv_eq_ediv_of_nonneg _ (by decide), show IntKind.wrap .i64 ((0 : Int) + 16) = 16 from wr (by omega), Int.toNat_of_nonneg (by omega)]
      rfl
    · refine OK.ret ⟨n.toNat, 0, ?_, .inl rfl, by omega, by rw [Int.pow_zero]; omega⟩
      rw [Int.toNat_of_nonneg (by omega)]
      rfl
  · rintro z ⟨v, s, rfl, hs, hv, hn⟩
    simp only [Sum.elim_inl]
    refine OK.callR (R := fun z => ∃ v s : Nat, z = Sum.inl ((v : Int), (s : Int), ()) ∧ s ≤ 24 ∧ v < 256 ∧ n < ((v : Int) + 1) * 2 ^ s) ?_ ?_
    · rw [bif_dec]
      split
      · refine OK.ret ⟨v / 256, s + 8, ?_, by omega, by omega, ?_⟩
        · rw [Int.fdiv_eq_ediv_of_nonneg _ (by decide), show IntKind.wrap .i64 ((s : Int) + 8) = ((s + 8 : Nat) : Int) by rw [wr (by omega)]; omega]
          rw [show ((v / 256 : Nat) : Int) = (v : Int) / 256 by omega]
        · rcases hs with rfl | rfl
          · rw [Int.pow_zero] at hn
            rw [show (2 : Int) ^ (0 + 8) = 256 by decide]
            omega
          · rw [show (2 : Int) ^ 16 = 65536 by decide] at hn
            rw [show (2 : Int) ^ (16 + 8) = 16777216 by decide]
            omega
      · exact OK.ret ⟨v, s, rfl, by omega, by omega, hn⟩
    · rintro z ⟨v, s, rfl, hs, hv, hn⟩
      simp only [Sum.elim_inl]
      obtain ⟨t1, t2⟩ := tv v hv
      rw [wr8 (by omega), inR (by rw [ts]; omega), cond_true, Int.toNat_natCast]
      generalize (tabB0.data.getD v 0).toNat = T at *
      refine OK.ret ⟨s + T, ?_, by omega, ?_⟩
      · show IntKind.wrap .i64 ((s : Int) + IntKind.wrap .i64 (T : Int)) = _
        rw [wr (x := (T : Int)) (by omega), wr (by omega)]
        omega
      · have p : ((v : Int) + 1) ≤ 2 ^ T := by
          have : ((v : Nat) : Int) < ((2 ^ T : Nat) : Int) := by exact_mod_cast t1
          rw [Int.natCast_pow] at this
          exact this
        have q : (0 : Int) ≤ 2 ^ s := by have := pw_pos s; omega
        have := Int.mul_le_mul_of_nonneg_right p q
        rw [Int.pow_add, Int.mul_comm]
        omega
theorem u64_of' {n : Int} (h : 0 ≤ n ∧ n < 18446744073709551616) : IntKind.u64.wrap n = n := by
  have e : IntKind.u64.wrap n = n % 18446744073709551616 := by simp [IntKind.wrap, IntKind.signed, IntKind.bits]
  rw [e]
  omega
theorem sq_lt {a b : Int} (ha : 0 ≤ a) (h : a ≤ b) : a * a ≤ b * b := Int.mul_le_mul h h ha (by omega)
theorem root_eq (n : Int) (h : 0 ≤ n ∧ n < 4294967296) : OK (f90 n) fun z => IsRoot n z.1 := by
  unfold f90
  rw [bif_dec]
  by_cases q : n < 1
  · rw [if_pos q]
    have : n = 0 := by omega
    subst this
    exact OK.ret ⟨by decide, by decide, by decide⟩
  · rw [if_neg q, u64_of' (by omega)]
    refine OK.callR (len_ok n h) fun z hz => ?_
    obtain ⟨L, e, hL, hn⟩ := hz
    have e2 : IntKind.wrap .i64 (Int.tdiv (L : Int) 2) = ((L / 2 : Nat) : Int) := by
      rw [Int.tdiv_eq_ediv_of_nonneg (by omega), wr (by omega)]
      omega
    have e64 : Min.min (L / 2) (IntKind.bits .i64) = L / 2 := by
      have : IntKind.bits .i64 = 64 := rfl
      omega
    rw [e, e2, bif_dec, if_neg (by omega), Int.toNat_natCast, e64, Int.one_mul]
    have hpow : ∀ L : Nat, L ≤ 32 → (2 : Int) ^ L ≤ 2 ^ (L / 2 + 1) * 2 ^ (L / 2 + 1) ∧ (2 : Int) ^ (L / 2 + 1) ≤ 131072 := by decide
    obtain ⟨p1, p2⟩ := hpow L hL
    have b1 := pw_succ (L / 2)
    have b2 := pw_pos (L / 2)
    rw [wr (by omega)]
    unfold f90.L1
    refine OK.loop (fun j : Nat × Int => (n, j.2, bt j.1, ())) (fun j => 0 ≤ j.2 ∧ j.2 * j.2 ≤ n ∧ n < (j.2 + 2 ^ j.1) * (j.2 + 2 ^ j.1) ∧ j.2 + 2 ^ j.1 ≤ 131072) (fun j => j.1) (fun rec j hj ih => ?_) (L / 2 + 1, 0) rfl ⟨by dsimp only; omega, by dsimp only; omega, by dsimp only; rw [Int.zero_add]; omega, by dsimp only; omega⟩ (by dsimp only; omega)
    obtain ⟨m, r⟩ := j
    obtain ⟨h0, h1, h2, h3⟩ := hj
    dsimp only at h0 h1 h2 h3 ih ⊢
    cases m with
    | zero =>
      rw [bif_dec, if_neg (by unfold bt; decide)]
      rw [Int.pow_zero] at h2
      exact OK.ret ⟨h0, h1, h2⟩
    | succ m =>
      have pm := pw_pos m
      have ps := pw_succ m
      rw [ps] at h2 h3
      have eb : bt (m + 1) = 2 ^ m := rfl
      have ef : Int.fdiv (2 ^ m) (2 ^ Min.min 1 (IntKind.bits .i64)) = bt m := by
        rw [show (2 : Int) ^ Min.min 1 (IntKind.bits .i64) = 2 by decide, Int.fdiv_eq_ediv_of_nonneg _ (by decide), half_bt]
      rw [bif_dec, eb, if_pos (by omega), wr (x := r + 2 ^ m) (by omega), bif_dec, if_neg (by omega), bif_dec, ef, Int.tdiv_eq_ediv_of_nonneg h.1]
      have kd := Int.ediv_le_self (r + 2 ^ m) h.1
      have kn := Int.ediv_nonneg h.1 (show 0 ≤ r + 2 ^ m by omega)
      rw [wr (by omega)]
      have key : r + 2 ^ m ≤ n / (r + 2 ^ m) ↔ (r + 2 ^ m) * (r + 2 ^ m) ≤ n := Int.le_ediv_iff_mul_le (by omega)
      by_cases c : (r + 2 ^ m) * (r + 2 ^ m) ≤ n
      · rw [if_pos (key.2 c)]
        refine ih (m, r + 2 ^ m) ⟨by dsimp only; omega, c, ?_, by dsimp only; omega⟩ (by dsimp only; omega) _ rfl
        dsimp only
        rw [show r + 2 ^ m + 2 ^ m = r + 2 * 2 ^ m by omega]
        exact h2
      · rw [if_neg (fun x => c (key.1 x))]
        exact ih (m, r) ⟨h0, h1, by dsimp only; omega, by dsimp only; omega⟩ (by dsimp only; omega) _ rfl
theorem rroot_eq (n : Int) (h : 0 ≤ n ∧ n < 4294967296) : OK (f41 n) fun z => IsRoot n z.1 := by
  unfold f41 f41.L1
  have e32 : (2 : Int) ^ 32 = 4294967296 := by decide
  refine OK.loop (fun j : Nat × Int => (n, j.2, bt j.1, ())) (fun j => 0 ≤ j.2 ∧ j.2 * j.2 ≤ n ∧ n < (j.2 + 2 ^ j.1) * (j.2 + 2 ^ j.1) ∧ j.2 + 2 ^ j.1 ≤ 4294967296) (fun j => j.1) (fun rec j hj ih => ?_) (32, 0) rfl ⟨by dsimp only; omega, by dsimp only; omega, by dsimp only; rw [e32]; omega, by dsimp only; rw [e32]; omega⟩ (by dsimp only; decide)
  obtain ⟨m, r⟩ := j
  obtain ⟨h0, h1, h2, h3⟩ := hj
  dsimp only at h0 h1 h2 h3 ih ⊢
  cases m with
  | zero =>
    rw [bif_dec, if_neg (by unfold bt; decide)]
    rw [Int.pow_zero] at h2
    exact OK.ret ⟨h0, h1, h2⟩
  | succ m =>
    have pm := pw_pos m
    have ps := pw_succ m
    rw [ps] at h2 h3
    have eb : bt (m + 1) = 2 ^ m := rfl
    have ef : IntKind.wrap .i64 (Int.tdiv (2 ^ m) 2) = bt m := by
      rw [Int.tdiv_eq_ediv_of_nonneg (by omega), wr (by omega), half_bt]
    rw [bif_dec, eb, if_pos (by omega), wr (x := r + 2 ^ m) (by omega), bif_dec, ef]
    have no : ¬ (r + 2 ^ m) * (r + 2 ^ m) ≤ n → OK (rec (n, r, bt m, ())) fun z => IsRoot n z.1 := fun c => ih (m, r) ⟨h0, h1, by dsimp only; omega, by dsimp only; omega⟩ (by dsimp only; omega) _ rfl
    by_cases c0 : r + 2 ^ m ≤ 3037000499
    · have s1 := sq_lt (show 0 ≤ r + 2 ^ m by omega) c0
      have s2 := Int.mul_nonneg (show 0 ≤ r + 2 ^ m by omega) (show 0 ≤ r + 2 ^ m by omega)
      rw [if_pos c0, bif_dec, wr (x := (r + 2 ^ m) * (r + 2 ^ m)) (by omega)]
      by_cases c : (r + 2 ^ m) * (r + 2 ^ m) ≤ n
      · rw [if_pos c]
        refine ih (m, r + 2 ^ m) ⟨by dsimp only; omega, c, ?_, by dsimp only; omega⟩ (by dsimp only; omega) _ rfl
        dsimp only
        rw [show r + 2 ^ m + 2 ^ m = r + 2 * 2 ^ m by omega]
        exact h2
      · rw [if_neg c]
        exact no c
    · rw [if_neg c0]
      refine no fun c => ?_
      have s1 := sq_lt (show (0 : Int) ≤ 3037000499 by decide) (show 3037000499 ≤ r + 2 ^ m by omega)
      omega
theorem sq_b {d : Int} (h : -23 ≤ d ∧ d ≤ 23) : 0 ≤ d * d ∧ d * d ≤ 529 := by
  rcases Int.le_total 0 d with q | q
  · have := sq_lt q h.2
    have := Int.mul_nonneg q q
    omega
  · have := sq_lt (show 0 ≤ -d by omega) (show -d ≤ 23 by omega)
    have := Int.mul_nonneg (show 0 ≤ -d by omega) (show 0 ≤ -d by omega)
    rw [Int.neg_mul_neg] at *
    omega
/-- How far it is. -/
noncomputable def dst (dx dy : Int) : Int := ((f28 dx dy).getD (0, ())).1
theorem dst_all (dx dy : Int) (hx : -23 ≤ dx ∧ dx ≤ 23) (hy : -23 ≤ dy ∧ dy ≤ 23) : f77 dx dy = some (dst dx dy, ()) ∧ f28 dx dy = some (dst dx dy, ()) ∧ IsRoot (65536 * (dx * dx + dy * dy)) (dst dx dy) := by
  have a := sq_b hx
  have b := sq_b hy
  have ea : IntKind.wrap .i64 (65536 * IntKind.wrap .i64 (IntKind.wrap .i64 (dx * dx) + IntKind.wrap .i64 (dy * dy))) = 65536 * (dx * dx + dy * dy) := by
    rw [wr (x := dx * dx) (by omega), wr (x := dy * dy) (by omega), wr (x := dx * dx + dy * dy) (by omega), wr (by omega)]
  obtain ⟨z1, e1, r1⟩ := root_eq (65536 * (dx * dx + dy * dy)) (by omega)
  obtain ⟨z2, e2, r2⟩ := rroot_eq (65536 * (dx * dx + dy * dy)) (by omega)
  have er : f28 dx dy = some (z2.1, ()) := by
    unfold f28
    rw [ea, e2]
    rfl
  have ed : dst dx dy = z2.1 := by unfold dst; rw [er]; rfl
  refine ⟨?_, by rw [ed]; exact er, by rw [ed]; exact r2⟩
  unfold f77
  rw [ea, e1, ed, root_one r2 r1]
  rfl
theorem dst_one (dx dy : Int) (h : (dx = 0 ∧ (dy = 1 ∨ dy = -1)) ∨ (dy = 0 ∧ (dx = 1 ∨ dx = -1))) : dst dx dy = 256 := by
  refine root_one (dst_all dx dy (by omega) (by omega)).2.2 ?_
  rcases h with ⟨rfl, rfl | rfl⟩ | ⟨rfl, rfl | rfl⟩ <;> exact ⟨by decide, by decide, by decide⟩
end Go.Proofs.Ytjmbmpeflhkngaa.Ln
/- What monsters and robots want, in plain words; both texts want it (own work). -/
namespace Go.Proofs.Ytjmbmpeflhkngaa.Mn
open Go Go.Proofs.Ytjmbmpeflhkngaa.Mx Go.Proofs.Ytjmbmpeflhkngaa.Pc Go.Proofs.Ytjmbmpeflhkngaa.Run Go.Proofs.Ytjmbmpeflhkngaa.Field Go.Proofs.Ytjmbmpeflhkngaa.Gen Go.Proofs.Ytjmbmpeflhkngaa.GenL Go.Proofs.Ytjmbmpeflhkngaa.Fl Go.Proofs.Ytjmbmpeflhkngaa.Wd Go.Proofs.Ytjmbmpeflhkngaa.Ft Go.Proofs.Ytjmbmpeflhkngaa.Ln Go.Proofs.Ytjmbmpeflhkngaa.Nav
set_option linter.unusedVariables false
set_option linter.unusedSimpArgs false
set_option maxHeartbeats 2000000
def I64 (x : Int) : Prop := -9223372036854775808 ≤ x ∧ x ≤ 9223372036854775807
/-- Who stands on the grid. -/
theorem in_grid {l : List EntT} (h : Ents l) {i : Nat} (hi : i < 32) (hk : kd (l.getD i eN) ≠ 0) : InG (ex (l.getD i eN)) (ey (l.getD i eN)) := by
  rcases h.at_ i (by rw [h.len]; exact hi) with q | q
  · exact absurd q hk
  · exact q
def atC (c : List Int) (x y : Int) : Int := if 0 ≤ x ∧ x < 24 ∧ 0 ≤ y ∧ y < 16 then Field.rd c (y * 24 + x) else 0
theorem rat_c (c : List Int) (hc : CB c) (x y : Int) : f19 c x y = some (atC c x y, ()) := by
  rw [at_eq c hc]
  unfold atC InG cel
  by_cases h : 0 ≤ x ∧ x < 24 ∧ 0 ≤ y ∧ y < 16
  · rw [if_pos h, if_pos h]
  · rw [if_neg h, if_neg h]
theorem pat_c (c : List Int) (hc : CB c) (x y : Int) (hx : -1000 ≤ x ∧ x ≤ 1000) (hy : -1000 ≤ y ∧ y ≤ 1000) : f74 c x y = some (atC c x y, ()) := by
  unfold f74 atC
  rw [place_eq x y hx.1 hx.2 hy.1 hy.2]
  simp only [Option.bind_some]
  by_cases h : 0 ≤ x ∧ x < 24 ∧ 0 ≤ y ∧ y < 16
  · rw [if_pos h, if_pos h, kind_eq c hc _ (by omega)]
    rfl
  · rw [if_neg h, if_neg h]
    rfl
theorem cel_mod {x y : Int} (h : InG x y) : cel x y % 24 = x ∧ cel x y / 24 = y ∧ GC (cel x y) := by
  unfold InG at h
  unfold cel GC
  omega
/-! ### ways -/
noncomputable def besI (a b x y : Int) : Int := ((f33 a b x y).getD (0, ())).1
def IsBes (a b x y v : Int) : Prop := (∃ j : Nat, j < 4 ∧ v = 1 + (j : Int) ∧ x - a = ddx j ∧ y - b = ddy j) ∨ (v = 0 ∧ ∀ j : Nat, j < 4 → ¬ (x - a = ddx j ∧ y - b = ddy j))
theorem bes_all {a b x y : Int} (h0 : InG a b) (h1 : InG x y) : f69 a b x y = some (besI a b x y, ()) ∧ f33 a b x y = some (besI a b x y, ()) ∧ IsBes a b x y (besI a b x y) := by
  unfold InG at h0 h1
  obtain ⟨v, e1, e2⟩ := besides a b x y (by omega) (by omega) (by omega) (by omega)
  have ev : besI a b x y = v := by unfold besI; rw [e2]; rfl
  rw [ev]
  refine ⟨e1, e2, ?_⟩
  obtain ⟨z, ez, hz⟩ := beside_ok a b x y
  rw [e1] at ez
  injection ez with ez
  subst ez
  rw [wr (x := x - a) (by omega), wr (x := y - b) (by omega)] at hz
  exact hz
noncomputable def towI (c : List Int) (l : List EntT) (m t : Int) : Int := ((f34 c l (m % 24) (m / 24) [t]).getD (0, ())).1
theorem tow_all {c : List Int} (hc : CB c) {l : List EntT} (h : Ents l) {m : Int} (hm : GC m) (t : Int) : f70 c l (m % 24) (m / 24) [t] = some (towI c l m t, ()) ∧ f34 c l (m % 24) (m / 24) [t] = some (towI c l m t, ()) ∧
    ∃ f, IsField (opnC c (stand m l 32)) (IsT c [t]) f ∧ TW l f m (towI c l m t) := by
  obtain ⟨v, e1, e2⟩ := towards c hc l h (m % 24) (m / 24) [t] (by simp)
  have ev : towI c l m t = v := by unfold towI; rw [e2]; rfl
  rw [ev]
  refine ⟨e1, e2, ?_⟩
  obtain ⟨z, ez, hz⟩ := toward_tw c hc l h m hm [t] (by simp)
  rw [e1] at ez
  injection ez with ez
  subst ez
  exact hz
theorem tow_at {c : List Int} (hc : CB c) {l : List EntT} (h : Ents l) {x y : Int} (hg : InG x y) (t : Int) : f70 c l x y [t] = some (towI c l (cel x y) t, ()) ∧ f34 c l x y [t] = some (towI c l (cel x y) t, ()) := by
  obtain ⟨a, b, d⟩ := cel_mod hg
  obtain ⟨e1, e2, _⟩ := tow_all hc h d t
  rw [a, b] at e1 e2
  exact ⟨e1, e2⟩
theorem ahead_eq (e : EntT) (hg : InG (ex e) (ey e)) (j : Nat) (hj : j < 4) : f72 e.1 e.2.1 e.2.2.1 e.2.2.2.1 e.2.2.2.2.1 e.2.2.2.2.2.1 e.2.2.2.2.2.2.1 e.2.2.2.2.2.2.2.1 e.2.2.2.2.2.2.2.2.1 e.2.2.2.2.2.2.2.2.2.1 e.2.2.2.2.2.2.2.2.2.2 (1 + (j : Int)) = some (ex e + ddx j, ey e + ddy j, ()) := by
  have d := dd j hj
  unfold InG ex ey at hg
  unfold f72
  rw [way_eq j hj]
  simp only [Option.bind_some]
  rw [small_of (x := e.2.2.2.1) (by omega), small_of (x := e.2.2.2.2.1) (by omega), small_of (x := ddx j) (by omega), small_of (x := ddy j) (by omega), small_of (x := e.2.2.2.1 + ddx j) (by omega), small_of (x := e.2.2.2.2.1 + ddy j) (by omega)]
  rfl
/-! ### monsters -/
section
variable (c : List Int) (l : List EntT)
/-- One seat's hero more. -/
noncomputable def seenS (e : EntT) (b : Int × Int) (s : Nat) : Int × Int :=
  if heroE' l s < 0 then b else
  if dst (ex (l.getD (heroE' l s).toNat eN) - ex e) (ey (l.getD (heroE' l s).toNat eN) - ey e) ≤ 1536 ∧ (b.1 < 0 ∨ dst (ex (l.getD (heroE' l s).toNat eN) - ex e) (ey (l.getD (heroE' l s).toNat eN) - ey e) < b.2) ∧ sees c (ex e) (ey e) (ex (l.getD (heroE' l s).toNat eN)) (ey (l.getD (heroE' l s).toNat eN)) = true
  then (heroE' l s, dst (ex (l.getD (heroE' l s).toNat eN) - ex e) (ey (l.getD (heroE' l s).toNat eN) - ey e)) else b
noncomputable def seen (e : EntT) (n : Nat) : Int × Int := (List.range n).foldl (seenS c l e) (-1, 0)
theorem seen_succ (e : EntT) (n : Nat) : seen c l e (n + 1) = seenS c l e (seen c l e n) n := by
  unfold seen
  rw [List.range_succ, List.foldl_append]
  rfl
noncomputable def monT (sd fr row : Int) (e : EntT) (b : Int) : Int :=
  if 0 ≤ b then
    if besI (ex e) (ey e) (ex (l.getD b.toNat eN)) (ey (l.getD b.toNat eN)) ≠ 0 then besI (ex e) (ey e) (ex (l.getD b.toNat eN)) (ey (l.getD b.toNat eN))
    else towI c l (cel (ex e) (ey e)) (ey (l.getD b.toNat eN) * 24 + ex (l.getD b.toNat eN))
  else if 1 ≤ dval 8 sd [fr, row, 90] ∧ dval 8 sd [fr, row, 90] ≤ 4 ∧ walkable (atC c (ex e + ddx (dval 8 sd [fr, row, 90] - 1).toNat) (ey e + ddy (dval 8 sd [fr, row, 90] - 1).toNat)) = true ∧
      atE l (ex e + ddx (dval 8 sd [fr, row, 90] - 1).toNat) (ey e + ddy (dval 8 sd [fr, row, 90] - 1).toNat) < 0 then dval 8 sd [fr, row, 90] else 0
/-- What the monster of a row wants. -/
noncomputable def monI (sd fr row : Int) : Int :=
  if row < 0 ∨ 32 ≤ row ∨ kd (l.getD row.toNat eN) = 0 ∨ kd (l.getD row.toNat eN) = 1 then 0
  else monT c l sd fr row (l.getD row.toNat eN) (seen c l (l.getD row.toNat eN) 4).1
end
theorem hero_at {l : List EntT} (hl : l.length = 32) {s : Int} (h : ¬ heroE' l s < 0) : ∃ r : Nat, r < 32 ∧ heroE' l s = r ∧ kd (l.getD r eN) = 1 ∧ st (l.getD r eN) = s ∧ ∀ j, j < r → ¬ (kd (l.getD j eN) = 1 ∧ st (l.getD j eN) = s) := by
  obtain ⟨k, h1, h2, h3, h4⟩ := find_pos h
  unfold isHero at h3
  rw [Bool.and_eq_true, beq_iff_eq, beq_iff_eq] at h3
  refine ⟨k, by omega, h2, h3.1, h3.2, fun j hj hh => ?_⟩
  have := h4 j hj
  unfold isHero at this
  rw [hh.1, hh.2] at this
  simp at this
theorem seen_b (c : List Int) {l : List EntT} (hl : l.length = 32) (e : EntT) : ∀ n, (seen c l e n).1 = -1 ∨ ∃ s : Nat, s < n ∧ ¬ heroE' l s < 0 ∧ (seen c l e n).1 = heroE' l s ∧ sees c (ex e) (ey e) (ex (l.getD (heroE' l s).toNat eN)) (ey (l.getD (heroE' l s).toNat eN)) = true
  | 0 => .inl rfl
  | n + 1 => by
    rw [seen_succ]
    have ih := seen_b c hl e n
    have keep : (seen c l e n).1 = -1 ∨ ∃ s : Nat, s < n + 1 ∧ ¬ heroE' l s < 0 ∧ (seen c l e n).1 = heroE' l s ∧ sees c (ex e) (ey e) (ex (l.getD (heroE' l s).toNat eN)) (ey (l.getD (heroE' l s).toNat eN)) = true := by
      rcases ih with q | ⟨s, a, b, d⟩
      · exact .inl q
      · exact .inr ⟨s, by omega, b, d⟩
    unfold seenS
    split
    · exact keep
    · rename_i h0
      split
      · rename_i h1
        exact .inr ⟨n, by omega, h0, rfl, h1.2.2⟩
      · exact keep
section
variable (a0 a1 a2 a3 a7 a8 a9 a10 : Int) {c : List Int} (hc : CB c) {l : List EntT} (hE : Ents l) (its : List ItT)
include hc hE
theorem prey_eq (e : EntT) (he : InG (ex e) (ey e)) : f68 a0 a1 a2 a3 c l its a7 a8 a9 a10 e.1 e.2.1 e.2.2.1 e.2.2.2.1 e.2.2.2.2.1 e.2.2.2.2.2.1 e.2.2.2.2.2.2.1 e.2.2.2.2.2.2.2.1 e.2.2.2.2.2.2.2.2.1 e.2.2.2.2.2.2.2.2.2.1 e.2.2.2.2.2.2.2.2.2.2 = some ((seen c l e 4).1, ()) := by
  have hl := hE.len
  refine OK.eq ?_
  unfold f68 f68.L1
  refine OK.loop (fun j : Nat => ((seen c l e j).1, (seen c l e j).2, (j : Int), a0, a1, a2, a3, c, l, its, a7, a8, a9, a10, e.1, e.2.1, e.2.2.1, e.2.2.2.1, e.2.2.2.2.1, e.2.2.2.2.2.1, e.2.2.2.2.2.2.1, e.2.2.2.2.2.2.2.1, e.2.2.2.2.2.2.2.2.1, e.2.2.2.2.2.2.2.2.2.1, e.2.2.2.2.2.2.2.2.2.2, ())) (fun j => j ≤ 4) (fun j => 4 - j) (fun rec j hj ih => ?_) 0 rfl (Nat.zero_le _) (by decide)
  dsimp only at hj ih ⊢
  rw [bif_dec]
  by_cases q : j < 4
  · have nx := ih (j + 1) (by omega) (by omega) _ rfl
    rw [seen_succ] at nx
    rw [if_pos (by omega), hero_eq l hl, wr (x := (j : Int) + 1) (by omega)]
    simp only [Option.bind_some]
    rw [bif_dec]
    unfold seenS at nx
    by_cases h0 : heroE' l j < 0
    · rw [if_pos h0] at nx
      rw [if_pos h0]
      exact nx
    · rw [if_neg h0] at nx
      obtain ⟨r, hr, er, hk, _⟩ := hero_at hl h0
      have hg := in_grid hE hr (by rw [hk]; decide)
      rw [er, Int.toNat_natCast] at nx
      rw [if_neg h0, er, inR (by omega), cond_true, Int.toNat_natCast]
      have hg' := hg
      unfold InG at hg' he
      have ex1 : (l.getD r (0, 0, 0, 0, 0, 0, 0, 0, 0, 0, 0)).2.2.2.1 = ex (l.getD r eN) := rfl
      have ey1 : (l.getD r (0, 0, 0, 0, 0, 0, 0, 0, 0, 0, 0)).2.2.2.2.1 = ey (l.getD r eN) := rfl
      have ex2 : e.2.2.2.1 = ex e := rfl
      have ey2 : e.2.2.2.2.1 = ey e := rfl
      rw [ex1, ey1, ex2, ey2, wr (x := ex (l.getD r eN) - ex e) (by omega), wr (x := ey (l.getD r eN) - ey e) (by omega), (dst_all _ _ (by omega) (by omega)).1]
      simp only [Option.bind_some]
      have hs := sees_eq c hc (ex e) (ey e) _ _ he hg
      rw [hs]
      simp only [Option.bind_some]
      generalize dst (ex (l.getD r eN) - ex e) (ey (l.getD r eN) - ey e) = D at *
      rw [bif_dec, bif_dec, bif_dec]
      rw [ex2, ey2] at nx
      generalize sees c (ex e) (ey e) (ex (l.getD r eN)) (ey (l.getD r eN)) = S at *
      by_cases d1 : D ≤ 1536
      · rw [if_pos d1]
        by_cases d2 : (seen c l e j).1 < 0
        · rw [if_pos d2]
          cases S with
          | true => rw [if_pos ⟨d1, .inl d2, rfl⟩] at nx; exact nx
          | false => rw [if_neg (fun z => by cases z.2.2)] at nx; exact nx
        · rw [if_neg d2]
          by_cases d3 : D < (seen c l e j).2
          · rw [if_pos d3]
            cases S with
            | true => rw [if_pos ⟨d1, .inr d3, rfl⟩] at nx; exact nx
            | false => rw [if_neg (fun z => by cases z.2.2)] at nx; exact nx
          · rw [if_neg d3]
            rw [if_neg (fun z => by rcases z.2.1 with w | w <;> contradiction)] at nx
            exact nx
      · rw [if_neg d1]
        rw [if_neg (fun z => d1 z.1)] at nx
        exact nx
  · have : j = 4 := by omega
    subst this
    rw [if_neg (by omega)]
    exact OK.ret rfl
omit hc hE in
theorem ent_eta (e : EntT) : (e.1, e.2.1, e.2.2.1, e.2.2.2.1, e.2.2.2.2.1, e.2.2.2.2.2.1, e.2.2.2.2.2.2.1, e.2.2.2.2.2.2.2.1, e.2.2.2.2.2.2.2.2.1, e.2.2.2.2.2.2.2.2.2.1, e.2.2.2.2.2.2.2.2.2.2) = e := rfl
end
end Go.Proofs.Ytjmbmpeflhkngaa.Mn
/- What monsters want: both texts (own work). -/
namespace Go.Proofs.Ytjmbmpeflhkngaa.Mn
open Go Go.Proofs.Ytjmbmpeflhkngaa.Mx Go.Proofs.Ytjmbmpeflhkngaa.Pc Go.Proofs.Ytjmbmpeflhkngaa.Run Go.Proofs.Ytjmbmpeflhkngaa.Field Go.Proofs.Ytjmbmpeflhkngaa.Gen Go.Proofs.Ytjmbmpeflhkngaa.GenL Go.Proofs.Ytjmbmpeflhkngaa.Fl Go.Proofs.Ytjmbmpeflhkngaa.Wd Go.Proofs.Ytjmbmpeflhkngaa.Ft Go.Proofs.Ytjmbmpeflhkngaa.Ln Go.Proofs.Ytjmbmpeflhkngaa.Nav
set_option linter.unusedVariables false
set_option linter.unusedSimpArgs false
set_option maxHeartbeats 2000000
section
variable (a0 a1 a2 a3 a7 a8 a9 a10 : Int) {c : List Int} (hc : CB c) {l : List EntT} (hE : Ents l) (its : List ItT)
include hc hE
omit hc in
theorem seen_row {e : EntT} {n : Nat} (h : 0 ≤ (seen c l e n).1) : ∃ r : Nat, r < 32 ∧ (seen c l e n).1 = r ∧ kd (l.getD r eN) = 1 ∧ InG (ex (l.getD r eN)) (ey (l.getD r eN)) ∧ sees c (ex e) (ey e) (ex (l.getD r eN)) (ey (l.getD r eN)) = true := by
  rcases seen_b c hE.len e n with q | ⟨s, _, h0, h1, h2⟩
  · omega
  · obtain ⟨r, hr, er, hk, _⟩ := hero_at hE.len h0
    refine ⟨r, hr, h1.trans er, hk, in_grid hE hr (by rw [hk]; decide), ?_⟩
    rw [er, Int.toNat_natCast] at h2
    exact h2
theorem wants_eq (row : Int) : f67 row a0 a1 a2 a3 c l its a7 a8 a9 a10 = some (monI c l a0 a1 row, ()) := by
  have hl := hE.len
  have lm : minI ((l.length : Nat) : Int) 32 = 32 := by rw [minI_eq]; omega
  unfold f67 monI
  rw [bif_dec]
  by_cases q0 : row < 0
  · rw [if_pos q0, if_pos (.inl q0)]
  rw [if_neg q0, bif_dec, lm]
  by_cases q1 : row ≥ 32
  · rw [if_pos q1, if_pos (.inr (.inl q1))]
  rw [if_neg q1, inR (by omega), cond_true]
  have hr : row.toNat < 32 := by omega
  have hg := fun hk => in_grid hE hr hk
  generalize hEe : l.getD row.toNat eN = E at *
  have ek : E.1 = kd E := rfl
  rw [ek]
  by_cases k0 : kd E = 0
  · rw [beq_iff_eq.2 k0, cond_true, if_pos (.inr (.inr (.inl k0)))]
  rw [beq_eq_false_iff_ne.2 k0, cond_false]
  by_cases k1 : kd E = 1
  · rw [beq_iff_eq.2 k1, cond_true, if_pos (.inr (.inr (.inr k1)))]
  rw [beq_eq_false_iff_ne.2 k1, cond_false, if_neg (by rintro (z | z | z | z) <;> contradiction)]
  have hG := hg k0
  have hG' := hG
  unfold InG at hG'
  rw [← ek, prey_eq a0 a1 a2 a3 a7 a8 a9 a10 hc hE its E hG]
  simp only [Option.bind_some]
  have eX : E.2.2.2.1 = ex E := rfl
  have eY : E.2.2.2.2.1 = ey E := rfl
  unfold monT
  rw [bif_dec]
  by_cases p : (seen c l E 4).1 ≥ 0
  · obtain ⟨r, hr32, er, hk, hgr, _⟩ := seen_row hE p
    have hgr' := hgr
    unfold InG at hgr'
    have fX : (l.getD r (0, 0, 0, 0, 0, 0, 0, 0, 0, 0, 0)).2.2.2.1 = ex (l.getD r eN) := rfl
    have fY : (l.getD r (0, 0, 0, 0, 0, 0, 0, 0, 0, 0, 0)).2.2.2.2.1 = ey (l.getD r eN) := rfl
    rw [if_pos p, if_pos p, er, inR (by omega), cond_true, Int.toNat_natCast, eX, eY, fX, fY, (bes_all hG hgr).1, wr (x := ey (l.getD r eN) * 24) (by omega), wr (x := ey (l.getD r eN) * 24 + ex (l.getD r eN)) (by omega), (tow_at hc hE hG _).1]
    simp only [Option.bind_some]
    by_cases b : besI (ex E) (ey E) (ex (l.getD r eN)) (ey (l.getD r eN)) = 0
    · rw [if_neg (fun z => z b), b]
      rfl
    · rw [if_pos b, bne_iff_ne.2 b, cond_true]
  · rw [if_neg p, if_neg (show ¬ 0 ≤ (seen c l E 4).1 from p)]
    obtain ⟨ed, d0, d1⟩ := die_is 8 a0 [a1, row, 90] (by simp) (by decide) (by decide)
    rw [die_same, ed]
    simp only [Option.bind_some]
    generalize dval 8 a0 [a1, row, 90] = D at *
    rw [bif_dec, bif_dec]
    by_cases v0 : D < 1
    · rw [if_pos v0, if_neg (fun z => by omega)]
    by_cases v1 : D > 4
    · rw [if_neg v0, if_pos v1, if_neg (fun z => by omega)]
    rw [if_neg v0, if_neg v1]
    obtain ⟨j, hj, ej⟩ : ∃ j : Nat, j < 4 ∧ D = 1 + (j : Int) := ⟨(D - 1).toNat, by omega, by omega⟩
    subst ej
    have ej2 : (1 + (j : Int) - 1).toNat = j := by omega
    rw [ej2, ahead_eq E hG j hj]
    simp only [Option.bind_some]
    have d := dd j hj
    rw [pat_c c hc _ _ (by omega) (by omega)]
    simp only [Option.bind_some]
    rw [walk_eq, pat_eq l hl]
    simp only [Option.bind_some]
    rw [bif_dec]
    cases hw : walkable (atC c (ex E + ddx j) (ey E + ddy j)) with
    | false => rw [Bool.not_false, cond_true, if_neg (fun z => by cases z.2.2.1)]
    | true =>
      rw [Bool.not_true, cond_false]
      by_cases a : atE l (ex E + ddx j) (ey E + ddy j) ≥ 0
      · rw [if_pos a, if_neg (fun z => by omega)]
      · rw [if_neg a, if_pos ⟨by omega, by omega, rfl, by omega⟩]
theorem monster_eq (row : Int) : f11 a0 a1 a2 a3 c l its a7 a8 a9 a10 row = some (monI c l a0 a1 row, ()) := wants_eq a0 a1 a2 a3 a7 a8 a9 a10 hc hE its row
/-- The document's, once a monster is there. -/
theorem rmon_tail (row : Int) (E : EntT) (hG : InG (ex E) (ey E)) : f12.L1 (row, 0, -1, 0, a0, a1, a2, a3, c, l, its, a7, a8, a9, a10, E.1, E.2.1, E.2.2.1, E.2.2.2.1, E.2.2.2.2.1, E.2.2.2.2.2.1, E.2.2.2.2.2.2.1, E.2.2.2.2.2.2.2.1, E.2.2.2.2.2.2.2.2.1, E.2.2.2.2.2.2.2.2.2.1, E.2.2.2.2.2.2.2.2.2.2, ()) = some (monT c l a0 a1 row E (seen c l E 4).1, ()) := by
  have hl := hE.len
  have hG' := hG
  unfold InG at hG'
  have eX : E.2.2.2.1 = ex E := rfl
  have eY : E.2.2.2.2.1 = ey E := rfl
  refine OK.eq ?_
  unfold f12.L1
  refine OK.loop (fun j : Nat => (row, (seen c l E j).2, (seen c l E j).1, (j : Int), a0, a1, a2, a3, c, l, its, a7, a8, a9, a10, E.1, E.2.1, E.2.2.1, E.2.2.2.1, E.2.2.2.2.1, E.2.2.2.2.2.1, E.2.2.2.2.2.2.1, E.2.2.2.2.2.2.2.1, E.2.2.2.2.2.2.2.2.1, E.2.2.2.2.2.2.2.2.2.1, E.2.2.2.2.2.2.2.2.2.2, ())) (fun j => j ≤ 4) (fun j => 4 - j) (fun rec j hj ih => ?_) 0 rfl (Nat.zero_le _) (by decide)
  dsimp only at hj ih ⊢
  rw [bif_dec]
  by_cases q : j < 4
  · have nx := ih (j + 1) (by omega) (by omega) _ rfl
    rw [seen_succ] at nx
    rw [if_pos (by omega), rhero_eq l (by omega), wr (x := (j : Int) + 1) (by omega)]
    simp only [Option.bind_some]
    rw [bif_dec]
    unfold seenS at nx
    by_cases h0 : heroE' l j < 0
    · rw [if_pos h0] at nx
      rw [if_pos h0]
      exact nx
    · rw [if_neg h0] at nx
      obtain ⟨r, hr, er, hk, _⟩ := hero_at hl h0
      have hg := in_grid hE hr (by rw [hk]; decide)
      rw [er, Int.toNat_natCast] at nx
      rw [if_neg h0, er, inR (by omega), cond_true, cond_true, Int.toNat_natCast]
      have hg' := hg
      unfold InG at hg'
      have ex1 : (l.getD r (0, 0, 0, 0, 0, 0, 0, 0, 0, 0, 0)).2.2.2.1 = ex (l.getD r eN) := rfl
      have ey1 : (l.getD r (0, 0, 0, 0, 0, 0, 0, 0, 0, 0, 0)).2.2.2.2.1 = ey (l.getD r eN) := rfl
      rw [ex1, ey1, eX, eY, wr (x := ex (l.getD r eN) - ex E) (by omega), wr (x := ey (l.getD r eN) - ey E) (by omega), (dst_all _ _ (by omega) (by omega)).2.1]
      simp only [Option.bind_some]
      have hs := rsees_eq c hc (ex E) (ey E) _ _ hG hg
      rw [hs]
      simp only [Option.bind_some]
      generalize dst (ex (l.getD r eN) - ex E) (ey (l.getD r eN) - ey E) = D at *
      rw [bif_dec, bif_dec, bif_dec]
      rw [eX, eY] at nx
      generalize sees c (ex E) (ey E) (ex (l.getD r eN)) (ey (l.getD r eN)) = S at *
      by_cases d1 : D ≤ 1536
      · rw [if_pos d1]
        cases S with
        | false => rw [if_neg (fun z => by cases z.2.2)] at nx; exact nx
        | true =>
          rw [cond_true]
          by_cases d2 : (seen c l E j).1 < 0
          · rw [if_pos d2]
            rw [if_pos ⟨d1, .inl d2, rfl⟩] at nx; exact nx
          · rw [if_neg d2]
            by_cases d3 : D < (seen c l E j).2
            · rw [if_pos d3]
              rw [if_pos ⟨d1, .inr d3, rfl⟩] at nx; exact nx
            · rw [if_neg d3]
              rw [if_neg (fun z => by rcases z.2.1 with w | w <;> contradiction)] at nx
              exact nx
      · rw [if_neg d1]
        rw [if_neg (fun z => d1 z.1)] at nx
        exact nx
  · have : j = 4 := by omega
    subst this
    rw [if_neg (by omega)]
    unfold monT
    rw [bif_dec]
    by_cases p : (seen c l E 4).1 ≥ 0
    · obtain ⟨r, hr32, er, hk, hgr, _⟩ := seen_row hE p
      have hgr' := hgr
      unfold InG at hgr'
      have fX : (l.getD r (0, 0, 0, 0, 0, 0, 0, 0, 0, 0, 0)).2.2.2.1 = ex (l.getD r eN) := rfl
      have fY : (l.getD r (0, 0, 0, 0, 0, 0, 0, 0, 0, 0, 0)).2.2.2.2.1 = ey (l.getD r eN) := rfl
      have hb := (bes_all hG hgr).2
      rw [if_pos p, if_pos p, er, inR (by omega), cond_true, cond_true, Int.toNat_natCast, eX, eY, fX, fY, hb.1, wr (x := ey (l.getD r eN) * 24) (by omega), wr (x := ey (l.getD r eN) * 24 + ex (l.getD r eN)) (by omega), (tow_at hc hE hG _).2]
      simp only [Option.bind_some]
      have b0 : 0 ≤ besI (ex E) (ey E) (ex (l.getD r eN)) (ey (l.getD r eN)) := by
        rcases hb.2 with ⟨j, _, z, _⟩ | ⟨z, _⟩ <;> omega
      rw [bif_dec]
      by_cases b : besI (ex E) (ey E) (ex (l.getD r eN)) (ey (l.getD r eN)) = 0
      · rw [if_neg (show ¬ besI (ex E) (ey E) (ex (l.getD r eN)) (ey (l.getD r eN)) > 0 by omega), if_neg (fun z => z b)]
        exact OK.ret rfl
      · rw [if_pos (show besI (ex E) (ey E) (ex (l.getD r eN)) (ey (l.getD r eN)) > 0 by omega), if_pos b]
        exact OK.ret rfl
    · rw [if_neg p, if_neg (show ¬ 0 ≤ (seen c l E 4).1 from p)]
      obtain ⟨ed, d0, d1⟩ := die_is 8 a0 [a1, row, 90] (by simp) (by decide) (by decide)
      rw [ed]
      simp only [Option.bind_some]
      generalize dval 8 a0 [a1, row, 90] = D at *
      rw [bif_dec]
      by_cases v0 : D ≥ 1
      · rw [if_pos v0]
        simp only [Option.bind_some, Sum.elim_inl]
        rw [bif_dec]
        by_cases v1 : D ≤ 4
        · rw [if_pos v1]
          obtain ⟨j, hj, ej⟩ : ∃ j : Nat, j < 4 ∧ D = 1 + (j : Int) := ⟨(D - 1).toNat, by omega, by omega⟩
          subst ej
          have ej2 : (1 + (j : Int) - 1).toNat = j := by omega
          have d := dd j hj
          rw [ej2, rway_eq j hj, eX, eY]
          simp only [Option.bind_some]
          rw [wr (x := ex E + ddx j) (by omega), wr (x := ey E + ddy j) (by omega), rat_c c hc]
          simp only [Option.bind_some]
          rw [rwalk_eq, rat_eq l (by omega)]
          simp only [Option.bind_some]
          rw [bif_dec]
          cases hw : walkable (atC c (ex E + ddx j) (ey E + ddy j)) with
          | false => rw [cond_false, if_neg (fun z => by cases z.2.2.1)]; exact OK.ret rfl
          | true =>
            rw [cond_true]
            by_cases a : atE l (ex E + ddx j) (ey E + ddy j) < 0
            · rw [if_pos a, if_pos ⟨by omega, by omega, rfl, by omega⟩]; exact OK.ret rfl
            · rw [if_neg a, if_neg (fun z => by omega)]; exact OK.ret rfl
        · rw [if_neg v1, if_neg (fun z => by omega)]
          exact OK.ret rfl
      · rw [if_neg v0, if_neg (fun z => by omega)]
        exact OK.ret rfl
theorem rmonster_eq (row : Int) : f12 a0 a1 a2 a3 c l its a7 a8 a9 a10 row = some (monI c l a0 a1 row, ()) := by
  have hl := hE.len
  unfold f12 monI
  rw [bif_dec]
  by_cases q0 : row < 0
  · rw [if_pos q0, if_pos (.inl q0)]
  rw [if_neg q0, bif_dec]
  by_cases q1 : row ≥ 32
  · rw [if_pos (by omega), if_pos (.inr (.inl q1))]
  rw [if_neg (by omega), inR (by omega)]
  simp only [cond_true]
  have hr : row.toNat < 32 := by omega
  have hg := fun hk => in_grid hE hr hk
  generalize hEe : l.getD row.toNat eN = E at *
  have ek : E.1 = kd E := rfl
  by_cases k0 : kd E = 0
  · rw [ek, beq_iff_eq.2 k0, cond_true, if_pos (.inr (.inr (.inl k0)))]
  by_cases k1 : kd E = 1
  · rw [ek, beq_eq_false_iff_ne.2 k0, cond_false, beq_iff_eq.2 k1, cond_true, if_pos (.inr (.inr (.inr k1)))]
  have b0 : (E.1 == 0) = false := beq_eq_false_iff_ne.2 k0
  have b1 : (E.1 == 1) = false := beq_eq_false_iff_ne.2 k1
  rw [b0, cond_false, b1, cond_false, if_neg (by rintro (z | z | z | z) <;> contradiction)]
  exact rmon_tail a0 a1 a2 a3 a7 a8 a9 a10 hc hE its row E (hg k0)
end
end Go.Proofs.Ytjmbmpeflhkngaa.Mn
/- What robots want: both texts (own work). -/
namespace Go.Proofs.Ytjmbmpeflhkngaa.Mn
open Go Go.Proofs.Ytjmbmpeflhkngaa.Mx Go.Proofs.Ytjmbmpeflhkngaa.Pc Go.Proofs.Ytjmbmpeflhkngaa.Run Go.Proofs.Ytjmbmpeflhkngaa.Field Go.Proofs.Ytjmbmpeflhkngaa.Gen Go.Proofs.Ytjmbmpeflhkngaa.GenL Go.Proofs.Ytjmbmpeflhkngaa.Fl Go.Proofs.Ytjmbmpeflhkngaa.Wd Go.Proofs.Ytjmbmpeflhkngaa.Ft Go.Proofs.Ytjmbmpeflhkngaa.Ln Go.Proofs.Ytjmbmpeflhkngaa.Nav
set_option linter.unusedVariables false
set_option linter.unusedSimpArgs false
set_option maxHeartbeats 2000000
theorem nodup_in {α : Type} [BEq α] [LawfulBEq α] : ∀ (D l : List α), l.Nodup → (∀ x ∈ l, x ∈ D) → l.length ≤ D.length
  | [], l, _, h => by
    cases l with
    | nil => exact Nat.le_refl _
    | cons a l => exact absurd (h a List.mem_cons_self) (by simp)
  | d :: D, l, hn, h => by
    have h2 := nodup_in D (l.erase d) (hn.erase d) fun x hx => by
      have a := h x (List.mem_of_mem_erase hx)
      have b : x ≠ d := fun e => by
        subst e
        exact (hn.not_mem_erase) hx
      rcases List.mem_cons.1 a with e | e
      · exact absurd e b
      · exact e
    rw [List.length_cons]
    by_cases hm : d ∈ l
    · have := List.length_erase_of_mem hm
      omega
    · have := List.erase_of_not_mem hm
      rw [this] at h2
      omega
/-! ### bags -/
def inBag (s : Int) (x : ItT) : Bool := x.1 != 0 && (x.2.1 == 2 && x.2.2.1 == s)
def bagN (its : List ItT) (s : Int) (n : Nat) : Nat := ((List.range n).filter fun k => inBag s (its.getD k iN)).length
def bagP (its : List ItT) (s : Int) (n : Nat) : Bool := (List.range n).any fun k => inBag s (its.getD k iN) && (its.getD k iN).1 == 1
theorem bagN_succ (its : List ItT) (s : Int) (n : Nat) : bagN its s (n + 1) = bagN its s n + if inBag s (its.getD n iN) = true then 1 else 0 := by
  unfold bagN
  rw [List.range_succ, List.filter_append, List.length_append, List.filter_cons, List.filter_nil]
  cases inBag s (its.getD n iN) <;> rfl
theorem bagP_succ (its : List ItT) (s : Int) (n : Nat) : bagP its s (n + 1) = (bagP its s n || (inBag s (its.getD n iN) && (its.getD n iN).1 == 1)) := by
  unfold bagP
  rw [List.range_succ, List.any_append]
  simp
theorem bagN_le (its : List ItT) (s : Int) (n : Nat) : bagN its s n ≤ n := by
  unfold bagN
  exact Nat.le_trans (List.length_filter_le _ _) (by simp)
section
variable {c : List Int} {its : List ItT} (h : ItsOk c its) (s : Int)
include h
theorem in_bag {k : Nat} (hk : k < 40) (hb : inBag s (its.getD k iN) = true) : ∃ b : Nat, b < 4 ∧ (its.getD k iN).2 = (2, s, (b : Int)) ∧ its.getD k iN ≠ iN := by
  unfold inBag at hb
  rw [Bool.and_eq_true, Bool.and_eq_true, bne_iff_ne, beq_iff_eq, beq_iff_eq] at hb
  have ne : its.getD k iN ≠ iN := fun z => hb.1 (by rw [z])
  rcases h.kind k hk with q | ⟨_, _, q⟩
  · exact absurd q ne
  · unfold Placed at q
    obtain ⟨b0, b1, b2⟩ := hb
    refine ⟨(its.getD k iN).2.2.2.toNat, by omega, ?_, ne⟩
    rw [Int.toNat_of_nonneg (by omega), ← b1, ← b2]
theorem at_slot {b : Int} (h0 : 0 ≤ inI its 2 s b) : ∃ k : Nat, k < 40 ∧ inI its 2 s b = k ∧ (its.getD k iN).2 = (2, s, b) ∧ its.getD k iN ≠ iN ∧ inBag s (its.getD k iN) = true := by
  obtain ⟨k, h1, h2, h3, _⟩ := inI_some (show ¬ inI its 2 s b < 0 by omega)
  have hk : k < 40 := by have := h.len; omega
  unfold isAt at h3
  rw [Bool.and_eq_true, Bool.and_eq_true, beq_iff_eq, beq_iff_eq, beq_iff_eq] at h3
  have ne : its.getD k iN ≠ iN := fun z => by
    have := h3.1
    rw [z] at this
    exact absurd this (by decide)
  refine ⟨k, hk, h2, by rw [← h3.1, ← h3.2.1, ← h3.2.2], ne, ?_⟩
  rcases h.kind k hk with q | ⟨q, _⟩
  · exact absurd q ne
  · unfold inBag
    rw [bne_iff_ne.2 (show (its.getD k iN).1 ≠ 0 by omega), beq_iff_eq.2 h3.1, beq_iff_eq.2 h3.2.1]
    rfl
theorem bag_potion : bagP its s 40 = decide (0 ≤ hold its s 1 1) := by
  have hb : ∀ b, holdB its s 1 1 b = true → bagP its s 40 = true := fun b hb => by
    unfold holdB at hb
    rw [Bool.and_eq_true, Bool.and_eq_true, decide_eq_true_eq, decide_eq_true_eq, decide_eq_true_eq] at hb
    obtain ⟨k, hk, ek, _, _, hi⟩ := at_slot h s hb.1
    rw [ek, Int.toNat_natCast] at hb
    unfold bagP
    refine List.any_eq_true.2 ⟨k, List.mem_range.2 hk, ?_⟩
    rw [hi, beq_iff_eq.2 (show (its.getD k iN).1 = 1 by omega)]
    rfl
  cases e : bagP its s 40 with
  | true =>
    obtain ⟨k, hk, hx⟩ := List.any_eq_true.1 e
    rw [Bool.and_eq_true, beq_iff_eq] at hx
    have hk40 := List.mem_range.1 hk
    obtain ⟨b, hb4, eb, ne⟩ := in_bag h s hk40 hx.1
    have i0 : 0 ≤ inI its 2 s b := by
      rcases Int.lt_or_le (inI its 2 s b) 0 with z | z
      · have := inI_none.1 z k (by have := h.len; omega)
        unfold isAt at this
        rw [show (its.getD k iN).2.1 = 2 from congrArg Prod.fst eb, show (its.getD k iN).2.2.1 = s from congrArg (fun y => y.2.1) eb, show (its.getD k iN).2.2.2 = (b : Int) from congrArg (fun y => y.2.2) eb] at this
        simp at this
      · exact z
    obtain ⟨k', hk', ek', e2, _, _⟩ := at_slot h s i0
    have : k = k' := h.one k k' hk40 hk' ne (by rw [eb, e2])
    subst this
    have hB : holdB its s 1 1 b = true := by
      unfold holdB
      rw [decide_eq_true i0, ek', Int.toNat_natCast, hx.2]
      rfl
    symm
    rw [decide_eq_true_eq]
    unfold hold
    cases f : (List.range 4).find? (holdB its s 1 1) with
    | none =>
      have := List.find?_range_eq_none.1 f b hb4
      rw [hB] at this
      cases this
    | some b' =>
      have := (List.find?_range_eq_some.1 f).1
      unfold holdB at this
      rw [Bool.and_eq_true, decide_eq_true_eq] at this
      exact this.1
  | false =>
    symm
    rw [decide_eq_false_iff_not]
    intro z
    unfold hold at z
    cases f : (List.range 4).find? (holdB its s 1 1) with
    | none => rw [f] at z; exact absurd (show (0 : Int) ≤ -1 from z) (by decide)
    | some b' =>
      have := hb b' (List.find?_range_eq_some.1 f).1
      rw [e] at this
      cases this
theorem bag_free : decide ((bagN its s 40 : Int) < 4) = decide (0 ≤ emptyI its s) := by
  refine decide_eq_decide.2 ⟨fun z => ?_, fun z => ?_⟩
  · rcases Int.lt_or_le (emptyI its s) 0 with q | q
    · exfalso
      have hf : ∀ b : Nat, b < 4 → 0 ≤ inI its 2 s b := fun b hb => by
        have := find_neg.1 q b hb
        rw [decide_eq_false_iff_not] at this
        omega
      have hs := fun (b : Nat) (hb : b < 4) => at_slot h s (hf b hb)
      obtain ⟨k0, l0, _, e0, _, i0⟩ := hs 0 (by decide)
      obtain ⟨k1, l1, _, e1, _, i1⟩ := hs 1 (by decide)
      obtain ⟨k2, l2, _, e2, _, i2⟩ := hs 2 (by decide)
      obtain ⟨k3, l3, _, e3, _, i3⟩ := hs 3 (by decide)
      have ne : ∀ {i j : Nat} {x y : Int}, (its.getD i iN).2 = (2, s, x) → (its.getD j iN).2 = (2, s, y) → x ≠ y → i ≠ j := fun a b hxy hij => by
        subst hij
        rw [a] at b
        exact hxy (congrArg (fun y => y.2.2) b)
      have hn : [k0, k1, k2, k3].Nodup := by
        simp only [List.nodup_cons, List.mem_cons, List.not_mem_nil, or_false, not_or, not_false_eq_true, List.nodup_nil, and_true]
        exact ⟨⟨ne e0 e1 (by decide), ne e0 e2 (by decide), ne e0 e3 (by decide)⟩, ⟨ne e1 e2 (by decide), ne e1 e3 (by decide)⟩, ne e2 e3 (by decide)⟩
      have := nodup_in ((List.range 40).filter fun k => inBag s (its.getD k iN)) [k0, k1, k2, k3] hn (fun x hx => by
        simp only [List.mem_cons, List.not_mem_nil, or_false] at hx
        refine List.mem_filter.2 ?_
        rcases hx with rfl | rfl | rfl | rfl
        · exact ⟨List.mem_range.2 l0, i0⟩
        · exact ⟨List.mem_range.2 l1, i1⟩
        · exact ⟨List.mem_range.2 l2, i2⟩
        · exact ⟨List.mem_range.2 l3, i3⟩)
      have e4 : [k0, k1, k2, k3].length = 4 := rfl
      unfold bagN at z
      omega
    · exact q
  · obtain ⟨B, hB4, _, h0', _⟩ := find_pos (p := fun b : Nat => decide (inI its 2 s b < 0)) (n := 4) (by unfold emptyI at z; omega)
    have h0 := of_decide_eq_true h0'
    have key := nodup_in ((List.range 4).erase B) (((List.range 40).filter fun k => inBag s (its.getD k iN)).map fun k => (its.getD k iN).2.2.2.toNat) ?_ ?_
    · rw [List.length_map, List.length_erase_of_mem (List.mem_range.2 hB4), List.length_range] at key
      unfold bagN
      omega
    · refine List.pairwise_map.2 (List.Pairwise.imp_of_mem (fun {k k'} hk hk' hne hx => ?_) (List.nodup_range.filter _))
      obtain ⟨hk1, hk2⟩ := List.mem_filter.1 hk
      obtain ⟨hk1', hk2'⟩ := List.mem_filter.1 hk'
      obtain ⟨b, hb, e, ne⟩ := in_bag h s (List.mem_range.1 hk1) hk2
      obtain ⟨b', hb', e', _⟩ := in_bag h s (List.mem_range.1 hk1') hk2'
      have e3 : (its.getD k iN).2.2.2 = (b : Int) := congrArg (fun y => y.2.2) e
      have e3' : (its.getD k' iN).2.2.2 = (b' : Int) := congrArg (fun y => y.2.2) e'
      rw [e3, e3', Int.toNat_natCast, Int.toNat_natCast] at hx
      subst hx
      exact hne (h.one k k' (List.mem_range.1 hk1) (List.mem_range.1 hk1') ne (by rw [e, e']))
    · intro x hx
      obtain ⟨k, hk, rfl⟩ := List.mem_map.1 hx
      obtain ⟨hk1, hk2⟩ := List.mem_filter.1 hk
      obtain ⟨b', hb', e', _⟩ := in_bag h s (List.mem_range.1 hk1) hk2
      have e3 : (its.getD k iN).2.2.2 = (b' : Int) := congrArg (fun y => y.2.2) e'
      rw [e3, Int.toNat_natCast]
      refine (List.mem_erase_of_ne fun z => ?_).2 (List.mem_range.2 hb')
      subst z
      have := inI_none.1 h0 k (by have := h.len; have := List.mem_range.1 hk1; omega)
      unfold isAt at this
      rw [show (its.getD k iN).2.1 = 2 from congrArg Prod.fst e', show (its.getD k iN).2.2.1 = s from congrArg (fun y => y.2.1) e', e3] at this
      simp at this
variable (a0 a1 a2 a3 a7 a8 a9 a10 : Int) (l : List EntT)
theorem bag_eq : f103 a0 a1 a2 a3 c l its a7 a8 a9 a10 s = some (decide (0 ≤ hold its s 1 1), decide (0 ≤ emptyI its s), ()) := by
  have hl := h.len
  rw [← bag_potion h s, ← bag_free h s]
  refine OK.eq ?_
  unfold f103 f103.L1
  refine OK.loop (fun i : Nat => (s, bagP its s i, (bagN its s i : Int), its, (its.length : Int), (i : Int), ())) (fun i => i ≤ 40) (fun i => 40 - i) (fun rec i hi ih => ?_) 0 rfl (Nat.zero_le _) (by decide)
  dsimp only at hi ih ⊢
  rw [bif_dec]
  by_cases q : i < 40
  · have nx := ih (i + 1) (by omega) (by omega) _ rfl
    have hn := bagN_le its s i
    rw [bagN_succ, bagP_succ] at nx
    rw [if_pos (by omega), inR (by omega), cond_true, wr (x := (i : Int) + 1) (by omega), Int.toNat_natCast]
    unfold inBag at nx
    cases b1 : (its.getD i iN).1 != 0 with
    | false => rw [b1] at nx; rw [Bool.false_and, if_neg (by decide), Bool.false_and, Bool.or_false] at nx; exact nx
    | true =>
      rw [b1] at nx
      rw [cond_true]
      cases b2 : (its.getD i iN).2.1 == 2 with
      | false => rw [b2] at nx; rw [Bool.false_and, Bool.and_false, if_neg (by decide), Bool.false_and, Bool.or_false] at nx; exact nx
      | true =>
        rw [b2] at nx
        rw [cond_true]
        cases b3 : (its.getD i iN).2.2.1 == s with
        | false => rw [b3] at nx; rw [Bool.and_false, Bool.and_false, if_neg (by decide), Bool.false_and, Bool.or_false] at nx; exact nx
        | true =>
          rw [b3] at nx
          rw [Bool.and_true, Bool.and_true, if_pos rfl, Bool.true_and] at nx
          rw [cond_true, wr (x := (bagN its s i : Int) + 1) (by omega)]
          cases b4 : bagP its s i with
          | true => rw [b4, Bool.true_or] at nx; exact nx
          | false => rw [b4, Bool.false_or] at nx; exact nx
  · have : i = 40 := by omega
    subst this
    rw [if_neg (by omega)]
    exact OK.ret rfl
def worthI (its : List ItT) (x y : Int) (free : Bool) : Bool := decide (0 ≤ inI its 1 x y) && (free || (its.getD (inI its 1 x y).toNat iN).1 == 4)
theorem worth_eq (x y : Int) (free : Bool) : f104 a0 a1 a2 a3 c l its a7 a8 a9 a10 x y free = some (worthI its x y free, ()) := by
  have hl := h.len
  unfold f104 f104.L1
  refine (it_find (x := (x, y, free, its, (its.length : Int), 0, ())) (fun i => isAt 1 x y (its.getD i iN)) its.length (fun i : Nat => (x, y, free, its, (its.length : Int), (i : Int), ())) (fun i => some ((free || (its.getD i iN).1 == 4), ())) (some (false, ())) (fun rec i hi => ?_) (by omega) rfl).trans ?_
  · dsimp only
    rw [bif_dec]
    by_cases q : i < its.length
    · rw [if_pos (by omega), if_pos q, inR (by omega), cond_true, wr (x := (i : Int) + 1) (by omega), Int.toNat_natCast]
      have k0 : isAt 1 x y (its.getD i iN) = true → ((its.getD i iN).1 != 0) = true := fun z => by
        unfold isAt at z
        rw [Bool.and_eq_true, beq_iff_eq] at z
        rcases h.kind i (by omega) with w | w
        · rw [w] at z; exact absurd z.1 (by decide)
        · exact bne_iff_ne.2 (by omega)
      cases e : isAt 1 x y (its.getD i iN) with
      | true =>
        have k1 := k0 e
        unfold isAt at e
        rw [Bool.and_eq_true, Bool.and_eq_true] at e
        have k1' : ((its.getD i (0, 0, 0, 0)).1 != 0) = true := k1
        have e1' : ((its.getD i (0, 0, 0, 0)).2.1 == 1) = true := e.1
        have e2' : ((its.getD i (0, 0, 0, 0)).2.2.1 == x) = true := e.2.1
        have e3' : ((its.getD i (0, 0, 0, 0)).2.2.2 == y) = true := e.2.2
        rw [k1', e1', e2', e3']
        simp only [cond_true, if_true]
        cases free <;> rfl
      | false =>
        unfold isAt at e
        simp only [Bool.false_eq_true, if_false]
        cases (its.getD i iN).1 != 0 with
        | false => rfl
        | true =>
          have e' : ((its.getD i (0, 0, 0, 0)).2.1 == 1 && ((its.getD i (0, 0, 0, 0)).2.2.1 == x && (its.getD i (0, 0, 0, 0)).2.2.2 == y)) = false := e
          revert e'
          cases (its.getD i (0, 0, 0, 0)).2.1 == 1 <;> cases (its.getD i (0, 0, 0, 0)).2.2.1 == x <;> cases (its.getD i (0, 0, 0, 0)).2.2.2 == y <;> intro e' <;> first | rfl | (exact absurd e' (by decide))
    · rw [if_neg (by omega), if_neg q]
  · unfold worthI inI
    cases e : (List.range its.length).find? fun i => isAt 1 x y (its.getD i iN) with
    | none => rfl
    | some k =>
      show some ((free || (its.getD k iN).1 == 4), ()) = some ((decide ((0 : Int) ≤ (k : Int)) && (free || (its.getD ((k : Int)).toNat iN).1 == 4)), ())
      rw [decide_eq_true (by omega), Int.toNat_natCast, Bool.true_and]
end
end Go.Proofs.Ytjmbmpeflhkngaa.Mn
/- What robots want: both texts (own work). -/
namespace Go.Proofs.Ytjmbmpeflhkngaa.Mn
open Go Go.Proofs.Ytjmbmpeflhkngaa.Mx Go.Proofs.Ytjmbmpeflhkngaa.Pc Go.Proofs.Ytjmbmpeflhkngaa.Run Go.Proofs.Ytjmbmpeflhkngaa.Field Go.Proofs.Ytjmbmpeflhkngaa.Gen Go.Proofs.Ytjmbmpeflhkngaa.GenL Go.Proofs.Ytjmbmpeflhkngaa.Fl Go.Proofs.Ytjmbmpeflhkngaa.Wd Go.Proofs.Ytjmbmpeflhkngaa.Ft Go.Proofs.Ytjmbmpeflhkngaa.Ln Go.Proofs.Ytjmbmpeflhkngaa.Nav
set_option linter.unusedVariables false
set_option linter.unusedSimpArgs false
set_option maxHeartbeats 2000000
theorem atE_b (l : List EntT) (x y : Int) : -1 ≤ atE l x y ∧ atE l x y < l.length := find_b
section
variable (c : List Int) (l : List EntT)
/-- Somebody that is no hero stands there. -/
def foe (e : EntT) (j : Nat) : Bool := decide (0 ≤ atE l (ex e + ddx j) (ey e + ddy j)) && kd (l.getD (atE l (ex e + ddx j) (ey e + ddy j)).toNat eN) != 1
noncomputable def robT (its : List ItT) (s : Int) (e : EntT) : Int :=
  match (List.range 4).find? (foe l e) with
  | some j => 1 + (j : Int)
  | none => if worthI its (ex e) (ey e) (decide (0 ≤ emptyI its s)) = true then 5 else if atC c (ex e) (ey e) = 4 then 9 else towI c l (cel (ex e) (ey e)) (findC c 4)
/-- What the robot of a seat wants. -/
noncomputable def robI (its : List ItT) (s : Int) : Int :=
  if heroE' l s < 0 then 0 else
  if 0 ≤ hold its s 1 1 ∧ hp (l.getD (heroE' l s).toNat eN) ≤ Int.tdiv (mxh (l.getD (heroE' l s).toNat eN)) 3 then 6
  else robT c l its s (l.getD (heroE' l s).toNat eN)
end
section
variable (a0 a1 a2 a3 a7 a8 a9 a10 : Int) {c : List Int} (hc : CB c) (hcl : c.length = 384) {l : List EntT} (hE : Ents l) {its : List ItT} (hI : ItsOk c its) (s : Int)
include hc hcl hE hI
theorem rob_tail (e : EntT) (hG : InG (ex e) (ey e)) : f102.L1 (decide (0 ≤ emptyI its s), 1, a0, a1, a2, a3, c, l, its, a7, a8, a9, a10, e.1, e.2.1, e.2.2.1, e.2.2.2.1, e.2.2.2.2.1, e.2.2.2.2.2.1, e.2.2.2.2.2.2.1, e.2.2.2.2.2.2.2.1, e.2.2.2.2.2.2.2.2.1, e.2.2.2.2.2.2.2.2.2.1, e.2.2.2.2.2.2.2.2.2.2, ()) = some (robT c l its s e, ()) := by
  have hl := hE.len
  have hG' := hG
  unfold InG at hG'
  have eX : e.2.2.2.1 = ex e := rfl
  have eY : e.2.2.2.2.1 = ey e := rfl
  unfold f102.L1
  refine (it_find (x := (decide (0 ≤ emptyI its s), 1, a0, a1, a2, a3, c, l, its, a7, a8, a9, a10, e.1, e.2.1, e.2.2.1, e.2.2.2.1, e.2.2.2.2.1, e.2.2.2.2.2.1, e.2.2.2.2.2.2.1, e.2.2.2.2.2.2.2.1, e.2.2.2.2.2.2.2.2.1, e.2.2.2.2.2.2.2.2.2.1, e.2.2.2.2.2.2.2.2.2.2, ())) (foe l e) 4 (fun j : Nat => (decide (0 ≤ emptyI its s), 1 + (j : Int), a0, a1, a2, a3, c, l, its, a7, a8, a9, a10, e.1, e.2.1, e.2.2.1, e.2.2.2.1, e.2.2.2.2.1, e.2.2.2.2.2.1, e.2.2.2.2.2.2.1, e.2.2.2.2.2.2.2.1, e.2.2.2.2.2.2.2.2.1, e.2.2.2.2.2.2.2.2.2.1, e.2.2.2.2.2.2.2.2.2.2, ())) (fun j => some (1 + (j : Int), ())) (some (if worthI its (ex e) (ey e) (decide (0 ≤ emptyI its s)) = true then 5 else if atC c (ex e) (ey e) = 4 then 9 else towI c l (cel (ex e) (ey e)) (findC c 4), ())) (fun rec j hj => ?_) (by omega) rfl).trans ?_
  · dsimp only
    rw [bif_dec]
    by_cases q : j < 4
    · have d := dd j q
      rw [if_pos (by omega), if_pos q, ahead_eq e hG j q]
      simp only [Option.bind_some]
      rw [pat_eq l hl, wr (x := 1 + (j : Int) + 1) (by omega)]
      simp only [Option.bind_some]
      have hb := atE_b l (ex e + ddx j) (ey e + ddy j)
      have ej : 1 + (j : Int) + 1 = 1 + ((j + 1 : Nat) : Int) := by omega
      unfold foe
      rw [bif_dec]
      by_cases k0 : 0 ≤ atE l (ex e + ddx j) (ey e + ddy j)
      · rw [if_pos k0, inR (by omega), cond_true, decide_eq_true k0, Bool.true_and, ej, ite_bif]
        rfl
      · rw [if_neg k0, decide_eq_false k0, Bool.false_and, if_neg (by decide), ej]
    · rw [if_neg (by omega), if_neg q, eX, eY, worth_eq hI a0 a1 a2 a3 a7 a8 a9 a10 l, pat_c c hc _ _ (by omega) (by omega), find_g c hc hcl 4 (by decide)]
      simp only [Option.bind_some]
      rw [(tow_at hc hE hG _).1]
      simp only [Option.bind_some]
      cases worthI its (ex e) (ey e) (decide (0 ≤ emptyI its s)) with
      | true => rfl
      | false =>
        rw [cond_false, if_neg (by decide)]
        by_cases k : atC c (ex e) (ey e) = 4
        · rw [if_pos k, beq_iff_eq.2 k, cond_true]
        · rw [if_neg k, beq_eq_false_iff_ne.2 k, cond_false]
  · unfold robT
    cases (List.range 4).find? (foe l e) <;> rfl
theorem rrob_tail (e : EntT) (hG : InG (ex e) (ey e)) : f14.L1 (s, 1, a0, a1, a2, a3, c, l, its, a7, a8, a9, a10, e.1, e.2.1, e.2.2.1, e.2.2.2.1, e.2.2.2.2.1, e.2.2.2.2.2.1, e.2.2.2.2.2.2.1, e.2.2.2.2.2.2.2.1, e.2.2.2.2.2.2.2.2.1, e.2.2.2.2.2.2.2.2.2.1, e.2.2.2.2.2.2.2.2.2.2, ()) = some (robT c l its s e, ()) := by
  have hl := hE.len
  have hil := hI.len
  have hG' := hG
  unfold InG at hG'
  have eX : e.2.2.2.1 = ex e := rfl
  have eY : e.2.2.2.2.1 = ey e := rfl
  unfold f14.L1
  refine (it_find (x := (s, 1, a0, a1, a2, a3, c, l, its, a7, a8, a9, a10, e.1, e.2.1, e.2.2.1, e.2.2.2.1, e.2.2.2.2.1, e.2.2.2.2.2.1, e.2.2.2.2.2.2.1, e.2.2.2.2.2.2.2.1, e.2.2.2.2.2.2.2.2.1, e.2.2.2.2.2.2.2.2.2.1, e.2.2.2.2.2.2.2.2.2.2, ())) (foe l e) 4 (fun j : Nat => (s, 1 + (j : Int), a0, a1, a2, a3, c, l, its, a7, a8, a9, a10, e.1, e.2.1, e.2.2.1, e.2.2.2.1, e.2.2.2.2.1, e.2.2.2.2.2.1, e.2.2.2.2.2.2.1, e.2.2.2.2.2.2.2.1, e.2.2.2.2.2.2.2.2.1, e.2.2.2.2.2.2.2.2.2.1, e.2.2.2.2.2.2.2.2.2.2, ())) (fun j => some (1 + (j : Int), ())) (some (if worthI its (ex e) (ey e) (decide (0 ≤ emptyI its s)) = true then 5 else if atC c (ex e) (ey e) = 4 then 9 else towI c l (cel (ex e) (ey e)) (findC c 4), ())) (fun rec j hj => ?_) (by omega) rfl).trans ?_
  · dsimp only
    rw [bif_dec]
    by_cases q : j < 4
    · have d := dd j q
      rw [if_pos (by omega), if_pos q, rway_eq j q, eX, eY]
      simp only [Option.bind_some]
      rw [wr (x := ex e + ddx j) (by omega), wr (x := ey e + ddy j) (by omega), rat_eq l (by omega), wr (x := 1 + (j : Int) + 1) (by omega)]
      simp only [Option.bind_some]
      have hb := atE_b l (ex e + ddx j) (ey e + ddy j)
      have ej : 1 + (j : Int) + 1 = 1 + ((j + 1 : Nat) : Int) := by omega
      unfold foe
      rw [bif_dec]
      by_cases k0 : 0 ≤ atE l (ex e + ddx j) (ey e + ddy j)
      · rw [if_pos k0, inR (by omega), cond_true, decide_eq_true k0, Bool.true_and, ej, ite_bif]
        rfl
      · rw [if_neg k0, decide_eq_false k0, Bool.false_and, if_neg (by decide), ej]
    · rw [if_neg (by omega), if_neg q, eX, eY, rin_eq its (by omega)]
      simp only [Option.bind_some]
      have ib := inI_b its 1 (ex e) (ey e)
      have fin : Option.bind (f19 c (ex e) (ey e)) (fun y6 => bif y6.1 == 4 then some (9, ()) else Option.bind (f30 c 4) fun y7 => Option.bind (f34 c l (ex e) (ey e) [y7.1]) fun y8 => some (y8.1, ())) = some (if atC c (ex e) (ey e) = 4 then 9 else towI c l (cel (ex e) (ey e)) (findC c 4), ()) := by
        rw [rat_c c hc, find_r c hc hcl]
        simp only [Option.bind_some]
        rw [(tow_at hc hE hG _).2]
        simp only [Option.bind_some]
        by_cases k : atC c (ex e) (ey e) = 4
        · rw [if_pos k, beq_iff_eq.2 k, cond_true]
        · rw [if_neg k, beq_eq_false_iff_ne.2 k, cond_false]
      unfold worthI
      rw [bif_dec]
      by_cases i0 : 0 ≤ inI its 1 (ex e) (ey e)
      · rw [if_pos i0, inR (by omega), cond_true, decide_eq_true i0, Bool.true_and]
        have e4 : (its.getD (inI its 1 (ex e) (ey e)).toNat (0, 0, 0, 0)).1 = (its.getD (inI its 1 (ex e) (ey e)).toNat iN).1 := rfl
        rw [e4]
        cases (its.getD (inI its 1 (ex e) (ey e)).toNat iN).1 == 4 with
        | true =>
          rw [cond_true, Bool.or_true, if_pos rfl]
          rfl
        | false =>
          rw [cond_false, Bool.or_false, rslot_eq its (by omega)]
          simp only [Option.bind_some]
          rw [bif_dec]
          by_cases f0 : 0 ≤ emptyI its s
          · rw [if_pos f0, decide_eq_true f0, if_pos rfl]
            rfl
          · rw [if_neg f0, decide_eq_false f0, if_neg (by decide)]
            simp only [Option.bind_some, Sum.elim_inl]
            exact fin
      · rw [if_neg i0, decide_eq_false i0, Bool.false_and, if_neg (by decide)]
        simp only [Option.bind_some, Sum.elim_inl]
        exact fin
  · unfold robT
    cases (List.range 4).find? (foe l e) <;> rfl
variable (hM : ∀ i, i < 32 → 0 ≤ mxh (l.getD i eN) ∧ mxh (l.getD i eN) ≤ 1000)
include hM
theorem robot_eq : f13 a0 a1 a2 a3 c l its a7 a8 a9 a10 s = some (robI c l its s, ()) := by
  have hl := hE.len
  show f102 s a0 a1 a2 a3 c l its a7 a8 a9 a10 = _
  unfold f102 robI
  rw [hero_eq l hl]
  simp only [Option.bind_some]
  rw [bif_dec]
  by_cases h0 : heroE' l s < 0
  · rw [if_pos h0, if_pos h0]
  obtain ⟨r, hr, er, hk, _⟩ := hero_at hl h0
  have hg := in_grid hE hr (by rw [hk]; decide)
  have hm := hM r hr
  rw [if_neg h0, if_neg h0, er, inR (by omega), cond_true, Int.toNat_natCast, bag_eq hI s a0 a1 a2 a3 a7 a8 a9 a10 l]
  simp only [Option.bind_some]
  have eH : (l.getD r (0, 0, 0, 0, 0, 0, 0, 0, 0, 0, 0)).2.2.2.2.2.1 = hp (l.getD r eN) := rfl
  have eM : (l.getD r (0, 0, 0, 0, 0, 0, 0, 0, 0, 0, 0)).2.2.2.2.2.2.1 = mxh (l.getD r eN) := rfl
  have tail := rob_tail a0 a1 a2 a3 a7 a8 a9 a10 hc hcl hE hI s (l.getD r eN) hg
  by_cases p : 0 ≤ hold its s 1 1
  · rw [decide_eq_true p, cond_true, bif_dec, eH, eM]
    have wm : IntKind.wrap .i64 (Int.tdiv (mxh (l.getD r eN)) 3) = Int.tdiv (mxh (l.getD r eN)) 3 := by
      rw [Int.tdiv_eq_ediv_of_nonneg hm.1]
      exact wr (by omega)
    rw [wm]
    by_cases q : hp (l.getD r eN) ≤ Int.tdiv (mxh (l.getD r eN)) 3
    · rw [if_pos q, if_pos ⟨p, q⟩]
      rfl
    · rw [if_neg q, if_neg (fun z => q z.2)]
      exact tail
  · rw [decide_eq_false p, cond_false, if_neg (fun z => p z.1)]
    exact tail
theorem rrobot_eq : f14 a0 a1 a2 a3 c l its a7 a8 a9 a10 s = some (robI c l its s, ()) := by
  have hl := hE.len
  have hil := hI.len
  unfold f14 robI
  rw [rhero_eq l (by omega)]
  simp only [Option.bind_some]
  rw [bif_dec]
  by_cases h0 : heroE' l s < 0
  · rw [if_pos h0, if_pos h0]
  obtain ⟨r, hr, er, hk, _⟩ := hero_at hl h0
  have hg := in_grid hE hr (by rw [hk]; decide)
  have hm := hM r hr
  rw [if_neg h0, if_neg h0, er, inR (by omega), cond_true, Int.toNat_natCast]
  have eH : (l.getD r (0, 0, 0, 0, 0, 0, 0, 0, 0, 0, 0)).2.2.2.2.2.1 = hp (l.getD r eN) := rfl
  have eM : (l.getD r (0, 0, 0, 0, 0, 0, 0, 0, 0, 0, 0)).2.2.2.2.2.2.1 = mxh (l.getD r eN) := rfl
  have tail := rrob_tail a0 a1 a2 a3 a7 a8 a9 a10 hc hcl hE hI s (l.getD r eN) hg
  have wm : IntKind.wrap .i64 (Int.tdiv (mxh (l.getD r eN)) 3) = Int.tdiv (mxh (l.getD r eN)) 3 := by
    rw [Int.tdiv_eq_ediv_of_nonneg hm.1]
    exact wr (by omega)
  rw [eH, eM, wm, rpotion_eq its (by omega), bif_dec]
  simp only [Option.bind_some]
  by_cases q : hp (l.getD r eN) ≤ Int.tdiv (mxh (l.getD r eN)) 3
  · rw [if_pos q, bif_dec]
    by_cases p : 0 ≤ hold its s 1 1
    · rw [if_pos p, if_pos ⟨p, q⟩]
      rfl
    · rw [if_neg p, if_neg (fun z => p z.1)]
      exact tail
  · rw [if_neg q, if_neg (fun z => q z.2)]
    exact tail
end
end Go.Proofs.Ytjmbmpeflhkngaa.Mn
/- What the laws of chapter 9 share (own work). -/
namespace Go.Proofs.Ytjmbmpeflhkngaa.Mn
open Go Go.Proofs.Ytjmbmpeflhkngaa.Mx Go.Proofs.Ytjmbmpeflhkngaa.Pc Go.Proofs.Ytjmbmpeflhkngaa.Run Go.Proofs.Ytjmbmpeflhkngaa.Field Go.Proofs.Ytjmbmpeflhkngaa.Gen Go.Proofs.Ytjmbmpeflhkngaa.GenL Go.Proofs.Ytjmbmpeflhkngaa.Fl Go.Proofs.Ytjmbmpeflhkngaa.Wd Go.Proofs.Ytjmbmpeflhkngaa.Ft Go.Proofs.Ytjmbmpeflhkngaa.Ln Go.Proofs.Ytjmbmpeflhkngaa.Nav
set_option linter.unusedVariables false
set_option linter.unusedSimpArgs false
set_option maxHeartbeats 2000000
/-- Entities, each on a cell of its own; heroes, each of a seat of its own. -/
structure Apart (l : List EntT) : Prop where
  ents : Ents l
  ok : LOk l
  apart : ∀ i j, i < 32 → j < 32 → kd (l.getD i eN) ≠ 0 → kd (l.getD j eN) ≠ 0 → ex (l.getD i eN) = ex (l.getD j eN) → ey (l.getD i eN) = ey (l.getD j eN) → i = j
  seats : ∀ i j, i < 32 → j < 32 → kd (l.getD i eN) = 1 → kd (l.getD j eN) = 1 → st (l.getD i eN) = st (l.getD j eN) → i = j
theorem mx_b {l : List EntT} (h : LOk l) : ∀ i, i < 32 → 0 ≤ mxh (l.getD i eN) ∧ mxh (l.getD i eN) ≤ 1000 := fun i hi => by
  rcases h.ent i hi with ⟨_, q⟩ | q
  · rw [q]
    show 0 ≤ (0 : Int) ∧ (0 : Int) ≤ 1000
    decide
  · omega
theorem cok_apart {c : List Int} {l : List EntT} (h : COk c l) : Apart l := ⟨⟨h.ok.len, fun i hi => by
    have hi' : i < 32 := by have := h.ok.len; omega
    by_cases k : kd (l.getD i eN) = 0
    · exact .inl k
    · have := h.pos i hi' k
      exact .inr ⟨this.1, this.2.1, this.2.2.1, this.2.2.2.1⟩⟩, h.ok, h.apart, h.seats⟩
section
variable {l : List EntT} (A : Apart l)
include A
theorem heroE_at {h : Nat} (hh : h < 32) (hk : kd (l.getD h eN) = 1) : heroE' l (st (l.getD h eN)) = h := by
  have hl := A.ents.len
  have n : ¬ heroE' l (st (l.getD h eN)) < 0 := fun z => by
    have := find_neg.1 z h (by omega)
    unfold isHero at this
    rw [hk] at this
    simp at this
  obtain ⟨r, hr, er, k1, k2, _⟩ := hero_at hl n
  rw [er, A.seats r h hr hh k1 hk k2]
theorem atE_at {r : Nat} (hr : r < 32) (hk : kd (l.getD r eN) ≠ 0) : atE l (ex (l.getD r eN)) (ey (l.getD r eN)) = r := by
  have hl := A.ents.len
  have n : ¬ atE l (ex (l.getD r eN)) (ey (l.getD r eN)) < 0 := fun z => by
    have := find_neg.1 z r (by omega)
    unfold standsAt at this
    rw [bne_iff_ne.2 hk] at this
    simp at this
  obtain ⟨k, h1, h2, h3, _⟩ := find_pos n
  unfold standsAt at h3
  rw [Bool.and_eq_true, Bool.and_eq_true, bne_iff_ne, beq_iff_eq, beq_iff_eq] at h3
  have e : atE l (ex (l.getD r eN)) (ey (l.getD r eN)) = k := h2
  rw [e, A.apart k r (by omega) hr h3.1 hk h3.2.1 h3.2.2]
end
theorem atE_none {l : List EntT} (hl : l.length = 32) {x y : Int} : atE l x y < 0 ↔ ∀ r, r < 32 → kd (l.getD r eN) ≠ 0 → ¬ (ex (l.getD r eN) = x ∧ ey (l.getD r eN) = y) := by
  unfold atE
  rw [find_neg, hl]
  refine ⟨fun h r hr hk hz => ?_, fun h r hr => ?_⟩
  · have := h r hr
    unfold standsAt at this
    rw [bne_iff_ne.2 hk, hz.1, hz.2] at this
    simp at this
  · unfold standsAt
    by_cases hk : kd (l.getD r eN) = 0
    · rw [hk]; rfl
    · rw [bne_iff_ne.2 hk, Bool.true_and]
      cases e : ex (l.getD r eN) == x && ey (l.getD r eN) == y with
      | false => rfl
      | true =>
        rw [Bool.and_eq_true, beq_iff_eq, beq_iff_eq] at e
        exact absurd e (h r hr hk)
theorem atE_some {l : List EntT} (hl : l.length = 32) {x y : Int} (h : 0 ≤ atE l x y) : ∃ r : Nat, r < 32 ∧ atE l x y = r ∧ kd (l.getD r eN) ≠ 0 ∧ ex (l.getD r eN) = x ∧ ey (l.getD r eN) = y := by
  obtain ⟨k, h1, h2, h3, _⟩ := find_pos (show ¬ atE l x y < 0 by omega)
  unfold standsAt at h3
  rw [Bool.and_eq_true, Bool.and_eq_true, bne_iff_ne, beq_iff_eq, beq_iff_eq] at h3
  exact ⟨k, by omega, h2, h3.1, h3.2.1, h3.2.2⟩
theorem hero_none {l : List EntT} (hl : l.length = 32) {s : Int} (h : ∀ r, r < 32 → kd (l.getD r eN) = 1 → st (l.getD r eN) ≠ s) : heroE' l s < 0 := by
  rcases Int.lt_or_le (heroE' l s) 0 with q | q
  · exact q
  · obtain ⟨r, hr, _, k1, k2, _⟩ := hero_at hl (show ¬ heroE' l s < 0 by omega)
    exact absurd k2 (h r hr k1)
theorem first_free {l : List EntT} (h : ∃ i, i < 32 ∧ kd (l.getD i eN) = 0) : ∃ r : Nat, r < 32 ∧ firstFree l = some r ∧ kd (l.getD r eN) = 0 := by
  obtain ⟨i, hi, hk⟩ := h
  unfold firstFree
  cases e : (List.range 32).find? fun i => kd (l.getD i eN) == 0 with
  | none =>
    have := List.find?_range_eq_none.1 e i hi
    rw [hk] at this
    simp at this
  | some r =>
    obtain ⟨h1, h2, _⟩ := List.find?_range_eq_some.1 e
    exact ⟨r, List.mem_range.1 h2, rfl, beq_iff_eq.1 h1⟩
theorem dd_inj {i j : Nat} (hi : i < 4) (hj : j < 4) (hx : ddx i = ddx j) (hy : ddy i = ddy j) : i = j := by
  have : ∀ i, i < 4 → ∀ j, j < 4 → ddx i = ddx j → ddy i = ddy j → i = j := by decide
  exact this i hi j hj hx hy
theorem dd_ne {j : Nat} (hj : j < 4) : ¬ (ddx j = 0 ∧ ddy j = 0) := by
  have : ∀ j, j < 4 → ¬ (ddx j = 0 ∧ ddy j = 0) := by decide
  exact this j hj
theorem besI_one {a b x y : Int} (h0 : InG a b) (h1 : InG x y) {j : Nat} (hj : j < 4) (hx : x - a = ddx j) (hy : y - b = ddy j) : besI a b x y = 1 + (j : Int) := by
  rcases (bes_all h0 h1).2.2 with ⟨i, hi, e, z1, z2⟩ | ⟨_, z⟩
  · rw [e]
    rw [dd_inj hi hj (z1.symm.trans hx) (z2.symm.trans hy)]
  · exact absurd ⟨hx, hy⟩ (z j hj)
theorem gn_row {c : List Int} {m : Int} (hm : GC m) {j : Nat} (hj : j < 4) : walkable (atC c (m % 24 + ddx j) (m / 24 + ddy j)) = true ↔ GC (nbr m j) ∧ Wk c (nbr m j) := by
  unfold atC Wk
  rcases dir_place m hm j hj with ⟨h1, h2⟩ | ⟨h1, h2⟩
  · unfold InG at h1
    unfold cel at h2
    rw [if_pos h1, h2]
    have : GC (nbr m j) := by rw [← h2]; unfold GC; omega
    exact ⟨fun z => ⟨this, z⟩, fun z => z.2⟩
  · unfold InG at h1
    rw [if_neg h1, h2]
    exact ⟨fun z => absurd z (by decide), fun z => absurd z.1.1 (by decide)⟩
theorem link_last {c : List Int} {m n : Int} (h : Link c m n) (hne : m ≠ n) : ∃ k, GC k ∧ Wk c k ∧ adj k n := by
  cases h with
  | refl _ _ => exact absurd rfl hne
  | step p a b d => exact ⟨_, p.gc, p.wk, a⟩
/-- Beside each cell that can be walked on lies another one. -/
theorem nb_exists (s fl : Int) (h1 : 1 ≤ fl) (h2 : fl ≤ 10000) {m : Int} (hm : GC m) (hw : Wk (cells s fl) m) : ∃ j : Nat, j < 4 ∧ GC (nbr m j) ∧ Wk (cells s fl) (nbr m j) := by
  have R := (reach s fl h1 h2).1
  have lm := R m hm hw
  have lf := R (far s fl) (far_gc s fl) ((cells_wk s fl _).2 (far_wk s fl))
  obtain ⟨n, hn, ln⟩ : ∃ n, n ≠ m ∧ Link (cells s fl) n m := by
    by_cases e : upc s fl = m
    · exact ⟨far s fl, fun z => far_ne s fl (z.trans e.symm), lf.symm.trans lm⟩
    · exact ⟨upc s fl, e, lm⟩
  obtain ⟨k, gk, wk, ak⟩ := link_last ln hn
  obtain ⟨d, hd, e⟩ := adj_sym k m gk hm ak
  exact ⟨d, hd, by rw [e]; exact gk, by rw [e]; exact wk⟩
theorem no_items (w a b : Int) (hw : w ≠ 0) : inI (List.replicate 40 iN) w a b < 0 := by
  refine inI_none.2 fun i hi => ?_
  have : (List.replicate 40 iN).getD i iN = iN := by
    rw [List.getD_eq_getElem?_getD, List.getElem?_replicate]
    split <;> rfl
  rw [this]
  unfold isAt
  rw [beq_eq_false_iff_ne.2 (show iN.2.1 ≠ w from fun z => hw z.symm)]
  rfl
theorem hold_neg {its : List ItT} {s lo hi : Int} (h : ∀ b : Nat, b < 4 → inI its 2 s b < 0 ∨ ¬ (lo ≤ (its.getD (inI its 2 s b).toNat iN).1 ∧ (its.getD (inI its 2 s b).toNat iN).1 ≤ hi)) : hold its s lo hi = -1 := by
  unfold hold
  cases e : (List.range 4).find? (holdB its s lo hi) with
  | none => rfl
  | some b =>
    obtain ⟨h1, h2, _⟩ := List.find?_range_eq_some.1 e
    unfold holdB at h1
    rw [Bool.and_eq_true, Bool.and_eq_true, decide_eq_true_eq, decide_eq_true_eq, decide_eq_true_eq] at h1
    rcases h b (List.mem_range.1 h2) with q | q
    · omega
    · exact absurd h1.2 q
theorem robT_foe {c : List Int} {l : List EntT} {its : List ItT} {s : Int} {e : EntT} {j : Nat} (hj : j < 4) (h1 : foe l e j = true) (h2 : ∀ i, i < j → foe l e i = false) : robT c l its s e = 1 + (j : Int) := by
  unfold robT
  have : (List.range 4).find? (foe l e) = some j := List.find?_range_eq_some.2 ⟨h1, List.mem_range.2 hj, fun i hi => by rw [h2 i hi]; rfl⟩
  rw [this]
theorem robT_none {c : List Int} {l : List EntT} {its : List ItT} {s : Int} {e : EntT} (h : ∀ i, i < 4 → foe l e i = false) : robT c l its s e = if worthI its (ex e) (ey e) (decide (0 ≤ emptyI its s)) = true then 5 else if atC c (ex e) (ey e) = 4 then 9 else towI c l (cel (ex e) (ey e)) (findC c 4) := by
  unfold robT
  have : (List.range 4).find? (foe l e) = none := List.find?_range_eq_none.2 fun i hi => by rw [h i hi]; rfl
  rw [this]
theorem sees_near (c : List Int) {x0 y0 x1 y1 : Int} (h : Ln.stp (x1 - x0) (y1 - y0) ≤ 1) : sees c x0 y0 x1 y1 = true := by
  unfold sees seesL lineL
  rw [lcs_len]
  have : (Ln.stp (x1 - x0) (y1 - y0)).toNat + 1 - 2 = 0 := by omega
  rw [this]
  rfl
/-! ### the hero alone -/
theorem entsW_get (s fl seat at' : Int) (i : Nat) : (entsW s fl seat at').getD i eN = if (within at' 32).toNat = i then heroE s fl seat at' else eN := by
  have b := within_b at' 32 (by decide)
  unfold entsW
  rw [getD_set' _ _ _ _ _ (by rw [List.length_replicate]; omega)]
  have r : (List.replicate 32 eN).getD i eN = eN := by
    rw [List.getD_eq_getElem?_getD, List.getElem?_replicate]
    split <;> rfl
  rw [r]
theorem entsW_len (s fl seat at' : Int) : (entsW s fl seat at').length = 32 := by unfold entsW; rw [List.length_set, List.length_replicate]
theorem entsW_one (s fl seat at' : Int) (i : Nat) (h : kd ((entsW s fl seat at').getD i eN) ≠ 0) : i = (within at' 32).toNat := by
  rw [entsW_get] at h
  split at h
  · rename_i z; exact z.symm
  · exact absurd rfl h
theorem entsW_free (s fl seat at' : Int) : ∃ i, i < 32 ∧ kd ((entsW s fl seat at').getD i eN) = 0 := by
  by_cases h : (within at' 32).toNat = 0
  · exact ⟨1, by decide, by rw [entsW_get, if_neg (by omega)]; rfl⟩
  · exact ⟨0, by decide, by rw [entsW_get, if_neg h]; rfl⟩
theorem heroE_pos (s fl seat at' : Int) : ex (heroE s fl seat at') = heroAt s fl at' % 24 ∧ ey (heroE s fl seat at') = heroAt s fl at' / 24 ∧ kd (heroE s fl seat at') = 1 ∧ st (heroE s fl seat at') = seat := ⟨rfl, rfl, rfl, rfl⟩
theorem nbr_xy {m : Int} (hm : GC m) {j : Nat} (hj : j < 4) (hg : GC (nbr m j)) : InG (m % 24 + ddx j) (m / 24 + ddy j) ∧ cel (m % 24 + ddx j) (m / 24 + ddy j) = nbr m j ∧ m % 24 + ddx j = nbr m j % 24 ∧ m / 24 + ddy j = nbr m j / 24 := by
  rcases dir_place m hm j hj with ⟨h1, h2⟩ | ⟨_, h2⟩
  · refine ⟨h1, h2, ?_, ?_⟩
    · rw [← h2]; exact (cel_mod h1).1.symm
    · rw [← h2]; exact (cel_mod h1).2.1.symm
  · rw [h2] at hg
    exact absurd hg.1 (by decide)
end Go.Proofs.Ytjmbmpeflhkngaa.Mn
/- A robot beside a monster hits it, and it hits back (own work). -/
namespace Go.Proofs.Ytjmbmpeflhkngaa.Mn
open Go Go.Proofs.Ytjmbmpeflhkngaa.Mx Go.Proofs.Ytjmbmpeflhkngaa.Pc Go.Proofs.Ytjmbmpeflhkngaa.Run Go.Proofs.Ytjmbmpeflhkngaa.Field Go.Proofs.Ytjmbmpeflhkngaa.Gen Go.Proofs.Ytjmbmpeflhkngaa.GenL Go.Proofs.Ytjmbmpeflhkngaa.Fl Go.Proofs.Ytjmbmpeflhkngaa.Wd Go.Proofs.Ytjmbmpeflhkngaa.Ft Go.Proofs.Ytjmbmpeflhkngaa.Ln Go.Proofs.Ytjmbmpeflhkngaa.Nav
set_option linter.unusedVariables false
set_option linter.unusedSimpArgs false
set_option maxHeartbeats 2000000
theorem seen_zero (c : List Int) {l : List EntT} (e : EntT) {h : Nat} (h0 : heroE' l 0 = (h : Int)) (hs : ∀ k : Nat, 1 ≤ k → heroE' l k < 0) :
    (seen c l e 4).1 = if dst (ex (l.getD h eN) - ex e) (ey (l.getD h eN) - ey e) ≤ 1536 ∧ sees c (ex e) (ey e) (ex (l.getD h eN)) (ey (l.getD h eN)) = true then (h : Int) else -1 := by
  have st1 : ∀ (b : Int × Int) (k : Nat), 1 ≤ k → seenS c l e b k = b := fun b k hk => by unfold seenS; rw [if_pos (hs k hk)]
  rw [seen_succ, st1 _ 3 (by decide), seen_succ, st1 _ 2 (by decide), seen_succ, st1 _ 1 (by decide), seen_succ]
  show (seenS c l e (-1, 0) 0).1 = _
  unfold seenS
  have e0 : heroE' l ((0 : Nat) : Int) = (h : Int) := h0
  rw [e0, if_neg (by omega), Int.toNat_natCast]
  by_cases q : dst (ex (l.getD h eN) - ex e) (ey (l.getD h eN) - ey e) ≤ 1536 ∧ sees c (ex e) (ey e) (ex (l.getD h eN)) (ey (l.getD h eN)) = true
  · rw [if_pos ⟨q.1, .inl (by decide), q.2⟩, if_pos q]
  · rw [if_neg (fun z => q ⟨z.1, z.2.2⟩), if_neg q]
theorem dd_one {j : Nat} (hj : j < 4) : (ddx j = 0 ∧ (ddy j = 1 ∨ ddy j = -1)) ∨ (ddy j = 0 ∧ (ddx j = 1 ∨ ddx j = -1)) := by
  have : ∀ j, j < 4 → (ddx j = 0 ∧ (ddy j = 1 ∨ ddy j = -1)) ∨ (ddy j = 0 ∧ (ddx j = 1 ∨ ddx j = -1)) := by decide
  exact this j hj
theorem dd_back {j : Nat} (hj : j < 4) : -ddx j = ddx ((j + 2) % 4) ∧ -ddy j = ddy ((j + 2) % 4) := by
  have : ∀ j, j < 4 → -ddx j = ddx ((j + 2) % 4) ∧ -ddy j = ddy ((j + 2) % 4) := by decide
  exact this j hj
/-- One more entity beside a hero that was alone. -/
theorem pair_ok {s fl at' : Int} {j : Nat} (hj : j < 4) (hg : GC (nbr (heroAt s fl at') j)) (hw : Wk (cells s fl) (nbr (heroAt s fl at') j)) {l : List EntT} (hC : COk (cells s fl) l) (hl : l = entsW s fl 0 at') {r : Nat} (hr : r < 32) (hf : kd (l.getD r eN) = 0) {e : EntT} (he : EOk e)
    (hk : 2 ≤ kd e) (hx : ex e = heroAt s fl at' % 24 + ddx j) (hy : ey e = heroAt s fl at' / 24 + ddy j) (hs : st e = 0) : COk (cells s fl) (l.set r e) := by
  have hm := (heroAt_gc s fl at').1
  obtain ⟨h1, h2, h3, h4⟩ := nbr_xy hm hj hg
  have h1' := h1
  unfold InG at h1'
  unfold cel at h2
  have hc0 : (cells s fl).getD (nbr (heroAt s fl at') j).toNat 0 ≠ 0 := (wk_iff (cells_val s fl _)).1 hw
  refine hC.add hr hf he ⟨by omega, by omega, by omega, by omega, ?_, by omega, by omega⟩ (fun i hi => ?_) (fun z => by omega)
  · rw [hx, hy, h2]
    exact hc0
  · rw [hl, entsW_get]
    split
    · unfold standsAt
      rw [Bool.and_eq_false_iff]
      refine .inr ?_
      rw [Bool.and_eq_false_iff, beq_eq_false_iff_ne, beq_eq_false_iff_ne, hx, hy]
      have := dd_ne hj
      show heroAt s fl at' % 24 ≠ _ ∨ heroAt s fl at' / 24 ≠ _
      omega
    · rfl
theorem known9 : f8 = some (true, ()) := by
  unfold f8
  obtain ⟨z, e, l, its, rfl, hC, hX, hI, hL, hN⟩ := crowd_is 1 0 [] [] (by decide) 1
  have hL := hL rfl
  have hN := hN rfl
  rw [e]
  clear e hX
  simp only [Option.bind_some]
  have bf := within_b 0 3 (by decide)
  have hf1 : 1 ≤ 1 + within 0 3 := by omega
  have hf2 : 1 + within 0 3 ≤ 10000 := by omega
  generalize 1 + within 0 3 = fl at *
  generalize within 1 1048576 = fr at *
  have b32 := within_b 1 32 (by decide)
  have hcl := cells_len 1 fl
  have hcb := cells_cb 1 fl
  obtain ⟨hm, hw⟩ := heroAt_gc 1 fl 1
  have A := cok_apart hC
  have hl := A.ents.len
  have gh : l.getD (within 1 32).toNat eN = heroE 1 fl 0 1 := by rw [hL, entsW_get, if_pos rfl]
  have hh : (within 1 32).toNat < 32 := by omega
  generalize hHr : (within 1 32).toNat = h at *
  have eh : heroE' l 0 = h := by
    have := heroE_at A hh (by rw [gh]; rfl)
    rw [gh] at this
    exact this
  rw [rhero_eq l (by omega), eh]
  simp only [Option.bind_some]
  rw [inR (by omega), cond_true, cond_true, Int.toNat_natCast]
  have exh : (l.getD h (0, 0, 0, 0, 0, 0, 0, 0, 0, 0, 0)).2.2.2.1 = heroAt 1 fl 1 % 24 := (congrArg ex gh).trans rfl
  have eyh : (l.getD h (0, 0, 0, 0, 0, 0, 0, 0, 0, 0, 0)).2.2.2.2.1 = heroAt 1 fl 1 / 24 := (congrArg ey gh).trans rfl
  rw [exh, eyh]
  obtain ⟨j0, hj0, g0, k0⟩ := nb_exists 1 fl hf1 hf2 hm hw
  have hm' := hm
  unfold GC at hm'
  refine OK.eq ?_
  unfold f8.L1
  refine OK.loop (fun j : Nat => (heroAt 1 fl 1 % 24, heroAt 1 fl 1 / 24, 1 + (j : Int), 1, fr, fl, 0, 50, 0, 0, 0, cells 1 fl, l, its, ())) (fun j => j ≤ j0) (fun j => 4 - j) (fun rec j hj ih => ?_) 0 rfl (Nat.zero_le _) (by decide)
  dsimp only at hj ih ⊢
  have hj4 : j < 4 := by omega
  have d := dd j hj4
  rw [bif_dec, if_pos (by omega), rway_eq j hj4]
  simp only [Option.bind_some]
  rw [wr (x := heroAt 1 fl 1 % 24 + ddx j) (by omega), wr (x := heroAt 1 fl 1 / 24 + ddy j) (by omega), rat_c _ hcb]
  simp only [Option.bind_some]
  rw [rwalk_eq]
  simp only [Option.bind_some]
  refine OK.bif (fun q => ?_) (fun q => ?_)
  · obtain ⟨gj, wj⟩ := (gn_row hm hj4).1 q
    rw [rstats_eq]
    simp only [Option.bind_some]
    obtain ⟨r, hr, ef, kf⟩ := first_free (l := l) (by rw [hL]; exact entsW_free 1 fl 0 1)
    have hsp := rspawn_eq hl (2, 0, 0, heroAt 1 fl 1 % 24 + ddx j, heroAt 1 fl 1 / 24 + ddy j, 4, 4, 2, 0, 0, 0) (by show 1 ≤ (2 : Int) ∧ (2 : Int) ≤ 4; decide)
    rw [ef] at hsp
    dsimp only at hsp
    rw [hsp]
    simp only [Option.bind_some]
    generalize hE2 : withGen (2, 0, 0, heroAt 1 fl 1 % 24 + ddx j, heroAt 1 fl 1 / 24 + ddy j, 4, 4, 2, 0, 0, 0) (Int.tmod (IntKind.wrap .i64 (gn (l.getD r eN) + 1)) 256) = E2
    have x2 : ex E2 = heroAt 1 fl 1 % 24 + ddx j := by rw [← hE2]; rfl
    have y2 : ey E2 = heroAt 1 fl 1 / 24 + ddy j := by rw [← hE2]; rfl
    have kd2 : kd E2 = 2 := by rw [← hE2]; rfl
    have st2 : st E2 = 0 := by rw [← hE2]; rfl
    have ok2 : EOk E2 := by
      rw [← hE2]
      refine .inr ?_
      show 1 ≤ (2 : Int) ∧ (2 : Int) ≤ 4 ∧ 1 ≤ (4 : Int) ∧ (4 : Int) ≤ 4 ∧ (4 : Int) ≤ 20 ∧ 0 ≤ (2 : Int) ∧ (2 : Int) ≤ 5 ∧ 0 ≤ (0 : Int) ∧ (0 : Int) ≤ 1 ∧ 0 ≤ (0 : Int) ∧ (0 : Int) ≤ 9 ∧ 0 ≤ (0 : Int) ∧ (0 : Int) ≤ 9
      decide
    have C2 := pair_ok hj4 gj wj hC hL hr kf ok2 (by omega) x2 y2 st2
    have A2 := cok_apart C2
    have l2 := A2.ents.len
    have rh : r ≠ h := fun z => by rw [z, gh] at kf; cases kf
    have g2 : ∀ i, (l.set r E2).getD i eN = if r = i then E2 else if h = i then heroE 1 fl 0 1 else eN := fun i => by
      rw [getD_set' _ _ _ _ _ (by omega)]
      split
      · rfl
      · rw [hL, entsW_get, hHr]
    have gr : (l.set r E2).getD r eN = E2 := by rw [g2, if_pos rfl]
    have gH : (l.set r E2).getD h eN = heroE 1 fl 0 1 := by rw [g2, if_neg rh, if_pos rfl]
    generalize l.set r E2 = L2 at *
    have eh2 : heroE' L2 0 = h := by
      have := heroE_at A2 hh (by rw [gH]; rfl)
      rw [gH] at this
      exact this
    have only : ∀ i, kd (L2.getD i eN) ≠ 0 → i = r ∨ i = h := fun i hi => by
      rw [g2] at hi
      by_cases a : r = i
      · exact .inl a.symm
      · by_cases b : h = i
        · exact .inr b.symm
        · rw [if_neg a, if_neg b] at hi; exact absurd rfl hi
    have rob : robI (cells 1 fl) L2 its 0 = 1 + (j : Int) := by
      unfold robI
      rw [eh2, if_neg (by omega), Int.toNat_natCast, gH, if_neg (fun z => by
        have := z.1
        rw [hold_neg (fun b _ => .inl (by rw [hN]; exact no_items 2 0 b (by decide)))] at this
        exact absurd this (by decide))]
      refine robT_foe hj4 ?_ fun i hi => ?_
      · have a := atE_at A2 hr (by rw [gr, kd2]; decide)
        rw [gr, x2, y2] at a
        unfold foe
        rw [(heroE_pos 1 fl 0 1).1, (heroE_pos 1 fl 0 1).2.1, a, decide_eq_true (by omega), Int.toNat_natCast, gr, kd2]
        rfl
      · have a : atE L2 (heroAt 1 fl 1 % 24 + ddx i) (heroAt 1 fl 1 / 24 + ddy i) < 0 := (atE_none l2).2 fun k hk hkd hz => by
          rcases only k hkd with rfl | rfl
          · rw [gr, x2, y2] at hz
            have := dd_inj hj4 (show i < 4 by omega) (by omega) (by omega)
            omega
          · rw [gH] at hz
            have h1 : heroAt 1 fl 1 % 24 = heroAt 1 fl 1 % 24 + ddx i := hz.1
            have h2 : heroAt 1 fl 1 / 24 = heroAt 1 fl 1 / 24 + ddy i := hz.2
            exact dd_ne (show i < 4 by omega) ⟨by omega, by omega⟩
        unfold foe
        rw [(heroE_pos 1 fl 0 1).1, (heroE_pos 1 fl 0 1).2.1, decide_eq_false (by omega)]
        rfl
    have mon : monI (cells 1 fl) L2 1 fr r = 1 + (((j + 2) % 4 : Nat) : Int) := by
      have inh := in_grid A2.ents hh (by rw [gH]; show (1 : Int) ≠ 0; decide)
      have inr := in_grid A2.ents hr (by rw [gr, kd2]; decide)
      rw [gH] at inh
      rw [gr] at inr
      unfold monI
      rw [Int.toNat_natCast, gr, if_neg (by rw [kd2]; omega)]
      have se := seen_zero (cells 1 fl) E2 eh2 (fun k hk => hero_none l2 fun i hi k1 s1 => by
        rcases only i (by rw [k1]; decide) with rfl | rfl
        · rw [gr, kd2] at k1; cases k1
        · rw [gH] at s1
          have : (0 : Int) = k := s1
          omega)
      have dx : ex (L2.getD h eN) - ex E2 = -ddx j := by rw [gH, x2]; show heroAt 1 fl 1 % 24 - _ = _; omega
      have dy : ey (L2.getD h eN) - ey E2 = -ddy j := by rw [gH, y2]; show heroAt 1 fl 1 / 24 - _ = _; omega
      have o1 := dd_one hj4
      rw [if_pos ⟨by rw [dx, dy, dst_one _ _ (by omega)]; decide, sees_near _ (by rw [dx, dy]; unfold Ln.stp; omega)⟩] at se
      unfold monT
      rw [se, if_pos (by omega), Int.toNat_natCast]
      obtain ⟨b1, b2⟩ := dd_back hj4
      have hb := besI_one (j := (j + 2) % 4) inr inh (Nat.mod_lt _ (by decide)) (by rw [← b1, ← dx, gH]) (by rw [← b2, ← dy, gH])
      rw [gH, hb, if_pos (by omega)]
    refine OK.callR (R := fun z => z = Sum.inl (1 + (j : Int), (r : Int), 1 + (((j + 2) % 4 : Nat) : Int), 1, fr, fl, 0, 50, 0, 0, 0, cells 1 fl, L2, its, ())) ?_ ?_
    · rw [bif_dec, wr (x := 1 + (j : Int) + 2) (by omega)]
      by_cases w : 1 + (j : Int) + 2 > 4
      · rw [if_pos w, wr (by omega)]
        refine OK.ret ?_
        rw [show 1 + (j : Int) + 2 - 4 = 1 + (((j + 2) % 4 : Nat) : Int) by omega]
      · rw [if_neg w]
        refine OK.ret ?_
        rw [show 1 + (j : Int) + 2 = 1 + (((j + 2) % 4 : Nat) : Int) by omega]
    · rintro z rfl
      simp only [Sum.elim_inl]
      rw [robot_eq 1 fr fl 0 50 0 0 0 hcb hcl A2.ents hI 0 (mx_b A2.ok), rob]
      simp only [Option.bind_some, beq_self_eq_true, cond_true]
      rw [monster_eq 1 fr fl 0 50 0 0 0 hcb A2.ents its (r : Int), mon]
      simp only [Option.bind_some, beq_self_eq_true]
      exact OK.ret rfl
  · rw [wr (x := 1 + (j : Int) + 1) (by omega)]
    refine ih (j + 1) ?_ (by omega) _ (by rw [show 1 + (j : Int) + 1 = 1 + ((j + 1 : Nat) : Int) by omega])
    rcases Nat.lt_or_ge j j0 with z | z
    · exact z
    · have : j = j0 := by omega
      subst this
      have := (gn_row hm hj4).2 ⟨g0, k0⟩
      rw [q] at this
      cases this
end Go.Proofs.Ytjmbmpeflhkngaa.Mn
/- A hero alone, or beside few: where steps lead (own work). -/
namespace Go.Proofs.Ytjmbmpeflhkngaa.Mn
open Go Go.Proofs.Ytjmbmpeflhkngaa.Mx Go.Proofs.Ytjmbmpeflhkngaa.Pc Go.Proofs.Ytjmbmpeflhkngaa.Run Go.Proofs.Ytjmbmpeflhkngaa.Field Go.Proofs.Ytjmbmpeflhkngaa.Gen Go.Proofs.Ytjmbmpeflhkngaa.GenL Go.Proofs.Ytjmbmpeflhkngaa.Fl Go.Proofs.Ytjmbmpeflhkngaa.Wd Go.Proofs.Ytjmbmpeflhkngaa.Ft Go.Proofs.Ytjmbmpeflhkngaa.Ln Go.Proofs.Ytjmbmpeflhkngaa.Nav
set_option linter.unusedVariables false
set_option linter.unusedSimpArgs false
set_option maxHeartbeats 2000000
theorem stand_self {l : List EntT} (h : Ents l) {m : Int} (hm : GC m) : ∀ i, i ≤ l.length → (stand m l i).getD m.toNat false = false := by
  intro i
  induction i with
  | zero =>
    intro _
    show (List.replicate 384 false).getD m.toNat false = false
    rw [List.getD_eq_getElem?_getD, List.getElem?_replicate]
    split <;> rfl
  | succ i ih =>
    intro hi
    rw [stand_succ m l i (by omega)]
    have := ih (by omega)
    unfold Nav.mk
    split
    · rename_i q
      rw [getD_set]
      rw [if_neg]
      · exact this
      · intro z
        rcases h.at_ i (by omega) with k | k
        · exact q.1 k
        · unfold GC at hm
          have := q.2
          omega
    · exact this
theorem field_weak {c : List Int} {b : List Bool} {t : Int} {f : List Int} (h : IsField (opnC c b) (IsT c [t]) f) (hb : ∀ n, GC n → b.getD n.toNat false = true → n = t) : IsField (opnC c []) (IsT c [t]) f := by
  have nil : ∀ n : Int, GC n → ¬ (n < ((([] : List Bool).length : Nat) : Int) ∧ ([] : List Bool).getD n.toNat false = true) := fun n hn z => by
    have := z.1
    unfold GC at hn
    simp at this
    omega
  refine ⟨⟨h.len, h.lo, h.zero, fun n hn h0 => ⟨⟨(h.up n hn h0).1.1, nil n hn⟩, (h.up n hn h0).2⟩⟩, fun m n hm hn h0 ha ho => ?_⟩
  by_cases q : b.getD n.toNat false = true
  · have e := hb n hn q
    have z : Field.rd f n = 0 := (h.zero n hn).2 ⟨by rw [e]; simp, ho.1⟩
    omega
  · exact h.down m n hm hn h0 ha ⟨ho.1, fun z => q z.2⟩
/-- A step of one who has nobody about but, maybe, who stands at the target, and that not beside. -/
theorem tow_step {c : List Int} (hc : CB c) {l : List EntT} (h : Ents l) {m t : Int} (hm : GC m) (ht : GC t) {f : List Int} (hf : IsField (opnC c []) (IsT c [t]) f) (h1 : 1 ≤ Field.rd f m)
    (hs : ∀ r, r < 32 → kd (l.getD r eN) ≠ 0 → cel (ex (l.getD r eN)) (ey (l.getD r eN)) = m ∨ (cel (ex (l.getD r eN)) (ey (l.getD r eN)) = t ∧ ∀ j, j < 4 → nbr m j ≠ t)) :
    ∃ j : Nat, j < 4 ∧ towI c l m t = 1 + (j : Int) ∧ GC (nbr m j) ∧ Field.rd f (nbr m j) = Field.rd f m - 1 := by
  obtain ⟨_, _, f', hf', hT⟩ := tow_all hc h hm t
  have hl := h.len
  have who : ∀ n, GC n → (stand m l 32).getD n.toNat false = true → n = t := fun n hn q => by
    obtain ⟨k, hk, k0, e⟩ := stand_of m l h n.toNat 32 (by omega) q
    have hk32 : k < 32 := by omega
    have hg := in_grid h hk32 k0
    have e' : cel (ex (l.getD k eN)) (ey (l.getD k eN)) = n := by
      have e2 : (ey (l.getD k eN) * 24 + ex (l.getD k eN)).toNat = n.toNat := e
      unfold InG at hg
      unfold GC at hn
      unfold cel
      omega
    rcases hs k hk32 k0 with z | ⟨z, _⟩
    · have em : n = m := e'.symm.trans z
      rw [em, stand_self h hm 32 (by omega)] at q
      cases q
    · exact e'.symm.trans z
  have ef : f' = f := field_one (field_weak hf' who) hf
  rw [ef] at hT
  rcases hT with ⟨_, z | z⟩ | ⟨_, j, hj, ej, ⟨g, hv, _⟩, _⟩
  · omega
  · exfalso
    obtain ⟨_, p, hp, ha, hv⟩ := hf.up m hm (by omega)
    obtain ⟨j, hj, e⟩ := adj_sym p m hp hm ha
    refine z j hj ⟨by rw [e]; exact hp, by rw [e]; exact hv, fun i hi k0 hz => ?_⟩
    rw [hl] at hi
    have hg := in_grid h hi k0
    have hz1 : ex (l.getD i eN) = nbr m j % 24 := hz.1
    have hz2 : ey (l.getD i eN) = nbr m j / 24 := hz.2
    have ec : cel (ex (l.getD i eN)) (ey (l.getD i eN)) = nbr m j := by
      unfold cel
      rw [hz1, hz2]
      omega
    rcases hs i hi k0 with q | ⟨q, q2⟩
    · rw [ec, e] at q
      rw [q] at hv
      omega
    · exact q2 j hj (ec.symm.trans q)
  · exact ⟨j, hj, ej, g, hv⟩
/-! ### a hero alone -/
noncomputable def oneL (h : Nat) (e : EntT) : List EntT := (List.replicate 32 eN).set h e
theorem lone_get {h : Nat} (hh : h < 32) (e : EntT) (i : Nat) : (oneL h e).getD i eN = if h = i then e else eN := by
  unfold oneL
  rw [getD_set' _ _ _ _ _ (by rw [List.length_replicate]; exact hh)]
  have r : (List.replicate 32 eN).getD i eN = eN := by
    rw [List.getD_eq_getElem?_getD, List.getElem?_replicate]
    split <;> rfl
  rw [r]
theorem lone_set {h : Nat} (e e' : EntT) : (oneL h e).set h e' = oneL h e' := by
  unfold oneL
  rw [List.set_set]
theorem lone_len (h : Nat) (e : EntT) : (oneL h e).length = 32 := by unfold oneL; rw [List.length_set, List.length_replicate]
theorem lone_only {h : Nat} (hh : h < 32) {e : EntT} {i : Nat} (hi : kd ((oneL h e).getD i eN) ≠ 0) : i = h := by
  rw [lone_get hh] at hi
  split at hi
  · rename_i z; exact z.symm
  · exact absurd rfl hi
theorem entsW_lone (s fl seat at' : Int) : entsW s fl seat at' = oneL (within at' 32).toNat (heroE s fl seat at') := rfl
theorem lone_apart {h : Nat} (hh : h < 32) {e : EntT} (he : EOk e) (hk : kd e = 1) (hg : InG (ex e) (ey e)) : Apart (oneL h e) := by
  refine ⟨⟨lone_len h e, fun i hi => ?_⟩, ⟨lone_len h e, fun i hi => ?_⟩, fun i j hi hj h1 h2 _ _ => (lone_only hh h1).trans (lone_only hh h2).symm, fun i j hi hj h1 h2 _ => (lone_only hh (by rw [h1]; decide)).trans (lone_only hh (by rw [h2]; decide)).symm⟩
  · rw [lone_get hh]
    split
    · exact .inr hg
    · exact .inl rfl
  · rw [lone_get hh]
    split
    · exact he
    · exact .inl ⟨rfl, rfl⟩
theorem lone_cok {c : List Int} {h : Nat} (hh : h < 32) {e : EntT} (he : EOk e) (hk : kd e = 1) (hg : InG (ex e) (ey e)) (hc : c.getD (cel (ex e) (ey e)).toNat 0 ≠ 0) (hs : st e = 0) : COk c (oneL h e) := by
  have A := lone_apart hh he hk hg
  refine ⟨A.ok, fun i hi h1 => ?_, A.apart, A.seats, ⟨h, hh, by rw [lone_get hh, if_pos rfl]; exact hk, by rw [lone_get hh, if_pos rfl]; exact hs⟩⟩
  have := lone_only hh h1
  subst this
  rw [lone_get hh, if_pos rfl]
  unfold InG at hg
  exact ⟨hg.1, hg.2.1, hg.2.2.1, hg.2.2.2, hc, by omega, by omega⟩
theorem foe_alone {h : Nat} (hh : h < 32) {e : EntT} (i : Nat) (hi : i < 4) : foe (oneL h e) e i = false := by
  have a : atE (oneL h e) (ex e + ddx i) (ey e + ddy i) < 0 := (atE_none (lone_len h e)).2 fun r hr hk hz => by
    have := lone_only hh hk
    subst this
    rw [lone_get hh, if_pos rfl] at hz
    exact dd_ne hi ⟨by omega, by omega⟩
  unfold foe
  rw [decide_eq_false (by omega)]
  rfl
theorem alone_step {c : List Int} (hc : CB c) {h : Nat} (hh : h < 32) {e : EntT} (A : Apart (oneL h e)) {m t : Int} (hm : GC m) (hx : ex e = m % 24) (hy : ey e = m / 24) (ht : GC t) {f : List Int} (hf : IsField (opnC c []) (IsT c [t]) f) (h1 : 1 ≤ Field.rd f m) :
    ∃ j : Nat, j < 4 ∧ towI c (oneL h e) (cel (ex e) (ey e)) t = 1 + (j : Int) ∧ GC (nbr m j) ∧ Field.rd f (nbr m j) = Field.rd f m - 1 := by
  have ec : cel (ex e) (ey e) = m := by unfold cel; rw [hx, hy]; omega
  rw [ec]
  refine tow_step hc A.ents hm ht hf h1 fun r hr hk => .inl ?_
  have := lone_only hh hk
  subst this
  rw [lone_get hh, if_pos rfl]
  exact ec
/-- The field of the way down, over a floor. -/
theorem down_field (s fl : Int) (h1 : 1 ≤ fl) (h2 : fl ≤ 10000) {f : List Int} {t : Int} (ht : GC t) (wt : Wk (cells s fl) t) (hf : IsField (opnC (cells s fl) []) (IsT (cells s fl) [t]) f) {n : Int} (hn : GC n) (hw : Wk (cells s fl) n) : 0 ≤ Field.rd f n ∧ (Field.rd f n = 0 ↔ n = t) := by
  have R := (reach s fl h1 h2).1
  refine ⟨link_field hf ((R t ht wt).symm.trans (R n hn hw)), ?_⟩
  rw [hf.zero n hn]
  refine ⟨fun z => List.mem_singleton.1 z.1, fun z => ⟨by rw [z]; simp, ?_⟩⟩
  exact hw
theorem atC_m {c : List Int} {m : Int} (hm : GC m) : atC c (m % 24) (m / 24) = Field.rd c m := by
  unfold GC at hm
  unfold atC
  rw [if_pos (by omega), show m / 24 * 24 + m % 24 = m by omega]
theorem worth_no (x y : Int) (b : Bool) : worthI (List.replicate 40 iN) x y b = false := by
  have := no_items 1 x y (by decide)
  unfold worthI
  rw [decide_eq_false (by omega)]
  rfl
theorem hold_no (s : Int) : hold (List.replicate 40 iN) s 1 1 = -1 := hold_neg fun b _ => .inl (no_items 2 s b (by decide))
end Go.Proofs.Ytjmbmpeflhkngaa.Mn

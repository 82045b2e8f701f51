/- The law NavAsks, in plain words (own work). -/
import Derived.Test.YtldgilfchpfblaaPureNavFree
namespace Go.Proofs.Ytldgilfchpfblaa.Nav
open Go Go.Proofs.Ytldgilfchpfblaa.Mx Go.Proofs.Ytldgilfchpfblaa.Pc Go.Proofs.Ytldgilfchpfblaa.Run Go.Proofs.Ytldgilfchpfblaa.Field Go.Proofs.Ytldgilfchpfblaa.Gen
set_option linter.unusedVariables false
set_option linter.unusedSimpArgs false
theorem wrap_eq (x : Int) : IntKind.wrap .i64 x = (x + 9223372036854775808) % 18446744073709551616 - 9223372036854775808 := by
  simp [IntKind.wrap, IntKind.bits, IntKind.signed]
  split <;> omega
/-- Nobody stands there. -/
def Free (l : List EntT) (x y : Int) : Prop := ∀ i, i < l.length → (l.getD i e0).1 ≠ 0 → ¬ (exx (l.getD i e0) = x ∧ eyy (l.getD i e0) = y)
theorem rat_iff (l : List EntT) (hl : l.length ≤ 1000) (x y : Int) : OK (f18 l x y) fun z => z.1 < 0 ↔ Free l x y := by
  unfold f18 f18.L1
  refine OK.loop (fun j : Nat => (l, x, y, (j : Int), ())) (fun j => j ≤ l.length ∧ ∀ i, i < j → (l.getD i e0).1 ≠ 0 → ¬ (exx (l.getD i e0) = x ∧ eyy (l.getD i e0) = y)) (fun j => l.length - j) (fun rec j hj ih => ?_) 0 rfl ⟨Nat.zero_le _, fun i hi => absurd hi (Nat.not_lt_zero i)⟩ (by omega)
  obtain ⟨hj, hn⟩ := hj
  dsimp only at hj hn ih ⊢
  rw [bif_dec]
  by_cases q : (j : Int) < (l.length : Int)
  · have wj : IntKind.wrap .i64 ((j : Int) + 1) = ((j + 1 : Nat) : Int) := by rw [wr (by omega)]; omega
    have skip : ((l.getD j e0).1 ≠ 0 → ¬ (exx (l.getD j e0) = x ∧ eyy (l.getD j e0) = y)) → OK (rec (l, x, y, ((j + 1 : Nat) : Int), ())) _ := fun h => ih (j + 1) ⟨by omega, fun i hi => by
      rcases (by omega : i < j ∨ i = j) with z | z
      · exact hn i z
      · subst z; exact h⟩ (by omega) _ rfl
    rw [if_pos q, inR (by omega), cond_true, cond_true, cond_true, wj, Int.toNat_natCast]
    refine OK.bif (fun h1 => ?_) (fun h1 => skip (fun h => absurd (bne_eq_false_iff_eq.1 h1) h))
    refine OK.bif (fun h2 => ?_) (fun h2 => skip (fun _ h => beq_eq_false_iff_ne.1 h2 h.1))
    refine OK.bif (fun h3 => ?_) (fun h3 => skip (fun _ h => beq_eq_false_iff_ne.1 h3 h.2))
    exact OK.ret ⟨fun h => by dsimp only at h; omega, fun h => absurd ⟨beq_iff_eq.1 h2, beq_iff_eq.1 h3⟩ (h j (by omega) (bne_iff_ne.1 h1))⟩
  · rw [if_neg q]
    exact OK.ret ⟨fun _ i hi => hn i (by omega), fun _ => (by dsimp only; omega)⟩
theorem at_iff (l : List EntT) (hl : l.length = 32) (x y : Int) : OK (f51 l x y) fun z => z.1 < 0 ↔ Free l x y := by
  unfold f51 f71 f81
  have lm : minI (l.length : Int) 32 = 32 := by rw [minI_eq]; omega
  have ld : List.drop 0 (List.take (Int.toNat (32 : Int)) l) = l := by
    rw [List.drop_zero]; exact List.take_of_length_le (by omega)
  rw [lm, bif_dec, if_pos (by omega), ld]
  simp only [Option.bind_some]
  unfold f71.L1
  refine OK.callR (R := fun z => z.1 < 0 ↔ Free l x y) ?_ (fun z hz => OK.ret hz)
  refine OK.loop (fun j : Nat => (l, (l.length : Int), (j : Int), x, y, ())) (fun j => j ≤ l.length ∧ ∀ i, i < j → (l.getD i e0).1 ≠ 0 → ¬ (exx (l.getD i e0) = x ∧ eyy (l.getD i e0) = y)) (fun j => l.length - j) (fun rec j hj ih => ?_) 0 rfl ⟨Nat.zero_le _, fun i hi => absurd hi (Nat.not_lt_zero i)⟩ (by omega)
  obtain ⟨hj, hn⟩ := hj
  dsimp only at hj hn ih ⊢
  rw [bif_dec]
  by_cases q : (j : Int) < (l.length : Int)
  · have wj : IntKind.wrap .i64 ((j : Int) + 1) = ((j + 1 : Nat) : Int) := by rw [wr (by omega)]; omega
    have skip : ((l.getD j e0).1 ≠ 0 → ¬ (exx (l.getD j e0) = x ∧ eyy (l.getD j e0) = y)) → OK (rec (l, (l.length : Int), ((j + 1 : Nat) : Int), x, y, ())) _ := fun h => ih (j + 1) ⟨by omega, fun i hi => by
      rcases (by omega : i < j ∨ i = j) with z | z
      · exact hn i z
      · subst z; exact h⟩ (by omega) _ rfl
    rw [if_pos q, inR (by omega), cond_true, wj, Int.toNat_natCast]
    have ep : f72 (j : Int) (l.getD j e0).1 (l.getD j e0).2.1 (l.getD j e0).2.2.1 (l.getD j e0).2.2.2.1 (l.getD j e0).2.2.2.2.1 (l.getD j e0).2.2.2.2.2.1 (l.getD j e0).2.2.2.2.2.2.1 (l.getD j e0).2.2.2.2.2.2.2.1 (l.getD j e0).2.2.2.2.2.2.2.2.1 (l.getD j e0).2.2.2.2.2.2.2.2.2.1 (l.getD j e0).2.2.2.2.2.2.2.2.2.2 x y = some ((l.getD j e0).1 != 0 && (exx (l.getD j e0) == x && (eyy (l.getD j e0) == y && true)), ()) := by
      unfold f72
      cases ((l.getD j e0).1 != 0) <;> rfl
    rw [ep]
    simp only [Option.bind_some]
    cases h1 : ((l.getD j e0).1 != 0) with
    | false => exact skip (fun h => absurd (bne_eq_false_iff_eq.1 h1) h)
    | true =>
    cases h2 : (exx (l.getD j e0) == x) with
    | false => exact skip (fun _ h => beq_eq_false_iff_ne.1 h2 h.1)
    | true =>
    cases h3 : (eyy (l.getD j e0) == y) with
    | false => exact skip (fun _ h => beq_eq_false_iff_ne.1 h3 h.2)
    | true => exact OK.ret ⟨fun h => by dsimp only at h; omega, fun h => absurd ⟨beq_iff_eq.1 h2, beq_iff_eq.1 h3⟩ (h j (by omega) (bne_iff_ne.1 h1))⟩
  · rw [if_neg q]
    exact OK.ret ⟨fun _ i hi => hn i (by omega), fun _ => (by dsimp only; omega)⟩
theorem stand_of (m : Int) (l : List EntT) (h : Ents l) (n : Nat) : ∀ i, i ≤ l.length → (stand m l i).getD n false = true → ∃ k, k < l.length ∧ (l.getD k e0).1 ≠ 0 ∧ (eyy (l.getD k e0) * 24 + exx (l.getD k e0)).toNat = n := by
  intro i
  induction i with
  | zero =>
    intro _ e
    have : (stand m l 0).getD n false = false := by
      unfold stand
      rw [List.take_zero, List.foldl_nil, List.getD_eq_getElem?_getD, List.getElem?_replicate]
      split <;> rfl
    rw [this] at e
    cases e
  | succ i ih =>
    intro hi e
    rw [stand_succ m l i (by omega)] at e
    unfold mk at e
    split at e
    · rename_i g
      rw [getD_set] at e
      split at e
      · rename_i g2
        exact ⟨i, by omega, g.1, g2.1⟩
      · exact ih (by omega) e
    · exact ih (by omega) e
/-- The first way that leads nearer. -/
def PJ (l : List EntT) (f : List Int) (m : Int) (j : Nat) : Prop := GC (nbr m j) ∧ Field.rd f (nbr m j) = Field.rd f m - 1 ∧ Free l (nbr m j % 24) (nbr m j / 24)
def TW (l : List EntT) (f : List Int) (m z : Int) : Prop := (z = 0 ∧ (Field.rd f m < 1 ∨ ∀ j, j < 4 → ¬ PJ l f m j)) ∨ (1 ≤ Field.rd f m ∧ ∃ j : Nat, j < 4 ∧ z = 1 + (j : Int) ∧ PJ l f m j ∧ ∀ k, k < j → ¬ PJ l f m k)
theorem TW.one {l : List EntT} {f : List Int} {m z z' : Int} (h : TW l f m z) (h' : TW l f m z') : z = z' := by
  rcases h with ⟨e, h⟩ | ⟨r, j, hj, e, p, n⟩
  · rcases h' with ⟨e', h'⟩ | ⟨r', j', hj', e', p', n'⟩
    · omega
    · rcases h with h | h
      · omega
      · exact absurd p' (h j' hj')
  · rcases h' with ⟨e', h'⟩ | ⟨r', j', hj', e', p', n'⟩
    · rcases h' with h' | h'
      · omega
      · exact absurd p (h' j hj)
    · rcases (by omega : j < j' ∨ j = j' ∨ j' < j) with z | z | z
      · exact absurd p (n' j z)
      · subst z; omega
      · exact absurd p' (n j' z)
theorem free_stand (m : Int) (l : List EntT) (h : Ents l) (n : Int) (hn : GC n) (ne : n ≠ m) : (stand m l 32).getD n.toNat false = false ↔ Free l (n % 24) (n / 24) := by
  have hl := h.len
  unfold GC at hn
  constructor
  · intro e i hi h1 ⟨g1, g2⟩
    have ep : eyy (l.getD i e0) * 24 + exx (l.getD i e0) = n := by rw [g1, g2]; omega
    have := stand_at m l h i hi h1 (by rw [ep]; exact ne) 32 (by omega) (by omega)
    rw [ep, e] at this
    cases this
  · intro hf
    cases e : (stand m l 32).getD n.toNat false with
    | false => rfl
    | true =>
      obtain ⟨k, hk, h1, h2⟩ := stand_of m l h n.toNat 32 (by omega) e
      have g := (h.at_ k hk).resolve_left h1
      exact absurd ⟨by omega, by omega⟩ (hf k hk h1)
theorem toward_tw (c : List Int) (hc : CB c) (l : List EntT) (h : Ents l) (m : Int) (hm : GC m) (ts : List Int) (ht : ts.length ≤ 1000000) :
    OK (f15 c l (m % 24) (m / 24) ts) fun z => ∃ f, IsField (opnC c (stand m l 32)) (IsT c ts) f ∧ TW l f m z.1 := by
  have hm' := hm
  unfold GC at hm'
  have hl := h.len
  unfold f15
  have em : m / 24 * 24 + m % 24 = m := by omega
  rw [number_eq, if_pos (by omega), em]
  simp only [Option.bind_some]
  have lm : minI (l.length : Int) 32 = 32 := by rw [minI_eq]; omega
  have ld : List.drop 0 (List.take (Int.toNat (32 : Int)) l) = l := by
    rw [List.drop_zero]; exact List.take_of_length_le (by omega)
  rw [bif_dec, if_neg (by omega), lm, bif_dec, if_pos (by omega), ld]
  unfold f15.L2
  refine OK.loop (fun j : Nat => (c, m % 24, m / 24, ts, m, l, (l.length : Int), (j : Int), stand m l j, ())) (fun j => j ≤ 32) (fun j => 32 - j) (fun rec j hj ih => ?_) 0 rfl (Nat.zero_le _) (by decide)
  dsimp only at hj ih ⊢
  rw [bif_dec]
  by_cases q : (j : Int) < (l.length : Int)
  · have wj : IntKind.wrap .i64 ((j : Int) + 1) = ((j + 1 : Nat) : Int) := by rw [wr (by omega)]; omega
    rw [if_pos q, inR (by omega), cond_true, number_eq, wj, Int.toNat_natCast]
    simp only [Option.bind_some]
    have nx := ih (j + 1) (by omega) (by omega) _ rfl
    rw [stand_succ m l j (by omega)] at nx
    have hlen := stand_len m l j
    have hh := h.at_ j (by omega)
    generalize stand m l j = b at *
    unfold mk at nx
    generalize hE : l.getD j e0 = E at *
    by_cases k0 : E.1 = 0
    · have q0 : (E.1 != 0) = false := by simp [k0]
      rw [if_neg (fun hx => hx.1 k0)] at nx
      rw [q0, cond_false]
      exact nx
    · have q0 : (E.1 != 0) = true := by simpa using k0
      have g := hh.resolve_left k0
      have eN : (if 0 ≤ E.2.2.2.1 ∧ E.2.2.2.1 < 24 ∧ 0 ≤ E.2.2.2.2.1 ∧ E.2.2.2.2.1 < 16 then E.2.2.2.2.1 * 24 + E.2.2.2.1 else -1) = eyy E * 24 + exx E := if_pos g
      rw [q0, cond_true, eN, bif_dec, if_pos (by omega)]
      by_cases k1 : eyy E * 24 + exx E = m
      · have q1 : (eyy E * 24 + exx E != m) = false := by simp [k1]
        rw [if_neg (fun hx => hx.2 k1)] at nx
        rw [q1, cond_false]
        exact nx
      · have q1 : (eyy E * 24 + exx E != m) = true := by simpa using k1
        rw [if_pos ⟨k0, k1⟩] at nx
        rw [q1, cond_true, inR (by omega), cond_true]
        exact nx
  · have e : j = 32 := by omega
    subst e
    rw [if_neg q]
    have hlen := stand_len m l 32
    refine OK.callR (field_is c hc (stand m l 32) ts ht) fun y hy => ?_
    have hfl := hy.len
    have lo := hy.lo m hm
    have sm := field_small hy m hm
    have fs := fun n hn ne => free_stand m l h n hn ne
    generalize stand m l 32 = b at *
    obtain ⟨f, u⟩ := y
    dsimp only at hy hfl lo sm ⊢
    rw [inR (by omega), cond_true, bif_dec]
    by_cases k : f.getD m.toNat 0 < 1
    · rw [if_pos k]
      exact OK.ret ⟨f, hy, .inl ⟨rfl, .inl k⟩⟩
    · rw [if_neg k]
      have k' : 1 ≤ Field.rd f m := by unfold Field.rd; omega
      unfold f15.L1
      refine OK.loop (fun j : Nat => (m % 24, m / 24, m, 1 + (j : Int), b, f, ())) (fun j => j ≤ 4 ∧ ∀ i, i < j → ¬ PJ l f m i) (fun j => 4 - j) (fun rec j hj ih => ?_) 0 rfl ⟨Nat.zero_le _, fun i hi => absurd hi (Nat.not_lt_zero i)⟩ (by decide)
      obtain ⟨hj, hnp⟩ := hj
      dsimp only at hj hnp ih ⊢
      rw [bif_dec]
      by_cases q : j < 4
      · have d := dd j q
        have wj : IntKind.wrap .i64 (1 + (j : Int) + 1) = 1 + ((j + 1 : Nat) : Int) := by rw [wr (by omega)]; omega
        have skip : ¬ PJ l f m j → OK (rec (m % 24, m / 24, m, 1 + ((j + 1 : Nat) : Int), b, f, ())) _ := fun hp => ih (j + 1) ⟨by omega, fun i hi => by
          rcases (by omega : i < j ∨ i = j) with z | z
          · exact hnp i z
          · subst z; exact hp⟩ (by omega) _ rfl
        rw [if_pos (by omega), small_of (x := m % 24) (by omega), small_of (x := m / 24) (by omega), cond_true, cond_true, step_eq _ _ (by omega) (by omega) j q, wj]
        simp only [Option.bind_some]
        rw [plain_eq _ _ (by omega) (by omega)]
        simp only [Option.bind_some]
        rw [number_eq]
        simp only [Option.bind_some]
        rcases dir_place m hm j q with ⟨hin, hcel⟩ | ⟨hout, hn⟩
        · unfold InG at hin
          unfold cel at hcel
          have hg : GC (nbr m j) := by rw [← hcel]; unfold GC; omega
          rw [if_pos hin, hcel]
          have hg' := hg
          unfold GC at hg'
          have ew : IntKind.wrap .i64 (f.getD m.toNat 0 - 1) = Field.rd f m - 1 := by
            have : f.getD m.toNat 0 = Field.rd f m := rfl
            rw [this, wr (by omega)]
          rw [bif_dec, if_pos (by omega), inR (i := nbr m j) (n := f.length) (by omega), inR (i := m) (n := f.length) (by omega), inR (i := nbr m j) (n := b.length) (by omega), cond_true, cond_true, cond_true, ew]
          refine OK.bif (fun h1 => ?_) (fun h1 => skip (fun hp => beq_eq_false_iff_ne.1 h1 hp.2.1))
          have r1 : Field.rd f (nbr m j) = Field.rd f m - 1 := beq_iff_eq.1 h1
          have ne : nbr m j ≠ m := fun e => by rw [e] at r1; omega
          have fs' := fs (nbr m j) hg ne
          cases hb : b.getD (nbr m j).toNat false with
          | false => exact OK.ret ⟨f, hy, .inr ⟨k', j, q, rfl, ⟨hg, r1, fs'.1 hb⟩, hnp⟩⟩
          | true => exact skip (fun hp => by have := fs'.2 hp.2.2; rw [hb] at this; cases this)
        · unfold InG at hout
          rw [if_neg hout, bif_dec, if_neg (by omega)]
          exact skip (fun hp => by have := hp.1; rw [hn] at this; unfold GC at this; omega)
      · rw [if_neg (by omega)]
        exact OK.ret ⟨f, hy, .inl ⟨rfl, .inr fun i hi => hnp i (by omega)⟩⟩
/-- The document's. -/
theorem blocked_ok (l : List EntT) (h : Ents l) (m : Int) (hm : GC m) : OK (f50 l (m % 24) (m / 24)) fun z => z.1 = stand m l 32 := by
  have hl := h.len
  unfold GC at hm
  unfold f50 f50.L1
  refine OK.loop (fun j : Nat => (l, m % 24, m / 24, (j : Int), stand m l j, ())) (fun j => j ≤ 32) (fun j => 32 - j) (fun rec j hj ih => ?_) 0 rfl (Nat.zero_le _) (by decide)
  dsimp only at hj ih ⊢
  rw [bif_dec]
  by_cases q : (j : Int) < (l.length : Int)
  · have wj : IntKind.wrap .i64 ((j : Int) + 1) = ((j + 1 : Nat) : Int) := by rw [wr (by omega)]; omega
    rw [if_pos q, inR (by omega)]
    simp only [cond_true]
    rw [in_eq, wj, Int.toNat_natCast]
    simp only [Option.bind_some]
    have nx := ih (j + 1) (by omega) (by omega) _ rfl
    rw [stand_succ m l j (by omega)] at nx
    have hlen := stand_len m l j
    have hh := h.at_ j (by omega)
    generalize stand m l j = b at *
    unfold mk at nx
    generalize hE : l.getD j e0 = E at *
    by_cases k0 : E.1 = 0
    · have q0 : (E.1 != 0) = false := by simp [k0]
      rw [if_neg (fun hx => hx.1 k0)] at nx
      rw [q0, cond_false]
      exact nx
    · have q0 : (E.1 != 0) = true := by simpa using k0
      have g := hh.resolve_left k0
      have e1 : E.2.2.2.2.1 = eyy E := rfl
      have e2 : E.2.2.2.1 = exx E := rfl
      rw [e1, e2]
      have eN : IntKind.wrap .i64 (IntKind.wrap .i64 (eyy E * 24) + exx E) = eyy E * 24 + exx E := by
        rw [wr (x := eyy E * 24) (by omega), wr (by omega)]
      rw [q0, cond_true, decide_eq_true g, cond_true, eN, inR (i := eyy E * 24 + exx E) (by omega)]
      simp only [cond_true]
      by_cases k1 : eyy E * 24 + exx E = m
      · have q1 : (exx E != m % 24) = false := by simp; omega
        have q2 : (eyy E != m / 24) = false := by simp; omega
        rw [if_neg (fun hx => hx.2 k1)] at nx
        rw [q1, cond_false, q2, cond_false]
        exact nx
      · rw [if_pos ⟨k0, k1⟩] at nx
        cases q1 : (exx E != m % 24) with
        | true => exact nx
        | false =>
          have := bne_eq_false_iff_eq.1 q1
          have q2 : (eyy E != m / 24) = true := by simp; omega
          rw [cond_false, q2, cond_true]
          exact nx
  · have e : j = 32 := by omega
    subst e
    rw [if_neg q]
    exact OK.ret rfl
theorem rtoward_tw (c : List Int) (hc : CB c) (l : List EntT) (h : Ents l) (m : Int) (hm : GC m) (ts : List Int) (ht : ts.length ≤ 1000000) :
    OK (f19 c l (m % 24) (m / 24) ts) fun z => ∃ f, IsField (opnC c (stand m l 32)) (IsT c ts) f ∧ TW l f m z.1 := by
  have hm' := hm
  unfold GC at hm'
  have hl := h.len
  unfold f19
  have em : IntKind.wrap .i64 (IntKind.wrap .i64 (m / 24 * 24) + m % 24) = m := by rw [wr (x := m / 24 * 24) (by omega), wr (by omega)]; omega
  rw [in_eq, decide_eq_true (by omega)]
  simp only [Option.bind_some, Bool.not_true, cond_false]
  refine OK.callR (blocked_ok l h m hm) fun y1 e1 => ?_
  rw [e1]
  refine OK.callR (rfield_is c hc (stand m l 32) ts ht) fun y hy => ?_
  have hfl := hy.len
  have lo := hy.lo m hm
  have sm := field_small hy m hm
  obtain ⟨f, u⟩ := y
  dsimp only at hy hfl lo sm ⊢
  rw [em, inR (by omega), cond_true, bif_dec]
  by_cases k : f.getD m.toNat 0 < 1
  · rw [if_pos k]
    exact OK.ret ⟨f, hy, .inl ⟨rfl, .inl k⟩⟩
  · rw [if_neg k]
    have k' : 1 ≤ Field.rd f m := by unfold Field.rd; omega
    have efm : f.getD m.toNat 0 = Field.rd f m := rfl
    rw [efm]
    unfold f19.L1
    refine OK.loop (fun j : Nat => (l, m % 24, m / 24, Field.rd f m, 1 + (j : Int), f, ())) (fun j => j ≤ 4 ∧ ∀ i, i < j → ¬ PJ l f m i) (fun j => 4 - j) (fun rec j hj ih => ?_) 0 rfl ⟨Nat.zero_le _, fun i hi => absurd hi (Nat.not_lt_zero i)⟩ (by decide)
    obtain ⟨hj, hnp⟩ := hj
    dsimp only at hj hnp ih ⊢
    rw [bif_dec]
    by_cases q : j < 4
    · have d := dd j q
      have wj : IntKind.wrap .i64 (1 + (j : Int) + 1) = 1 + ((j + 1 : Nat) : Int) := by rw [wr (by omega)]; omega
      have skip : ¬ PJ l f m j → OK (rec (l, m % 24, m / 24, Field.rd f m, 1 + ((j + 1 : Nat) : Int), f, ())) _ := fun hp => ih (j + 1) ⟨by omega, fun i hi => by
        rcases (by omega : i < j ∨ i = j) with z | z
        · exact hnp i z
        · subst z; exact hp⟩ (by omega) _ rfl
      rw [if_pos (by omega), rway_eq j q, wj]
      simp only [Option.bind_some]
      rw [wr (x := m % 24 + ddx j) (by omega), wr (x := m / 24 + ddy j) (by omega), wr (x := (m / 24 + ddy j) * 24) (by omega), wr (x := (m / 24 + ddy j) * 24 + m % 24) (by omega), wr (x := (m / 24 + ddy j) * 24 + m % 24 + ddx j) (by omega), wr (x := Field.rd f m - 1) (by omega), in_eq]
      simp only [Option.bind_some]
      rcases dir_place m hm j q with ⟨hin, hcel⟩ | ⟨hout, hn⟩
      · unfold InG at hin
        unfold cel at hcel
        have hg : GC (nbr m j) := by rw [← hcel]; unfold GC; omega
        have ek : (m / 24 + ddy j) * 24 + m % 24 + ddx j = nbr m j := by omega
        have hg' := hg
        unfold GC at hg'
        rw [decide_eq_true hin, cond_true, ek, inR (by omega), cond_true]
        refine OK.bif (fun h1 => ?_) (fun h1 => skip (fun hp => beq_eq_false_iff_ne.1 h1 hp.2.1))
        have r1 : Field.rd f (nbr m j) = Field.rd f m - 1 := beq_iff_eq.1 h1
        refine OK.callR (rat_iff l (by omega) _ _) fun z hz => ?_
        have x1 : m % 24 + ddx j = nbr m j % 24 := by omega
        have x2 : m / 24 + ddy j = nbr m j / 24 := by omega
        rw [x1, x2] at hz
        rw [bif_dec]
        by_cases zn : z.1 < 0
        · rw [if_pos zn]
          exact OK.ret ⟨f, hy, .inr ⟨k', j, q, rfl, ⟨hg, r1, hz.1 zn⟩, hnp⟩⟩
        · rw [if_neg zn]
          exact skip (fun hp => zn (hz.2 hp.2.2))
      · rw [decide_eq_false (show ¬ (0 ≤ m % 24 + ddx j ∧ m % 24 + ddx j < 24 ∧ 0 ≤ m / 24 + ddy j ∧ m / 24 + ddy j < 16) from hout), cond_false]
        exact skip (fun hp => by have := hp.1; rw [hn] at this; unfold GC at this; omega)
    · rw [if_neg (by omega)]
      exact OK.ret ⟨f, hy, .inl ⟨rfl, .inr fun i hi => hnp i (by omega)⟩⟩
end Go.Proofs.Ytldgilfchpfblaa.Nav

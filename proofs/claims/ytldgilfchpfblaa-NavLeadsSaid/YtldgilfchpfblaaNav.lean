/- What nav's functions compute (own work). -/
import Derived.Test.YtldgilfchpfblaaMake
namespace Go.Proofs.Ytldgilfchpfblaa.Nav
open Go Go.Proofs.Ytldgilfchpfblaa.Mx Go.Proofs.Ytldgilfchpfblaa.Pc Go.Proofs.Ytldgilfchpfblaa.Run Go.Proofs.Ytldgilfchpfblaa.Field Go.Proofs.Ytldgilfchpfblaa.Gen
set_option linter.unusedVariables false
set_option linter.unusedSimpArgs false
theorem within_eq (a n : Int) (h : 0 < n) (hn : n ≤ 1000000000000) : f12 a n = some (within a n, ()) := by
  have := within_b a n h
  unfold f12 within
  simp only [Option.bind_some, bif_dec]
  rw [if_neg (by omega)]
  split
  · rw [wr (by omega)]; rfl
  · rfl
theorem turned_eq (n : Nat) (hn : n ≤ 3) : f74 0 (-1) (n : Int) = some (ddx n, ddy n, ()) := by
  refine OK.eq ?_
  unfold f74 f74.L1
  have e : Int.tmod (IntKind.wrap .i64 (Int.tmod (n : Int) 4 + 4)) 4 = n := by
    rw [Int.tmod_eq_emod_of_nonneg (a := (n : Int)) (by omega), wr (by omega), Int.tmod_eq_emod_of_nonneg (by omega)]; omega
  rw [e]
  refine OK.loop (fun j : Nat => (ddx j, ddy j, (n : Int), (j : Int), ())) (fun j => j ≤ n) (fun j => n - j) (fun rec j hj ih => ?_) 0 rfl (Nat.zero_le _) (by omega)
  dsimp only at hj ih ⊢
  rw [bif_dec]
  by_cases q : (j : Int) < n
  · rw [if_pos q, wr (by omega)]
    have k : ∀ j : Nat, j < 3 → (small (ddx j) && small (ddy j)) = true ∧ -ddy j = ddx (j + 1) ∧ ddx j = ddy (j + 1) := by decide
    obtain ⟨k1, k2, k3⟩ := k j (by omega)
    rw [k1, cond_true]
    exact ih (j + 1) (by omega) (by omega) _ (by rw [k2, ← k3]; rfl)
  · have e : j = n := by omega
    rw [if_neg q]
    subst e
    exact OK.ret rfl
theorem way_eq (j : Nat) (hj : j < 4) : f52 (1 + (j : Int)) = some (ddx j, ddy j, ()) := by
  unfold f52
  have e : 1 + (j : Int) - 1 = j := by omega
  rw [bif_dec, bif_dec, if_neg (by omega), if_neg (by omega), wr (by omega), e, turned_eq j (by omega)]
  match j, hj with
  | 0, _ => rfl
  | 1, _ => rfl
  | 2, _ => rfl
  | 3, _ => rfl
theorem rway_eq (j : Nat) (hj : j < 4) : f16 (1 + (j : Int)) = some (ddx j, ddy j, ()) := by
  match j, hj with
  | 0, _ => rfl
  | 1, _ => rfl
  | 2, _ => rfl
  | 3, _ => rfl
theorem number_eq (x y : Int) : f46 x y = some (if 0 ≤ x ∧ x < 24 ∧ 0 ≤ y ∧ y < 16 then y * 24 + x else -1, ()) := by
  unfold f46
  simp only [bif_dec]
  by_cases h : 0 ≤ x ∧ x < 24 ∧ 0 ≤ y ∧ y < 16
  · rw [if_pos h, if_neg (by omega), if_neg (by omega), if_neg (by omega), if_neg (by omega), wr (x := y * 24) (by omega), wr (by omega)]
  · rw [if_neg h]
    split
    · rfl
    · split
      · rfl
      · split
        · rfl
        · split
          · rfl
          · omega
theorem small_of {x : Int} (h : -1000 ≤ x ∧ x ≤ 1000) : small x = true := by
  unfold small; simp; omega
theorem dd (j : Nat) (hj : j < 4) : -1 ≤ ddx j ∧ ddx j ≤ 1 ∧ -1 ≤ ddy j ∧ ddy j ≤ 1 := by
  match j, hj with
  | 0, _ => decide
  | 1, _ => decide
  | 2, _ => decide
  | 3, _ => decide
theorem step_eq (x y : Int) (hx : 0 ≤ x ∧ x < 24) (hy : 0 ≤ y ∧ y < 16) (j : Nat) (hj : j < 4) : f49 x y (1 + (j : Int)) = some (x + ddx j, y + ddy j, ()) := by
  have d := dd j hj
  unfold f49
  rw [way_eq j hj]
  simp only [Option.bind_some]
  rw [small_of (by omega), small_of (by omega), small_of (by omega), small_of (by omega)]
  rfl
theorem plain_eq (x y : Int) (hx : -10 ≤ x ∧ x < 40) (hy : -10 ≤ y ∧ y < 40) : f48 x y = some (x, y, ()) := by
  unfold f48
  rw [small_of (by omega), small_of (by omega)]
  rfl
/-! ### entities -/
abbrev e0 : EntT := (0, 0, 0, 0, 0, 0, 0, 0, 0, 0, 0)
def exx (e : EntT) : Int := e.2.2.2.1
def eyy (e : EntT) : Int := e.2.2.2.2.1
/-- Entities at places of the grid. -/
structure Ents (l : List EntT) : Prop where
  len : l.length = 32
  at_ : ∀ i, i < l.length → (l.getD i e0).1 = 0 ∨ (0 ≤ exx (l.getD i e0) ∧ exx (l.getD i e0) < 24 ∧ 0 ≤ eyy (l.getD i e0) ∧ eyy (l.getD i e0) < 16)
theorem rat_ok (l : List EntT) (hl : l.length ≤ 1000) (x y : Int) : OK (f18 l x y) fun z => -1 ≤ z.1 ∧ (z.1 < 0 ∨ ∃ i, i < l.length ∧ (l.getD i e0).1 ≠ 0 ∧ exx (l.getD i e0) = x ∧ eyy (l.getD i e0) = y) := by
  unfold f18 f18.L1
  refine OK.loop (fun j : Nat => (l, x, y, (j : Int), ())) (fun j => j ≤ l.length) (fun j => l.length - j) (fun rec j hj ih => ?_) 0 rfl (Nat.zero_le _) (by omega)
  dsimp only at hj ih ⊢
  rw [bif_dec]
  by_cases q : (j : Int) < (l.length : Int)
  · have wj : IntKind.wrap .i64 ((j : Int) + 1) = ((j + 1 : Nat) : Int) := by rw [wr (by omega)]; omega
    have skip := ih (j + 1) (by omega) (by omega) _ rfl
    rw [if_pos q, inR (by omega), cond_true, cond_true, cond_true, wj, Int.toNat_natCast]
    refine OK.bif (fun h1 => ?_) (fun _ => skip)
    refine OK.bif (fun h2 => ?_) (fun _ => skip)
    refine OK.bif (fun h3 => ?_) (fun _ => skip)
    refine OK.ret ⟨by dsimp only; omega, .inr ⟨j, by omega, bne_iff_ne.1 h1, beq_iff_eq.1 h2, beq_iff_eq.1 h3⟩⟩
  · rw [if_neg q]
    exact OK.ret ⟨by decide, .inl (by decide)⟩
theorem rstats_eq : f28 2 = some (2, 0, 0, 0, 0, 4, 4, 2, 0, 0, 0, ()) := rfl
theorem some_ok (l : List Int) (hl : l.length ≤ 1000000000000000) : OK (f17 l) fun z => Ents z.1 := by
  unfold f17 f17.L1
  refine OK.callR (R := fun z => ∃ es, z = Sum.inl (es, ()) ∧ Ents es) ?_ (fun z ⟨es, e, h⟩ => by subst e; exact OK.ret h)
  refine OK.loop (fun j : Nat × List EntT => (l, (j.1 : Int), j.2, ())) (fun j => j.1 ≤ 32 ∧ Ents j.2) (fun j => 32 - j.1) (fun rec j hj ih => ?_) (0, List.replicate 32 e0) rfl ⟨Nat.zero_le _, List.length_replicate, fun i hi => .inl ?_⟩ (by dsimp only; decide)
  · obtain ⟨i, es⟩ := j
    obtain ⟨hi, he⟩ := hj
    dsimp only at hi he ih ⊢
    have hl32 := he.len
    rw [bif_dec]
    by_cases q : (i : Int) < (l.length : Int)
    · rw [if_pos q, bif_dec]
      by_cases q2 : (i : Int) < 32
      · have wj : IntKind.wrap .i64 ((i : Int) + 1) = ((i + 1 : Nat) : Int) := by rw [wr (by omega)]; omega
        have b := within_b (l.getD (Int.toNat (i : Int)) 0) 384 (by decide)
        rw [if_pos q2, inR (by omega), cond_true, within_eq _ _ (by decide) (by decide), wj]
        simp only [Option.bind_some]
        generalize within (l.getD (Int.toNat (i : Int)) 0) 384 = v at b
        rw [Int.tmod_eq_emod_of_nonneg (by omega), Int.tdiv_eq_ediv_of_nonneg (by omega), wr (x := v / 24) (by omega)]
        refine OK.callR (rat_ok es (by omega) _ _) fun z _ => ?_
        rw [bif_dec]
        by_cases q3 : z.1 < 0
        · rw [if_pos q3, rstats_eq]
          simp only [Option.bind_some]
          rw [inR (by omega), cond_true, Int.toNat_natCast]
          refine ih (i + 1, es.set i _) ⟨by dsimp only; omega, by rw [List.length_set]; exact hl32, fun k hk => ?_⟩ (by dsimp only; omega) _ rfl
          rw [List.length_set] at hk
          rw [getD_set]
          split
          · exact .inr ⟨by dsimp only [exx]; omega, by dsimp only [exx]; omega, by dsimp only [eyy]; omega, by dsimp only [eyy]; omega⟩
          · exact he.at_ k hk
        · rw [if_neg q3]
          exact ih (i + 1, es) ⟨by dsimp only; omega, he⟩ (by dsimp only; omega) _ rfl
      · rw [if_neg q2]
        exact OK.ret ⟨es, rfl, he⟩
    · rw [if_neg q]
      exact OK.ret ⟨es, rfl, he⟩
  · rw [List.length_replicate] at hi
    rw [List.getD_eq_getElem?_getD, List.getElem?_replicate, if_pos hi]
    rfl
/-- Where entities stand, but at one place. -/
def mk (m : Int) (b : List Bool) (e : EntT) : List Bool := if e.1 ≠ 0 ∧ eyy e * 24 + exx e ≠ m then b.set (eyy e * 24 + exx e).toNat true else b
def stand (m : Int) (l : List EntT) (i : Nat) : List Bool := (l.take i).foldl (mk m) (List.replicate 384 false)
theorem mk_len (m : Int) (b : List Bool) (e : EntT) : (mk m b e).length = b.length := by unfold mk; split <;> simp
theorem stand_len (m : Int) (l : List EntT) (i : Nat) : (stand m l i).length = 384 := by
  unfold stand
  generalize l.take i = t
  have : ∀ (t : List EntT) (b : List Bool), (t.foldl (mk m) b).length = b.length := by
    intro t
    induction t with
    | nil => intro b; rfl
    | cons e t ih => intro b; rw [List.foldl_cons, ih, mk_len]
  rw [this, List.length_replicate]
theorem stand_succ (m : Int) (l : List EntT) (i : Nat) (hi : i < l.length) : stand m l (i + 1) = mk m (stand m l i) (l.getD i e0) := by
  unfold stand
  have : l.getD i e0 = l[i] := by simp [List.getD_eq_getElem?_getD, hi]
  rw [List.take_succ_eq_append_getElem hi, List.foldl_append, this]
  rfl
theorem stand_at (m : Int) (l : List EntT) (h : Ents l) (k : Nat) (hk : k < l.length) (h1 : (l.getD k e0).1 ≠ 0) (h2 : eyy (l.getD k e0) * 24 + exx (l.getD k e0) ≠ m) : ∀ i, k < i → i ≤ l.length → (stand m l i).getD (eyy (l.getD k e0) * 24 + exx (l.getD k e0)).toNat false = true := by
  intro i
  induction i with
  | zero => intro h; omega
  | succ i ih =>
    intro hki hil
    rw [stand_succ m l i (by omega)]
    have hlen := stand_len m l i
    rcases h.at_ k hk with h0 | h0
    · exact absurd h0 h1
    by_cases e : k = i
    · subst e
      unfold mk
      rw [if_pos ⟨h1, h2⟩, getD_set, if_pos ⟨rfl, by omega⟩]
    · have := ih (by omega) (by omega)
      unfold mk
      split
      · rw [getD_set]
        split
        · rfl
        · exact this
      · exact this
/-- The step that leads nearer. -/
theorem toward_ok (c : List Int) (hc : CB c) (l : List EntT) (h : Ents l) (m : Int) (hm : GC m) (ts : List Int) (ht : ts.length ≤ 1000000) :
    OK (f15 c l (m % 24) (m / 24) ts) fun z => ∃ f, IsField (opnC c (stand m l 32)) (IsT c ts) f ∧
      (z.1 = 0 ∨ ∃ j : Nat, j < 4 ∧ z.1 = 1 + (j : Int) ∧ GC (nbr m j) ∧ 1 ≤ rd f m ∧ rd f (nbr m j) = rd f m - 1 ∧ (stand m l 32).getD (nbr m j).toNat false = false) := by
  have hm' := hm
  unfold GC at hm'
  have hl := h.len
  unfold f15
  have em : m / 24 * 24 + m % 24 = m := by omega
  rw [number_eq, if_pos (by omega), em]
  simp only [Option.bind_some]
  have lm : minI (l.length : Int) 32 = 32 := by rw [minI_eq]; omega
  have ld : List.drop 0 (List.take (Int.toNat (32 : Int)) l) = l := by
    rw [List.drop_zero]; exact List.take_of_length_le (by omega)
  rw [bif_dec, if_neg (by omega), lm, bif_dec, if_pos (by omega), ld]
  unfold f15.L2
  refine OK.loop (fun j : Nat => (c, m % 24, m / 24, ts, m, l, (l.length : Int), (j : Int), stand m l j, ())) (fun j => j ≤ 32) (fun j => 32 - j) (fun rec j hj ih => ?_) 0 rfl (Nat.zero_le _) (by decide)
  dsimp only at hj ih ⊢
  rw [bif_dec]
  by_cases q : (j : Int) < (l.length : Int)
  · have wj : IntKind.wrap .i64 ((j : Int) + 1) = ((j + 1 : Nat) : Int) := by rw [wr (by omega)]; omega
    rw [if_pos q, inR (by omega), cond_true, number_eq, wj, Int.toNat_natCast]
    simp only [Option.bind_some]
    have nx := ih (j + 1) (by omega) (by omega) _ rfl
    rw [stand_succ m l j (by omega)] at nx
    have hlen := stand_len m l j
    have hh := h.at_ j (by omega)
    generalize stand m l j = b at *
    unfold mk at nx
    generalize hE : l.getD j e0 = E at *
    by_cases k0 : E.1 = 0
    · have q0 : (E.1 != 0) = false := by simp [k0]
      rw [if_neg (fun hx => hx.1 k0)] at nx
      rw [q0, cond_false]
      exact nx
    · have q0 : (E.1 != 0) = true := by simpa using k0
      have g := hh.resolve_left k0
      have eN : (if 0 ≤ E.2.2.2.1 ∧ E.2.2.2.1 < 24 ∧ 0 ≤ E.2.2.2.2.1 ∧ E.2.2.2.2.1 < 16 then E.2.2.2.2.1 * 24 + E.2.2.2.1 else -1) = eyy E * 24 + exx E := if_pos g
      rw [q0, cond_true, eN, bif_dec, if_pos (by omega)]
      by_cases k1 : eyy E * 24 + exx E = m
      · have q1 : (eyy E * 24 + exx E != m) = false := by simp [k1]
        rw [if_neg (fun hx => hx.2 k1)] at nx
        rw [q1, cond_false]
        exact nx
      · have q1 : (eyy E * 24 + exx E != m) = true := by simpa using k1
        rw [if_pos ⟨k0, k1⟩] at nx
        rw [q1, cond_true, inR (by omega), cond_true]
        exact nx
  · have e : j = 32 := by omega
    subst e
    rw [if_neg q]
    have hlen := stand_len m l 32
    refine OK.callR (field_is c hc (stand m l 32) ts ht) fun y hy => ?_
    have hfl := hy.len
    have lo := hy.lo m hm
    have sm := field_small hy m hm
    generalize stand m l 32 = b at *
    obtain ⟨f, u⟩ := y
    dsimp only at hy hfl lo sm ⊢
    rw [inR (by omega), cond_true, bif_dec]
    by_cases k : f.getD m.toNat 0 < 1
    · rw [if_pos k]
      exact OK.ret ⟨f, hy, .inl rfl⟩
    · rw [if_neg k]
      have k' : 1 ≤ Field.rd f m := by unfold Field.rd; omega
      unfold f15.L1
      refine OK.loop (fun j : Nat => (m % 24, m / 24, m, 1 + (j : Int), b, f, ())) (fun j => j ≤ 4) (fun j => 4 - j) (fun rec j hj ih => ?_) 0 rfl (Nat.zero_le _) (by decide)
      dsimp only at hj ih ⊢
      rw [bif_dec]
      by_cases q : j < 4
      · have d := dd j q
        have wj : IntKind.wrap .i64 (1 + (j : Int) + 1) = 1 + ((j + 1 : Nat) : Int) := by rw [wr (by omega)]; omega
        have skip := ih (j + 1) (by omega) (by omega) _ rfl
        rw [if_pos (by omega), small_of (x := m % 24) (by omega), small_of (x := m / 24) (by omega), cond_true, cond_true, step_eq _ _ (by omega) (by omega) j q, wj]
        simp only [Option.bind_some]
        rw [plain_eq _ _ (by omega) (by omega)]
        simp only [Option.bind_some]
        rw [number_eq]
        simp only [Option.bind_some]
        rcases dir_place m hm j q with ⟨hin, hcel⟩ | ⟨hout, hn⟩
        · unfold InG at hin
          unfold cel at hcel
          have hg : GC (nbr m j) := by rw [← hcel]; unfold GC; omega
          rw [if_pos hin, hcel]
          have hg' := hg
          unfold GC at hg'
          have ew : IntKind.wrap .i64 (f.getD m.toNat 0 - 1) = Field.rd f m - 1 := by
            have : f.getD m.toNat 0 = Field.rd f m := rfl
            rw [this, wr (by omega)]
          rw [bif_dec, if_pos (by omega), inR (i := nbr m j) (n := f.length) (by omega), inR (i := m) (n := f.length) (by omega), inR (i := nbr m j) (n := b.length) (by omega), cond_true, cond_true, cond_true, ew]
          refine OK.bif (fun h1 => ?_) (fun _ => skip)
          refine OK.bif (fun h2 => ?_) (fun _ => skip)
          exact OK.ret ⟨f, hy, .inr ⟨j, q, rfl, hg, k', beq_iff_eq.1 h1, (by
            cases hb : b.getD (nbr m j).toNat false with
            | false => rfl
            | true => rw [hb] at h2; exact absurd h2 (by decide))⟩⟩
        · unfold InG at hout
          rw [if_neg hout, bif_dec, if_neg (by omega)]
          exact skip
      · rw [if_neg (by omega)]
        exact OK.ret ⟨f, hy, .inl rfl⟩
end Go.Proofs.Ytldgilfchpfblaa.Nav

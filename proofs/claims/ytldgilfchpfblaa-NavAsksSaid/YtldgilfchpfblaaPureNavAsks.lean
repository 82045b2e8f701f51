/- The law NavAsks, in plain words (own work). -/
import Derived.Test.YtldgilfchpfblaaNavTw
namespace Go.Proofs.Ytldgilfchpfblaa.Nav
open Go Go.Proofs.Ytldgilfchpfblaa.Mx Go.Proofs.Ytldgilfchpfblaa.Pc Go.Proofs.Ytldgilfchpfblaa.Run Go.Proofs.Ytldgilfchpfblaa.Field Go.Proofs.Ytldgilfchpfblaa.Gen
set_option linter.unusedVariables false
set_option linter.unusedSimpArgs false
open Classical in
/-- The nearest free cell among the first. -/
noncomputable def best (f : List Int) (l : List EntT) : Nat → Int
  | 0 => -1
  | i + 1 => if 0 ≤ Field.rd f (i : Int) ∧ Free l ((i : Int) % 24) ((i : Int) / 24) ∧ (best f l i < 0 ∨ Field.rd f (i : Int) < Field.rd f (best f l i)) then (i : Int) else best f l i
theorem best_b (f : List Int) (l : List EntT) : ∀ i, -1 ≤ best f l i ∧ best f l i < (i : Int)
  | 0 => by unfold best; omega
  | i + 1 => by
    have := best_b f l i
    unfold best
    split <;> omega
theorem best_yes {f : List Int} {l : List EntT} {i : Nat} (h : 0 ≤ Field.rd f (i : Int) ∧ Free l ((i : Int) % 24) ((i : Int) / 24) ∧ (best f l i < 0 ∨ Field.rd f (i : Int) < Field.rd f (best f l i))) : best f l (i + 1) = i := by
  rw [best, if_pos h]
theorem best_no {f : List Int} {l : List EntT} {i : Nat} (h : ¬ (0 ≤ Field.rd f (i : Int) ∧ Free l ((i : Int) % 24) ((i : Int) / 24) ∧ (best f l i < 0 ∨ Field.rd f (i : Int) < Field.rd f (best f l i)))) : best f l (i + 1) = best f l i := by
  rw [best, if_neg h]
theorem spot_loop (f : List Int) (hf : f.length = 384) (l : List EntT) (h : Ents l) : OK (f20.L1 (l, -1, (f.length : Int), 0, f, ())) fun z => z.1 = best f l 384 := by
  have hl := h.len
  unfold f20.L1
  refine OK.loop (fun i : Nat => (l, best f l i, (f.length : Int), (i : Int), f, ())) (fun i => i ≤ 384) (fun i => 384 - i) (fun rec i hi ih => ?_) 0 rfl (Nat.zero_le _) (by decide)
  dsimp only at hi ih ⊢
  have bb := best_b f l i
  rw [bif_dec]
  by_cases q : (i : Int) < (f.length : Int)
  · have wi : IntKind.wrap .i64 ((i : Int) + 1) = ((i + 1 : Nat) : Int) := by rw [wr (by omega)]; omega
    have nx := ih (i + 1) (by omega) (by omega) _ rfl
    rw [if_pos q, inR (by omega), cond_true, wi, Int.tmod_eq_emod_of_nonneg (by omega), Int.tdiv_eq_ediv_of_nonneg (by omega), wr (x := (i : Int) / 24) (by omega)]
    have ef : f.getD (Int.toNat (i : Int)) 0 = Field.rd f (i : Int) := rfl
    have eb : f.getD (best f l i).toNat 0 = Field.rd f (best f l i) := rfl
    rw [ef, eb, bif_dec]
    by_cases c1 : Field.rd f (i : Int) ≥ 0
    · rw [if_pos c1, bif_dec]
      by_cases c2 : best f l i < 0
      · rw [if_pos c2]
        refine OK.callR (at_iff l hl _ _) fun z hz => ?_
        rw [bif_dec]
        by_cases c3 : z.1 < 0
        · rw [best_yes ⟨c1, hz.1 c3, .inl c2⟩] at nx
          rw [if_pos c3]; exact nx
        · rw [best_no (fun hh => c3 (hz.2 hh.2.1))] at nx
          rw [if_neg c3]; exact nx
      · rw [if_neg c2, inR (by omega), cond_true, bif_dec]
        by_cases c4 : Field.rd f (i : Int) < Field.rd f (best f l i)
        · rw [if_pos c4]
          refine OK.callR (at_iff l hl _ _) fun z hz => ?_
          rw [bif_dec]
          by_cases c3 : z.1 < 0
          · rw [best_yes ⟨c1, hz.1 c3, .inr c4⟩] at nx
            rw [if_pos c3]; exact nx
          · rw [best_no (fun hh => c3 (hz.2 hh.2.1))] at nx
            rw [if_neg c3]; exact nx
        · rw [best_no (fun hh => by rcases hh.2.2 with x | x <;> omega)] at nx
          rw [if_neg c4]; exact nx
    · rw [best_no (fun hh => c1 hh.1)] at nx
      rw [if_neg c1]; exact nx
  · have e : i = 384 := by omega
    subst e
    rw [if_neg q]
    exact OK.ret rfl
theorem rspot_loop (f : List Int) (hf : f.length = 384) (l : List EntT) (h : Ents l) : OK (f21.L1 (l, -1, 0, f, ())) fun z => z.1 = best f l 384 := by
  have hl := h.len
  unfold f21.L1
  refine OK.loop (fun i : Nat => (l, best f l i, (i : Int), f, ())) (fun i => i ≤ 384) (fun i => 384 - i) (fun rec i hi ih => ?_) 0 rfl (Nat.zero_le _) (by decide)
  dsimp only at hi ih ⊢
  have bb := best_b f l i
  rw [bif_dec]
  by_cases q : (i : Int) < 384
  · have wi : IntKind.wrap .i64 ((i : Int) + 1) = ((i + 1 : Nat) : Int) := by rw [wr (by omega)]; omega
    have nx := ih (i + 1) (by omega) (by omega) _ rfl
    rw [if_pos q, inR (by omega), cond_true, wi, Int.tmod_eq_emod_of_nonneg (by omega), Int.tdiv_eq_ediv_of_nonneg (by omega), wr (x := (i : Int) / 24) (by omega)]
    have ef : f.getD (Int.toNat (i : Int)) 0 = Field.rd f (i : Int) := rfl
    have eb : f.getD (best f l i).toNat 0 = Field.rd f (best f l i) := rfl
    rw [ef, eb, bif_dec]
    by_cases c1 : Field.rd f (i : Int) ≥ 0
    · rw [if_pos c1]
      refine OK.callR (rat_iff l (by omega) _ _) fun z hz => ?_
      rw [bif_dec]
      by_cases c3 : z.1 < 0
      · rw [if_pos c3, bif_dec]
        by_cases c2 : best f l i < 0
        · rw [best_yes ⟨c1, hz.1 c3, .inl c2⟩] at nx
          rw [if_pos c2]; exact nx
        · rw [if_neg c2, cond_true, inR (by omega), cond_true, bif_dec]
          by_cases c4 : Field.rd f (i : Int) < Field.rd f (best f l i)
          · rw [best_yes ⟨c1, hz.1 c3, .inr c4⟩] at nx
            rw [if_pos c4]; exact nx
          · rw [best_no (fun hh => by rcases hh.2.2 with x | x <;> omega)] at nx
            rw [if_neg c4]; exact nx
      · rw [best_no (fun hh => c3 (hz.2 hh.2.1))] at nx
        rw [if_neg c3]; exact nx
    · rw [best_no (fun hh => c1 hh.1)] at nx
      rw [if_neg c1]; exact nx
  · have e : i = 384 := by omega
    subst e
    rw [if_neg q]
    exact OK.ret rfl
theorem none_field {opn T : Int → Prop} {f : List Int} (hf : IsField opn T f) (hT : ∀ n, GC n → ¬ T n) : ∀ (k : Nat) n, GC n → Field.rd f n ≠ k := by
  intro k
  induction k with
  | zero => intro n hn e; exact hT n hn ((hf.zero n hn).1 e)
  | succ k ih =>
    intro n hn e
    obtain ⟨_, m, hm, _, h2⟩ := hf.up n hn (by omega)
    exact ih m hm (by omega)
theorem best_none {f : List Int} (l : List EntT) (h : ∀ n, GC n → Field.rd f n < 0) : ∀ i : Nat, i ≤ 384 → best f l i = -1
  | 0, _ => rfl
  | i + 1, hi => by
    rw [best_no (fun hh => by have := h (i : Int) ⟨by omega, by omega⟩; omega)]
    exact best_none l h i (by omega)
theorem spots (c : List Int) (hc : CB c) (l : List EntT) (h : Ents l) (x y : Int) : ∃ v, f20 c l x y = some (v, ()) ∧ f21 c l x y = some (v, ()) := by
  by_cases hin : 0 ≤ x ∧ x < 24 ∧ 0 ≤ y ∧ y < 16
  · have a1 : OK (f20 c l x y) fun z => ∃ f, IsField (opnC c []) (IsT c [y * 24 + x]) f ∧ z.1 = best f l 384 := by
      unfold f20
      rw [number_eq, if_pos hin]
      simp only [Option.bind_some]
      refine OK.callR (field_is c hc [] [y * 24 + x] (by simp)) fun f hf => ?_
      exact (spot_loop f.1 hf.len l h).mono fun z hz => ⟨f.1, hf, hz⟩
    have a2 : OK (f21 c l x y) fun z => ∃ f, IsField (opnC c []) (IsT c [y * 24 + x]) f ∧ z.1 = best f l 384 := by
      unfold f21
      rw [in_eq, decide_eq_true hin, wr (x := y * 24) (by omega), wr (x := y * 24 + x) (by omega)]
      simp only [Option.bind_some, Bool.not_true, cond_false]
      refine OK.callR (rfield_is c hc [] [y * 24 + x] (by simp)) fun f hf => ?_
      exact (rspot_loop f.1 hf.len l h).mono fun z hz => ⟨f.1, hf, hz⟩
    obtain ⟨z, e1, f, hf, h1⟩ := a1
    obtain ⟨z', e2, f', hf', h2⟩ := a2
    have ee : f' = f := field_one hf' hf
    refine ⟨z.1, e1, ?_⟩
    have : z' = (z.1, ()) := by
      have : z'.1 = z.1 := by rw [h1, h2, ee]
      rw [← this]
    rw [e2, this]
  · have a1 : OK (f20 c l x y) fun z => z.1 = -1 := by
      unfold f20
      rw [number_eq, if_neg hin]
      simp only [Option.bind_some]
      refine OK.callR (field_is c hc [] [-1] (by simp)) fun f hf => ?_
      refine (spot_loop f.1 hf.len l h).mono fun z hz => ?_
      rw [hz]
      refine best_none l (fun n hn => ?_) 384 (Nat.le_refl _)
      have nT : ∀ n, GC n → ¬ IsT c [-1] n := fun n hn ht => by
        have := List.mem_singleton.1 ht.1
        unfold GC at hn; omega
      have := none_field hf nT (Field.rd f.1 n).toNat n hn
      omega
    obtain ⟨z, e1, h1⟩ := a1
    refine ⟨-1, ?_, ?_⟩
    · rw [e1, ← h1]
    · unfold f21
      rw [in_eq, decide_eq_false hin]
      rfl
theorem towards (c : List Int) (hc : CB c) (l : List EntT) (h : Ents l) (x y : Int) (ts : List Int) (ht : ts.length ≤ 1000000) : ∃ v, f15 c l x y ts = some (v, ()) ∧ f19 c l x y ts = some (v, ()) := by
  by_cases hin : 0 ≤ x ∧ x < 24 ∧ 0 ≤ y ∧ y < 16
  · obtain ⟨m, hm, ex, ey⟩ : ∃ m, GC m ∧ x = m % 24 ∧ y = m / 24 := ⟨y * 24 + x, ⟨by omega, by omega⟩, by omega, by omega⟩
    subst ex
    subst ey
    obtain ⟨z, e1, f, hf, h1⟩ := toward_tw c hc l h m hm ts ht
    obtain ⟨z', e2, f', hf', h2⟩ := rtoward_tw c hc l h m hm ts ht
    have ee : f' = f := field_one hf' hf
    rw [ee] at h2
    refine ⟨z.1, e1, ?_⟩
    have : z' = (z.1, ()) := by
      have : z'.1 = z.1 := h2.one h1
      rw [← this]
    rw [e2, this]
  · refine ⟨0, ?_, ?_⟩
    · unfold f15
      rw [number_eq, if_neg hin]
      rfl
    · unfold f19
      rw [in_eq, decide_eq_false hin]
      rfl
theorem rbeside_ok (a b c d : Int) : OK (f23 a b c d) fun y => (∃ j : Nat, j < 4 ∧ y.1 = 1 + (j : Int) ∧ c = IntKind.wrap .i64 (a + ddx j) ∧ d = IntKind.wrap .i64 (b + ddy j)) ∨ (y.1 = 0 ∧ ∀ j : Nat, j < 4 → ¬ (c = IntKind.wrap .i64 (a + ddx j) ∧ d = IntKind.wrap .i64 (b + ddy j))) := by
  unfold f23 f23.L1
  refine OK.loop (fun j : Nat => (a, b, c, d, 1 + (j : Int), ())) (fun j => j ≤ 4 ∧ ∀ k, k < j → ¬ (c = IntKind.wrap .i64 (a + ddx k) ∧ d = IntKind.wrap .i64 (b + ddy k))) (fun j => 4 - j) (fun rec j hj ih => ?_) 0 rfl ⟨Nat.zero_le _, fun k hk => absurd hk (Nat.not_lt_zero k)⟩ (by omega)
  obtain ⟨hj, hn⟩ := hj
  dsimp only at hj hn ih ⊢
  rw [bif_dec]
  by_cases q : j < 4
  · have wj : IntKind.wrap .i64 (1 + (j : Int) + 1) = 1 + ((j + 1 : Nat) : Int) := by rw [wr (by omega)]; omega
    rw [if_pos (by omega), rway_eq j q, wj]
    simp only [Option.bind_some]
    have skip : ¬ (c = IntKind.wrap .i64 (a + ddx j) ∧ d = IntKind.wrap .i64 (b + ddy j)) → OK (rec (a, b, c, d, 1 + ((j + 1 : Nat) : Int), ())) _ := fun h => ih (j + 1) ⟨by omega, fun k hk => by
      rcases (by omega : k < j ∨ k = j) with z | z
      · exact hn k z
      · subst z; exact h⟩ (by omega) _ rfl
    refine OK.bif (fun h1 => ?_) (fun h1 => skip (fun h => by have := beq_eq_false_iff_ne.1 h1; exact this h.1))
    refine OK.bif (fun h2 => ?_) (fun h2 => skip (fun h => by have := beq_eq_false_iff_ne.1 h2; exact this h.2))
    exact OK.ret (.inl ⟨j, q, rfl, beq_iff_eq.1 h1, beq_iff_eq.1 h2⟩)
  · rw [if_neg (by omega)]
    exact OK.ret (.inr ⟨rfl, fun k hk => hn k (by omega)⟩)
theorem besides (a b c d : Int) (ha : -9223372036854775808 ≤ a ∧ a ≤ 9223372036854775807) (hb : -9223372036854775808 ≤ b ∧ b ≤ 9223372036854775807) (hc : -9223372036854775808 ≤ c ∧ c ≤ 9223372036854775807) (hd : -9223372036854775808 ≤ d ∧ d ≤ 9223372036854775807) :
    ∃ v, f22 a b c d = some (v, ()) ∧ f23 a b c d = some (v, ()) := by
  obtain ⟨z, e1, h1⟩ := beside_ok a b c d
  obtain ⟨z', e2, h2⟩ := rbeside_ok a b c d
  have tr : ∀ a c t : Int, -9223372036854775808 ≤ a ∧ a ≤ 9223372036854775807 → -9223372036854775808 ≤ c ∧ c ≤ 9223372036854775807 → -1 ≤ t ∧ t ≤ 1 → (IntKind.wrap .i64 (c - a) = t ↔ c = IntKind.wrap .i64 (a + t)) := fun a c t h1 h2 h3 => by
    rw [wrap_eq, wrap_eq]; omega
  have both : ∀ j, j < 4 → ((IntKind.wrap .i64 (c - a) = ddx j ∧ IntKind.wrap .i64 (d - b) = ddy j) ↔ (c = IntKind.wrap .i64 (a + ddx j) ∧ d = IntKind.wrap .i64 (b + ddy j))) := fun j hj => by
    have q := dd j hj
    rw [tr a c (ddx j) ha hc ⟨q.1, q.2.1⟩, tr b d (ddy j) hb hd ⟨q.2.2.1, q.2.2.2⟩]
  have one : ∀ i : Nat, i < 4 → ∀ j : Nat, j < 4 → ddx i = ddx j → ddy i = ddy j → i = j := by decide
  have key : z'.1 = z.1 := by
    rcases h1 with ⟨j, hj, e, p⟩ | ⟨e, n⟩
    · rcases h2 with ⟨i, hi, e', p'⟩ | ⟨e', n'⟩
      · have p2 := (both i hi).2 p'
        have : i = j := one i hi j hj (by rw [← p.1, ← p2.1]) (by rw [← p.2, ← p2.2])
        subst this; omega
      · exact absurd ((both j hj).1 p) (n' j hj)
    · rcases h2 with ⟨i, hi, e', p'⟩ | ⟨e', n'⟩
      · exact absurd ((both i hi).2 p') (n i hi)
      · omega
  refine ⟨z.1, e1, ?_⟩
  have : z' = (z.1, ()) := by rw [← key]
  rw [e2, this]
theorem NavAsks (a0 : Int) (w0 : (Lit.int .i64 a0).wf = true) (a1 : Int) (w1 : (Lit.int .i64 a1).wf = true) (a2 : List Int) (w2 : Ty.good (.row (.int .i64)) a2) (z2 : a2.length * 8 ≤ 140737488351232) (a3 : Int) (w3 : (Lit.int .i64 a3).wf = true) (a4 : Int) (w4 : (Lit.int .i64 a4).wf = true) (a5 : List Int) (w5 : Ty.good (.row (.int .i64)) a5) (z5 : a5.length * 8 ≤ 140737488351232) (a6 : Int) (w6 : (Lit.int .i64 a6).wf = true) (a7 : Int) (w7 : (Lit.int .i64 a7).wf = true) : f5 a0 a1 a2 a3 a4 a5 a6 a7 = some (true, ()) := by
  refine OK.eq ?_
  unfold f5
  have b1 := within_b a1 3 (by decide)
  rw [known_eq]
  simp only [Option.bind_some, Bool.not_true, cond_false]
  rw [bif_dec]
  by_cases c5 : (a5.length : Int) > 20
  · rw [if_pos c5]
    exact OK.ret rfl
  rw [if_neg c5, within_eq a1 _ (by decide) (by decide)]
  simp only [Option.bind_some]
  rw [wr (by omega)]
  refine OK.callR (make_ok a0 _ (by omega) (by omega)) fun y2 ⟨u, hu, hG⟩ => ?_
  refine OK.callR (some_ok a2 (by omega)) fun y3 he => ?_
  have hcb := hG.toF.cb
  obtain ⟨v1, p1, q1⟩ := towards y2.1 hcb y3.1 he a3 a4 a5 (by omega)
  obtain ⟨v2, p2, q2⟩ := spots y2.1 hcb y3.1 he a3 a4
  obtain ⟨v3, p3, q3⟩ := besides a3 a4 a6 a7 (i64_of w3) (i64_of w4) (i64_of w6) (i64_of w7)
  obtain ⟨v4, p4, q4⟩ := towards y2.1 hcb y3.1 he (within a3 24) (within a4 16) a5 (by omega)
  obtain ⟨v5, p5, q5⟩ := spots y2.1 hcb y3.1 he (within a3 24) (within a4 16)
  rw [p1]
  simp only [Option.bind_some]
  rw [q1]
  simp only [Option.bind_some, bne_self_eq_false, cond_false]
  rw [p2]
  simp only [Option.bind_some]
  rw [q2]
  simp only [Option.bind_some, bne_self_eq_false, cond_false]
  rw [p3]
  simp only [Option.bind_some]
  rw [q3]
  simp only [Option.bind_some, bne_self_eq_false, cond_false]
  rw [within_eq a3 _ (by decide) (by decide), within_eq a4 _ (by decide) (by decide)]
  simp only [Option.bind_some]
  rw [p4]
  simp only [Option.bind_some]
  rw [q4]
  simp only [Option.bind_some, beq_self_eq_true, cond_true]
  rw [p5]
  simp only [Option.bind_some]
  rw [q5]
  exact OK.ret (by simp)
end Go.Proofs.Ytldgilfchpfblaa.Nav
namespace Go.Proofs.Ytldgilfchpfblaa.Pure
open Go Go.Proofs.Ytldgilfchpfblaa.Mx Go.Proofs.Ytldgilfchpfblaa.Pc Go.Proofs.Ytldgilfchpfblaa.Run Go.Proofs.Ytldgilfchpfblaa.Field Go.Proofs.Ytldgilfchpfblaa.Gen
theorem NavAsks (a0 : Int) (w0 : (Lit.int .i64 a0).wf = true) (a1 : Int) (w1 : (Lit.int .i64 a1).wf = true) (a2 : List Int) (w2 : Ty.good (.row (.int .i64)) a2) (z2 : a2.length * 8 ≤ 140737488351232) (a3 : Int) (w3 : (Lit.int .i64 a3).wf = true) (a4 : Int) (w4 : (Lit.int .i64 a4).wf = true) (a5 : List Int) (w5 : Ty.good (.row (.int .i64)) a5) (z5 : a5.length * 8 ≤ 140737488351232) (a6 : Int) (w6 : (Lit.int .i64 a6).wf = true) (a7 : Int) (w7 : (Lit.int .i64 a7).wf = true) : f5 a0 a1 a2 a3 a4 a5 a6 a7 = some (true, ()) := Go.Proofs.Ytldgilfchpfblaa.Nav.NavAsks a0 w0 a1 w1 a2 w2 z2 a3 w3 a4 w4 a5 w5 z5 a6 w6 a7 w7
end Go.Proofs.Ytldgilfchpfblaa.Pure

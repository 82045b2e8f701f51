/- The law GridSteps, in plain words (own work). -/
import Derived.Test.YtjpcmpeigoikkaaGridLaw
namespace Go.Proofs.Ytjpcmpeigoikkaa.Pure
open Go Go.Proofs.Ytjpcmpeigoikkaa.Mx Go.Proofs.Ytjpcmpeigoikkaa.Pc Go.Proofs.Ytjpcmpeigoikkaa.Run Go.Proofs.Ytjpcmpeigoikkaa.Field
set_option linter.unusedVariables false
theorem nbr_xy (i : Int) (d : Nat) (hi : GC i) (hd : d < 4) :
    (0 ≤ i % 24 + [0, 1, 0, -1].getD d (0 : Int) ∧ i % 24 + [0, 1, 0, -1].getD d 0 < 24 ∧ 0 ≤ i / 24 + [-1, 0, 1, 0].getD d (0 : Int) ∧ i / 24 + [-1, 0, 1, 0].getD d 0 < 16) ∧ GC (nbr i d) ∧ (i / 24 + [-1, 0, 1, 0].getD d 0) * 24 + (i % 24 + [0, 1, 0, -1].getD d 0) = nbr i d ∨
    ¬ (0 ≤ i % 24 + [0, 1, 0, -1].getD d (0 : Int) ∧ i % 24 + [0, 1, 0, -1].getD d 0 < 24 ∧ 0 ≤ i / 24 + [-1, 0, 1, 0].getD d (0 : Int) ∧ i / 24 + [-1, 0, 1, 0].getD d 0 < 16) ∧ nbr i d = -1 := by
  unfold GC at hi ⊢
  match d, hd with
  | 0, _ => unfold nbr; simp only [List.getD_cons_zero]; split <;> omega
  | 1, _ => unfold nbr; simp only [List.getD_cons_succ, List.getD_cons_zero]; split <;> omega
  | 2, _ => unfold nbr; simp only [List.getD_cons_succ, List.getD_cons_zero]; split <;> omega
  | 3, _ => unfold nbr; simp only [List.getD_cons_succ, List.getD_cons_zero]; split <;> omega
/-- A cell beside that is one step nearer, among the first d directions. -/
def Near (f : List Int) (i : Int) (d : Nat) : Prop := ∃ e, e < d ∧ GC (nbr i e) ∧ 0 ≤ rd f (nbr i e) ∧ rd f (nbr i e) = rd f i - 1
theorem d_range (d : Nat) (hd : d < 4) : -1 ≤ [0, 1, 0, -1].getD d (0 : Int) ∧ [0, 1, 0, -1].getD d (0 : Int) ≤ 1 ∧ -1 ≤ [-1, 0, 1, 0].getD d (0 : Int) ∧ [-1, 0, 1, 0].getD d (0 : Int) ≤ 1 := by
  match d, hd with
  | 0, _ => decide
  | 1, _ => decide
  | 2, _ => decide
  | 3, _ => decide
section
variable {opn T : Int → Prop} {f c : List Int} {b : List Bool}
theorem cell_steps (hF : IsField opn T f) (hs : ∀ n, GC n → rd f n ≤ 1000) (i : Nat) (hi : i < 384) (open_ : Bool) (ho : open_ = true ↔ opn i)
    {K : List Bool × Int × List Int × List Int × Unit → Option (Bool × Unit)} {Q : Bool × Unit → Prop} (hK : OK (K (b, (i : Int) + 1, c, f, ())) Q) :
    OK (f6.L1 K (b, (i : Int), (i : Int) % 24, (i : Int) / 24, open_, false, 0, c, f, ())) Q := by
  have hg : GC (i : Int) := ⟨by omega, by omega⟩
  have hl := hF.len
  have hlo := hF.lo
  have fi : f.getD i 0 = rd f i := rfl
  have fi1 := hlo i hg
  have fi2 := hs i hg
  unfold f6.L1
  refine OK.loop (fun j : Nat × Bool => (b, (i : Int), (i : Int) % 24, (i : Int) / 24, open_, j.2, (j.1 : Int), c, f, ())) (fun j => j.1 ≤ 4 ∧ (j.2 = true ↔ Near f i j.1)) (fun j => 4 - j.1) (fun rec j hj ih => ?_) (0, false) rfl ⟨Nat.zero_le _, by simp [Near]⟩ (by dsimp only; decide)
  obtain ⟨d, nearer⟩ := j
  obtain ⟨hd, hn⟩ := hj
  dsimp only at hd hn
  simp only [bif_cl, Int.toNat_natCast]
  by_cases c0 : (d : Int) < 4
  · have hd4 : d < 4 := by omega
    have r := d_range d hd4
    have hxy := nbr_xy i d hg hd4
    rw [if_pos c0, inR (by simp; omega), inR (by simp; omega), cond_true, cond_true]
    generalize [0, 1, 0, -1].getD d (0 : Int) = dx at *
    generalize [-1, 0, 1, 0].getD d (0 : Int) = dy at *
    have w1 : IntKind.wrap .i64 ((i : Int) % 24 + dx) = (i : Int) % 24 + dx := wr (by omega)
    have w2 : IntKind.wrap .i64 ((i : Int) / 24 + dy) = (i : Int) / 24 + dy := wr (by omega)
    have w3 : IntKind.wrap .i64 (((i : Int) / 24 + dy) * 24) = ((i : Int) / 24 + dy) * 24 := wr (by omega)
    have w4 : IntKind.wrap .i64 (((i : Int) / 24 + dy) * 24 + ((i : Int) % 24 + dx)) = ((i : Int) / 24 + dy) * 24 + ((i : Int) % 24 + dx) := wr (by omega)
    have w5 : IntKind.wrap .i64 ((d : Int) + 1) = (d : Int) + 1 := wr (by omega)
    have w6 : IntKind.wrap .i64 (f.getD i 0 - 1) = f.getD i 0 - 1 := wr (by omega)
    simp only [w1, w2, w3, w4, w5, w6, in_eq, Option.bind_some]
    have near_succ : Near f i (d + 1) ↔ Near f i d ∨ (GC (nbr i d) ∧ 0 ≤ rd f (nbr i d) ∧ rd f (nbr i d) = rd f i - 1) := by
      constructor
      · rintro ⟨e, h1, h2⟩
        rcases Nat.lt_or_ge e d with q | q
        · exact .inl ⟨e, q, h2⟩
        · obtain rfl : e = d := by omega
          exact .inr h2
      · rintro (⟨e, h1, h2⟩ | h2)
        · exact ⟨e, by omega, h2⟩
        · exact ⟨d, by omega, h2⟩
    rcases hxy with ⟨h1, h2, h3⟩ | ⟨h1, h2⟩
    · rw [decide_eq_true h1, h3]
      have hm := h2
      unfold GC at hm
      have g1 := hlo _ h2
      have g2 := hs _ h2
      have fm : f.getD (nbr i d).toNat 0 = rd f (nbr i d) := rfl
      simp only [Bool.not_true, cond_false]
      rw [inR (by omega), cond_true]
      simp only [fm, fi]
      refine OK.callR (R := fun y => ∃ nr : Bool, (nr = true ↔ Near f i (d + 1)) ∧ y = Sum.inl (b, (i : Int), (i : Int) % 24, (i : Int) / 24, open_, nr, (d : Int), rd f (nbr i d), c, f, ())) ?_ ?_
      · cases hq : nearer with
        | true =>
          exact OK.ret ⟨true, ⟨fun _ => near_succ.2 (.inl (hn.1 hq)), fun _ => rfl⟩, rfl⟩
        | false =>
          have hnn : ¬ Near f i d := fun q => by rw [hn.2 q] at hq; cases hq
          rw [cond_false]
          by_cases q : rd f (nbr i d) ≥ 0
          · rw [if_pos q, inR (by omega), cond_true]
            refine OK.ret ⟨_, ?_, rfl⟩
            rw [near_succ, beq_iff_eq]
            exact ⟨fun e => .inr ⟨h2, q, e⟩, fun e => e.elim (fun e => absurd e hnn) fun e => e.2.2⟩
          · rw [if_neg q]
            refine OK.ret ⟨false, ?_, rfl⟩
            rw [near_succ]
            exact ⟨fun e => (by cases e), fun e => e.elim (fun e => absurd e hnn) fun e => absurd e.2.1 q⟩
      · rintro _ ⟨nr, hnr, rfl⟩
        simp only [Sum.elim_inl, Int.toNat_natCast, fi]
        have go : OK (rec (b, (i : Int), (i : Int) % 24, (i : Int) / 24, open_, nr, IntKind.wrap .i64 ((d : Int) + 1), c, f, ())) Q :=
          ih (d + 1, nr) ⟨by dsimp only; omega, hnr⟩ (by dsimp only; omega) _ (by rw [w5]; simp)
        cases ho2 : open_ with
        | false => rw [ho2] at go; exact go
        | true =>
          rw [ho2] at go
          rw [cond_true]
          by_cases q : rd f (nbr i d) ≥ 0
          · have hdn := hF.down (nbr i d) i h2 hg q (adj_sym _ _ hg h2 ⟨d, hd4, rfl⟩) (ho.1 ho2)
            rw [if_pos q, inR (by omega), cond_true, if_neg (by omega), cond_true, wr (by omega), if_neg (by omega)]
            exact go
          · rw [if_neg q]
            exact go
    · rw [decide_eq_false h1]
      simp only [Bool.not_false, cond_true]
      refine ih (d + 1, nearer) ⟨by dsimp only; omega, ?_⟩ (by dsimp only; omega) _ (by simp)
      dsimp only
      rw [hn, near_succ]
      exact ⟨.inl, fun e => e.elim id fun e => by rw [h2] at e; exact absurd e.1.1 (by decide)⟩
  · obtain rfl : d = 4 := by omega
    rw [if_neg c0, inR (by omega), cond_true, fi, wr (by omega)]
    by_cases q : rd f i > 0
    · obtain ⟨o1, m, m1, m2, m3⟩ := hF.up i hg q
      obtain ⟨e, e1, e2⟩ := adj_sym _ _ m1 hg m2
      have hnear : nearer = true := hn.2 ⟨e, e1, by rw [e2]; exact m1, by rw [e2]; omega, by rw [e2]; exact m3⟩
      rw [if_pos q, hnear, ho.2 o1]
      exact hK
    · rw [if_neg q]
      exact hK
end
theorem GridSteps (a0 : List Int) (w0 : Ty.good (.row (.int .u8)) a0) (z0 : a0.length * 1 ≤ 140737488351232) (a1 : List Bool) (w1 : Ty.good (.row .bool) a1) (z1 : a1.length * 1 ≤ 140737488351232) (a2 : List Int) (w2 : Ty.good (.row (.int .i64)) a2) (z2 : a2.length * 8 ≤ 140737488351232) :
    f6 a0 a1 a2 = some (true, ()) := by
  unfold f6
  rw [known_eq]
  simp only [Option.bind_some, Bool.not_true, cond_false, bif_cl]
  by_cases c0 : (a0.length : Int) > 1000
  · rw [if_pos c0]
  by_cases c1 : (a1.length : Int) > 1000
  · rw [if_neg c0, if_pos c1]
  by_cases c2 : (a2.length : Int) > 50
  · rw [if_neg c0, if_neg c1, if_pos c2]
  rw [if_neg c0, if_neg c1, if_neg c2]
  refine OK.eq ?_
  refine OK.callR (full_is a0 (by omega) (bytes_cb w0)) fun y1 hc => ?_
  obtain ⟨c, _⟩ := y1
  dsimp only at hc ⊢
  refine OK.callR (field_is c hc.cb a1 a2 (by omega)) fun y2 hF => ?_
  obtain ⟨f, _⟩ := y2
  dsimp only at hF ⊢
  have hl := hF.len
  have q : ((f.length : Int) != 384) = false := by simp; omega
  rw [q, cond_false]
  unfold f6.L2
  refine OK.loop (fun i : Nat => (a1, (i : Int), c, f, ())) (fun i => i ≤ 384) (fun i => 384 - i) (fun rec i hi ih => ?_) 0 rfl (Nat.zero_le _) (by decide)
  simp only [bif_cl, Int.toNat_natCast]
  by_cases c3 : (i : Int) < 384
  · have hi : i < 384 := by omega
    have hv := hc.val i
    have hcl := hc.len
    rw [if_pos c3, inR (by omega), cond_true, wr (x := c.getD i 0) (by omega), rwalk_eq, Int.tmod_eq_emod_of_nonneg (by omega : (0 : Int) ≤ i), Int.tdiv_eq_ediv_of_nonneg (by omega : (0 : Int) ≤ i), wr (x := (i : Int) / 24) (by omega)]
    simp only [Option.bind_some]
    have e : c.getD i 0 = rd c i := rfl
    rw [e]
    refine OK.callR (R := fun y => ∃ o : Bool, (o = true ↔ opnC c a1 i) ∧ y = Sum.inl (a1, (i : Int), (i : Int) % 24, (i : Int) / 24, o, c, f, ())) ?_ ?_
    · cases hw : walkable (rd c i) with
      | false =>
        exact OK.ret ⟨false, ⟨fun h => (by cases h), fun h => (by rw [h.1] at hw; cases hw)⟩, rfl⟩
      | true =>
        rw [cond_true]
        by_cases c4 : (i : Int) ≥ (a1.length : Int)
        · rw [if_pos c4]
          exact OK.ret ⟨true, ⟨fun _ => ⟨hw, fun h => by omega⟩, fun _ => rfl⟩, rfl⟩
        · rw [if_neg c4, inR (by omega), cond_true]
          refine OK.ret ⟨_, ?_, rfl⟩
          unfold opnC
          rw [hw, Int.toNat_natCast]
          simp
          omega
    · rintro _ ⟨o, ho, rfl⟩
      simp only [Sum.elim_inl]
      exact cell_steps hF (field_small hF) i hi o ho (ih (i + 1) (by omega) (by omega) _ (by simp))
  · rw [if_neg c3]
    exact OK.ret rfl
end Go.Proofs.Ytjpcmpeigoikkaa.Pure

/- What the laws of grid share (own work). -/
import Derived.Test.YtjpcmpeigoikkaaField
namespace Go.Proofs.Ytjpcmpeigoikkaa.Field
open Go Go.Proofs.Ytjpcmpeigoikkaa.Mx Go.Proofs.Ytjpcmpeigoikkaa.Pc Go.Proofs.Ytjpcmpeigoikkaa.Run
set_option linter.unusedVariables false
theorem near_eq (p n : Int) (h1 : 0 ≤ p) (h2 : p ≤ 10000) (h3 : 0 < n) (h4 : n ≤ 10000) : f23 p n = some ((2 * p + n) / (2 * n), ()) := by
  have e1 : Int.tdiv (2 * p + n) (2 * n) = (2 * p + n) / (2 * n) := Int.tdiv_eq_ediv_of_nonneg (by omega)
  have e2 : ¬ Int.tmod (2 * p + n) (2 * n) < 0 := by
    rw [Int.tmod_eq_emod_of_nonneg (by omega)]
    have := Int.emod_nonneg (2 * p + n) (show 2 * n ≠ 0 by omega)
    omega
  have e3 : 0 ≤ (2 * p + n) / (2 * n) := Int.ediv_nonneg (by omega) (by omega)
  have e4 : (2 * p + n) / (2 * n) ≤ 2 * p + n := Int.ediv_le_self _ (by omega)
  unfold f23
  simp only [bif_dec]
  rw [wr (x := 2 * n) (by omega), wr (x := 2 * p) (by omega), wr (x := 2 * p + n) (by omega), if_neg (by omega), if_neg (by omega), e1, if_neg e2, wr (by omega)]
  rfl
theorem known_eq : f9 = some (true, ()) := by
  have w0 : IntKind.wrap .i64 0 = 0 := wr (by decide)
  have w1 : IntKind.wrap .i64 1 = 1 := wr (by decide)
  have w2 : IntKind.wrap .i64 2 = 2 := wr (by decide)
  have w3 : IntKind.wrap .i64 3 = 3 := wr (by decide)
  have w4 : IntKind.wrap .i64 4 = 4 := wr (by decide)
  have hl : f11 0 0 2 1 = some ([0, 25, 26], ()) := by
    have m1 : IntKind.wrap .i64 (0 - 2) = -2 := wr (by decide)
    have m2 : IntKind.wrap .i64 (0 - 1) = -1 := wr (by decide)
    have m3 : IntKind.wrap .i64 (2 - 0) = 2 := wr (by decide)
    have m4 : IntKind.wrap .i64 (1 - 0) = 1 := wr (by decide)
    have p1 : f22 0 0 = some (0, ()) := by rw [place_eq _ _ (by decide) (by decide) (by decide) (by decide)]; rfl
    have p2 : f22 2 1 = some (26, ()) := by rw [place_eq _ _ (by decide) (by decide) (by decide) (by decide)]; rfl
    have p3 : f22 1 1 = some (25, ()) := by rw [place_eq _ _ (by decide) (by decide) (by decide) (by decide)]; rfl
    have n1 : f23 2 2 = some (1, ()) := by rw [near_eq _ _ (by decide) (by decide) (by decide) (by decide)]; rfl
    have n2 : f23 1 2 = some (1, ()) := by rw [near_eq _ _ (by decide) (by decide) (by decide) (by decide)]; rfl
    have n3 : f23 4 2 = some (2, ()) := by rw [near_eq _ _ (by decide) (by decide) (by decide) (by decide)]; rfl
    unfold f11
    simp only [p1, p2, Option.bind_some, m1, m2, m3, m4, maxI_eq]
    unfold f11.L1
    refine OK.eq ?_
    refine OK.loop (fun k : Nat => (0, 0, 2, 1, 2, (k : Int) + 1, [(0 : Int), 25, 26].take (k + 1), ())) (fun k => k ≤ 2) (fun k => 2 - k) (fun rec k hk ih => ?_) 0 rfl (by decide) (by decide)
    match k, hk with
    | 0, _ =>
      have := ih 1 (by decide) (by decide) _ rfl
      simpa [bif_dec, m3, m4, w0, w1, w2, w3, w4, n1, n2, n3, p2, p3, limit] using this
    | 1, _ =>
      have := ih 2 (by decide) (by decide) _ rfl
      simpa [bif_dec, m3, m4, w0, w1, w2, w3, w4, n1, n2, n3, p2, p3, limit] using this
    | 2, _ => exact OK.ret rfl
  unfold f9
  rw [hl]
  rfl
theorem within_eq (a n : Int) (h : 0 < n) (hn : n ≤ 1000000000000) : f13 a n = some (within a n, ()) := by
  have := within_b a n h
  unfold f13 within
  simp only [Option.bind_some, bif_dec]
  rw [if_neg (by omega)]
  split
  · rw [wr (by omega)]; rfl
  · rfl
theorem rwalk_eq (v : Int) : f19 v = some (walkable v, ()) := walk_eq v
theorem in_eq (x y : Int) : f20 x y = some (decide (0 ≤ x ∧ x < 24 ∧ 0 ≤ y ∧ y < 16), ()) := by
  unfold f20
  simp only [bif_dec]
  by_cases a : x ≥ 0
  · by_cases b : x < 24
    · by_cases c : y ≥ 0
      · rw [if_pos a, if_pos b, if_pos c]
        have : decide (y < 16) = decide (0 ≤ x ∧ x < 24 ∧ 0 ≤ y ∧ y < 16) := decide_eq_decide.2 ⟨fun h => ⟨a, b, c, h⟩, fun h => h.2.2.2⟩
        rw [this]
      · rw [if_pos a, if_pos b, if_neg c, decide_eq_false (by omega)]
    · rw [if_pos a, if_neg b, decide_eq_false (by omega)]
  · rw [if_neg a, decide_eq_false (by omega)]
/-- A floor's cells: bytes from 0 to 6. -/
structure Floor (c : List Int) : Prop where
  len : c.length = 384
  val : ∀ i, 0 ≤ c.getD i 0 ∧ c.getD i 0 < 7
theorem Floor.cb {c : List Int} (h : Floor c) : CB c := fun i => by have := h.val i; omega
theorem full_is (l : List Int) (hl : l.length ≤ 1000000) (hb : CB l) : OK (f14 l) fun y => Floor y.1 := by
  unfold f14 f14.L1
  refine OK.callR (R := fun y => ∃ c, Floor c ∧ y = Sum.inl (c, ())) ?_ (fun y ⟨c, hc, e⟩ => by subst e; exact OK.ret hc)
  refine OK.loop (fun j : Nat × List Int => (l, (j.1 : Int), j.2, ())) (fun j => j.1 ≤ 384 ∧ Floor j.2) (fun j => 384 - j.1) (fun rec j hj ih => ?_) (0, List.replicate (Int.toNat 384) 0) rfl ⟨by decide, by rw [List.length_replicate]; rfl, fun i => ?_⟩ (by decide)
  · obtain ⟨i, f⟩ := j
    obtain ⟨hi, hf⟩ := hj
    dsimp only at hi hf
    simp only [bif_dec, Int.toNat_natCast]
    by_cases c0 : (i : Int) < 384
    · by_cases c1 : (l.length : Int) > 0
      · rw [if_pos c0, if_pos c1, if_neg (by omega)]
        have e : Int.tdiv (i : Int) 9 = (i : Int) / 9 := Int.tdiv_eq_ediv_of_nonneg (by omega)
        rw [e]
        simp (disch := omega) only [wr]
        rw [Int.tmod_eq_emod_of_nonneg (by omega : (0 : Int) ≤ (i : Int) * 7 + (i : Int) / 9)]
        have h1 := Int.emod_nonneg ((i : Int) * 7 + (i : Int) / 9) (show (l.length : Int) ≠ 0 by omega)
        have h2 := Int.emod_lt_of_pos ((i : Int) * 7 + (i : Int) / 9) (show (0 : Int) < l.length by omega)
        generalize ((i : Int) * 7 + (i : Int) / 9) % l.length = q at *
        have hv := hb q.toNat
        rw [inR ⟨h1, h2⟩, inR (by rw [hf.len]; omega), cond_true, cond_true, Int.tmod_eq_emod_of_nonneg hv.1]
        refine ih (i + 1, f.set i (l.getD q.toNat 0 % 7)) ⟨by dsimp only; omega, by simpa using hf.len, fun k => ?_⟩ (by dsimp only; omega) _ (by simp)
        dsimp only
        rw [getD_set]
        split
        · omega
        · exact hf.val k
      · rw [if_pos c0, if_neg c1]
        exact OK.ret ⟨f, hf, rfl⟩
    · rw [if_neg c0]
      exact OK.ret ⟨f, hf, rfl⟩
  · simp only [List.getD_eq_getElem?_getD, List.getElem?_replicate]
    split <;> simp
theorem bytes_cb {l : List Int} (w : Ty.good (.row (.int .u8)) l) : CB l := fun i => by
  rw [List.getD_eq_getElem?_getD]
  by_cases h : i < l.length
  · rw [List.getElem?_eq_getElem h]
    have := w.2 _ (List.getElem_mem h)
    simp [Ty.good, Lit.wf, IntKind.min, IntKind.max, IntKind.signed, IntKind.bits] at this
    simp only [Option.getD_some]
    omega
  · rw [List.getElem?_eq_none (by omega)]
    simp
end Go.Proofs.Ytjpcmpeigoikkaa.Field

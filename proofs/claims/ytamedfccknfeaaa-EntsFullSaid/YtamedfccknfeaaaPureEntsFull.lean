/- The law EntsFull, in plain words (own work). -/
import Derived.Test.YtamedfccknfeaaaEntsLaw
namespace Go.Proofs.Ytamedfccknfeaaa.Pure
open Go Go.Proofs.Ytamedfccknfeaaa.Mx Go.Proofs.Ytamedfccknfeaaa.Pc Go.Proofs.Ytamedfccknfeaaa.Run Go.Proofs.Ytamedfccknfeaaa.Ents
set_option linter.unusedVariables false
/-- The first i rows are taken, the others empty32. -/
def Full (i : Nat) (l : List E) : Prop := l.length = 32 ∧ (∀ j, j < i → (l.getD j e0).1 ≠ 0 ∧ (l.getD j e0).2.1 = 1) ∧ ∀ j, i ≤ j → l.getD j e0 = e0
theorem Full.gens {i : Nat} {l : List E} (h : Full i l) : gens l := fun j hj => by
  rcases Nat.lt_or_ge j i with c | c
  · rw [(h.2.1 j c).2]; decide
  · rw [h.2.2 j c]; decide
theorem Full.next {i : Nat} {l : List E} {k : Int} (h : Full i l) (hi : i < 32) (h1 : 1 ≤ k) (h4 : k ≤ 4) : Full (i + 1) (spawned l (stats k) i) := by
  have hl := h.1
  refine ⟨by simp [spawned, hl], fun j hj => ?_, fun j hj => ?_⟩
  · unfold spawned
    rw [getD_set]
    by_cases c : i = j
    · subst c
      rw [if_pos ⟨rfl, by omega⟩, h.2.2 i (Nat.le_refl _)]
      exact ⟨by show (stats k).1 ≠ 0; rw [stats_kind h1 h4]; omega, rfl⟩
    · rw [if_neg (fun q => c q.1)]
      exact h.2.1 j (by omega)
  · unfold spawned
    rw [getD_set, if_neg (by omega)]
    exact h.2.2 j (by omega)
theorem EntsFull (a0 : List Int) (w0 : Ty.good (.row (.int .i64)) a0) (z0 : a0.length * 8 ≤ 140737488351232) (a1 : Int) (w1 : (Lit.int .i64 a1).wf = true) : f6 a0 a1 = some (true, ()) := by
  unfold f6
  rw [known_eq]
  simp only [Option.bind_some, Bool.not_true, cond_false, bif_dec]
  refine OK.eq ?_
  refine OK.loop (fun j : Nat × List E => (a0, a1, (j.1 : Int), j.2, ())) (fun j => j.1 ≤ 32 ∧ Full j.1 j.2) (fun j => 32 - j.1) (fun rec j hj ih => ?_) (0, empty32) rfl ⟨by decide, rfl, fun j hj => by omega, fun j _ => empty32_get j⟩ (by decide)
  obtain ⟨i, l⟩ := j
  obtain ⟨hi, hF⟩ := hj
  dsimp only at hi hF
  have hl := hF.1
  have hm : most l = 32 := by unfold most; omega
  simp only
  by_cases c : (i : Int) < 32
  · have hi : i < 32 := by omega
    rw [if_pos c]
    refine OK.callR (R := fun y => ∃ k : Int, 1 ≤ k ∧ k ≤ 4 ∧ y = Sum.inl (a0, a1, (i : Int), k, l, ())) ?_ ?_
    · by_cases c2 : (i : Int) < a0.length
      · have := within_b (a0.getD (i : Int).toNat 0) 4 (by decide)
        rw [if_pos c2, inR (by omega), cond_true, within_eq _ _ (by decide) (by decide)]
        simp only [Option.bind_some]
        rw [wr (by omega)]
        exact OK.ret ⟨_, by omega, by omega, rfl⟩
      · rw [if_neg c2]
        exact OK.ret ⟨2, by decide, by decide, rfl⟩
    · rintro _ ⟨k, k1, k4, rfl⟩
      simp only [Sum.elim_inl]
      rw [stats_eq]
      simp only [Option.bind_some]
      have hk := stats_kind k1 k4
      rw [spawn_at (l := l) (e := stats k) (i := i) (by omega) hF.gens (by omega) (by omega) (by omega) (by rw [hF.2.2 i (Nat.le_refl _)]; rfl) (fun j hj => (hF.2.1 j hj).1)]
      have hn := hF.next (k := k) hi k1 k4
      have hs : (spawned l (stats k) i).length = 32 := hn.1
      have hg : (spawned l (stats k) i).getD i e0 = ((stats k).1, 1, (stats k).2.2) := by
        unfold spawned
        rw [getD_set, if_pos ⟨rfl, by omega⟩, hF.2.2 i (Nat.le_refl _)]
        rfl
      simp only [Option.bind_some, bne_self_eq_false, cond_false, Int.toNat_natCast, fold0]
      rw [inR (by omega), hg, hk]
      simp only [cond_true, bne_self_eq_false, cond_false]
      rw [inR (by omega), hF.2.2 i (Nat.le_refl _), wr (by omega)]
      exact ih (i + 1, spawned l (stats k) i) ⟨by dsimp only; omega, hn⟩ (by dsimp only; omega) _ (by simp)
  · obtain rfl : i = 32 := by omega
    rw [if_neg c]
    simp only [stats_eq]
    simp only [Option.bind_some]
    have b := within_b a1 32 (by decide)
    rw [spawn_full (l := l) (e := stats 2) (by omega) hF.gens (by decide) (by decide) (fun j hj => (hF.2.1 j (by omega)).1)]
    have hz : f21 l 0 0 0 0 0 0 0 0 0 0 0 = some (0, 3, [], ()) := by
      have := spawn_eq l e0 (by omega) hF.gens
      rw [if_pos (by decide)] at this
      exact this
    rw [hz, within_eq _ _ (by decide) (by decide)]
    simp only [Option.bind_some]
    generalize within a1 32 = r at *
    obtain ⟨r, rfl⟩ := Int.eq_ofNat_of_zero_le b.2.2.1
    have hr : r < 32 := by omega
    rw [free_eq _ _ (by omega), if_pos (by omega), Int.toNat_natCast]
    simp only [Option.bind_some]
    have fl : (freed l r).length = 32 := by simp [freed, hl]
    have hgr : (freed l r).getD r e0 = (0, 1, 0, 0, 0, 0, 0, 0, 0, 0, 0) := by
      unfold freed
      rw [getD_set, if_pos ⟨rfl, by omega⟩, (hF.2.1 r (by omega)).2]
    rw [spawn_at (l := freed l r) (e := stats 3) (i := r) (by omega) (gens_freed (by omega) hF.gens) (by decide) (by decide) (by unfold most; omega) (by rw [hgr]) (fun j hj => by
      unfold freed
      rw [getD_set, if_neg (by omega)]
      exact (hF.2.1 j (by omega)).1)]
    simp only [Option.bind_some, beq_self_eq_true, cond_true, Int.toNat_natCast, fold0]
    rw [inR (by simp [spawned, fl]; omega), cond_true]
    refine OK.ret ?_
    unfold spawned
    rw [getD_set, if_pos ⟨rfl, by omega⟩, hgr]
    rfl
end Go.Proofs.Ytamedfccknfeaaa.Pure

/- The law TopHeroes, in plain words (own work). -/
import Derived.Test.YthdgahpomhnidaaGreatZ14
namespace Go.Proofs.YthdgahpomhnidaaGreat.Tp
open Go Go.Proofs.YthdgahpomhnidaaGreat.Mx Go.Proofs.YthdgahpomhnidaaGreat.Pc Go.Proofs.YthdgahpomhnidaaGreat.Run Go.Proofs.YthdgahpomhnidaaGreat.Field Go.Proofs.YthdgahpomhnidaaGreat.Gen Go.Proofs.YthdgahpomhnidaaGreat.GenL Go.Proofs.YthdgahpomhnidaaGreat.Fl Go.Proofs.YthdgahpomhnidaaGreat.Wd Go.Proofs.YthdgahpomhnidaaGreat.Ft Go.Proofs.YthdgahpomhnidaaGreat.Ln Go.Proofs.YthdgahpomhnidaaGreat.Nav Go.Proofs.YthdgahpomhnidaaGreat.Mn
set_option linter.unusedVariables false
set_option linter.unusedSimpArgs false
set_option maxHeartbeats 2000000
theorem ws_get (s : Int) (l : List (List Int)) {n i : Nat} (h : i < n) (d : WR) : ((List.range n).map fun k => tu (wk s l k)).getD i d = tu (wk s l i) := by
  simp [List.getD_eq_getElem?_getD, h]
theorem heroes_count (s : Int) (l : List (List Int)) {n i : Nat} (hi : i < n) (hn : n ≤ 100) {Q : _ → Prop} (k : Nat) (hk : k < 4) (k0) (hk0 : OK (k0 ((i : Int), ((k + 1 : Nat) : Int), (List.range n).map fun k => tu (wk s l k), ())) Q) :
    OK (f4.L1 k0 ((i : Int), (k : Int), 0, 0, (List.range n).map fun k => tu (wk s l k), ())) Q := by
  have hE := (wk_step s l i (by omega)).1.2.2.wo.ei
  unfold f4.L1
  have hle : ((List.range n).map fun k => tu (wk s l k)).length = n := by simp
  have hg := ws_get s l hi (0, 0, 0, 0, [], [], [], 0, 0, 0, 0)
  generalize ((List.range n).map fun k => tu (wk s l k)) = ws at *
  have hes : (tu (wk s l i)).2.2.2.2.2.1 = (wk s l i).2.2.2.2.2.2.2.2.2.1 := rfl
  generalize (wk s l i).2.2.2.2.2.2.2.2.2.1 = es at *
  have hl := hE.len
  refine OK.loop (fun j : Nat × Nat => ((i : Int), (k : Int), (j.2 : Int), (j.1 : Int), ws, ())) (fun j => j.1 ≤ 32 ∧ ((j.2 = 0 ∧ ∀ r, r < j.1 → ¬ (kd (es.getD r eN) = 1 ∧ st (es.getD r eN) = k)) ∨ (j.2 = 1 ∧ ∃ r, r < j.1 ∧ kd (es.getD r eN) = 1 ∧ st (es.getD r eN) = k))) (fun j => 32 - j.1) (fun rec j hj ih => ?_) (0, 0) rfl ⟨Nat.zero_le _, .inl ⟨rfl, fun r hr => absurd hr (Nat.not_lt_zero _)⟩⟩ (by decide)
  obtain ⟨j, m⟩ := j
  obtain ⟨hj, hm⟩ := hj
  dsimp only at hj hm ih ⊢
  have iw : inRange (i : Int) ws.length = true := inR (by omega)
  rw [Int.toNat_natCast, hg, hes, hl]
  simp only [iw, cond_true]
  rw [bif_dec]
  by_cases q : j < 32
  · have ij : inRange (j : Int) 32 = true := inR (by omega)
    have eK : (es.getD j (0, 0, 0, 0, 0, 0, 0, 0, 0, 0, 0)).1 = kd (es.getD j eN) := rfl
    have eS : (es.getD j (0, 0, 0, 0, 0, 0, 0, 0, 0, 0, 0)).2.2.1 = st (es.getD j eN) := rfl
    rw [if_pos (by omega)]
    simp only [ij, cond_true, Int.toNat_natCast]
    rw [eK, eS, wr (x := (j : Int) + 1) (by omega)]
    have no : ¬ (kd (es.getD j eN) = 1 ∧ st (es.getD j eN) = k) → OK (rec ((i : Int), (k : Int), (m : Int), ((j + 1 : Nat) : Int), ws, ())) Q := fun hno => by
      refine ih (j + 1, m) ⟨by dsimp only; omega, ?_⟩ (by dsimp only; omega) _ rfl
      rcases hm with ⟨m0, h0⟩ | ⟨m1, r, hr, h1⟩
      · refine .inl ⟨m0, fun r hr => ?_⟩
        by_cases e : r = j
        · rw [e]; exact hno
        · exact h0 r (by dsimp only at hr; omega)
      · exact .inr ⟨m1, r, by dsimp only; omega, h1⟩
    by_cases k1 : kd (es.getD j eN) = 1
    · rw [beq_iff_eq.2 k1, cond_true]
      by_cases s1 : st (es.getD j eN) = k
      · rw [beq_iff_eq.2 s1, cond_true]
        have m0 : m = 0 := by
          rcases hm with ⟨m0, _⟩ | ⟨_, r, hr, h1, h2⟩
          · exact m0
          · have := hE.seats r j (by omega) q h1 k1 (by rw [h2, s1])
            omega
        subst m0
        rw [wr (by omega)]
        exact ih (j + 1, 1) ⟨by dsimp only; omega, .inr ⟨rfl, j, by dsimp only; omega, k1, s1⟩⟩ (by dsimp only; omega) _ rfl
      · rw [beq_eq_false_iff_ne.2 s1, cond_false]
        exact no fun z => s1 z.2
    · rw [beq_eq_false_iff_ne.2 k1, cond_false]
      exact no fun z => k1 z.1
  · rw [if_neg (by omega), decide_eq_false (by omega), cond_false, wr (by omega)]
    exact hk0
end Go.Proofs.YthdgahpomhnidaaGreat.Tp
namespace Go.Proofs.YthdgahpomhnidaaGreat.Pure
open Go Go.Proofs.YthdgahpomhnidaaGreat.Mx Go.Proofs.YthdgahpomhnidaaGreat.Pc Go.Proofs.YthdgahpomhnidaaGreat.Run Go.Proofs.YthdgahpomhnidaaGreat.Tp
set_option linter.unusedVariables false
set_option linter.unusedSimpArgs false
set_option maxHeartbeats 2000000
theorem TopHeroes (a0 : Int) (w0 : (Lit.int .i64 a0).wf = true) (a1 : List (List Int)) (w1 : Ty.good (.row (.row (.int .i64))) a1) (z1 : a1.length * 24 ≤ 140737488351232) : f4 a0 a1 = some (true, ()) := by
  refine OK.eq ?_
  unfold f4
  rw [known_is]
  simp only [Option.bind_some, Bool.not_true, cond_false]
  rw [story_is]
  simp only [Option.bind_some]
  obtain ⟨n, en⟩ : ∃ n, n = min a1.length 30 + 1 := ⟨_, rfl⟩
  rw [← en]
  have hn : n ≤ 31 := by omega
  have hle : ((List.range n).map fun k => tu (wk a0 a1 k)).length = n := by simp
  unfold f4.L3
  refine OK.loop (fun i : Nat => ((i : Int), (List.range n).map fun k => tu (wk a0 a1 k), ())) (fun i => i ≤ n) (fun i => n - i) (fun rec i hi ih => ?_) 0 rfl (Nat.zero_le _) (by omega)
  dsimp only at ih ⊢
  rw [bif_dec, hle]
  by_cases q : i < n
  · rw [if_pos (by omega)]
    unfold f4.L2
    refine OK.loop (fun k : Nat => ((i : Int), (k : Int), (List.range n).map fun k => tu (wk a0 a1 k), ())) (fun k => k ≤ 4) (fun k => 4 - k) (fun rec2 k hk ih2 => ?_) 0 rfl (Nat.zero_le _) (by decide)
    dsimp only at ih2 ⊢
    rw [bif_dec]
    by_cases p : k < 4
    · rw [if_pos (by omega)]
      exact heroes_count a0 a1 q (by omega) k p rec2 (ih2 (k + 1) (by omega) (by omega) _ rfl)
    · have hc := check_ww (by omega) (wk_step a0 a1 i (by omega)).1
      rw [if_neg (by omega), hle, inR (by omega), cond_true, Int.toNat_natCast, ws_get a0 a1 q]
      refine OK.call hc ?_
      rw [bne_self_eq_false, cond_false, wr (by omega)]
      exact ih (i + 1) (by omega) (by omega) _ rfl
  · rw [if_neg (by omega)]
    exact OK.ret rfl
end Go.Proofs.YthdgahpomhnidaaGreat.Pure

/- The law TopFloors, in plain words (own work). -/
import Derived.Test.YthdgahpomhnidaaGreatZ13
namespace Go.Proofs.YthdgahpomhnidaaGreat.Tp
open Go Go.Proofs.YthdgahpomhnidaaGreat.Mx Go.Proofs.YthdgahpomhnidaaGreat.Pc Go.Proofs.YthdgahpomhnidaaGreat.Run Go.Proofs.YthdgahpomhnidaaGreat.Field Go.Proofs.YthdgahpomhnidaaGreat.Gen Go.Proofs.YthdgahpomhnidaaGreat.GenL Go.Proofs.YthdgahpomhnidaaGreat.Fl Go.Proofs.YthdgahpomhnidaaGreat.Wd Go.Proofs.YthdgahpomhnidaaGreat.Ft Go.Proofs.YthdgahpomhnidaaGreat.Ln Go.Proofs.YthdgahpomhnidaaGreat.Nav Go.Proofs.YthdgahpomhnidaaGreat.Mn
set_option linter.unusedVariables false
set_option linter.unusedSimpArgs false
set_option maxHeartbeats 2000000
abbrev AT := Int × Int × Bool × Int × Int × Bool × Int × Int × Bool × Int × Int × Bool
theorem floors_step {s : Int} {Q : _ → Prop} (m n : Nat) (hm : m ≤ 4) (hn : n ≤ 1000) {z : WT} (hz : WWt s n z) (k0) (hk : ∀ y, WWt s ((n + 1 : Nat) : Int) y → OK (k0 ((m : Int), ((n + 1 : Nat) : Int), y.1, y.2.1, y.2.2.1, y.2.2.2.1, y.2.2.2.2.1, y.2.2.2.2.2.1, y.2.2.2.2.2.2.1, y.2.2.2.2.2.2.2.1, y.2.2.2.2.2.2.2.2.1, y.2.2.2.2.2.2.2.2.2.1, y.2.2.2.2.2.2.2.2.2.2.1, ())) Q) (a : AT) :
    OK (f6.L1 k0 ((m : Int), (n : Int), 0, z.1, z.2.1, z.2.2.1, z.2.2.2.1, z.2.2.2.2.1, z.2.2.2.2.2.1, z.2.2.2.2.2.2.1, z.2.2.2.2.2.2.2.1, a.1, a.2.1, a.2.2.1, a.2.2.2.1, a.2.2.2.2.1, a.2.2.2.2.2.1, a.2.2.2.2.2.2.1, a.2.2.2.2.2.2.2.1, a.2.2.2.2.2.2.2.2.1, a.2.2.2.2.2.2.2.2.2.1, a.2.2.2.2.2.2.2.2.2.2.1, a.2.2.2.2.2.2.2.2.2.2.2, z.2.2.2.2.2.2.2.2.1, z.2.2.2.2.2.2.2.2.2.1, z.2.2.2.2.2.2.2.2.2.2.1, ())) Q := by
  unfold f6.L1
  refine OK.loop (fun j : Nat × AT => ((m : Int), (n : Int), (j.1 : Int), z.1, z.2.1, z.2.2.1, z.2.2.2.1, z.2.2.2.2.1, z.2.2.2.2.2.1, z.2.2.2.2.2.2.1, z.2.2.2.2.2.2.2.1, j.2.1, j.2.2.1, j.2.2.2.1, j.2.2.2.2.1, j.2.2.2.2.2.1, j.2.2.2.2.2.2.1, j.2.2.2.2.2.2.2.1, j.2.2.2.2.2.2.2.2.1, j.2.2.2.2.2.2.2.2.2.1, j.2.2.2.2.2.2.2.2.2.2.1, j.2.2.2.2.2.2.2.2.2.2.2.1, j.2.2.2.2.2.2.2.2.2.2.2.2, z.2.2.2.2.2.2.2.2.1, z.2.2.2.2.2.2.2.2.2.1, z.2.2.2.2.2.2.2.2.2.2.1, ())) (fun j => j.1 ≤ m) (fun j => m - j.1) (fun rec j hj ih => ?_) (0, a) rfl (Nat.zero_le _) (by dsimp only; omega)
  obtain ⟨k, b⟩ := j
  dsimp only at hj ih ⊢
  rw [bif_dec]
  by_cases q : k < m
  · rw [if_pos (by omega), inR (by omega), cond_true, wr (x := (k : Int) + 1) (by omega)]
    exact ih (k + 1, (_, _, _, _, _, _, _, _, _, _, _, _)) (by dsimp only; omega) (by dsimp only; omega) _ rfl
  · rw [if_neg (by omega), wr (x := (n : Int) + 1) (by omega)]
    refine OK.callR (step_ww _ _ _ _ _ _ _ _ _ _ _ _ (by omega) hz) fun y hy => ?_
    have hy' : WWt s ((n + 1 : Nat) : Int) y := hy
    have nx := hk y hy'
    refine OK.bif (fun _ => ?_) fun _ => nx
    rw [check_ww (by omega) hy']
    exact nx
end Go.Proofs.YthdgahpomhnidaaGreat.Tp
namespace Go.Proofs.YthdgahpomhnidaaGreat.Pure
open Go Go.Proofs.YthdgahpomhnidaaGreat.Mx Go.Proofs.YthdgahpomhnidaaGreat.Pc Go.Proofs.YthdgahpomhnidaaGreat.Run Go.Proofs.YthdgahpomhnidaaGreat.Field Go.Proofs.YthdgahpomhnidaaGreat.Gen Go.Proofs.YthdgahpomhnidaaGreat.GenL Go.Proofs.YthdgahpomhnidaaGreat.Fl Go.Proofs.YthdgahpomhnidaaGreat.Wd Go.Proofs.YthdgahpomhnidaaGreat.Ft Go.Proofs.YthdgahpomhnidaaGreat.Ln Go.Proofs.YthdgahpomhnidaaGreat.Nav Go.Proofs.YthdgahpomhnidaaGreat.Mn Go.Proofs.YthdgahpomhnidaaGreat.Tp
theorem TopFloors (a0 : Int) (w0 : (Lit.int .i64 a0).wf = true) (a1 : Int) (w1 : (Lit.int .i64 a1).wf = true) : f6 a0 a1 = some (true, ()) := by
  refine OK.eq ?_
  unfold f6
  have b1 := within_b a1 4 (by decide)
  rw [known_is, pw_eq a1 4 (by decide) (by decide)]
  simp only [Option.bind_some, Bool.not_true, cond_false]
  rw [wr (x := 1 + within a1 4) (by omega)]
  obtain ⟨m, hm, em⟩ : ∃ m : Nat, m ≤ 4 ∧ 1 + within a1 4 = (m : Int) := ⟨(1 + within a1 4).toNat, by omega, by omega⟩
  rw [em]
  refine OK.callR (new_ww a0) fun z0 hz0 => ?_
  refine OK.callR (R := fun y => ∃ n : Nat, ∃ z : WT, y = .inl z ∧ 1 ≤ n ∧ WWt a0 n z) ?_ fun y hy => ?_
  · unfold f6.L2
    refine OK.loop (fun j : Nat × WT => ((m : Int), (j.1 : Int), j.2.1, j.2.2.1, j.2.2.2.1, j.2.2.2.2.1, j.2.2.2.2.2.1, j.2.2.2.2.2.2.1, j.2.2.2.2.2.2.2.1, j.2.2.2.2.2.2.2.2.1, j.2.2.2.2.2.2.2.2.2.1, j.2.2.2.2.2.2.2.2.2.2.1, j.2.2.2.2.2.2.2.2.2.2.2.1, ())) (fun j => j.1 ≤ 150 ∧ WWt a0 j.1 j.2 ∧ (j.1 = 0 → j.2.2.2.2.1 = 0)) (fun j => 150 - j.1) (fun rec j hj ih => ?_) (0, z0) rfl ⟨Nat.zero_le _, hz0.1, fun _ => hz0.2⟩ (by dsimp only; omega)
    obtain ⟨n, z⟩ := j
    obtain ⟨hn, hw, h0⟩ := hj
    dsimp only at hn hw h0 ih ⊢
    rw [bif_dec]
    by_cases q : n < 150
    · rw [if_pos (by omega)]
      refine OK.bif (fun _ => ?_) fun hq => OK.ret ⟨n, z, rfl, Nat.one_le_iff_ne_zero.2 fun e => beq_eq_false_iff_ne.1 hq (h0 e), hw⟩
      exact floors_step m n hm (by omega) hw rec (fun y hy => ih (n + 1, y) ⟨by dsimp only; omega, hy, fun e => absurd e (Nat.succ_ne_zero n)⟩ (by dsimp only; omega) _ rfl) (0, 0, false, 0, 0, false, 0, 0, false, 0, 0, false)
    · rw [if_neg (by omega)]
      exact OK.ret ⟨n, z, rfl, by omega, hw⟩
  · obtain ⟨n, z, rfl, hn, hw⟩ := hy
    simp only [Sum.elim_inl]
    rw [hw.2.1, decide_eq_true (by omega), cond_true]
    refine OK.bif (fun _ => OK.ret rfl) fun hq => ?_
    have e1 : z.2.2.2.1 = 1 := by simpa using hq
    rw [hw.2.2.won e1]
    exact OK.ret rfl
end Go.Proofs.YthdgahpomhnidaaGreat.Pure

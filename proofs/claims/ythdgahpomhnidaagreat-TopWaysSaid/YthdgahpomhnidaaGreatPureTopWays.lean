/- The law TopWays, in plain words (own work). -/
import Derived.Test.YthdgahpomhnidaaGreatZ13
namespace Go.Proofs.YthdgahpomhnidaaGreat.Tp
open Go Go.Proofs.YthdgahpomhnidaaGreat.Mx Go.Proofs.YthdgahpomhnidaaGreat.Pc Go.Proofs.YthdgahpomhnidaaGreat.Run Go.Proofs.YthdgahpomhnidaaGreat.Field Go.Proofs.YthdgahpomhnidaaGreat.Gen Go.Proofs.YthdgahpomhnidaaGreat.GenL Go.Proofs.YthdgahpomhnidaaGreat.Fl Go.Proofs.YthdgahpomhnidaaGreat.Wd Go.Proofs.YthdgahpomhnidaaGreat.Ft Go.Proofs.YthdgahpomhnidaaGreat.Ln Go.Proofs.YthdgahpomhnidaaGreat.Nav Go.Proofs.YthdgahpomhnidaaGreat.Mn
set_option linter.unusedVariables false
set_option linter.unusedSimpArgs false
set_option maxHeartbeats 2000000
theorem nbr_add {m : Int} : ∀ j : Nat, j < 4 → 0 ≤ nbr m j → m + List.getD [0, -24, 1, 24, -1] (1 + (j : Int)).toNat 0 = nbr m j
  | 0, _, h => by
    have e : nbr m 0 = if 24 ≤ m then m - 24 else -1 := rfl
    have l : List.getD [0, -24, 1, 24, -1] (1 + ((0 : Nat) : Int)).toNat 0 = (-24 : Int) := rfl
    rw [e] at h ⊢
    rw [l]
    split at h
    · rename_i w; rw [if_pos w]; omega
    · omega
  | 1, _, h => by
    have e : nbr m 1 = if m % 24 ≤ 22 then m + 1 else -1 := rfl
    have l : List.getD [0, -24, 1, 24, -1] (1 + ((1 : Nat) : Int)).toNat 0 = (1 : Int) := rfl
    rw [e] at h ⊢
    rw [l]
    split at h
    · rename_i w; rw [if_pos w]
    · omega
  | 2, _, h => by
    have e : nbr m 2 = if m < 360 then m + 24 else -1 := rfl
    have l : List.getD [0, -24, 1, 24, -1] (1 + ((2 : Nat) : Int)).toNat 0 = (24 : Int) := rfl
    rw [e] at h ⊢
    rw [l]
    split at h
    · rename_i w; rw [if_pos w]
    · omega
  | 3, _, h => by
    have e : nbr m 3 = if 1 ≤ m % 24 then m - 1 else -1 := rfl
    have l : List.getD [0, -24, 1, 24, -1] (1 + ((3 : Nat) : Int)).toNat 0 = (-1 : Int) := rfl
    rw [e] at h ⊢
    rw [l]
    split at h
    · rename_i w; rw [if_pos w]; omega
    · omega
end Go.Proofs.YthdgahpomhnidaaGreat.Tp
namespace Go.Proofs.YthdgahpomhnidaaGreat.Pure
open Go Go.Proofs.YthdgahpomhnidaaGreat.Mx Go.Proofs.YthdgahpomhnidaaGreat.Pc Go.Proofs.YthdgahpomhnidaaGreat.Run Go.Proofs.YthdgahpomhnidaaGreat.Field Go.Proofs.YthdgahpomhnidaaGreat.Gen Go.Proofs.YthdgahpomhnidaaGreat.GenL Go.Proofs.YthdgahpomhnidaaGreat.Fl Go.Proofs.YthdgahpomhnidaaGreat.Wd Go.Proofs.YthdgahpomhnidaaGreat.Ft Go.Proofs.YthdgahpomhnidaaGreat.Ln Go.Proofs.YthdgahpomhnidaaGreat.Nav Go.Proofs.YthdgahpomhnidaaGreat.Mn Go.Proofs.YthdgahpomhnidaaGreat.Tp
theorem TopWays (a0 : Int) (w0 : (Lit.int .i64 a0).wf = true) (a1 : Int) (w1 : (Lit.int .i64 a1).wf = true) (a2 : Int) (w2 : (Lit.int .i64 a2).wf = true) : f3 a0 a1 a2 = some (true, ()) := by
  refine OK.eq ?_
  unfold f3
  have b1 := within_b a1 3 (by decide)
  have b2 := within_b a2 384 (by decide)
  rw [known_is, pw_eq a1 3 (by decide) (by decide), pw_eq a2 384 (by decide) (by decide)]
  simp only [Option.bind_some, Bool.not_true, cond_false]
  rw [wr (x := 1 + within a1 3) (by omega)]
  have fa1 : 1 ≤ 1 + within a1 3 := by omega
  have fa3 : 1 + within a1 3 ≤ 3 := by omega
  generalize 1 + within a1 3 = fl at fa1 fa3 ⊢
  generalize within a2 384 = m0 at b2 ⊢
  rw [make_eq a0 fl fa1 fa3, show (floor a0 fl).1 = cells a0 fl from rfl]
  generalize (floor a0 fl).2.1 = es
  generalize (floor a0 fl).2.2.1 = its
  simp only [Option.bind_some]
  rw [show ((0 : Int) != 0) = false from rfl, cond_false, Fl.find_g _ (cells_cb a0 fl) (cells_len a0 fl) 4 (by decide), find_down]
  simp only [Option.bind_some]
  have cb := cells_cb a0 fl
  have cl := cells_len a0 fl
  have g0 : GC m0 := ⟨by omega, by omega⟩
  refine OK.callR (field_is (cells a0 fl) cb [] [far a0 fl] (by simp)) fun y hf => ?_
  obtain ⟨f, u⟩ := y
  dsimp only at hf ⊢
  have fL := hf.len
  have v := cells_val a0 fl m0.toNat
  rw [inR (by omega), cond_true, wr (x := (cells a0 fl).getD m0.toNat 0) (by omega), walk_eq]
  simp only [Option.bind_some]
  cases hw : walkable ((cells a0 fl).getD m0.toNat 0) with
  | false =>
    have hw' : walkable (Field.rd (cells a0 fl) m0) = false := hw
    have lo := hf.lo m0 g0
    have n0 : Field.rd f m0 ≠ 0 := fun z => by
      have := ((hf.zero m0 g0).1 z).2
      rw [hw'] at this
      exact absurd this (by decide)
    have n1 : ¬ 0 < Field.rd f m0 := fun z => by
      have := ((hf.up m0 g0 z).1).1
      rw [hw'] at this
      exact absurd this (by decide)
    have e : f.getD m0.toNat 0 = -1 := by
      show Field.rd f m0 = -1
      omega
    rw [Bool.not_false, cond_true, inR (by omega), cond_true, e]
    exact OK.ret rfl
  | true =>
    have hw' : Wk (cells a0 fl) m0 := hw
    have R := (reach a0 fl fa1 (by omega)).1
    have fg := far_gc a0 fl
    have fw : Wk (cells a0 fl) (far a0 fl) := by
      have w := (cells_down a0 fl (far a0 fl).toNat).2 rfl
      rw [wk_iff (cells_val a0 fl _), w]
      decide
    have lk := (R _ fg fw).symm.trans (R m0 g0 hw')
    have hp : 0 ≤ Field.rd f m0 := link_field hf lk
    have sm := field_small hf m0 g0
    rw [Bool.not_true, cond_false, inR (by omega), cond_true]
    unfold f3.L1
    refine OK.loop (fun m : Int => (far a0 fl, m, Field.rd f m, f, cells a0 fl, es, its, ())) (fun m => GC m ∧ 0 ≤ Field.rd f m ∧ Field.rd f m ≤ Field.rd f m0) (fun m => (Field.rd f m).toNat) (fun rec m hm ih => ?_) m0 rfl ⟨g0, hp, Int.le_refl _⟩ (by omega)
    obtain ⟨gm, hp', hle⟩ := hm
    dsimp only at ih ⊢
    have gm' := gm
    unfold GC at gm'
    rw [bif_dec]
    by_cases q : Field.rd f m > 0
    · rw [if_pos q, Int.tmod_eq_emod_of_nonneg gm'.1, Int.tdiv_eq_ediv_of_nonneg gm'.1, wr (x := m / 24) (by omega)]
      refine OK.callR (toward_nil (cells a0 fl) cb m (far a0 fl) gm f hf) fun z hz => ?_
      rcases hz with ⟨h1, _⟩ | ⟨h1, j, hj, ez, hg, hn⟩
      · omega
      · have hg' := hg
        unfold GC at hg'
        have e : m + List.getD [0, -24, 1, 24, -1] z.1.toNat 0 = nbr m j := by
          rw [ez]
          exact nbr_add j hj hg'.1
        have en : f.getD (nbr m j).toNat 0 = Field.rd f m - 1 := hn
        rw [inR (by omega), cond_true, e, wr (x := nbr m j) (by omega), inR (by omega), cond_true, wr (x := Field.rd f m - 1) (by omega), en]
        rw [show ((Field.rd f m - 1) != (Field.rd f m - 1)) = false from by simp, cond_false, ← hn]
        exact ih (nbr m j) ⟨hg, by omega, by omega⟩ (by omega) _ rfl
    · rw [if_neg q]
      have z0 : Field.rd f m = 0 := by omega
      have eg : m = far a0 fl := List.mem_singleton.1 ((hf.zero m gm).1 z0).1
      rw [eg]
      exact OK.ret (by simp)
end Go.Proofs.YthdgahpomhnidaaGreat.Pure

/- The law GenRooms, in plain words (own work). -/
import Derived.Test.YtbekimnigknapaaGenLaw
namespace Go.Proofs.Ytbekimnigknapaa.Pure
open Go Go.Proofs.Ytbekimnigknapaa.Mx Go.Proofs.Ytbekimnigknapaa.Pc Go.Proofs.Ytbekimnigknapaa.Run Go.Proofs.Ytbekimnigknapaa.Field Go.Proofs.Ytbekimnigknapaa.Gen Go.Proofs.Ytbekimnigknapaa.GenL Go.Proofs.Ytbekimnigknapaa.Fl
set_option linter.unusedVariables false
set_option linter.unusedSimpArgs false
theorem link_last {c : List Int} {m n : Int} (h : Link c m n) (hne : m ≠ n) : ∃ k, GC k ∧ Wk c k ∧ adj k n := by
  cases h with
  | refl _ _ => exact absurd rfl hne
  | step p a b d => exact ⟨_, p.gc, p.wk, a⟩
def off (k : Nat) : Int := [-24, 1, 24, -1].getD k 0
/-- Beside each cell that can be walked on lies another one. -/
theorem beside (s fl : Int) (h1 : 1 ≤ fl) (h2 : fl ≤ 10000) (i : Nat) (hi : i < 384) (hw : (cells s fl).getD i 0 ≠ 0) : ∃ j : Nat, j < 4 ∧ (cells s fl).getD ((i : Int) + off j).toNat 0 ≠ 0 := by
  have all := (reach s fl h1 h2).1
  have wk : ∀ n : Int, Wk (cells s fl) n ↔ (cells s fl).getD n.toNat 0 ≠ 0 := fun n => wk_iff (cells_val s fl _)
  have gi : GC (i : Int) := ⟨by omega, by omega⟩
  have wi : Wk (cells s fl) i := (wk i).2 (by rw [Int.toNat_natCast]; exact hw)
  obtain ⟨k, gk, wk', ak⟩ : ∃ k, GC k ∧ Wk (cells s fl) k ∧ adj k i := by
    by_cases e : upc s fl = i
    · have l := (all (far s fl) (far_gc s fl) ((cells_wk s fl _).2 (far_wk s fl))).symm
      rw [e] at l
      exact link_last l (fun z => far_ne s fl (z.trans e.symm))
    · exact link_last (all i gi wi) e
  have inn := cells_inn s fl i hw
  unfold Inn at inn
  obtain ⟨j, hj, ej⟩ := adj_sym _ _ gk gi ak
  refine ⟨j, hj, ?_⟩
  have e : (i : Int) + off j = k := by
    clear hw all wk gk wi wk' ak
    have key : j = 0 ∨ j = 1 ∨ j = 2 ∨ j = 3 := by omega
    have o0 : off 0 = -24 := rfl
    have o1 : off 1 = 1 := rfl
    have o2 : off 2 = 24 := rfl
    have o3 : off 3 = -1 := rfl
    rcases key with rfl | rfl | rfl | rfl
    · unfold nbr at ej; simp only at ej; split at ej <;> omega
    · unfold nbr at ej; simp only at ej; split at ej <;> omega
    · unfold nbr at ej; simp only at ej; split at ej <;> omega
    · unfold nbr at ej; simp only at ej; split at ej <;> omega
  rw [e]
  exact (wk k).1 wk'
theorem off_b (j : Nat) (hj : j < 4) : -24 ≤ off j ∧ off j ≤ 24 := by
  match j, hj with
  | 0, _ => decide
  | 1, _ => decide
  | 2, _ => decide
  | 3, _ => decide
theorem GenRooms (a0 : Int) (w0 : (Lit.int .i64 a0).wf = true) (a1 : Int) (w1 : (Lit.int .i64 a1).wf = true) : f7 a0 a1 = some (true, ()) := by
  have b1 := within_b a1 3 (by decide)
  unfold f7
  rw [Fl.known_eq]
  simp only [Option.bind_some, Bool.not_true, cond_false]
  rw [Fl.within_eq _ _ (by decide) (by decide)]
  simp only [Option.bind_some]
  rw [wr (by omega), make_eq a0 _ (by omega) (by omega)]
  simp only [Option.bind_some, bne_self_eq_false, cond_false]
  generalize hfl : 1 + within a1 3 = fl at *
  have f1 : 1 ≤ fl := by omega
  have f2 : fl ≤ 10000 := by omega
  have hl := cells_len a0 fl
  have e1 : (floor a0 fl).1 = cells a0 fl := rfl
  have hb := beside a0 fl f1 f2
  have hin := cells_inn a0 fl
  have six : 6 ≤ cnt (fun n => (cells a0 fl).getD n 0 != 0) 384 := by
    have b := room_b a0 fl 0
    obtain ⟨u, eu⟩ : ∃ u : Nat, (u : Int) = ry' a0 fl 0 * 24 + rx' a0 fl 0 := ⟨(ry' a0 fl 0 * 24 + rx' a0 fl 0).toNat, by omega⟩
    refine cnt_ge [u, u + 1, u + 2, u + 24, u + 25, u + 26] (by simp) fun j hj => ?_
    have hj' : j = u ∨ j = u + 1 ∨ j = u + 2 ∨ j = u + 24 ∨ j = u + 25 ∨ j = u + 26 := by simpa using hj
    have r : inRect (rx' a0 fl 0) (ry' a0 fl 0) (rw' a0 fl 0) (rh' a0 fl 0) j = true := by unfold inRect; rw [decide_eq_true_eq]; omega
    refine ⟨by omega, ?_⟩
    rw [bne_iff_ne, cells_zero, cellsU_get]
    split
    · decide
    · exact halls_first a0 fl 5 j r
  rw [e1]
  have q : (((cells a0 fl).length : Int) != 384) = false := by rw [hl]; rfl
  rw [q, cond_false]
  generalize (floor a0 fl).2.1 = es
  generalize (floor a0 fl).2.2.1 = l
  generalize cells a0 fl = c at *
  refine OK.eq ?_
  unfold f7.L2
  refine OK.loop (fun i : Nat => (((cnt (fun n => c.getD n 0 != 0) i : Nat) : Int), (i : Int), c, es, l, ())) (fun i => i ≤ 384) (fun i => 384 - i) (fun rec i hi ih => ?_) 0 rfl (Nat.zero_le _) (by decide)
  dsimp only
  have hcl := cnt_le' (fun n => c.getD n 0 != 0) i
  have hcs := cnt_succ (fun n => c.getD n 0 != 0) i
  rw [bif_dec]
  by_cases q : i < 384
  · rw [if_pos (by omega), inR (by omega), cond_true, wr (x := (i : Int) + 1) (by omega), Int.toNat_natCast]
    by_cases z : c.getD i 0 = 0
    · have z1 : (c.getD i 0 == 0) = true := beq_iff_eq.2 z
      have z2 : (c.getD i 0 != 0) = false := by rw [z]; rfl
      rw [z1, cond_true]
      refine ih (i + 1) (by omega) (by omega) _ ?_
      rw [hcs, z2]; rfl
    · have z1 : (c.getD i 0 == 0) = false := beq_eq_false_iff_ne.2 z
      have z2 : (c.getD i 0 != 0) = true := bne_iff_ne.2 z
      obtain ⟨j0, hj0, hj1⟩ := hb i q z
      have inn := hin i z
      unfold Inn at inn
      rw [z1, cond_false, wr (x := ((cnt (fun n => c.getD n 0 != 0) i : Nat) : Int) + 1) (by omega)]
      have go := ih (i + 1) (by omega) (by omega) (((cnt (fun n => c.getD n 0 != 0) (i + 1) : Nat) : Int), ((i + 1 : Nat) : Int), c, es, l, ()) rfl
      rw [hcs, z2] at go
      generalize cnt (fun n => c.getD n 0 != 0) i = N at *
      unfold f7.L1
      refine OK.loop (fun j : Nat × Int => ((N : Int) + 1, (i : Int), j.2, (j.1 : Int), c, es, l, ())) (fun j => j.1 ≤ 4 ∧ 0 ≤ j.2 ∧ j.2 ≤ j.1 ∧ (j0 < j.1 → 1 ≤ j.2)) (fun j => 4 - j.1) (fun rec' j hj ih' => ?_) (0, 0) rfl ⟨by dsimp only; omega, by dsimp only; omega, by dsimp only; omega, fun h => absurd h (Nat.not_lt_zero _)⟩ (by dsimp only; omega)
      obtain ⟨j, b⟩ := j
      obtain ⟨hj, hb0, hb1, hb2⟩ := hj
      dsimp only at hj hb0 hb1 hb2 ih' ⊢
      rw [bif_dec]
      by_cases p : j < 4
      · have ob := off_b j p
        have eo : List.getD [-24, 1, 24, -1] j 0 = off j := rfl
        rw [if_pos (by omega), inR (by omega), cond_true, Int.toNat_natCast, eo, wr (x := (i : Int) + off j) (by omega), inR (by omega), cond_true, wr (x := (j : Int) + 1) (by omega), wr (x := b + 1) (by omega)]
        refine OK.bif (fun h => ?_) (fun h => ?_)
        · exact ih' (j + 1, b + 1) ⟨by dsimp only; omega, by dsimp only; omega, by dsimp only; omega, fun _ => by dsimp only; omega⟩ (by dsimp only; omega) _ rfl
        · refine ih' (j + 1, b) ⟨by dsimp only; omega, by dsimp only; omega, by dsimp only; omega, fun h' => ?_⟩ (by dsimp only; omega) _ rfl
          dsimp only at h' ⊢
          by_cases e : j0 = j
          · subst e
            exact absurd (bne_iff_ne.2 hj1) (by rw [h]; decide)
          · exact hb2 (by omega)
      · rw [if_neg (by omega), wr (by omega)]
        have : (b == 0) = false := by rw [beq_eq_false_iff_ne]; have := hb2 (by omega); omega
        rw [this, cond_false]
        exact go
  · have : i = 384 := by omega
    subst this
    rw [if_neg (by omega), decide_eq_true (by omega)]
    exact OK.ret rfl
end Go.Proofs.Ytbekimnigknapaa.Pure

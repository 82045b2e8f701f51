/- The law EntsTurns, in plain words (own work). -/
import Derived.Test.YtamedfccknfeaaaEntsLaw
namespace Go.Proofs.Ytamedfccknfeaaa.Pure
open Go Go.Proofs.Ytamedfccknfeaaa.Mx Go.Proofs.Ytamedfccknfeaaa.Pc Go.Proofs.Ytamedfccknfeaaa.Run Go.Proofs.Ytamedfccknfeaaa.Ents
set_option linter.unusedVariables false
def tk (e : E) : Bool := e.1 != 0
/-- 32 rows, n of them taken. -/
def Turn (n : Nat) (l : List E) : Prop := l.length = 32 ∧ (∀ j, 0 ≤ (l.getD j e0).2.1 ∧ (l.getD j e0).2.1 < 256) ∧ l.countP tk = n
theorem Turn.gens {n : Nat} {l : List E} (h : Turn n l) : gens l := fun j _ => by have := h.2.1 j; omega
theorem getD_eq {l : List E} {i : Nat} (h : i < l.length) : l.getD i e0 = l[i] := by simp [List.getD_eq_getElem?_getD, h]
theorem set_count {l : List E} {i : Nat} {e : E} (h : i < l.length) : (l.set i e).countP tk + (if tk (l.getD i e0) = true then 1 else 0) = l.countP tk + (if tk e = true then 1 else 0) := by
  have h1 : l.countP tk = (l.take i).countP tk + ((if tk (l.getD i e0) = true then 1 else 0) + (l.drop (i + 1)).countP tk) := by
    conv => lhs; rw [← List.take_append_drop i l, List.countP_append, List.drop_eq_getElem_cons h, List.countP_cons]
    rw [getD_eq h, Nat.add_comm (List.countP tk (List.drop (i + 1) l))]
  have h2 : (l.set i e).countP tk = (l.take i).countP tk + ((if tk e = true then 1 else 0) + (l.drop (i + 1)).countP tk) := by
    rw [List.set_eq_take_append_cons_drop, if_pos h, List.countP_append, List.countP_cons, Nat.add_comm (List.countP tk (List.drop (i + 1) l))]
  omega
theorem Turn.full {l : List E} (h : Turn 32 l) : ∀ j, j < most l → (l.getD j e0).1 ≠ 0 := fun j hj => by
  have h1 : l.countP tk = l.length := by rw [h.2.2, h.1]
  rw [List.countP_eq_length] at h1
  have hj' : j < l.length := by unfold most at hj; omega
  have := h1 (l.getD j e0) (by rw [getD_eq hj']; exact List.getElem_mem hj')
  simpa [tk] using this
theorem Turn.some {n : Nat} {l : List E} (h : Turn n l) (hn : n ≠ 32) : ∃ i : Nat, i < most l ∧ (l.getD i e0).1 = 0 ∧ ∀ j, j < i → (l.getD j e0).1 ≠ 0 := by
  have hm : most l = 32 := by unfold most; rw [h.1]; rfl
  rcases ix_spec free l with ⟨i, h1, h2, h3, h4⟩ | ⟨h1, h2⟩
  · exact ⟨i, h2, by simpa [free] using h3, fun j hj => by simpa [free] using h4 j hj⟩
  · exfalso
    apply hn
    rw [← h.2.2, ← h.1, List.countP_eq_length]
    intro e he
    obtain ⟨j, hj, rfl⟩ := List.getElem_of_mem he
    have := h2 j (by rw [hm, ← h.1]; exact hj)
    rw [getD_eq hj] at this
    simpa [tk, free] using this
theorem Turn.spawn {n : Nat} {l : List E} {k : Int} {i : Nat} (h : Turn n l) (h1 : 1 ≤ k) (h4 : k ≤ 4) (hi : i < most l) (h0 : (l.getD i e0).1 = 0) : Turn (n + 1) (spawned l (stats k) i) := by
  have hl := h.1
  have hi' : i < l.length := by unfold most at hi; omega
  refine ⟨by simp [spawned, hl], fun j => ?_, ?_⟩
  · unfold spawned
    rw [getD_set]
    split
    · dsimp only; omega
    · exact h.2.1 j
  · have := set_count (l := l) (i := i) (e := ((stats k).1, ((l.getD i e0).2.1 + 1) % 256, (stats k).2.2)) hi'
    rw [if_neg (by simp [tk]; exact h0), if_pos (by simp [tk, stats_kind h1 h4]; omega), h.2.2] at this
    exact this
theorem EntsTurns (a0 : List Int) (w0 : Ty.good (.row (.int .i64)) a0) (z0 : a0.length * 8 ≤ 140737488351232) : f7 a0 = some (true, ()) := by
  unfold f7
  rw [known_eq]
  simp only [Option.bind_some, Bool.not_true, cond_false, bif_dec]
  refine OK.eq ?_
  refine OK.loop (fun j : Nat × Nat × List E => (a0, (j.2.1 : Int), (j.1 : Int), j.2.2, ())) (fun j => j.1 ≤ 80 ∧ j.2.1 ≤ 32 ∧ Turn j.2.1 j.2.2) (fun j => 80 - j.1) (fun rec j hj ih => ?_) (0, 0, empty32) rfl ⟨by decide, by decide, rfl, fun j => by rw [empty32_get]; decide, rfl⟩ (by decide)
  obtain ⟨i, n, l⟩ := j
  obtain ⟨hi, hn, hT⟩ := hj
  dsimp only at hi hn hT
  have hl := hT.1
  have hm : most l = 32 := by unfold most; omega
  have hg := hT.gens
  simp only [Int.toNat_natCast]
  by_cases c1 : (i : Int) < a0.length
  · by_cases c2 : (i : Int) < 80
    · rw [if_pos c1, if_pos c2, inR (by omega)]
      simp only [cond_true]
      rw [wr (x := (i : Int) + 1) (by omega)]
      cases c3 : (Int.tmod (a0.getD i 0) 3 != 0) with
      | true =>
        simp only [cond_true]
        have b := within_b (a0.getD i 0) 4 (by decide)
        rw [within_eq _ _ (by decide) (by decide)]
        simp only [Option.bind_some]
        rw [wr (x := 1 + within (a0.getD i 0) 4) (by omega), stats_eq]
        generalize hk : 1 + within (a0.getD i 0) 4 = k
        have k1 : 1 ≤ k := by omega
        have k4 : k ≤ 4 := by omega
        have hks := stats_kind k1 k4
        simp only [Option.bind_some]
        by_cases c4 : n = 32
        · subst c4
          rw [spawn_full (l := l) (e := stats k) (by omega) hg (by omega) (by omega) hT.full]
          exact ih (i + 1, 32, l) ⟨by dsimp only; omega, Nat.le_refl _, hT⟩ (by dsimp only; omega) _ (by simp)
        · obtain ⟨r, hr, h0, hb⟩ := hT.some c4
          have hr32 : r < 32 := by omega
          rw [spawn_at (l := l) (e := stats k) (i := r) (by omega) hg (by omega) (by omega) hr h0 hb]
          have q : (((n : Int) == 32)) = false := by simp; omega
          simp only [Option.bind_some, q, cond_false, bne_self_eq_false]
          have hT' := hT.spawn (k := k) k1 k4 hr h0
          have hl' := hT'.1
          have hm' : most (spawned l (stats k) r) = 32 := by unfold most; omega
          have hgr : (spawned l (stats k) r).getD r e0 = (k, ((l.getD r e0).2.1 + 1) % 256, (stats k).2.2) := by
            unfold spawned
            rw [getD_set, if_pos ⟨rfl, by omega⟩, hks]
          refine OK.loop (fun j : Nat => (a0, (n : Int), (i : Int), (r : Int), (j : Int), (i : Int), decide ((i : Int) < 80), l, spawned l (stats k) r, ())) (fun j => j ≤ r) (fun j => r - j) (fun rec2 j hj ih2 => ?_) 0 rfl (Nat.zero_le _) (by omega)
          simp only [Int.toNat_natCast]
          by_cases c5 : (j : Int) < r
          · have := hb j (by omega)
            have q : ((l.getD j e0).1 == 0) = false := by simpa using this
            rw [if_pos c5, inR (by omega), cond_true, fold0, q, cond_false, wr (by omega)]
            exact ih2 (j + 1) (by omega) (by omega) _ (by simp)
          · rw [if_neg c5, id_eq _ _ hT'.gens, Int.toNat_natCast, hgr, if_neg (by dsimp only; omega)]
            simp only [Option.bind_some]
            rw [of_eq _ _ hT'.gens]
            have hix : ix (isId ((r : Int) + 32 * (((l.getD r e0).2.1 + 1) % 256))) (spawned l (stats k) r) = r := by
              refine ix_some (by omega) ?_ fun j hj => ?_
              · rw [hgr]
                simp [isId]
                omega
              · have := hT'.2.1 j
                simp only [isId, Bool.and_eq_false_iff, beq_eq_false_iff_ne]
                right
                omega
            rw [hix]
            simp only [Option.bind_some, bne_self_eq_false, cond_false]
            rw [wr (by omega), wr (by omega)]
            have : n < 32 := by omega
            exact ih (i + 1, n + 1, spawned l (stats k) r) ⟨by dsimp only; omega, by dsimp only; omega, hT'⟩ (by dsimp only; omega) _ (by simp)
      | false =>
        simp only [cond_false]
        generalize IntKind.wrap .i64 (Int.tdiv (a0.getD i 0) 3) = q
        have b := within_b q 32 (by decide)
        rw [within_eq _ _ (by decide) (by decide)]
        generalize within q 32 = r at *
        obtain ⟨r, rfl⟩ := Int.eq_ofNat_of_zero_le b.2.2.1
        have hr : r < 32 := by omega
        simp only [Option.bind_some]
        have hgr := hT.2.1 r
        have fl : (freed l r).length = 32 := by simp [freed, hl]
        have fm : most (freed l r) = 32 := by unfold most; omega
        have fg : (freed l r).getD r e0 = (0, (l.getD r e0).2.1, 0, 0, 0, 0, 0, 0, 0, 0, 0) := by
          unfold freed
          rw [getD_set, if_pos ⟨rfl, by omega⟩]
        have fgg : ∀ j, 0 ≤ ((freed l r).getD j e0).2.1 ∧ ((freed l r).getD j e0).2.1 < 256 := fun j => by
          unfold freed
          rw [getD_set]
          split
          · exact hgr
          · exact hT.2.1 j
        have fgens : gens (freed l r) := fun j _ => by have := fgg j; omega
        have fid : f25 (freed l r) r = some (-1, ()) := by
          rw [id_eq _ _ fgens, Int.toNat_natCast, fg, if_pos (by simp)]
        have hc := set_count (l := l) (i := r) (e := (0, (l.getD r e0).2.1, 0, 0, 0, 0, 0, 0, 0, 0, 0)) (by omega)
        rw [hT.2.2] at hc
        have hfr : f23 l r = some (freed l r, ()) := by rw [free_eq _ _ (by omega), if_pos (by omega), Int.toNat_natCast]
        by_cases c4 : (l.getD r e0).1 = 0
        · have hid : f25 l r = some (-1, ()) := by rw [id_eq _ _ hg, Int.toNat_natCast, if_pos (by omega)]
          rw [hid]
          simp only [Option.bind_some]
          rw [if_neg (by decide)]
          simp only [Option.bind_some, Sum.elim_inl]
          rw [hfr]
          simp only [Option.bind_some]
          rw [fid]
          simp only [Option.bind_some]
          rw [if_neg (by decide)]
          have hT' : Turn n (freed l r) := ⟨fl, fgg, by
            rw [if_neg (by simp [tk]; exact c4), if_neg (by simp [tk])] at hc
            exact hc⟩
          rw [wr (x := (i : Int) + 1) (by omega)]
          exact ih (i + 1, n, freed l r) ⟨by dsimp only; omega, hn, hT'⟩ (by dsimp only; omega) _ (by simp)
        · have hid : f25 l r = some ((r : Int) + 32 * (l.getD r e0).2.1, ()) := by rw [id_eq _ _ hg, Int.toNat_natCast, if_neg (by omega)]
          rw [hid]
          simp only [Option.bind_some]
          rw [if_pos (by omega)]
          simp only [Option.bind_some, Sum.elim_inl]
          rw [hfr]
          simp only [Option.bind_some]
          rw [fid]
          simp only [Option.bind_some]
          rw [if_pos (by omega), of_eq _ _ fgens]
          have hix : ix (isId ((r : Int) + 32 * (l.getD r e0).2.1)) (freed l r) = -1 := by
            refine ix_none fun j hj => ?_
            by_cases e : j = r
            · subst e; rw [fg]; rfl
            · have := fgg j
              simp only [isId, Bool.and_eq_false_iff, beq_eq_false_iff_ne]
              right
              omega
          rw [hix]
          rw [if_pos (by simp [tk]; exact c4), if_neg (by simp [tk])] at hc
          have hT' : Turn (n - 1) (freed l r) := ⟨fl, fgg, by show (l.set r _).countP tk = _; omega⟩
          simp only [Option.bind_some, bne_self_eq_false, cond_false]
          rw [wr (x := (n : Int) - 1) (by omega), wr (x := (i : Int) + 1) (by omega)]
          refine ih (i + 1, n - 1, freed l r) ⟨by dsimp only; omega, by dsimp only; omega, hT'⟩ (by dsimp only; omega) _ ?_
          simp only [Prod.mk.injEq, true_and, and_true]
          omega
    · rw [if_pos c1, if_neg c2]; exact OK.ret rfl
  · rw [if_neg c1]; exact OK.ret rfl
end Go.Proofs.Ytamedfccknfeaaa.Pure

/- The law TopBots, in plain words (own work). -/
import Derived.Test.YthdgahpomhnidaaGreatZ13
namespace Go.Proofs.YthdgahpomhnidaaGreat.Tp
open Go Go.Proofs.YthdgahpomhnidaaGreat.Mx Go.Proofs.YthdgahpomhnidaaGreat.Pc Go.Proofs.YthdgahpomhnidaaGreat.Run Go.Proofs.YthdgahpomhnidaaGreat.Field Go.Proofs.YthdgahpomhnidaaGreat.Gen Go.Proofs.YthdgahpomhnidaaGreat.GenL Go.Proofs.YthdgahpomhnidaaGreat.Fl Go.Proofs.YthdgahpomhnidaaGreat.Wd Go.Proofs.YthdgahpomhnidaaGreat.Ft Go.Proofs.YthdgahpomhnidaaGreat.Ln Go.Proofs.YthdgahpomhnidaaGreat.Nav Go.Proofs.YthdgahpomhnidaaGreat.Mn
set_option linter.unusedVariables false
set_option linter.unusedSimpArgs false
set_option maxHeartbeats 2000000
abbrev A12 := Int × Int × Bool × Int × Int × Bool × Int × Int × Bool × Int × Int × Bool
theorem run_eq (s fr fl : Int) {H I H' I' : List Int} {P : List Bool} (m : FT) (h : ∀ n, n ≠ 4 → ∀ m, nxt s fr fl H I P n m = nxt s fr fl H' I' P n m)
    (e4 : nxt s fr fl H I P 4 (runP s fr fl H I P m 4) = nxt s fr fl H' I' P 4 (runP s fr fl H I P m 4)) : ∀ n, runP s fr fl H I P m n = runP s fr fl H' I' P m n
  | 0 => rfl
  | n + 1 => by
    have ih := run_eq s fr fl m h e4 n
    show nxt s fr fl H I P n (runP s fr fl H I P m n) = nxt s fr fl H' I' P n (runP s fr fl H' I' P m n)
    rw [← ih]
    by_cases q : n = 4
    · subst q; exact e4
    · exact h n q _
theorem nxt_one (s fr fl h i h' i' : Int) (P : List Bool) (n : Nat) (hn : n ≠ 4) (m : FT) : nxt s fr fl [h, 0, 0, 0] [i, 0, 0, 0] P n m = nxt s fr fl [h', 0, 0, 0] [i', 0, 0, 0] P n m := by
  unfold nxt
  by_cases q : n < 4
  · rw [if_pos q, if_pos q]
  · rw [if_neg q, if_neg q]
    by_cases q8 : n < 8
    · rw [if_pos q8, if_pos q8]
      have : n = 5 ∨ n = 6 ∨ n = 7 := by omega
      rcases this with rfl | rfl | rfl <;> rfl
    · rw [if_neg q8, if_neg q8]
section
variable (s fr fl sta g0 g1 g2 g3 : Int) (p : Bool) (l : List EntT) (its : List ItT)
/-- A robot asks not for the input. -/
theorem bot_any (i : Int) : stepF s fr fl sta g0 g1 g2 g3 2 0 p 0 0 false 0 0 false 0 0 false l its = stepF s fr fl sta g0 g1 g2 g3 2 i p 0 0 false 0 0 false 0 0 false l its := by
  unfold stepF
  by_cases q : sta = 0
  · rw [if_pos q, if_pos q]
    refine congrArg (tailF s (fr + 1) fl sta) (run_eq s (fr + 1) fl _ (nxt_one s (fr + 1) fl 2 0 2 i _) ?_ 9)
    generalize runP s (fr + 1) fl [2, 0, 0, 0] [0, 0, 0, 0] [p, false, false, false] (anyH l, g0, g1, g2, g3, false, l, its) 4 = m
    have e : ∀ j, seatP s (fr + 1) (cells s fl) ((4 - 4 : Nat) : Int) 2 j m.2 = seatP s (fr + 1) (cells s fl) ((4 - 4 : Nat) : Int) 2 0 m.2 := fun j => by
      unfold seatP
      rw [if_pos rfl, if_pos rfl]
    show (m.1 || anyH m.2.2.2.2.2.2.1, seatP s (fr + 1) (cells s fl) ((4 - 4 : Nat) : Int) 2 0 m.2) = (m.1 || anyH m.2.2.2.2.2.2.1, seatP s (fr + 1) (cells s fl) ((4 - 4 : Nat) : Int) 2 i m.2)
    rw [e i]
  · rw [if_neg q, if_neg q]
/-- A robot's act, told as an input, is what the robot does. -/
theorem bot_told (hh : 0 ≤ heroE' l 0) : stepF s fr fl sta g0 g1 g2 g3 2 0 p 0 0 false 0 0 false 0 0 false l its = stepF s fr fl sta g0 g1 g2 g3 1 (robI (cells s fl) l its 0) p 0 0 false 0 0 false 0 0 false l its := by
  unfold stepF
  by_cases q : sta = 0
  · rw [if_pos q, if_pos q]
    refine congrArg (tailF s (fr + 1) fl sta) (run_eq s (fr + 1) fl _ (nxt_one s (fr + 1) fl 2 0 1 _ _) ?_ 9)
    have e0 : nxt s (fr + 1) fl [2, 0, 0, 0] [0, 0, 0, 0] [p, false, false, false] 0 (anyH l, g0, g1, g2, g3, false, l, its) = (anyH l, g0, g1, g2, g3, false, l, its) := by
      unfold nxt
      rw [if_pos (by decide)]
      split
      · have : comeP s fl l ((0 : Nat) : Int) = l := by unfold comeP; rw [if_pos (show 0 ≤ heroE' l ((0 : Nat) : Int) from hh)]
        dsimp only
        rw [this]
        rfl
      · rfl
    have e4 : runP s (fr + 1) fl [2, 0, 0, 0] [0, 0, 0, 0] [p, false, false, false] (anyH l, g0, g1, g2, g3, false, l, its) 4 = (anyH l, g0, g1, g2, g3, false, l, its) := by
      have st : ∀ n, n = 1 ∨ n = 2 ∨ n = 3 → ∀ m, nxt s (fr + 1) fl [2, 0, 0, 0] [0, 0, 0, 0] [p, false, false, false] n m = m := fun n hn m => by
        unfold nxt
        rw [if_pos (by omega), if_neg (by rcases hn with rfl | rfl | rfl <;> simp)]
      show nxt _ _ _ _ _ _ 3 (nxt _ _ _ _ _ _ 2 (nxt _ _ _ _ _ _ 1 (nxt _ _ _ _ _ _ 0 (anyH l, g0, g1, g2, g3, false, l, its)))) = _
      rw [e0, st 1 (by decide), st 2 (by decide), st 3 (by decide)]
    rw [e4]
    have e : seatP s (fr + 1) (cells s fl) ((4 - 4 : Nat) : Int) 2 0 (g0, g1, g2, g3, false, l, its) = seatP s (fr + 1) (cells s fl) ((4 - 4 : Nat) : Int) 1 (robI (cells s fl) l its 0) (g0, g1, g2, g3, false, l, its) := by
      unfold seatP
      rw [if_pos rfl, if_neg (show ¬ ((1 : Int) = 2) by decide), if_pos rfl]
      rfl
    show (anyH l || anyH l, seatP s (fr + 1) (cells s fl) ((4 - 4 : Nat) : Int) 2 0 (g0, g1, g2, g3, false, l, its)) = (anyH l || anyH l, seatP s (fr + 1) (cells s fl) ((4 - 4 : Nat) : Int) 1 (robI (cells s fl) l its 0) (g0, g1, g2, g3, false, l, its))
    rw [e]
  · rw [if_neg q, if_neg q]
end
theorem only_ok (a : A12) : OK (f24 a.1 a.2.1 a.2.2.1 a.2.2.2.1 a.2.2.2.2.1 a.2.2.2.2.2.1 a.2.2.2.2.2.2.1 a.2.2.2.2.2.2.2.1 a.2.2.2.2.2.2.2.2.1 a.2.2.2.2.2.2.2.2.2.1 a.2.2.2.2.2.2.2.2.2.2.1 a.2.2.2.2.2.2.2.2.2.2.2) fun _ => True := by
  unfold f24 f24.L1
  refine OK.loop (fun j : Nat × A12 => ((j.1 : Int), j.2.1, j.2.2.1, j.2.2.2.1, j.2.2.2.2.1, j.2.2.2.2.2.1, j.2.2.2.2.2.2.1, j.2.2.2.2.2.2.2.1, j.2.2.2.2.2.2.2.2.1, j.2.2.2.2.2.2.2.2.2.1, j.2.2.2.2.2.2.2.2.2.2.1, j.2.2.2.2.2.2.2.2.2.2.2.1, j.2.2.2.2.2.2.2.2.2.2.2.2, 0, 0, false, 0, 0, false, 0, 0, false, 0, 0, false, ())) (fun j => j.1 ≤ 4) (fun j => 4 - j.1) (fun rec j hj ih => ?_) (0, a) rfl (Nat.zero_le _) (by dsimp only; omega)
  obtain ⟨k, b⟩ := j
  dsimp only at hj ih ⊢
  rw [bif_dec]
  by_cases q : k < 4
  · rw [if_pos (by omega), inR (by omega), cond_true, cond_true, wr (x := (k : Int) + 1) (by omega)]
    exact ih (k + 1, (_, _, _, _, _, _, _, _, _, _, _, _)) (by dsimp only; omega) (by dsimp only; omega) _ rfl
  · rw [if_neg (by omega)]
    exact OK.ret trivial
theorem rob_ww {s fr : Int} {z : WT} (h : WWt s fr z) : f22 z.1 z.2.1 z.2.2.1 z.2.2.2.1 z.2.2.2.2.2.2.2.2.1 z.2.2.2.2.2.2.2.2.2.1 z.2.2.2.2.2.2.2.2.2.2.1 z.2.2.2.2.1 z.2.2.2.2.2.1 z.2.2.2.2.2.2.1 z.2.2.2.2.2.2.2.1 0 = some (robI z.2.2.2.2.2.2.2.2.1 z.2.2.2.2.2.2.2.2.2.1 z.2.2.2.2.2.2.2.2.2.2.1 0, ()) := by
  have w := h.2.2
  have hcc : CC z.2.2.2.2.2.2.2.2.1 := by rw [w.hc]; exact cells_cc _ _
  exact robot_eq _ _ _ _ _ _ _ _ hcc.cb hcc.len w.wo.ei.ents w.wo.it 0 (mx_b w.wo.ei.lok)
theorem bots_step {s : Int} {Q : _ → Prop} (a1 : Int) (m n : Nat) (hm : 1 ≤ m ∧ m ≤ 4) (hn : n ≤ 1000) {z w : WT} (hz : WWt s n z) (hw : m = 1 → w = z) (k0)
    (hk : ∀ y w' : WT, WWt s ((n + 1 : Nat) : Int) y → (m = 1 → w' = y) → OK (k0 (a1, (m : Int), 1 + ((n + 1 : Nat) : Int), y.1, y.2.1, y.2.2.1, y.2.2.2.1, y.2.2.2.2.1, y.2.2.2.2.2.1, y.2.2.2.2.2.2.1, y.2.2.2.2.2.2.2.1, w'.1, w'.2.1, w'.2.2.1, w'.2.2.2.1, w'.2.2.2.2.1, w'.2.2.2.2.2.1, w'.2.2.2.2.2.2.1, w'.2.2.2.2.2.2.2.1, y.2.2.2.2.2.2.2.2.1, y.2.2.2.2.2.2.2.2.2.1, y.2.2.2.2.2.2.2.2.2.2.1, w'.2.2.2.2.2.2.2.2.1, w'.2.2.2.2.2.2.2.2.2.1, w'.2.2.2.2.2.2.2.2.2.2.1, ())) Q) :
    OK (f5.L1 k0 (a1, (m : Int), 1 + (n : Int), 0, z.1, z.2.1, z.2.2.1, z.2.2.2.1, z.2.2.2.2.1, z.2.2.2.2.2.1, z.2.2.2.2.2.2.1, z.2.2.2.2.2.2.2.1, w.1, w.2.1, w.2.2.1, w.2.2.2.1, w.2.2.2.2.1, w.2.2.2.2.2.1, w.2.2.2.2.2.2.1, w.2.2.2.2.2.2.2.1, 0, 0, false, 0, 0, false, 0, 0, false, 0, 0, false, z.2.2.2.2.2.2.2.2.1, z.2.2.2.2.2.2.2.2.2.1, z.2.2.2.2.2.2.2.2.2.2.1, w.2.2.2.2.2.2.2.2.1, w.2.2.2.2.2.2.2.2.2.1, w.2.2.2.2.2.2.2.2.2.2.1, ())) Q := by
  unfold f5.L1
  refine OK.loop (fun j : Nat × A12 => (a1, (m : Int), 1 + (n : Int), (j.1 : Int), z.1, z.2.1, z.2.2.1, z.2.2.2.1, z.2.2.2.2.1, z.2.2.2.2.2.1, z.2.2.2.2.2.2.1, z.2.2.2.2.2.2.2.1, w.1, w.2.1, w.2.2.1, w.2.2.2.1, w.2.2.2.2.1, w.2.2.2.2.2.1, w.2.2.2.2.2.2.1, w.2.2.2.2.2.2.2.1, j.2.1, j.2.2.1, j.2.2.2.1, j.2.2.2.2.1, j.2.2.2.2.2.1, j.2.2.2.2.2.2.1, j.2.2.2.2.2.2.2.1, j.2.2.2.2.2.2.2.2.1, j.2.2.2.2.2.2.2.2.2.1, j.2.2.2.2.2.2.2.2.2.2.1, j.2.2.2.2.2.2.2.2.2.2.2.1, j.2.2.2.2.2.2.2.2.2.2.2.2, z.2.2.2.2.2.2.2.2.1, z.2.2.2.2.2.2.2.2.2.1, z.2.2.2.2.2.2.2.2.2.2.1, w.2.2.2.2.2.2.2.2.1, w.2.2.2.2.2.2.2.2.2.1, w.2.2.2.2.2.2.2.2.2.2.1, ()))
    (fun j => j.1 ≤ m ∧ (m = 1 → (j.1 = 0 → j.2 = (0, 0, false, 0, 0, false, 0, 0, false, 0, 0, false)) ∧ (j.1 = 1 → j.2 = (2, 0, (1 + (n : Int)) == 1, 0, 0, false, 0, 0, false, 0, 0, false)))) (fun j => m - j.1) (fun rec j hj ih => ?_) (0, (0, 0, false, 0, 0, false, 0, 0, false, 0, 0, false)) rfl ⟨Nat.zero_le _, fun _ => ⟨fun _ => rfl, fun z => absurd z (by decide)⟩⟩ (by dsimp only; omega)
  obtain ⟨k, b⟩ := j
  obtain ⟨hkm, hb⟩ := hj
  dsimp only at hkm hb ih ⊢
  rw [bif_dec]
  by_cases q : k < m
  · rw [if_pos (by omega), inR (by omega), cond_true, wr (x := (k : Int) + 1) (by omega)]
    refine ih (k + 1, (_, _, _, _, _, _, _, _, _, _, _, _)) ⟨by dsimp only; omega, fun h1 => ⟨fun z => absurd z (Nat.succ_ne_zero k), fun _ => ?_⟩⟩ (by dsimp only; omega) _ rfl
    have k0 : k = 0 := by omega
    subst k0
    rw [(hb h1).1 rfl]
    rfl
  · rw [if_neg (by omega)]
    have km : k = m := by omega
    subst km
    have hz' := hz
    by_cases h1 : k = 1
    · subst h1
      rw [(hb rfl).2 rfl]
      obtain rfl := hw rfl
      clear hb hw ih
      obtain ⟨s', fr', fl, sta, g0, g1, g2, g3, c, l, its, u⟩ := w
      obtain ⟨e1, e2, hW⟩ := hz
      dsimp only at e1 e2 hW ⊢
      subst e1 e2
      obtain rfl := hW.hc
      have hl := hW.wo.ei.len
      obtain ⟨y, ey, sy, hy⟩ := step_is s' (n : Int) fl sta g0 g1 g2 g3 2 0 ((1 + (n : Int)) == 1) 0 0 false 0 0 false 0 0 false (by omega) hW
      have hy' : WWt s' ((n + 1 : Nat) : Int) y := hy
      have hyl := hy.2.2.wo.ei.len
      have hyi := hy.2.2.wo.it.len
      have eH : f21 l 0 = some (heroE' l 0, ()) := Gd.rhero_eq l (by omega) 0
      have nx := hk y y hy' fun _ => rfl
      refine OK.call ey ?_
      rw [show ((((1 : Nat) : Int) == 1) = true) from rfl, cond_true, eH]
      refine OK.callR (R := fun x => ∃ h i, x = .inl (a1, ((1 : Nat) : Int), 1 + (n : Int), y.1, y.2.1, y.2.2.1, y.2.2.2.1, y.2.2.2.2.1, y.2.2.2.2.2.1, y.2.2.2.2.2.2.1, y.2.2.2.2.2.2.2.1, s', (n : Int), fl, sta, g0, g1, g2, g3, h, i, (1 + (n : Int)) == 1, 0, 0, false, 0, 0, false, 0, 0, false, y.2.2.2.2.2.2.2.2.1, y.2.2.2.2.2.2.2.2.2.1, y.2.2.2.2.2.2.2.2.2.2.1, cells s' fl, l, its, ()) ∧ f20 s' (n : Int) fl sta (cells s' fl) l its g0 g1 g2 g3 h i ((1 + (n : Int)) == 1) 0 0 false 0 0 false 0 0 false = some y) ?_ fun x hx => ?_
      · refine OK.call rfl ?_
        dsimp only
        rw [bif_dec]
        by_cases qh : heroE' l 0 ≥ 0
        · rw [if_pos qh]
          have eR := rob_ww (z := (s', IntKind.wrap .i64 ((n : Int) + 1), fl, sta, g0, g1, g2, g3, cells s' fl, l, its, ())) (s := s') (fr := IntKind.wrap .i64 ((n : Int) + 1)) ⟨rfl, rfl, rfl, hW.wo, hW.fl1, hW.fl3, hW.sta0, hW.won⟩
          dsimp only at eR
          refine OK.call rfl ?_
          refine OK.call eR ?_
          refine OK.ret ⟨1, robI (cells s' fl) l its 0, rfl, ?_⟩
          obtain ⟨y2, ey2, sy2, _⟩ := step_is s' (n : Int) fl sta g0 g1 g2 g3 1 (robI (cells s' fl) l its 0) ((1 + (n : Int)) == 1) 0 0 false 0 0 false 0 0 false (by omega) hW
          rw [ey2, ← sy2, ← sy]
          exact (bot_told s' n fl sta g0 g1 g2 g3 _ l its qh).symm
        · rw [if_neg qh]
          refine OK.callR (only_ok (_, _, _, _, _, _, _, _, _, _, _, _)) fun y4 _ => ?_
          refine OK.callR (step_ww (z := (s', (n : Int), fl, sta, g0, g1, g2, g3, cells s' fl, l, its, ())) _ _ _ _ _ _ _ _ _ _ _ _ (fr := n) (by omega) ⟨rfl, rfl, hW⟩) fun y5 hy5 => ?_
          refine OK.call (rob_ww hy5) ?_
          refine OK.ret ⟨2, robI y5.2.2.2.2.2.2.2.2.1 y5.2.2.2.2.2.2.2.2.2.1 y5.2.2.2.2.2.2.2.2.2.2.1 0, rfl, ?_⟩
          obtain ⟨y2, ey2, sy2, _⟩ := step_is s' (n : Int) fl sta g0 g1 g2 g3 2 (robI y5.2.2.2.2.2.2.2.2.1 y5.2.2.2.2.2.2.2.2.2.1 y5.2.2.2.2.2.2.2.2.2.2.1 0) ((1 + (n : Int)) == 1) 0 0 false 0 0 false 0 0 false (by omega) hW
          rw [ey2, ← sy2, ← sy]
          exact (bot_any s' n fl sta g0 g1 g2 g3 _ l its _).symm
      · obtain ⟨h, i, rfl, e⟩ := hx
        simp only [Sum.elim_inl]
        refine OK.call e ?_
        refine OK.call (Gd.same_eq _ _ _ _ _ _ _ _ _ _ _ (by omega) (by omega)) ?_
        rw [Bool.not_true, cond_false, wr (x := 1 + (n : Int) + 1) (by omega), show 1 + (n : Int) + 1 = 1 + ((n + 1 : Nat) : Int) by omega]
        exact nx
    · refine OK.callR (step_ww _ _ _ _ _ _ _ _ _ _ _ _ (by omega) hz) fun y hy => ?_
      have hy' : WWt s ((n + 1 : Nat) : Int) y := hy
      rw [beq_eq_false_iff_ne.2 (by omega), cond_false, wr (x := 1 + (n : Int) + 1) (by omega), show 1 + (n : Int) + 1 = 1 + ((n + 1 : Nat) : Int) by omega]
      exact hk y w hy' fun z => absurd z h1
end Go.Proofs.YthdgahpomhnidaaGreat.Tp
namespace Go.Proofs.YthdgahpomhnidaaGreat.Pure
open Go Go.Proofs.YthdgahpomhnidaaGreat.Mx Go.Proofs.YthdgahpomhnidaaGreat.Pc Go.Proofs.YthdgahpomhnidaaGreat.Run Go.Proofs.YthdgahpomhnidaaGreat.Field Go.Proofs.YthdgahpomhnidaaGreat.Gen Go.Proofs.YthdgahpomhnidaaGreat.GenL Go.Proofs.YthdgahpomhnidaaGreat.Fl Go.Proofs.YthdgahpomhnidaaGreat.Wd Go.Proofs.YthdgahpomhnidaaGreat.Ft Go.Proofs.YthdgahpomhnidaaGreat.Ln Go.Proofs.YthdgahpomhnidaaGreat.Nav Go.Proofs.YthdgahpomhnidaaGreat.Mn Go.Proofs.YthdgahpomhnidaaGreat.Tp
theorem TopBots (a0 : Int) (w0 : (Lit.int .i64 a0).wf = true) (a1 : Int) (w1 : (Lit.int .i64 a1).wf = true) (a2 : Int) (w2 : (Lit.int .i64 a2).wf = true) : f5 a0 a1 a2 = some (true, ()) := by
  refine OK.eq ?_
  unfold f5
  have b1 := within_b a1 60 (by decide)
  have b2 := within_b a2 4 (by decide)
  rw [known_is, pw_eq a2 4 (by decide) (by decide)]
  simp only [Option.bind_some, Bool.not_true, cond_false]
  rw [wr (x := 1 + within a2 4) (by omega)]
  obtain ⟨m, hm, em⟩ : ∃ m : Nat, (1 ≤ m ∧ m ≤ 4) ∧ 1 + within a2 4 = (m : Int) := ⟨(1 + within a2 4).toNat, by omega, by omega⟩
  rw [em]
  obtain ⟨z0, e0, hz0, _⟩ := new_ww a0
  rw [e0]
  simp only [Option.bind_some]
  unfold f5.L2
  refine OK.loop (fun j : Nat × WT × WT => (a1, (m : Int), 1 + (j.1 : Int), j.2.1.1, j.2.1.2.1, j.2.1.2.2.1, j.2.1.2.2.2.1, j.2.1.2.2.2.2.1, j.2.1.2.2.2.2.2.1, j.2.1.2.2.2.2.2.2.1, j.2.1.2.2.2.2.2.2.2.1, j.2.2.1, j.2.2.2.1, j.2.2.2.2.1, j.2.2.2.2.2.1, j.2.2.2.2.2.2.1, j.2.2.2.2.2.2.2.1, j.2.2.2.2.2.2.2.2.1, j.2.2.2.2.2.2.2.2.2.1, j.2.1.2.2.2.2.2.2.2.2.1, j.2.1.2.2.2.2.2.2.2.2.2.1, j.2.1.2.2.2.2.2.2.2.2.2.2.1, j.2.2.2.2.2.2.2.2.2.2.1, j.2.2.2.2.2.2.2.2.2.2.2.1, j.2.2.2.2.2.2.2.2.2.2.2.2.1, ())) (fun j => j.1 ≤ 60 ∧ WWt a0 j.1 j.2.1 ∧ (m = 1 → j.2.2 = j.2.1)) (fun j => 60 - j.1) (fun rec j hj ih => ?_) (0, z0, z0) rfl ⟨Nat.zero_le _, hz0, fun _ => rfl⟩ (by dsimp only; omega)
  obtain ⟨n, z, w⟩ := j
  obtain ⟨hn, hz, hw⟩ := hj
  dsimp only at hn hz hw ih ⊢
  rw [pw_eq a1 60 (by decide) (by decide)]
  simp only [Option.bind_some]
  rw [bif_dec]
  by_cases q : 1 + (n : Int) ≤ within a1 60
  · rw [if_pos q]
    exact bots_step a1 m n hm (by omega) hz hw rec fun y w' hy hw' => ih (n + 1, y, w') ⟨by dsimp only; omega, hy, hw'⟩ (by dsimp only; omega) _ rfl
  · rw [if_neg q, check_ww (by omega) hz]
    exact OK.ret rfl
end Go.Proofs.YthdgahpomhnidaaGreat.Pure

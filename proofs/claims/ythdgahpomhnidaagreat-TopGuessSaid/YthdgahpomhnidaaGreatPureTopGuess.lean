/- The law TopGuess, in plain words (own work). -/
import Derived.Test.YthdgahpomhnidaaGreatZ13
namespace Go.Proofs.YthdgahpomhnidaaGreat.Tp
open Go Go.Proofs.YthdgahpomhnidaaGreat.Mx Go.Proofs.YthdgahpomhnidaaGreat.Pc Go.Proofs.YthdgahpomhnidaaGreat.Run Go.Proofs.YthdgahpomhnidaaGreat.Field Go.Proofs.YthdgahpomhnidaaGreat.Gen Go.Proofs.YthdgahpomhnidaaGreat.GenL Go.Proofs.YthdgahpomhnidaaGreat.Fl Go.Proofs.YthdgahpomhnidaaGreat.Wd Go.Proofs.YthdgahpomhnidaaGreat.Ft Go.Proofs.YthdgahpomhnidaaGreat.Ln Go.Proofs.YthdgahpomhnidaaGreat.Nav Go.Proofs.YthdgahpomhnidaaGreat.Mn
set_option linter.unusedVariables false
set_option linter.unusedSimpArgs false
set_option maxHeartbeats 2000000
theorem put_one {d : Int} (h : 1 ≤ d ∧ d ≤ 4) (cur : List Int) : Rings.put (1 + cur.length) [d] 0 cur = (1, 0, 0, cur ++ [d], ()) := by
  unfold Rings.put
  have c : Rings.clamp d = d := Rings.clamp_id (by omega) (by omega)
  rw [if_neg (by omega), if_neg (by omega), show (0 : Int) + (cur.length : Int) + 1 - (1 + (cur.length : Int)) = 0 by omega]
  show (((([d] : List Int).drop 0).length : Int), (0 : Int), (0 : Int), cur ++ (([d] : List Int).drop 0).map Rings.clamp, ()) = _
  show (((1 : Nat) : Int), (0 : Int), (0 : Int), cur ++ [Rings.clamp d], ()) = _
  rw [c]
  rfl
theorem get_d {d : Int} (h : 1 ≤ d ∧ d ≤ 4) {n : Nat} (hn : 0 < n) {f : Int} (hf : 1 ≤ f) : (Rings.getR 0 (List.replicate n d) f).1 = d ∧ (f ≤ n → (Rings.getR 0 (List.replicate n d) f).2 = true) := by
  have g : ∀ k, k < n → (List.replicate n d).getD k 0 = d := fun k hk => by
    rw [List.getD_eq_getElem?_getD, List.getElem?_replicate, if_pos hk]
    rfl
  unfold Rings.getR
  rw [if_neg (by omega), List.length_replicate]
  by_cases q : f ≤ 0 + (n : Int)
  · rw [if_pos q, g _ (by omega)]
    exact ⟨rfl, fun _ => rfl⟩
  · rw [if_neg q, g _ (by omega), if_pos ⟨hn, h⟩]
    exact ⟨rfl, fun z => absurd z (by omega)⟩
end Go.Proofs.YthdgahpomhnidaaGreat.Tp
namespace Go.Proofs.YthdgahpomhnidaaGreat.Pure
open Go Go.Proofs.YthdgahpomhnidaaGreat.Mx Go.Proofs.YthdgahpomhnidaaGreat.Pc Go.Proofs.YthdgahpomhnidaaGreat.Run Go.Proofs.YthdgahpomhnidaaGreat.Field Go.Proofs.YthdgahpomhnidaaGreat.Gen Go.Proofs.YthdgahpomhnidaaGreat.GenL Go.Proofs.YthdgahpomhnidaaGreat.Fl Go.Proofs.YthdgahpomhnidaaGreat.Wd Go.Proofs.YthdgahpomhnidaaGreat.Ft Go.Proofs.YthdgahpomhnidaaGreat.Ln Go.Proofs.YthdgahpomhnidaaGreat.Nav Go.Proofs.YthdgahpomhnidaaGreat.Mn Go.Proofs.YthdgahpomhnidaaGreat.Tp
theorem TopGuess (a0 : Int) (w0 : (Lit.int .i64 a0).wf = true) (a1 : Int) (w1 : (Lit.int .i64 a1).wf = true) (a2 : Int) (w2 : (Lit.int .i64 a2).wf = true) : f7 a0 a1 a2 = some (true, ()) := by
  refine OK.eq ?_
  unfold f7
  have b1 := within_b a1 4 (by decide)
  have b2 := within_b a2 20 (by decide)
  rw [known_is, pw_eq a1 4 (by decide) (by decide), pw_eq a2 20 (by decide) (by decide), Rings.new_eq]
  simp only [Option.bind_some, Bool.not_true, cond_false]
  rw [wr (x := 1 + within a1 4) (by omega)]
  have hd : 1 ≤ 1 + within a1 4 ∧ 1 + within a1 4 ≤ 4 := by omega
  generalize 1 + within a1 4 = d at hd ⊢
  obtain ⟨m, hm, em⟩ : ∃ m : Nat, m < 20 ∧ within a2 20 = (m : Int) := ⟨(within a2 20).toNat, by omega, by omega⟩
  rw [em]
  have p1 : f27 1 [d] (max 0 0) = some (1, 0, 0, [d], ()) := by
    rw [show max (0 : Int) 0 = 0 from rfl, Rings.put0 1 [d] 0 (by decide) (by decide) (by simp) (by decide)]
    exact congrArg some (put_one hd [])
  rw [p1]
  simp only [Option.bind_some]
  unfold f7.L2
  refine OK.loop (fun i : Nat => (a0, (m : Int), d, (i : Int), 0, 0, [d], List.replicate (i + 1) d, ())) (fun i => i ≤ m) (fun i => m - i) (fun rec i hi ih => ?_) 0 rfl (Nat.zero_le _) (by omega)
  dsimp only at hi ih ⊢
  rw [bif_dec]
  by_cases q : i < m
  · have pe : f27_1 (2 + (i : Int)) [d] 0 (List.replicate (i + 1) d) = some (1, 0, 0, List.replicate (i + 1 + 1) d, ()) := by
      rw [Rings.put1 _ _ _ _ (by decide) (by decide) (by rw [List.length_replicate]; omega) (by simp) (by omega)]
      have k := put_one hd (List.replicate (i + 1) d)
      rw [List.length_replicate] at k
      rw [show 2 + (i : Int) = 1 + ((i + 1 : Nat) : Int) by omega, k, ← List.replicate_succ']
    rw [if_pos (by omega), wr (x := 2 + (i : Int)) (by omega), wr (x := (i : Int) + 1) (by omega), pe]
    exact ih (i + 1) (by omega) (by omega) _ rfl
  · have : i = m := by omega
    subst this
    rw [if_neg (by omega)]
    obtain ⟨z0, e0, hz0, _⟩ := new_ww a0
    rw [e0]
    simp only [Option.bind_some]
    unfold f7.L1
    refine OK.loop (fun j : Nat × WT => ((i : Int), 1 + (j.1 : Int), 0, 0, j.2.1, j.2.2.1, j.2.2.2.1, j.2.2.2.2.1, j.2.2.2.2.2.1, j.2.2.2.2.2.2.1, j.2.2.2.2.2.2.2.1, j.2.2.2.2.2.2.2.2.1, j.2.1, j.2.2.1, j.2.2.2.1, j.2.2.2.2.1, j.2.2.2.2.2.1, j.2.2.2.2.2.2.1, j.2.2.2.2.2.2.2.1, j.2.2.2.2.2.2.2.2.1, [d], List.replicate (i + 1) d, j.2.2.2.2.2.2.2.2.2.1, j.2.2.2.2.2.2.2.2.2.2.1, j.2.2.2.2.2.2.2.2.2.2.2.1, j.2.2.2.2.2.2.2.2.2.1, j.2.2.2.2.2.2.2.2.2.2.1, j.2.2.2.2.2.2.2.2.2.2.2.1, ())) (fun j => j.1 ≤ i + 1 ∧ WWt a0 j.1 j.2) (fun j => i + 1 - j.1) (fun rec j hj ih => ?_) (0, z0) rfl ⟨Nat.zero_le _, hz0⟩ (by dsimp only; omega)
    obtain ⟨n, z⟩ := j
    obtain ⟨hn, hw⟩ := hj
    dsimp only at hn hw ih ⊢
    rw [bif_dec, wr (x := (i : Int) + 1) (by omega)]
    by_cases p : n < i + 1
    · have ga := get_d hd (n := 1) (by decide) (f := 1 + (n : Int)) (by omega)
      have gb := get_d hd (n := i + 1) (by omega) (f := 1 + (n : Int)) (by omega)
      have ea : f28 (0, [d]) (1 + (n : Int)) = some (d, (Rings.getR 0 [d] (1 + (n : Int))).2, ()) := by
        rw [Rings.get_eq _ _ _ (by decide) (by decide) (by simp) (by omega) (by omega)]
        exact congrArg (fun x => some (x, (Rings.getR 0 [d] (1 + (n : Int))).2, ())) ga.1
      have eb : f28 (0, List.replicate (i + 1) d) (1 + (n : Int)) = some (d, true, ()) := by
        rw [Rings.get_eq _ _ _ (by decide) (by decide) (by rw [List.length_replicate]; omega) (by omega) (by omega), gb.1, gb.2 (by omega)]
      rw [if_pos (by omega), ea, eb]
      simp only [Option.bind_some, Bool.not_true, cond_false]
      obtain ⟨y, ey, hy⟩ := step_ww (if 0 = 0 / 3 then 1 else 0) (if 0 = (0 + 1) / 3 then d else 0) (if 0 = (0 + 1 + 1) / 3 then (1 + (n : Int)) == 1 else Bool.false) (if 0 = (0 + 1 + 1 + 1) / 3 then 1 else 0) (if 0 = (0 + 1 + 1 + 1 + 1) / 3 then d else 0) (if 0 = (0 + 1 + 1 + 1 + 1 + 1) / 3 then (1 + (n : Int)) == 1 else Bool.false) (if 0 = (0 + 1 + 1 + 1 + 1 + 1 + 1) / 3 then 1 else 0) (if 0 = (0 + 1 + 1 + 1 + 1 + 1 + 1 + 1) / 3 then d else 0) (if 0 = (0 + 1 + 1 + 1 + 1 + 1 + 1 + 1 + 1) / 3 then (1 + (n : Int)) == 1 else Bool.false) (if 0 = (0 + 1 + 1 + 1 + 1 + 1 + 1 + 1 + 1 + 1) / 3 then 1 else 0) (if 0 = (0 + 1 + 1 + 1 + 1 + 1 + 1 + 1 + 1 + 1 + 1) / 3 then d else 0) (if 0 = (0 + 1 + 1 + 1 + 1 + 1 + 1 + 1 + 1 + 1 + 1 + 1) / 3 then (1 + (n : Int)) == 1 else Bool.false) (fr := n) (by omega) hw
      refine OK.call ey ?_
      refine OK.call ey ?_
      rw [wr (x := 1 + (n : Int) + 1) (by omega), show 1 + (n : Int) + 1 = 1 + ((n + 1 : Nat) : Int) by omega]
      exact ih (n + 1, y) ⟨by dsimp only; omega, hy⟩ (by dsimp only; omega) _ rfl
    · have hl := hw.2.2.wo.ei.len
      have hil := hw.2.2.wo.it.len
      rw [if_neg (by omega), Gd.same_eq _ _ _ _ _ _ _ _ _ _ _ (by omega) (by omega)]
      exact OK.ret rfl
end Go.Proofs.YthdgahpomhnidaaGreat.Pure

/- The law MindsGoal, in plain words (own work). -/
import Derived.Test.YtjmbmpeflhkngaaZ12
namespace Go.Proofs.Ytjmbmpeflhkngaa.Pure
open Go Go.Proofs.Ytjmbmpeflhkngaa.Mx Go.Proofs.Ytjmbmpeflhkngaa.Pc Go.Proofs.Ytjmbmpeflhkngaa.Run Go.Proofs.Ytjmbmpeflhkngaa.Field Go.Proofs.Ytjmbmpeflhkngaa.Gen Go.Proofs.Ytjmbmpeflhkngaa.GenL Go.Proofs.Ytjmbmpeflhkngaa.Fl Go.Proofs.Ytjmbmpeflhkngaa.Wd Go.Proofs.Ytjmbmpeflhkngaa.Ft Go.Proofs.Ytjmbmpeflhkngaa.Ln Go.Proofs.Ytjmbmpeflhkngaa.Nav Go.Proofs.Ytjmbmpeflhkngaa.Mn
set_option linter.unusedVariables false
set_option linter.unusedSimpArgs false
set_option maxHeartbeats 1000000
theorem within9_eq (a n : Int) (h : 0 < n) (hn : n ≤ 1000000000000) : f24 a n = some (within a n, ()) := by
  have := within_b a n h
  unfold f24 within
  simp only [Option.bind_some, bif_dec]
  rw [if_neg (by omega)]
  split
  · rw [wr (by omega)]; rfl
  · rfl
/-- The hero of the second seat, on a cell. -/
def her (m : Int) : EntT := (1, 0, 1, m % 24, m / 24, 20, 20, 5, 1, 0, 0)
theorem her_ok (m : Int) : EOk (her m) := by
  refine .inr ?_
  show 1 ≤ (1 : Int) ∧ (1 : Int) ≤ 4 ∧ 1 ≤ (20 : Int) ∧ (20 : Int) ≤ 20 ∧ (20 : Int) ≤ 20 ∧ 0 ≤ (5 : Int) ∧ (5 : Int) ≤ 5 ∧ 0 ≤ (1 : Int) ∧ (1 : Int) ≤ 1 ∧ 0 ≤ (0 : Int) ∧ (0 : Int) ≤ 9 ∧ 0 ≤ (0 : Int) ∧ (0 : Int) ≤ 9
  decide
theorem her_rob {c : List Int} (hc : CB c) {h : Nat} (hh : h < 32) {m t : Int} (hm : GC m) (ht : findC c 4 = t) (gt : GC t) {f : List Int} (hf : IsField (opnC c []) (IsT c [t]) f) :
    (Field.rd c m = 4 → robI c (oneL h (her m)) (List.replicate 40 iN) 1 = 9) ∧ (Field.rd c m ≠ 4 → 1 ≤ Field.rd f m → ∃ j : Nat, j < 4 ∧ robI c (oneL h (her m)) (List.replicate 40 iN) 1 = 1 + (j : Int) ∧ GC (nbr m j) ∧ Field.rd f (nbr m j) = Field.rd f m - 1) := by
  have hm' := hm
  unfold GC at hm'
  have hg : InG (ex (her m)) (ey (her m)) := by
    show 0 ≤ m % 24 ∧ m % 24 < 24 ∧ 0 ≤ m / 24 ∧ m / 24 < 16
    omega
  have A := lone_apart hh (her_ok m) rfl hg
  have e : robI c (oneL h (her m)) (List.replicate 40 iN) 1 = if Field.rd c m = 4 then 9 else towI c (oneL h (her m)) (cel (ex (her m)) (ey (her m))) t := by
    have eh : heroE' (oneL h (her m)) 1 = h := by
      have := heroE_at A hh (by rw [lone_get hh, if_pos rfl]; rfl)
      rw [lone_get hh, if_pos rfl] at this
      exact this
    unfold robI
    rw [eh, if_neg (by omega), Int.toNat_natCast, lone_get hh, if_pos rfl, hold_no, if_neg (fun z => absurd z.1 (by decide)), robT_none (fun i hi => foe_alone hh i hi), worth_no, if_neg (by decide), ht]
    have : atC c (ex (her m)) (ey (her m)) = Field.rd c m := atC_m hm
    rw [this]
  rw [e]
  refine ⟨fun z => by rw [if_pos z], fun z h1 => ?_⟩
  rw [if_neg z]
  exact alone_step hc hh A hm rfl rfl gt hf h1
theorem MindsGoal (a0 : Int) (w0 : (Lit.int .i64 a0).wf = true) (a1 : Int) (w1 : (Lit.int .i64 a1).wf = true) (a2 : Int) (w2 : (Lit.int .i64 a2).wf = true) : f6 a0 a1 a2 = some (true, ()) := by
  refine OK.eq ?_
  unfold f6
  have b2 := within_b a2 1000 (by decide)
  rw [known9, within9_eq a2 _ (by decide) (by decide)]
  simp only [Option.bind_some, Bool.not_true, cond_false]
  rw [wr (x := 3 * within a2 1000) (by omega), wr (by omega)]
  generalize 1 + 3 * within a2 1000 = at' at *
  refine OK.callR (world_is a0 a1 1 at' [] (by simp) 0) ?_
  rintro z ⟨its, rfl, _, hN⟩
  obtain rfl := hN rfl
  dsimp only
  have ws : within 1 4 = 1 := by decide
  rw [ws]
  have bf := within_b a1 3 (by decide)
  have f1 : 1 ≤ 1 + within a1 3 := by omega
  have f2 : 1 + within a1 3 ≤ 10000 := by omega
  generalize 1 + within a1 3 = fl at *
  have hcl := cells_len a0 fl
  have hcb := cells_cb a0 fl
  obtain ⟨hm, hw⟩ := heroAt_gc a0 fl at'
  have gd := far_gc a0 fl
  have b32 := within_b at' 32 (by decide)
  have hh : (within at' 32).toNat < 32 := by omega
  rw [entsW_lone]
  generalize hHr : (within at' 32).toNat = h at *
  have eE : heroE a0 fl 1 at' = (1, 0, 1, heroAt a0 fl at' % 24, heroAt a0 fl at' / 24, 1 + within at' 20, 20, 5, 1, 0, 0) := rfl
  have lg := fun e : EntT => lone_get hh e h
  have ll := fun e : EntT => lone_len h e
  have eh : heroE' (oneL h (heroE a0 fl 1 at')) 1 = h := by
    have b20 := within_b at' 20 (by decide)
    have hm' := hm
    unfold GC at hm'
    have A := lone_apart (e := heroE a0 fl 1 at') hh (.inr (by
      show 1 ≤ (1 : Int) ∧ (1 : Int) ≤ 4 ∧ 1 ≤ 1 + within at' 20 ∧ 1 + within at' 20 ≤ 20 ∧ (20 : Int) ≤ 20 ∧ 0 ≤ (5 : Int) ∧ (5 : Int) ≤ 5 ∧ 0 ≤ (1 : Int) ∧ (1 : Int) ≤ 1 ∧ 0 ≤ (0 : Int) ∧ (0 : Int) ≤ 9 ∧ 0 ≤ (0 : Int) ∧ (0 : Int) ≤ 9
      omega)) rfl (by
      show 0 ≤ heroAt a0 fl at' % 24 ∧ heroAt a0 fl at' % 24 < 24 ∧ 0 ≤ heroAt a0 fl at' / 24 ∧ heroAt a0 fl at' / 24 < 16
      omega)
    have := heroE_at A hh (by rw [lg, if_pos rfl]; rfl)
    rw [lg, if_pos rfl] at this
    exact this
  generalize heroAt a0 fl at' = m0 at *
  rw [rhero_eq _ (by rw [ll]; decide), eh]
  simp only [Option.bind_some]
  rw [inR (by rw [ll]; omega), cond_true, Int.toNat_natCast, find_r _ hcb hcl, find_down]
  simp only [Option.bind_some]
  refine OK.callR (rfield_is _ hcb [] [far a0 fl] (by simp)) fun y hf => ?_
  obtain ⟨f, u⟩ := y
  dsimp only at hf ⊢
  have lg0 : (oneL h (heroE a0 fl 1 at')).getD h (0, 0, 0, 0, 0, 0, 0, 0, 0, 0, 0) = heroE a0 fl 1 at' := by
    have := lg (heroE a0 fl 1 at')
    rw [if_pos rfl] at this
    exact this
  rw [lg0, lone_set]
  have eher : ((heroE a0 fl 1 at').1, (heroE a0 fl 1 at').2.1, (heroE a0 fl 1 at').2.2.1, (heroE a0 fl 1 at').2.2.2.1, (heroE a0 fl 1 at').2.2.2.2.1, 20, (heroE a0 fl 1 at').2.2.2.2.2.2.1, (heroE a0 fl 1 at').2.2.2.2.2.2.2.1, (heroE a0 fl 1 at').2.2.2.2.2.2.2.2.1, (heroE a0 fl 1 at').2.2.2.2.2.2.2.2.2.1, (heroE a0 fl 1 at').2.2.2.2.2.2.2.2.2.2) = her m0 := by rw [eE]; rfl
  rw [eher]
  have lgh : ∀ e : EntT, (oneL h e).getD h (0, 0, 0, 0, 0, 0, 0, 0, 0, 0, 0) = e := fun e => by
    have := lg e
    rw [if_pos rfl] at this
    exact this
  have hfl := hf.len
  have hm' := hm
  unfold GC at hm'
  have ex0 : (her m0).2.2.2.1 = m0 % 24 := rfl
  have ey0 : (her m0).2.2.2.2.1 = m0 / 24 := rfl
  rw [inR (by rw [ll]; omega), cond_true, cond_true, lgh, ex0, ey0, wr (x := m0 / 24 * 24) (by omega), wr (x := m0 / 24 * 24 + m0 % 24) (by omega), show m0 / 24 * 24 + m0 % 24 = m0 by omega, inR (by omega), cond_true]
  have en : f.getD m0.toNat 0 = Field.rd f m0 := rfl
  rw [en]
  have wf : Wk (cells a0 fl) (far a0 fl) := (cells_wk a0 fl _).2 (far_wk a0 fl)
  have D := fun {n : Int} (hn : GC n) (hw : Wk (cells a0 fl) n) => down_field a0 fl f1 f2 gd wf hf hn hw
  have fs := field_small hf m0 hm
  unfold f6.L1
  refine OK.loop (fun j : Nat × Int => ((h : Int), Field.rd f m0, (j.1 : Int), a0, 0, fl, 0, goldOf 1 (within 0 1000) 0, goldOf 1 (within 0 1000) 1, goldOf 1 (within 0 1000) 2, goldOf 1 (within 0 1000) 3, f, cells a0 fl, oneL h (her j.2), List.replicate 40 iN, ())) (fun j => GC j.2 ∧ Wk (cells a0 fl) j.2 ∧ (j.1 : Int) ≤ Field.rd f m0 ∧ Field.rd f j.2 = Field.rd f m0 - j.1) (fun j => 1001 - j.1) (fun rec j hj ih => ?_) (0, m0) rfl ⟨hm, hw, (D hm hw).1, by dsimp only; omega⟩ (by dsimp only; decide)
  obtain ⟨k, m⟩ := j
  obtain ⟨gm, wm, hk, hv⟩ := hj
  dsimp only at gm wm hk hv ih ⊢
  have gm' := gm
  unfold GC at gm'
  have hg : InG (ex (her m)) (ey (her m)) := by
    show 0 ≤ m % 24 ∧ m % 24 < 24 ∧ 0 ≤ m / 24 ∧ m / 24 < 16
    omega
  have A := lone_apart hh (her_ok m) rfl hg
  have R := her_rob hcb hh gm (find_down a0 fl) gd hf
  have rob := robot_eq a0 0 fl 0 (goldOf 1 (within 0 1000) 0) (goldOf 1 (within 0 1000) 1) (goldOf 1 (within 0 1000) 2) (goldOf 1 (within 0 1000) 3) hcb hcl A.ents (ItsOk.none (cells a0 fl)) 1 (mx_b A.ok)
  rw [rob]
  simp only [Option.bind_some]
  have down4 : Field.rd (cells a0 fl) m = 4 ↔ m = far a0 fl := by
    have := cells_down a0 fl m.toNat
    unfold GC at gd
    unfold Field.rd
    rw [this]
    omega
  rw [bif_dec]
  by_cases q : (k : Int) < Field.rd f m0
  · have n4 : Field.rd (cells a0 fl) m ≠ 4 := fun z => by
      have := (D gm wm).2.2 (down4.1 z)
      omega
    obtain ⟨j, hj, ej, g, hn⟩ := R.2 n4 (by omega)
    have d := dd j hj
    rw [if_pos q, ej, rway_eq j hj]
    simp only [Option.bind_some]
    rw [bif_dec, if_neg (by omega), bif_dec, if_neg (by omega), inR (by rw [ll]; omega)]
    simp only [cond_true, Int.toNat_natCast]
    obtain ⟨n1, n2, n3, n4'⟩ := nbr_xy gm hj g
    have n1' := n1
    unfold InG at n1'
    have exm : (her m).2.2.2.1 = m % 24 := rfl
    have eym : (her m).2.2.2.2.1 = m / 24 := rfl
    rw [lgh, exm, eym, lone_set, wr (x := m % 24 + ddx j) (by omega), wr (x := m / 24 + ddy j) (by omega), lgh, lone_set]
    have e1 : ((her m).1, (her m).2.1, (her m).2.2.1, m % 24 + ddx j, m / 24 + ddy j, (her m).2.2.2.2.2.1, (her m).2.2.2.2.2.2.1, (her m).2.2.2.2.2.2.2.1, (her m).2.2.2.2.2.2.2.2.1, (her m).2.2.2.2.2.2.2.2.2.1, (her m).2.2.2.2.2.2.2.2.2.2) = her (nbr m j) := by
      unfold her
      rw [← n3, ← n4']
    have g' := g
    unfold GC at g'
    have ih32 : inRange (h : Int) 32 = true := inR (by omega)
    have exn : (her (nbr m j)).2.2.2.1 = nbr m j % 24 := rfl
    have eyn : (her (nbr m j)).2.2.2.2.1 = nbr m j / 24 := rfl
    simp only [ll, ih32, cond_true]
    rw [e1, lgh, exn, eyn, wr (x := nbr m j / 24 * 24) (by omega), wr (x := nbr m j / 24 * 24 + nbr m j % 24) (by omega), show nbr m j / 24 * 24 + nbr m j % 24 = nbr m j by omega, inR (by omega), cond_true]
    have ev : f.getD (nbr m j).toNat 0 = Field.rd f m - 1 := hn
    have hwn : Wk (cells a0 fl) (nbr m j) := by
      by_cases z0 : Field.rd f (nbr m j) = 0
      · exact ((hf.zero _ g).1 z0).2
      · exact ((hf.up _ g (by omega)).1).1
    rw [ev, wr (x := Field.rd f m0 - (k : Int)) (by omega), wr (x := Field.rd f m0 - (k : Int) - 1) (by omega), bne_eq_false_iff_eq.2 (show Field.rd f m - 1 = Field.rd f m0 - (k : Int) - 1 by omega), cond_false, wr (x := (k : Int) + 1) (by omega)]
    exact ih (k + 1, nbr m j) ⟨g, hwn, by dsimp only; omega, by dsimp only; omega⟩ (by dsimp only; omega) _ rfl
  · rw [if_neg q]
    have z0 : Field.rd f m = 0 := by omega
    have em := (D gm wm).2.1 z0
    rw [R.1 (down4.2 em)]
    exact OK.ret rfl
end Go.Proofs.Ytjmbmpeflhkngaa.Pure

/- The law MindsFirst, in plain words (own work). -/
import Derived.Test.YtjmbmpeflhkngaaZ12
import Derived.Test.YtjmbmpeflhkngaaPureMindsGoal
namespace Go.Proofs.Ytjmbmpeflhkngaa.Pure
open Go Go.Proofs.Ytjmbmpeflhkngaa.Mx Go.Proofs.Ytjmbmpeflhkngaa.Pc Go.Proofs.Ytjmbmpeflhkngaa.Run Go.Proofs.Ytjmbmpeflhkngaa.Field Go.Proofs.Ytjmbmpeflhkngaa.Gen Go.Proofs.Ytjmbmpeflhkngaa.GenL Go.Proofs.Ytjmbmpeflhkngaa.Fl Go.Proofs.Ytjmbmpeflhkngaa.Wd Go.Proofs.Ytjmbmpeflhkngaa.Ft Go.Proofs.Ytjmbmpeflhkngaa.Ln Go.Proofs.Ytjmbmpeflhkngaa.Nav Go.Proofs.Ytjmbmpeflhkngaa.Mn
set_option linter.unusedVariables false
set_option linter.unusedSimpArgs false
set_option maxHeartbeats 2000000
/-- The hero of the first seat, weak or not. -/
def hr1 (m : Int) (weak : Bool) : EntT := (1, 0, 0, m % 24, m / 24, if weak then 6 else 7, 20, 5, 1, 0, 0)
theorem hr1_ok (m : Int) (weak : Bool) : EOk (hr1 m weak) := by
  refine .inr ?_
  show 1 ≤ (1 : Int) ∧ (1 : Int) ≤ 4 ∧ 1 ≤ (if weak = true then (6 : Int) else 7) ∧ (if weak = true then (6 : Int) else 7) ≤ (20 : Int) ∧ (20 : Int) ≤ 20 ∧ 0 ≤ (5 : Int) ∧ (5 : Int) ≤ 5 ∧ 0 ≤ (1 : Int) ∧ (1 : Int) ≤ 1 ∧ 0 ≤ (0 : Int) ∧ (0 : Int) ≤ 9 ∧ 0 ≤ (0 : Int) ∧ (0 : Int) ≤ 9
  cases weak <;> decide
/-- What lies about: a potion in the bag, a sword on the cell. -/
def its1 (m : Int) (potion item : Bool) : List ItT :=
  let a := if potion then (List.replicate 40 iN).set 0 (1, 2, 0, 3) else List.replicate 40 iN
  if item then a.set 1 (2, 1, m % 24, m / 24) else a
theorem its1_get (m : Int) (potion item : Bool) (i : Nat) : (its1 m potion item).getD i iN = if i = 1 ∧ item = true then (2, 1, m % 24, m / 24) else if i = 0 ∧ potion = true then (1, 2, 0, 3) else iN := by
  have r : ∀ i, (List.replicate 40 iN).getD i iN = iN := fun i => by
    rw [List.getD_eq_getElem?_getD, List.getElem?_replicate]
    split <;> rfl
  have a : ∀ i, (if potion then (List.replicate 40 iN).set 0 (1, 2, 0, 3) else List.replicate 40 iN).getD i iN = if i = 0 ∧ potion = true then (1, 2, 0, 3) else iN := fun i => by
    cases potion with
    | false => rw [if_neg (by decide), if_neg (by simp)]; exact r i
    | true =>
      rw [if_pos rfl, getD_set' _ _ _ _ _ (by rw [List.length_replicate]; decide), r]
      by_cases z : i = 0
      · rw [if_pos z.symm, if_pos ⟨z, rfl⟩]
      · rw [if_neg (fun y => z y.symm), if_neg (fun y => z y.1)]
  unfold its1
  cases item with
  | false =>
    simp only [Bool.false_eq_true, if_false, and_false]
    exact a i
  | true =>
    simp only [if_true, and_true]
    rw [getD_set' _ _ _ _ _ (by cases potion <;> simp)]
    by_cases z : i = 1
    · rw [if_pos z.symm, if_pos z]
    · rw [if_neg (fun y => z y.symm), if_neg z]
      exact a i
theorem its1_ok {c : List Int} {m : Int} (hm : GC m) (hw : c.getD m.toNat 0 ≠ 0) (potion item : Bool) : ItsOk c (its1 m potion item) := by
  unfold GC at hm
  have h0 : ItsOk c (if potion then (List.replicate 40 iN).set 0 (1, 2, 0, 3) else List.replicate 40 iN) := by
    cases potion with
    | false => exact ItsOk.none c
    | true =>
      refine (ItsOk.none c).put (x := (1, 2, 0, 3)) (by decide) (by decide) (.inr (.inl ⟨rfl, by decide, by decide, by decide, by decide, by decide⟩)) fun i hi _ e => ?_
      have r : (List.replicate 40 iN).getD i iN = iN := by
        rw [List.getD_eq_getElem?_getD, List.getElem?_replicate]
        split <;> rfl
      rw [r] at e
      exact absurd (congrArg Prod.fst e) (by decide)
  unfold its1
  cases item with
  | false => exact h0
  | true =>
    refine h0.put (x := (2, 1, m % 24, m / 24)) (by decide) (by show 1 ≤ (2 : Int) ∧ (2 : Int) ≤ 4; decide) (.inl ⟨rfl, ?_⟩) fun i hi ne e => ?_
    · show 0 ≤ m % 24 ∧ m % 24 < 24 ∧ 0 ≤ m / 24 ∧ m / 24 < 16 ∧ c.getD (m / 24 * 24 + m % 24).toNat 0 ≠ 0
      rw [show m / 24 * 24 + m % 24 = m by omega]
      exact ⟨by omega, by omega, by omega, by omega, hw⟩
    · have := its1_get m potion false i
      unfold its1 at this
      simp only [Bool.false_eq_true, if_false, and_false] at this
      rw [this] at e
      split at e
      · exact absurd (congrArg Prod.fst e) (by show (2 : Int) ≠ 1; decide)
      · exact absurd (congrArg Prod.fst e) (by show (0 : Int) ≠ 1; decide)
section
variable (m : Int) (potion item : Bool)
theorem its1_hold : 0 ≤ hold (its1 m potion item) 0 1 1 ↔ potion = true := by
  have len : (its1 m potion item).length = 40 := by unfold its1; cases potion <;> cases item <;> simp
  constructor
  · intro h
    cases potion with
    | true => rfl
    | false =>
      exfalso
      have : hold (its1 m false item) 0 1 1 = -1 := hold_neg fun b _ => .inl (inI_none.2 fun i hi => by
        rw [its1_get]
        unfold isAt
        split
        · rfl
        · rw [if_neg (by simp)]; rfl)
      omega
  · intro h
    subst h
    have a0 : ∀ b : Nat, b < 3 → inI (its1 m true item) 2 0 b < 0 := fun b hb => inI_none.2 fun i hi => by
      rw [its1_get]
      unfold isAt
      split
      · rfl
      · split
        · show ((2 : Int) == 2 && ((0 : Int) == 0 && (3 : Int) == (b : Int))) = false
          rw [Bool.and_eq_false_iff]
          refine .inr ?_
          rw [Bool.and_eq_false_iff]
          exact .inr (beq_eq_false_iff_ne.2 (by omega))
        · rfl
    have a3 : inI (its1 m true item) 2 0 3 = 0 := by
      rcases Int.lt_or_le (inI (its1 m true item) 2 0 3) 0 with z | z
      · have := inI_none.1 z 0 (by omega)
        rw [its1_get, if_neg (by simp), if_pos ⟨rfl, rfl⟩] at this
        exact absurd this (by decide)
      · obtain ⟨k, hk, ek, h1, _⟩ := inI_some (show ¬ inI (its1 m true item) 2 0 3 < 0 by omega)
        rw [ek]
        rw [its1_get] at h1
        split at h1
        · exact absurd h1 (by simp [isAt])
        · split at h1
          · rename_i q; omega
          · exact absurd h1 (by decide)
    have f : (List.range 4).find? (holdB (its1 m true item) 0 1 1) = some 3 := List.find?_range_eq_some.2 ⟨by
      unfold holdB
      rw [show ((3 : Nat) : Int) = 3 from rfl, a3, its1_get, if_neg (by simp)]
      rfl, by decide, fun b hb => by
      unfold holdB
      have := a0 b hb
      rw [decide_eq_false (by omega)]
      rfl⟩
    unfold hold
    rw [f]
    show 0 ≤ inI (its1 m true item) 2 0 3
    omega
theorem its1_free : 0 ≤ emptyI (its1 m potion item) 0 := by
  rcases Int.lt_or_le (emptyI (its1 m potion item) 0) 0 with z | z
  · have := find_neg.1 z 0 (by decide)
    rw [decide_eq_false_iff_not] at this
    exact absurd (inI_none.2 fun i hi => by
      rw [its1_get]
      unfold isAt
      split
      · rfl
      · split
        · rfl
        · rfl) this
  · exact z
theorem its1_worth : worthI (its1 m potion item) (m % 24) (m / 24) (decide (0 ≤ emptyI (its1 m potion item) 0)) = item := by
  have len : (its1 m potion item).length = 40 := by unfold its1; cases potion <;> cases item <;> simp
  unfold worthI
  rw [decide_eq_true (its1_free m potion item), Bool.true_or, Bool.and_true]
  cases item with
  | true =>
    refine decide_eq_true ?_
    rcases Int.lt_or_le (inI (its1 m potion true) 1 (m % 24) (m / 24)) 0 with z | z
    · have := inI_none.1 z 1 (by omega)
      rw [its1_get, if_pos ⟨rfl, rfl⟩] at this
      unfold isAt at this
      simp at this
    · exact z
  | false =>
    refine decide_eq_false ?_
    have : inI (its1 m potion false) 1 (m % 24) (m / 24) < 0 := inI_none.2 fun i hi => by
      rw [its1_get, if_neg (by simp)]
      unfold isAt
      split
      · rfl
      · rfl
    omega
end
/-- Mages in the ways from i on. -/
structure Mages (s fl m : Int) (h : Nat) (E : EntT) (i : Nat) (way : Int) (l : List EntT) : Prop where
  cok : COk (cells s fl) l
  her : l.getD h eN = E
  who : ∀ r, r < 32 → kd (l.getD r eN) ≠ 0 → r = h ∨ (kd (l.getD r eN) = 4 ∧ ∃ j : Nat, i ≤ j ∧ j < 4 ∧ ex (l.getD r eN) = m % 24 + ddx j ∧ ey (l.getD r eN) = m / 24 + ddy j ∧ GC (nbr m j) ∧ Wk (cells s fl) (nbr m j))
  all : ∀ j : Nat, i ≤ j → j < 4 → GC (nbr m j) → Wk (cells s fl) (nbr m j) → ∃ r, r < 32 ∧ kd (l.getD r eN) = 4 ∧ ex (l.getD r eN) = m % 24 + ddx j ∧ ey (l.getD r eN) = m / 24 + ddy j
  few : ∃ T : List Nat, T.length + i ≤ 5 ∧ ∀ r, r < 32 → kd (l.getD r eN) ≠ 0 → r ∈ T
  wy : (way = 0 ∧ ∀ j : Nat, i ≤ j → j < 4 → ¬ (GC (nbr m j) ∧ Wk (cells s fl) (nbr m j))) ∨ ∃ j : Nat, i ≤ j ∧ j < 4 ∧ way = 1 + (j : Int) ∧ GC (nbr m j) ∧ Wk (cells s fl) (nbr m j) ∧ ∀ q : Nat, i ≤ q → q < j → ¬ (GC (nbr m q) ∧ Wk (cells s fl) (nbr m q))
theorem free_of_few {l : List EntT} {T : List Nat} (h1 : T.length ≤ 5) (h2 : ∀ r, r < 32 → kd (l.getD r eN) ≠ 0 → r ∈ T) : ∃ r, r < 32 ∧ kd (l.getD r eN) = 0 := by
  refine Decidable.byContradiction fun hn => ?_
  have := nodup_in T (List.range 32) List.nodup_range fun r hr => h2 r (List.mem_range.1 hr) fun z => hn ⟨r, List.mem_range.1 hr, z⟩
  rw [List.length_range] at this
  omega
theorem MindsFirst (a0 : Int) (w0 : (Lit.int .i64 a0).wf = true) (a1 : Bool) (a2 : Bool) (a3 : Bool) (a4 : Bool) (a5 : Int) (w5 : (Lit.int .i64 a5).wf = true) : f7 a0 a1 a2 a3 a4 a5 = some (true, ()) := by
  refine OK.eq ?_
  unfold f7
  have b5 := within_b a5 1000 (by decide)
  rw [known9, within9_eq a5 _ (by decide) (by decide)]
  simp only [Option.bind_some, Bool.not_true, cond_false]
  rw [wr (x := 3 * within a5 1000) (by omega), wr (by omega)]
  generalize 1 + 3 * within a5 1000 = at' at *
  refine OK.callR (world_is a0 0 0 at' [] (by simp) 0) ?_
  rintro z ⟨its, rfl, _, hN⟩
  obtain rfl := hN rfl
  dsimp only
  have ws : within 0 4 = 0 := by decide
  rw [ws]
  have bf := within_b 0 3 (by decide)
  have f1 : 1 ≤ 1 + within 0 3 := by omega
  have f2 : 1 + within 0 3 ≤ 10000 := by omega
  generalize 1 + within 0 3 = fl at *
  have hcl := cells_len a0 fl
  have hcb := cells_cb a0 fl
  obtain ⟨hm, hwm⟩ := heroAt_gc a0 fl at'
  have b32 := within_b at' 32 (by decide)
  have hh : (within at' 32).toNat < 32 := by omega
  have eh : heroE' (entsW a0 fl 0 at') 0 = ((within at' 32).toNat : Nat) := by
    have A := cok_apart (COk.one a0 fl at' 0 rfl)
    have gh : (entsW a0 fl 0 at').getD (within at' 32).toNat eN = heroE a0 fl 0 at' := by rw [entsW_get, if_pos rfl]
    have := heroE_at A hh (by rw [gh]; rfl)
    rw [gh] at this
    exact this
  rw [entsW_lone] at *
  generalize hHr : (within at' 32).toNat = h at *
  have lgh : ∀ e : EntT, (oneL h e).getD h (0, 0, 0, 0, 0, 0, 0, 0, 0, 0, 0) = e := fun e => by
    have := lone_get hh e h
    rw [if_pos rfl] at this
    exact this
  have ll := fun e : EntT => lone_len h e
  have ih32 : inRange (h : Int) 32 = true := inR (by omega)
  rw [rhero_eq _ (by rw [ll]; decide), eh]
  simp only [Option.bind_some, ll, ih32, cond_true, Int.toNat_natCast]
  rw [lgh, lone_set, lone_set, lgh]
  have wm0 : (cells a0 fl).getD (heroAt a0 fl at').toNat 0 ≠ 0 := (wk_iff (cells_val a0 fl _)).1 hwm
  have e7 : ((heroE a0 fl 0 at').1, (heroE a0 fl 0 at').2.1, (heroE a0 fl 0 at').2.2.1, (heroE a0 fl 0 at').2.2.2.1, (heroE a0 fl 0 at').2.2.2.2.1, 7, (heroE a0 fl 0 at').2.2.2.2.2.2.1, (heroE a0 fl 0 at').2.2.2.2.2.2.2.1, (heroE a0 fl 0 at').2.2.2.2.2.2.2.2.1, (heroE a0 fl 0 at').2.2.2.2.2.2.2.2.2.1, (heroE a0 fl 0 at').2.2.2.2.2.2.2.2.2.2) = hr1 (heroAt a0 fl at') false := rfl
  have eX : (heroE a0 fl 0 at').2.2.2.1 = heroAt a0 fl at' % 24 := rfl
  have eY : (heroE a0 fl 0 at').2.2.2.2.1 = heroAt a0 fl at' / 24 := rfl
  have e6 : ((hr1 (heroAt a0 fl at') false).1, (hr1 (heroAt a0 fl at') false).2.1, (hr1 (heroAt a0 fl at') false).2.2.1, (hr1 (heroAt a0 fl at') false).2.2.2.1, (hr1 (heroAt a0 fl at') false).2.2.2.2.1, 6, (hr1 (heroAt a0 fl at') false).2.2.2.2.2.2.1, (hr1 (heroAt a0 fl at') false).2.2.2.2.2.2.2.1, (hr1 (heroAt a0 fl at') false).2.2.2.2.2.2.2.2.1, (hr1 (heroAt a0 fl at') false).2.2.2.2.2.2.2.2.2.1, (hr1 (heroAt a0 fl at') false).2.2.2.2.2.2.2.2.2.2) = hr1 (heroAt a0 fl at') true := rfl
  rw [e7, e6, eX, eY]
  obtain ⟨j0, hj0, gj0, wj0⟩ := nb_exists a0 fl f1 f2 hm hwm
  have gd := far_gc a0 fl
  have wd : Wk (cells a0 fl) (far a0 fl) := (cells_wk a0 fl _).2 (far_wk a0 fl)
  have D := fun {f : List Int} (hf : IsField (opnC (cells a0 fl) []) (IsT (cells a0 fl) [far a0 fl]) f) => down_field a0 fl f1 f2 gd wd hf hm hwm
  generalize heroAt a0 fl at' = m at *
  generalize goldOf 0 (within 0 1000) 0 = q0 at *
  generalize goldOf 0 (within 0 1000) 1 = q1 at *
  generalize goldOf 0 (within 0 1000) 2 = q2 at *
  generalize goldOf 0 (within 0 1000) 3 = q3 at *
  have hm' := hm
  unfold GC at hm'
  refine OK.callR (R := fun z => z = Sum.inl (a1, a2, a3, a4, m % 24, m / 24, a0, 0, fl, 0, q0, q1, q2, q3, cells a0 fl, oneL h (hr1 m a1), List.replicate 40 iN, ())) ?_ ?_
  · cases a1 with
    | false => exact OK.ret rfl
    | true =>
      rw [cond_true, ll, ih32]
      exact OK.ret rfl
  rintro z rfl
  simp only [Sum.elim_inl]
  refine OK.callR (R := fun z => z = Sum.inl (a1, a2, a3, a4, m % 24, m / 24, a0, 0, fl, 0, q0, q1, q2, q3, cells a0 fl, oneL h (hr1 m a1), its1 m a2 false, ())) ?_ ?_
  · cases a2 with
    | false => exact OK.ret rfl
    | true =>
      have : inRange 0 (List.replicate 40 iN).length = true := by decide
      rw [cond_true, this]
      exact OK.ret rfl
  rintro z rfl
  simp only [Sum.elim_inl]
  refine OK.callR (R := fun z => z = Sum.inl (a1, a2, a3, a4, m % 24, m / 24, a0, 0, fl, 0, q0, q1, q2, q3, cells a0 fl, oneL h (hr1 m a1), its1 m a2 a4, ())) ?_ ?_
  · cases a4 with
    | false => exact OK.ret rfl
    | true =>
      have : inRange 1 (its1 m a2 false).length = true := by
        unfold its1
        cases a2 <;> simp [inRange]
      rw [cond_true, this]
      exact OK.ret rfl
  rintro z rfl
  simp only [Sum.elim_inl]
  have hI := its1_ok (c := cells a0 fl) hm wm0 a2 a4
  have hg : InG (ex (hr1 m a1)) (ey (hr1 m a1)) := by
    show 0 ≤ m % 24 ∧ m % 24 < 24 ∧ 0 ≤ m / 24 ∧ m / 24 < 16
    omega
  have C0 : COk (cells a0 fl) (oneL h (hr1 m a1)) := lone_cok hh (hr1_ok m a1) rfl hg (by
    show (cells a0 fl).getD (m / 24 * 24 + m % 24).toNat 0 ≠ 0
    rw [show m / 24 * 24 + m % 24 = m by omega]
    exact wm0) rfl
  have M0 : Mages a0 fl m h (hr1 m a1) 4 0 (oneL h (hr1 m a1)) := ⟨C0, lgh _, fun r hr hk => .inl (lone_only hh hk), fun j h1 h2 => by omega, ⟨[h], by simp, fun r hr hk => by simp [lone_only hh hk]⟩, .inl ⟨rfl, fun j h1 h2 => by omega⟩⟩
  -- the mages come
  refine OK.callR (R := fun z => ∃ way l, z = Sum.inl (a1, a2, a3, a4, way, a0, 0, fl, 0, q0, q1, q2, q3, cells a0 fl, l, its1 m a2 a4, ()) ∧ if a3 = true then Mages a0 fl m h (hr1 m a1) 0 way l else l = oneL h (hr1 m a1)) ?_ ?_
  · unfold f7.L1
    refine OK.loop (fun j : Nat × Int × List EntT => (a1, a2, a3, a4, m % 24, m / 24, j.2.1, (j.1 : Int), a0, 0, fl, 0, q0, q1, q2, q3, cells a0 fl, j.2.2, its1 m a2 a4, ())) (fun j => j.1 ≤ 4 ∧ Mages a0 fl m h (hr1 m a1) j.1 j.2.1 j.2.2 ∧ (a3 = false → j.2.2 = oneL h (hr1 m a1))) (fun j => j.1) (fun rec j hj ih => ?_) (4, 0, oneL h (hr1 m a1)) rfl ⟨Nat.le_refl _, M0, fun _ => rfl⟩ (by dsimp only; decide)
    obtain ⟨i, way, l⟩ := j
    obtain ⟨hi, M, hL⟩ := hj
    dsimp only at hi M hL ih ⊢
    rw [bif_dec]
    by_cases q : (i : Int) ≥ 1
    · rw [if_pos q]
      cases a3 with
      | false =>
        rw [cond_false]
        exact OK.ret ⟨way, l, rfl, by rw [if_neg (by decide)]; exact hL rfl⟩
      | true =>
        obtain ⟨j, rfl⟩ : ∃ j, i = j + 1 := ⟨i - 1, by omega⟩
        have hj : j < 4 := by omega
        have d := dd j hj
        have hl := M.cok.ok.len
        have ej : ((j + 1 : Nat) : Int) = 1 + (j : Int) := by omega
        rw [cond_true, ej, rway_eq j hj, wr (x := 1 + (j : Int) - 1) (by omega), show 1 + (j : Int) - 1 = (j : Int) by omega]
        simp only [Option.bind_some]
        rw [wr (x := m % 24 + ddx j) (by omega), wr (x := m / 24 + ddy j) (by omega), rat_c _ hcb]
        simp only [Option.bind_some]
        rw [rwalk_eq]
        simp only [Option.bind_some]
        refine OK.bif (fun hw => ?_) (fun hw => ?_)
        · obtain ⟨gj, wj⟩ := (gn_row hm hj).1 hw
          have stt : f25 4 = some (4, 0, 0, 0, 0, 6, 6, 3, 0, 0, 0, ()) := rfl
          rw [stt]
          simp only [Option.bind_some]
          obtain ⟨T, T1, T2⟩ := M.few
          obtain ⟨r, hr, ef, kf⟩ := first_free (l := l) (free_of_few (by omega) T2)
          have hsp := rspawn_eq hl (4, 0, 0, m % 24 + ddx j, m / 24 + ddy j, 6, 6, 3, 0, 0, 0) (by show 1 ≤ (4 : Int) ∧ (4 : Int) ≤ 4; decide)
          rw [ef] at hsp
          dsimp only at hsp
          rw [hsp]
          simp only [Option.bind_some]
          generalize hE2 : withGen (4, 0, 0, m % 24 + ddx j, m / 24 + ddy j, 6, 6, 3, 0, 0, 0) (Int.tmod (IntKind.wrap .i64 (gn (l.getD r eN) + 1)) 256) = E2
          have x2 : ex E2 = m % 24 + ddx j := by rw [← hE2]; rfl
          have y2 : ey E2 = m / 24 + ddy j := by rw [← hE2]; rfl
          have kd2 : kd E2 = 4 := by rw [← hE2]; rfl
          have st2 : st E2 = 0 := by rw [← hE2]; rfl
          have ok2 : EOk E2 := by
            rw [← hE2]
            refine .inr ?_
            show 1 ≤ (4 : Int) ∧ (4 : Int) ≤ 4 ∧ 1 ≤ (6 : Int) ∧ (6 : Int) ≤ 6 ∧ (6 : Int) ≤ 20 ∧ 0 ≤ (3 : Int) ∧ (3 : Int) ≤ 5 ∧ 0 ≤ (0 : Int) ∧ (0 : Int) ≤ 1 ∧ 0 ≤ (0 : Int) ∧ (0 : Int) ≤ 9 ∧ 0 ≤ (0 : Int) ∧ (0 : Int) ≤ 9
            decide
          obtain ⟨n1, n2, _, _⟩ := nbr_xy hm hj gj
          have n1' := n1
          unfold InG at n1'
          unfold cel at n2
          have kH : kd (l.getD h eN) = 1 := by rw [M.her]; rfl
          have rh : r ≠ h := fun z => by rw [z] at kf; omega
          have C2 : COk (cells a0 fl) (l.set r E2) := M.cok.add hr kf ok2 ⟨by omega, by omega, by omega, by omega, by rw [x2, y2, n2]; exact (wk_iff (cells_val a0 fl _)).1 wj, by omega, by omega⟩ (fun k hk => by
            unfold standsAt
            by_cases ki : kd (l.getD k eN) = 0
            · rw [ki]; rfl
            · rw [x2, y2, Bool.and_eq_false_iff]
              refine .inr ?_
              rw [Bool.and_eq_false_iff, beq_eq_false_iff_ne, beq_eq_false_iff_ne]
              rcases M.who k hk ki with e | ⟨_, j', h1, h2, h3, h4, _⟩
              · have := dd_ne hj
                rw [e, M.her]
                show m % 24 ≠ _ ∨ m / 24 ≠ _
                omega
              · rw [h3, h4]
                by_cases a : ddx j' = ddx j
                · refine .inr fun b => ?_
                  have := dd_inj h2 hj a (by omega)
                  omega
                · exact .inl (by omega)) (fun z => by omega)
          have g2 : ∀ k, (l.set r E2).getD k eN = if r = k then E2 else l.getD k eN := fun k => getD_set' _ _ _ _ _ (by omega)
          refine ih (j, 1 + (j : Int), l.set r E2) ⟨by dsimp only; omega, ⟨C2, by rw [g2, if_neg rh]; exact M.her, fun k hk hkd => ?_, fun j' h1 h2 h3 h4 => ?_, ⟨r :: T, by rw [List.length_cons]; omega, fun k hk hkd => ?_⟩, .inr ⟨j, Nat.le_refl _, hj, rfl, gj, wj, fun p h1 h2 => by omega⟩⟩, fun z => by cases z⟩ (by dsimp only; omega) _ rfl
          · rw [g2] at hkd ⊢
            by_cases a : r = k
            · rw [if_pos a]
              exact .inr ⟨kd2, j, Nat.le_refl _, hj, x2, y2, gj, wj⟩
            · rw [if_neg a] at hkd ⊢
              rcases M.who k hk hkd with e | ⟨e, j', h1, h2, h3⟩
              · exact .inl e
              · exact .inr ⟨e, j', by omega, h2, h3⟩
          · by_cases a : j' = j
            · subst a
              exact ⟨r, hr, by rw [g2, if_pos rfl]; exact kd2, by rw [g2, if_pos rfl]; exact x2, by rw [g2, if_pos rfl]; exact y2⟩
            · obtain ⟨k, k1, k2, k3⟩ := M.all j' (by omega) h2 h3 h4
              have : r ≠ k := fun z => by rw [z] at kf; omega
              exact ⟨k, k1, by rw [g2, if_neg this]; exact k2, by rw [g2, if_neg this]; exact k3⟩
          · rw [g2] at hkd
            by_cases a : r = k
            · rw [a]; exact List.mem_cons_self
            · rw [if_neg a] at hkd
              exact List.mem_cons_of_mem _ (T2 k hk hkd)
        · have nw : ¬ (GC (nbr m j) ∧ Wk (cells a0 fl) (nbr m j)) := fun z => by
            have := (gn_row hm hj).2 z
            rw [hw] at this
            cases this
          refine ih (j, way, l) ⟨by dsimp only; omega, ⟨M.cok, M.her, fun k hk hkd => ?_, fun j' h1 h2 h3 h4 => ?_, ?_, ?_⟩, fun z => by cases z⟩ (by dsimp only; omega) _ rfl
          · rcases M.who k hk hkd with e | ⟨e, j', h1, h2, h3⟩
            · exact .inl e
            · exact .inr ⟨e, j', by omega, h2, h3⟩
          · by_cases a : j' = j
            · subst a; exact absurd ⟨h3, h4⟩ nw
            · exact M.all j' (by omega) h2 h3 h4
          · obtain ⟨T, T1, T2⟩ := M.few
            exact ⟨T, by omega, T2⟩
          · rcases M.wy with ⟨e, n⟩ | ⟨j', h1, h2, h3, h4, h5, h6⟩
            · refine .inl ⟨e, fun j' h1 h2 => ?_⟩
              by_cases a : j' = j
              · subst a; exact nw
              · exact n j' (by omega) h2
            · refine .inr ⟨j', by omega, h2, h3, h4, h5, fun p p1 p2 => ?_⟩
              by_cases a : p = j
              · subst a; exact nw
              · exact h6 p (by omega) p2
    · have : i = 0 := by omega
      subst this
      rw [if_neg q]
      refine OK.ret ⟨way, l, rfl, ?_⟩
      cases a3 with
      | true => rw [if_pos rfl]; exact M
      | false => rw [if_neg (by decide)]; exact hL rfl
  rintro z ⟨way, l, rfl, hF⟩
  simp only [Sum.elim_inl]
  have fin : Apart l ∧ l.getD h eN = hr1 m a1 := by
    cases a3 with
    | true => rw [if_pos rfl] at hF; exact ⟨cok_apart hF.cok, hF.her⟩
    | false => rw [if_neg (by decide)] at hF; rw [hF]; exact ⟨cok_apart C0, lgh _⟩
  obtain ⟨A, gH⟩ := fin
  have hl := A.ents.len
  rw [robot_eq a0 0 fl 0 q0 q1 q2 q3 hcb hcl A.ents hI 0 (mx_b A.ok)]
  simp only [Option.bind_some]
  have eh2 : heroE' l 0 = h := by
    have := heroE_at A hh (by rw [gH]; rfl)
    rw [gH] at this
    exact this
  have rI : robI (cells a0 fl) l (its1 m a2 a4) 0 = if a2 = true ∧ a1 = true then 6 else robT (cells a0 fl) l (its1 m a2 a4) 0 (hr1 m a1) := by
    unfold robI
    rw [eh2, if_neg (by omega), Int.toNat_natCast, gH]
    have hp1 : hp (hr1 m a1) ≤ Int.tdiv (mxh (hr1 m a1)) 3 ↔ a1 = true := by
      show (if a1 = true then (6 : Int) else 7) ≤ Int.tdiv 20 3 ↔ _
      cases a1 <;> decide
    by_cases z : a2 = true ∧ a1 = true
    · rw [if_pos z, if_pos ⟨(its1_hold m a2 a4).2 z.1, hp1.2 z.2⟩]
    · rw [if_neg z, if_neg (fun y => z ⟨(its1_hold m a2 a4).1 y.1, hp1.1 y.2⟩)]
  refine OK.callR (R := fun z => z = Sum.inl (a3, a4, way, robI (cells a0 fl) l (its1 m a2 a4) 0, a1 && a2, ())) ?_ ?_
  · cases a1 <;> exact OK.ret rfl
  rintro z rfl
  simp only [Sum.elim_inl]
  rw [rI]
  refine OK.bif (fun z => ?_) (fun z => ?_)
  · rw [Bool.and_eq_true] at z
    rw [if_pos ⟨z.2, z.1⟩]
    exact OK.ret rfl
  · have nz : ¬ (a2 = true ∧ a1 = true) := fun y => by rw [y.1, y.2] at z; cases z
    rw [if_neg nz]
    have xh : ex (hr1 m a1) = m % 24 := rfl
    have yh : ey (hr1 m a1) = m / 24 := rfl
    cases a3 with
    | true =>
      rw [if_pos rfl] at hF
      rw [cond_true]
      rcases hF.wy with ⟨_, n⟩ | ⟨j, _, hj, ew, gj, wj, low⟩
      · exact absurd ⟨gj0, wj0⟩ (n j0 (Nat.zero_le _) hj0)
      · have e : robT (cells a0 fl) l (its1 m a2 a4) 0 (hr1 m a1) = 1 + (j : Int) := by
          refine robT_foe hj ?_ fun i hi => ?_
          · obtain ⟨r, hr, k4, xr, yr⟩ := hF.all j (Nat.zero_le _) hj gj wj
            have a := atE_at A hr (by rw [k4]; decide)
            rw [xr, yr] at a
            unfold foe
            rw [xh, yh, a, decide_eq_true (by omega), Int.toNat_natCast, k4]
            rfl
          · have a : atE l (m % 24 + ddx i) (m / 24 + ddy i) < 0 := (atE_none hl).2 fun r hr hk hz => by
              rcases hF.who r hr hk with e | ⟨_, j', _, h2, h3, h4, h5⟩
              · rw [e, gH] at hz
                have z1 : m % 24 = m % 24 + ddx i := hz.1
                have z2 : m / 24 = m / 24 + ddy i := hz.2
                exact dd_ne (show i < 4 by omega) ⟨by omega, by omega⟩
              · have := dd_inj h2 (show i < 4 by omega) (by omega) (by omega)
                subst this
                exact low j' (Nat.zero_le _) hi h5
            unfold foe
            rw [xh, yh, decide_eq_false (by omega)]
            rfl
        rw [e, ew, beq_self_eq_true]
        exact OK.ret rfl
    | false =>
      rw [if_neg (by decide)] at hF
      rw [cond_false, hF, robT_none (fun i hi => foe_alone hh i hi), xh, yh, its1_worth]
      cases a4 with
      | true => rw [cond_true, if_pos rfl]; exact OK.ret rfl
      | false =>
        rw [cond_false, if_neg (by decide), atC_m hm, find_down]
        by_cases k4 : Field.rd (cells a0 fl) m = 4
        · rw [if_pos k4]
          exact OK.ret rfl
        · rw [if_neg k4]
          obtain ⟨f, e, hf⟩ := rfield_is (cells a0 fl) hcb [] [far a0 fl] (by simp)
          have dd' := D hf
          have ne : m ≠ far a0 fl := fun y => by
            have := (cells_down a0 fl m.toNat).2 (by rw [y])
            exact k4 this
          have p1 : 1 ≤ Field.rd f.1 m := by
            have : Field.rd f.1 m ≠ 0 := fun y => ne (dd'.2.1 y)
            omega
          have A0 := cok_apart C0
          obtain ⟨j, hj, ej, _⟩ := alone_step hcb hh A0 hm rfl rfl gd hf p1
          have ej' : towI (cells a0 fl) (oneL h (hr1 m a1)) (cel (m % 24) (m / 24)) (far a0 fl) = 1 + (j : Int) := ej
          rw [ej', beq_eq_false_iff_ne.2 (show 1 + (j : Int) ≠ 9 by omega), cond_false, bif_dec, if_pos (by omega), decide_eq_true (by omega)]
          exact OK.ret rfl
end Go.Proofs.Ytjmbmpeflhkngaa.Pure

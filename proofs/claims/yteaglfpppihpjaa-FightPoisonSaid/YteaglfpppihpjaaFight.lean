/- Both texts' blows are those in plain words (own work). -/
import Derived.Test.YteaglfpppihpjaaFight0
namespace Go.Proofs.Yteaglfpppihpjaa.Ft
open Go Go.Proofs.Yteaglfpppihpjaa.Mx Go.Proofs.Yteaglfpppihpjaa.Pc Go.Proofs.Yteaglfpppihpjaa.Run Go.Proofs.Yteaglfpppihpjaa.Field Go.Proofs.Yteaglfpppihpjaa.Gen Go.Proofs.Yteaglfpppihpjaa.GenL Go.Proofs.Yteaglfpppihpjaa.Fl Go.Proofs.Yteaglfpppihpjaa.Wd
set_option linter.unusedVariables false
set_option linter.unusedSimpArgs false
set_option maxHeartbeats 1000000
/-! Two loops side by side, and the dice. -/
theorem it_sim {X Y B : Type} {F : (X → Option B) → X → Option B} {G : (Y → Option B) → Y → Option B} (r : X → Y → Prop)
    (h : ∀ (f : X → Option B) (g : Y → Option B) x y, r x y → (∀ x' y', r x' y' → f x' = g y') → F f x = G g y) : ∀ (n : Nat) (x : X) (y : Y), r x y → Mx.it F n x = Mx.it G n y
  | 0, x, y, _ => by rw [it_zero, it_zero]
  | n + 1, x, y, hr => by
    rw [it_succ, it_succ]
    exact h _ _ x y hr fun x' y' q => it_sim r h n x' y' q
theorem cg2 {A B C : Type} (f : A → B → C) {a a' : A} {b b' : B} (h : a = a') (h' : b = b') : f a b = f a' b' := by rw [h, h']
theorem mix_one (a : Int) : f57 a = f58 a := rfl
theorem mix_same (s : Int) (l : List Int) : f50 s l = f51 s l := by
  unfold f50 f51
  rw [mix_one]
  refine congrArg _ (funext fun y => ?_)
  unfold f50.L1 f51.L1
  refine it_sim (fun x y => x = (y.2.1, y.1, (y.1.length : Int), y.2.2.1, ())) ?_ _ _ _ rfl
  rintro f g x ⟨l, acc, i, u⟩ rfl hr
  dsimp only
  rw [mix_one]
  generalize f58 _ = o
  refine cg2 (fun a b => bif decide (i < (l.length : Int)) then a else b) ?_ rfl
  refine cg2 (fun a b => bif inRange i l.length then a else b) ?_ rfl
  refine congrArg _ (funext fun y => ?_)
  exact hr _ (l, y.1, _, ()) rfl
theorem die_same (n s : Int) (l : List Int) : f32 n s l = f35 n s l := by
  unfold f32 f35
  rw [mix_same]
section
variable (a0 a1 a2 a3 : Int) (c : List Int) (a7 a8 a9 a10 : Int)
theorem is_eq {l : List EntT} (hl : l.length = 32) (its : List ItT) (r : Int) : f29 a0 a1 a2 a3 c l its a7 a8 a9 a10 r = some (alive l r, ()) := by
  unfold f29 alive
  simp only [bif_dec]
  by_cases h0 : r ≥ 0
  · by_cases h1 : r < l.length
    · rw [if_pos h0, if_pos h1, if_pos (by omega), inR (by omega), cond_true, decide_eq_true (show 0 ≤ r by omega), decide_eq_true h1]
      rfl
    · rw [if_pos h0, if_neg h1, decide_eq_false h1, Bool.and_false, Bool.false_and]
  · rw [if_neg h0, decide_eq_false (show ¬ 0 ≤ r by omega), Bool.false_and, Bool.false_and]
theorem there_eq (l : List EntT) (its : List ItT) (r : Int) : f33 a0 a1 a2 a3 c l its a7 a8 a9 a10 r = some (alive l r, ()) := by
  unfold f33 alive
  simp only [bif_dec]
  by_cases h0 : r ≥ 0
  · by_cases h1 : r < l.length
    · rw [if_pos h0, if_pos h1, inR (by omega), cond_true, decide_eq_true (show 0 ≤ r by omega), decide_eq_true h1]
      rfl
    · rw [if_pos h0, if_neg h1, decide_eq_false h1, Bool.and_false, Bool.false_and]
  · rw [if_neg h0, decide_eq_false (show ¬ 0 ≤ r by omega), Bool.false_and, Bool.false_and]
theorem clone_b (l : List Int) (h : l.length ≤ 100000) : f46 l = some (l, ()) := by
  unfold f46 cloneF
  rw [decide_eq_true (by simp [limit]; omega), cond_true]; rfl
theorem clone_e (l : List EntT) (h : l.length ≤ 100000) : f47 l = some (l, ()) := by
  unfold f47 cloneF
  rw [decide_eq_true (by simp [limit]; omega), cond_true]; rfl
theorem clone_i (l : List ItT) (h : l.length ≤ 100000) : f48 l = some (l, ()) := by
  unfold f48 cloneF
  rw [decide_eq_true (by simp [limit]; omega), cond_true]; rfl
theorem ftwin_eq {l : List EntT} {its : List ItT} (hc : c.length ≤ 1000) (hl : l.length ≤ 1000) (hi : its.length ≤ 1000) : f30 a0 a1 a2 a3 c l its a7 a8 a9 a10 = some (a0, a1, a2, a3, a7, a8, a9, a10, c, l, its, ()) := by
  unfold f30
  rw [clone_b c (by omega), clone_e l (by omega), clone_i its (by omega)]
  rfl
theorem gtwin_eq {l : List EntT} {its : List ItT} (hc : c.length ≤ 1000) (hl : l.length ≤ 1000) (hi : its.length ≤ 1000) : f53 a0 a1 a2 a3 c l its a7 a8 a9 a10 = some (a0, a1, a2, a3, a7, a8, a9, a10, c, l, its, ()) := by
  unfold f53
  rw [clone_b c (by omega), clone_e l (by omega), clone_i its (by omega)]
  rfl
theorem rtwin_eq {l : List EntT} {its : List ItT} (hc : c.length ≤ 1000) (hl : l.length ≤ 1000) (hi : its.length ≤ 1000) : f16 a0 a1 a2 a3 c l its a7 a8 a9 a10 = some (a0, a1, a2, a3, a7, a8, a9, a10, c, l, its, ()) := by
  unfold f16
  rw [decide_eq_true (by simp [limit]; omega), decide_eq_true (by simp [limit]; omega), decide_eq_true (by simp [limit]; omega)]
  rfl
/-- The program's look for an item: one that is gone does not count. -/
theorem find_eq {its : List ItT} (hi : IOk its) {l : List EntT} (w a b : Int) (hw : w ≠ 0) : f56 a0 a1 a2 a3 c l its a7 a8 a9 a10 w a b = some (inI its w a b, ()) := by
  have hlen := hi.1
  unfold f56 f59 f59.L1
  have key : Mx.it _ _ _ = _ := it_find (fuel := 100000000000000000000) (x := (its, (its.length : Int), 0, w, a, b, ())) (step := fun rec x => bif decide (x.2.2.1 < x.2.1) then bif inRange x.2.2.1 x.1.length then Option.bind (f60 (x.1.getD x.2.2.1.toNat (0, 0, 0, 0)).1 (x.1.getD x.2.2.1.toNat (0, 0, 0, 0)).2.1 (x.1.getD x.2.2.1.toNat (0, 0, 0, 0)).2.2.1 (x.1.getD x.2.2.1.toNat (0, 0, 0, 0)).2.2.2 x.2.2.2.1 x.2.2.2.2.1 x.2.2.2.2.2.1) fun y0 => bif y0.1 then some (x.2.2.1, x.2.2.2.1, x.2.2.2.2.1, x.2.2.2.2.2.1, ()) else rec (x.1, x.2.1, IntKind.wrap .i64 (x.2.2.1 + 1), x.2.2.2.1, x.2.2.2.2.1, x.2.2.2.2.2.1, ()) else none else some (-1, x.2.2.2.1, x.2.2.2.2.1, x.2.2.2.2.2.1, ())) (fun i => isAt w a b (its.getD i iN)) its.length (fun i : Nat => (its, (its.length : Int), (i : Int), w, a, b, ())) (fun i => some ((i : Int), w, a, b, ())) (some (-1, w, a, b, ())) (fun rec i hi' => by
    dsimp only
    rw [bif_dec]
    by_cases q : i < its.length
    · rw [if_pos (by omega), if_pos q, inR (by omega), cond_true, wr (by omega), Int.toNat_natCast]
      have hk := hi.2 i q
      have ef : f60 (its.getD i iN).1 (its.getD i iN).2.1 (its.getD i iN).2.2.1 (its.getD i iN).2.2.2 w a b = some (isAt w a b (its.getD i iN), ()) := by
        unfold f60 isAt
        by_cases k0 : (its.getD i iN).1 = 0
        · have k1 : ((its.getD i iN).1 != 0) = false := by rw [k0]; rfl
          have w0 : (its.getD i iN).2.1 = 0 := Decidable.byContradiction fun z => hk z k0
          have w1 : ((its.getD i iN).2.1 == w) = false := by rw [beq_eq_false_iff_ne, w0]; exact fun z => hw z.symm
          rw [k1, w1]; rfl
        · have k1 : ((its.getD i iN).1 != 0) = true := bne_iff_ne.2 k0
          rw [k1, cond_true]
          cases (its.getD i iN).2.1 == w <;> cases (its.getD i iN).2.2.1 == a <;> cases (its.getD i iN).2.2.2 == b <;> rfl
      rw [ef]
      simp only [Option.bind_some]
      cases isAt w a b (its.getD i iN) <;> rfl
    · rw [if_neg (by omega), if_neg q]) (by omega) rfl
  rw [key]
  unfold inI
  cases (List.range its.length).find? fun i => isAt w a b (its.getD i iN) <;> rfl
theorem bonus_eq {its : List ItT} (hi : IOk its) {l : List EntT} (s : Int) : f49 a0 a1 a2 a3 c l its a7 a8 a9 a10 s = some ((bon its s).1, (bon its s).2, ()) := by
  unfold f49 bon
  rw [find_eq a0 a1 a2 a3 c a7 a8 a9 a10 hi 3 s 0 (by decide)]
  simp only [Option.bind_some]
  have h1 := find_eq a0 a1 a2 a3 c a7 a8 a9 a10 hi (l := l) 3 s 1 (by decide)
  rw [bif_dec]
  by_cases q0 : inI its 3 s 0 < 0
  · rw [if_neg (by omega), if_pos q0]
    simp only [Option.bind_some, Sum.elim_inl]
    rw [h1]
    simp only [Option.bind_some]
    rw [bif_dec]
    by_cases q1 : inI its 3 s 1 < 0
    · rw [if_neg (by omega), if_pos q1]; rfl
    · rw [if_pos (by omega), if_neg q1]; rfl
  · rw [if_pos (by omega), if_neg q0]
    simp only [Option.bind_some, Sum.elim_inl]
    rw [h1]
    simp only [Option.bind_some]
    rw [bif_dec]
    by_cases q1 : inI its 3 s 1 < 0
    · rw [if_neg (by omega), if_pos q1]; rfl
    · rw [if_pos (by omega), if_neg q1]; rfl
theorem rbonus_eq {its : List ItT} (hi : its.length ≤ 1000) {l : List EntT} (s : Int) : f34 a0 a1 a2 a3 c l its a7 a8 a9 a10 s = some ((bon its s).1, (bon its s).2, ()) := by
  unfold f34 bon
  rw [rin_eq its (by omega) 3 s 0]
  simp only [Option.bind_some]
  have h1 := rin_eq its (by omega) 3 s 1
  rw [bif_dec]
  by_cases q0 : inI its 3 s 0 < 0
  · rw [if_neg (by omega), if_pos q0]
    simp only [Option.bind_some, Sum.elim_inl]
    rw [h1]
    simp only [Option.bind_some]
    rw [bif_dec]
    by_cases q1 : inI its 3 s 1 < 0
    · rw [if_neg (by omega), if_pos q1]; rfl
    · rw [if_pos (by omega), if_neg q1]; rfl
  · rw [if_pos (by omega), if_neg q0]
    simp only [Option.bind_some, Sum.elim_inl]
    rw [h1]
    simp only [Option.bind_some]
    rw [bif_dec]
    by_cases q1 : inI its 3 s 1 < 0
    · rw [if_neg (by omega), if_pos q1]; rfl
    · rw [if_pos (by omega), if_neg q1]; rfl
theorem free_eq {l : List EntT} (hl : l.length = 32) {r : Int} (ha : alive l r = true) : f36 l r = some (l.set r.toNat (freeE (l.getD r.toNat eN)), ()) := by
  obtain ⟨h0, h1, _⟩ := alive_iff.1 ha
  unfold f36 f52
  have e : Int.toNat (minI (l.length : Int) 32) = 32 := by rw [minI_eq]; omega
  rw [clone_e l (by omega)]
  simp only [Option.bind_some]
  rw [bif_dec, if_pos (by omega), decide_eq_true (by rw [minI_eq]; omega), cond_true, e]
  simp only [Option.bind_some]
  rw [List.drop_zero, List.take_of_length_le (by omega), bif_dec, if_pos h1, inR (by omega), cond_true, cond_true]
  rfl
theorem rfree_eq {l : List EntT} (hl : l.length = 32) {r : Int} (ha : alive l r = true) : f38 l r = some (l.set r.toNat (freeE (l.getD r.toNat eN)), ()) := by
  obtain ⟨h0, h1, _⟩ := alive_iff.1 ha
  unfold f38
  rw [decide_eq_true (by simp [limit]; omega), cond_true, bif_dec, if_pos (by omega), bif_dec, if_pos h1, inR (by omega), cond_true, cond_true]
  rfl
/-- The items swept up to one. -/
def swp (its : List ItT) (s : Int) (i : Nat) : List ItT := (its.take i).map (sweep1 s) ++ its.drop i
theorem swp_get (its : List ItT) (s : Int) (i : Nat) (hi : i ≤ its.length) (j : Nat) : (swp its s i).getD j iN = if j < i then sweep1 s (its.getD j iN) else its.getD j iN := by
  unfold swp
  have hl : ((its.take i).map (sweep1 s)).length = i := by rw [List.length_map, List.length_take]; omega
  by_cases h : j < i
  · rw [if_pos h, List.getD_eq_getElem?_getD, List.getElem?_append_left (by omega), List.getElem?_map, List.getElem?_take_of_lt h, List.getD_eq_getElem?_getD, List.getElem?_eq_getElem (by omega)]
    rfl
  · rw [if_neg h, List.getD_eq_getElem?_getD, List.getElem?_append_right (by omega), hl, List.getElem?_drop, List.getD_eq_getElem?_getD]
    congr 2
    omega
theorem swp_len (its : List ItT) (s : Int) (i : Nat) (hi : i ≤ its.length) : (swp its s i).length = its.length := by
  unfold swp
  rw [List.length_append, List.length_map, List.length_take, List.length_drop]
  omega
theorem list_ext' {A : Type} {x y : List A} (d : A) (hl : x.length = y.length) (h : ∀ i, i < x.length → x.getD i d = y.getD i d) : x = y := by
  apply List.ext_getElem hl
  intro i a b
  have := h i a
  rw [List.getD_eq_getElem?_getD, List.getD_eq_getElem?_getD, List.getElem?_eq_getElem a, List.getElem?_eq_getElem b] at this
  exact this
theorem swp_step (its : List ItT) (s : Int) (i : Nat) (hi : i < its.length) : swp its s (i + 1) = (swp its s i).set i (sweep1 s (its.getD i iN)) := by
  refine list_ext' iN (by rw [List.length_set, swp_len _ _ _ (by omega), swp_len _ _ _ (by omega)]) fun j hj => ?_
  rw [swp_len _ _ _ (by omega)] at hj
  rw [swp_get _ _ _ (by omega), getD_set, swp_len _ _ _ (by omega), swp_get _ _ _ (by omega)]
  by_cases e : i = j
  · subst e
    rw [if_pos (by omega), if_pos ⟨rfl, hi⟩]
  · rw [if_neg (show ¬ (i = j ∧ i < its.length) from fun z => e z.1)]
    by_cases e2 : j < i
    · rw [if_pos e2, if_pos (by omega)]
    · rw [if_neg e2, if_neg (by omega)]
theorem swp_keep (its : List ItT) (s : Int) (i : Nat) (hi : i < its.length) (h : sweep1 s (its.getD i iN) = its.getD i iN) : swp its s (i + 1) = swp its s i := by
  refine list_ext' iN (by rw [swp_len _ _ _ (by omega), swp_len _ _ _ (by omega)]) fun j hj => ?_
  rw [swp_len _ _ _ (by omega)] at hj
  rw [swp_get _ _ _ (by omega), swp_get _ _ _ (by omega)]
  by_cases e : i = j
  · subst e
    rw [if_pos (by omega), if_neg (by omega), h]
  · by_cases e2 : j < i
    · rw [if_pos e2, if_pos (by omega)]
    · rw [if_neg e2, if_neg (by omega)]
theorem swp_all (its : List ItT) (s : Int) : swp its s its.length = sweep its s := by unfold swp sweep; simp
theorem rsweep_eq {l : List EntT} {its : List ItT} (hc : c.length ≤ 1000) (hl : l.length ≤ 1000) (hi : its.length ≤ 1000) (s : Int) : f39 a0 a1 a2 a3 c l its a7 a8 a9 a10 s = some (a0, a1, a2, a3, a7, a8, a9, a10, c, l, sweep its s, ()) := by
  refine OK.eq ?_
  unfold f39 f39.L1
  rw [rtwin_eq a0 a1 a2 a3 c a7 a8 a9 a10 hc hl hi]
  simp only [Option.bind_some]
  refine OK.loop (fun i : Nat => (s, (i : Int), a0, a1, a2, a3, a7, a8, a9, a10, 0, 0, 0, 0, 0, 0, 0, 0, c, l, swp its s i, ())) (fun i => i ≤ its.length) (fun i => its.length - i) (fun rec i hi' ih => ?_) 0 (by unfold swp; simp) (Nat.zero_le _) (by omega)
  dsimp only
  rw [bif_dec, swp_len _ _ _ hi']
  by_cases q : i < its.length
  · have go := ih (i + 1) (by omega) (by omega) _ rfl
    have hg := swp_get its s i (by omega) i
    rw [if_neg (by omega)] at hg
    have es := swp_step its s i q
    have ek := swp_keep its s i q
    have hg' : (swp its s i).getD i (0, 0, 0, 0) = its.getD i iN := hg
    rw [if_pos (by omega), inR (by omega), cond_true, cond_true, cond_true, cond_true, Int.toNat_natCast, hg', wr (by omega)]
    unfold sweep1 at es ek
    by_cases h2 : (its.getD i iN).2.1 = 2
    · rw [beq_iff_eq.2 h2, cond_true]
      by_cases h3 : (its.getD i iN).2.2.1 = s
      · rw [beq_iff_eq.2 h3, cond_true]
        rw [if_pos ⟨.inl h2, h3⟩] at es
        rw [es] at go
        exact go
      · rw [beq_eq_false_iff_ne.2 h3, cond_false]
        rw [ek (if_neg (fun z => h3 z.2))] at go
        exact go
    · rw [beq_eq_false_iff_ne.2 h2, cond_false]
      by_cases h4 : (its.getD i iN).2.1 = 3
      · rw [beq_iff_eq.2 h4, cond_true]
        by_cases h3 : (its.getD i iN).2.2.1 = s
        · rw [beq_iff_eq.2 h3, cond_true]
          rw [if_pos ⟨.inr h4, h3⟩] at es
          rw [es] at go
          exact go
        · rw [beq_eq_false_iff_ne.2 h3, cond_false]
          rw [ek (if_neg (fun z => h3 z.2))] at go
          exact go
      · rw [beq_eq_false_iff_ne.2 h4, cond_false]
        rw [ek (if_neg (fun z => z.1.elim h2 h4))] at go
        exact go
  · have : i = its.length := by omega
    subst this
    rw [if_neg (by omega), swp_all]
    exact OK.ret rfl
theorem sweep_eq {l : List EntT} {its : List ItT} (hc : c.length ≤ 1000) (hl : l.length ≤ 1000) (hi : its.length ≤ 1000) (s : Int) : f37 a0 a1 a2 a3 c l its a7 a8 a9 a10 s = some (a0, a1, a2, a3, a7, a8, a9, a10, c, l, sweep its s, ()) := by
  refine OK.eq ?_
  unfold f37 f37.L1
  rw [gtwin_eq a0 a1 a2 a3 c a7 a8 a9 a10 hc hl hi]
  simp only [Option.bind_some]
  refine OK.loop (fun i : Nat => (s, (its.length : Int), (i : Int), a0, a1, a2, a3, a7, a8, a9, a10, 0, 0, 0, 0, 0, 0, 0, 0, swp its s i, c, l, ())) (fun i => i ≤ its.length) (fun i => its.length - i) (fun rec i hi' ih => ?_) 0 (by unfold swp; simp) (Nat.zero_le _) (by omega)
  dsimp only
  rw [bif_dec, swp_len _ _ _ hi']
  by_cases q : i < its.length
  · have go := ih (i + 1) (by omega) (by omega) _ rfl
    have hg := swp_get its s i (by omega) i
    rw [if_neg (by omega)] at hg
    have es := swp_step its s i q
    have ek := swp_keep its s i q
    have hg' : (swp its s i).getD i (0, 0, 0, 0) = its.getD i iN := hg
    rw [if_pos (by omega), inR (by omega), wr (by omega)]
    simp only [cond_true, Int.toNat_natCast]
    rw [hg']
    unfold sweep1 at es ek
    by_cases h2 : (its.getD i iN).2.1 = 2
    · rw [beq_iff_eq.2 h2, cond_true]
      by_cases h3 : (its.getD i iN).2.2.1 = s
      · rw [beq_iff_eq.2 h3, cond_true]
        rw [if_pos ⟨.inl h2, h3⟩] at es
        rw [es] at go
        exact go
      · rw [beq_eq_false_iff_ne.2 h3, cond_false]
        rw [ek (if_neg (fun z => h3 z.2))] at go
        exact go
    · rw [beq_eq_false_iff_ne.2 h2, cond_false]
      by_cases h4 : (its.getD i iN).2.1 = 3
      · rw [beq_iff_eq.2 h4, cond_true]
        by_cases h3 : (its.getD i iN).2.2.1 = s
        · rw [beq_iff_eq.2 h3, cond_true]
          rw [if_pos ⟨.inr h4, h3⟩] at es
          rw [es] at go
          exact go
        · rw [beq_eq_false_iff_ne.2 h3, cond_false]
          rw [ek (if_neg (fun z => h3 z.2))] at go
          exact go
      · rw [beq_eq_false_iff_ne.2 h4, cond_false]
        rw [ek (if_neg (fun z => z.1.elim h2 h4))] at go
        exact go
  · have : i = its.length := by omega
    subst this
    rw [if_neg (by omega), swp_all]
    exact OK.ret rfl
theorem hurt_eq {l : List EntT} {its : List ItT} (hc : c.length ≤ 1000) (h : LOk l) (hi : its.length ≤ 1000) (r n : Int) : f18 a0 a1 a2 a3 c l its a7 a8 a9 a10 r n = some (a0, a1, a2, a3, a7, a8, a9, a10, c, (hurt l its r n).1, (hurt l its r n).2, ()) := by
  have hl := h.len
  unfold f18 hurt
  rw [ftwin_eq a0 a1 a2 a3 c a7 a8 a9 a10 hc (by omega) hi]
  simp only [Option.bind_some]
  rw [is_eq a0 a1 a2 a3 c a7 a8 a9 a10 hl]
  simp only [Option.bind_some]
  cases ha : alive l r with
  | false => rw [if_pos (.inl rfl)]; rfl
  | true =>
    have t := h.taken ha
    obtain ⟨h0, h1, _⟩ := alive_iff.1 ha
    rw [Bool.not_true, cond_false, bif_dec]
    by_cases q : n < 1
    · rw [if_pos q, if_pos (.inr q)]
    · have eh : (l.getD r.toNat (0, 0, 0, 0, 0, 0, 0, 0, 0, 0, 0)).2.2.2.2.2.1 = hp (l.getD r.toNat eN) := rfl
      rw [if_neg q, if_neg (by simp only [reduceCtorEq, false_or]; exact q), inR (by omega), cond_true, bif_dec, eh]
      by_cases q2 : n < hp (l.getD r.toNat eN)
      · rw [if_pos (show hp (l.getD r.toNat eN) > n by omega), if_pos q2, wr (by omega)]
        rfl
      · rw [if_neg (show ¬ hp (l.getD r.toNat eN) > n by omega), if_neg q2, free_eq hl ha]
        simp only [Option.bind_some]
        by_cases q3 : kd (l.getD r.toNat eN) = 1
        · have e3 : ((l.getD r.toNat (0, 0, 0, 0, 0, 0, 0, 0, 0, 0, 0)).1 == 1) = true := beq_iff_eq.2 q3
          rw [e3, cond_true, if_pos q3, sweep_eq a0 a1 a2 a3 c a7 a8 a9 a10 hc (by rw [List.length_set]; omega) hi]
          rfl
        · have e3 : ((l.getD r.toNat (0, 0, 0, 0, 0, 0, 0, 0, 0, 0, 0)).1 == 1) = false := beq_eq_false_iff_ne.2 q3
          rw [e3, cond_false, if_neg q3]
theorem rhurt_eq {l : List EntT} {its : List ItT} (hc : c.length ≤ 1000) (h : LOk l) (hi : its.length ≤ 1000) (r n : Int) : f19 a0 a1 a2 a3 c l its a7 a8 a9 a10 r n = some (a0, a1, a2, a3, a7, a8, a9, a10, c, (hurt l its r n).1, (hurt l its r n).2, ()) := by
  have hl := h.len
  unfold f19 hurt
  rw [rtwin_eq a0 a1 a2 a3 c a7 a8 a9 a10 hc (by omega) hi]
  simp only [Option.bind_some]
  rw [there_eq a0 a1 a2 a3 c a7 a8 a9 a10]
  simp only [Option.bind_some]
  cases ha : alive l r with
  | false => rw [if_pos (.inl rfl)]; rfl
  | true =>
    have t := h.taken ha
    obtain ⟨h0, h1, _⟩ := alive_iff.1 ha
    rw [Bool.not_true, cond_false, bif_dec]
    by_cases q : n < 1
    · rw [if_pos q, if_pos (.inr q)]
    · have eh : (l.getD r.toNat (0, 0, 0, 0, 0, 0, 0, 0, 0, 0, 0)).2.2.2.2.2.1 = hp (l.getD r.toNat eN) := rfl
      rw [if_neg q, if_neg (by simp only [reduceCtorEq, false_or]; exact q), inR (by omega), cond_true, bif_dec, eh]
      by_cases q2 : n < hp (l.getD r.toNat eN)
      · rw [if_pos q2, if_pos q2, cond_true, wr (by omega)]
        rfl
      · rw [if_neg q2, if_neg q2, rfree_eq hl ha]
        simp only [Option.bind_some]
        by_cases q3 : kd (l.getD r.toNat eN) = 1
        · have e3 : ((l.getD r.toNat (0, 0, 0, 0, 0, 0, 0, 0, 0, 0, 0)).1 == 1) = true := beq_iff_eq.2 q3
          rw [e3, cond_true, if_pos q3, rsweep_eq a0 a1 a2 a3 c a7 a8 a9 a10 hc (by rw [List.length_set]; omega) hi]
          rfl
        · have e3 : ((l.getD r.toNat (0, 0, 0, 0, 0, 0, 0, 0, 0, 0, 0)).1 == 1) = false := beq_eq_false_iff_ne.2 q3
          rw [e3, cond_false, if_neg q3]
          rfl
end
end Go.Proofs.Yteaglfpppihpjaa.Ft

/- Crowds: a world with monsters and heroes about (own work). -/
import Derived.Test.YteaglfpppihpjaaFight2
namespace Go.Proofs.Yteaglfpppihpjaa.Ft
open Go Go.Proofs.Yteaglfpppihpjaa.Mx Go.Proofs.Yteaglfpppihpjaa.Pc Go.Proofs.Yteaglfpppihpjaa.Run Go.Proofs.Yteaglfpppihpjaa.Field Go.Proofs.Yteaglfpppihpjaa.Gen Go.Proofs.Yteaglfpppihpjaa.GenL Go.Proofs.Yteaglfpppihpjaa.Fl Go.Proofs.Yteaglfpppihpjaa.Wd
set_option linter.unusedVariables false
set_option linter.unusedSimpArgs false
set_option maxHeartbeats 1000000
theorem within8_eq (a n : Int) (h : 0 < n) (hn : n ≤ 1000000000000) : f9 a n = some (within a n, ()) := by
  have := within_b a n h
  unfold f9 within
  simp only [Option.bind_some, bif_dec]
  rw [if_neg (by omega)]
  split
  · rw [wr (by omega)]; rfl
  · rfl
/-- A row's number; -1: none. -/
def oI : Option Nat → Int
  | some i => (i : Int)
  | none => -1
/-- Who stands at a place; -1: nobody. -/
def standsAt (x y : Int) (e : EntT) : Bool := kd e != 0 && (ex e == x && ey e == y)
def atE (l : List EntT) (x y : Int) : Int := oI ((List.range l.length).find? fun i => standsAt x y (l.getD i eN))
def isHero (s : Int) (e : EntT) : Bool := kd e == 1 && st e == s
def heroE' (l : List EntT) (s : Int) : Int := oI ((List.range l.length).find? fun i => isHero s (l.getD i eN))
theorem find_neg {p : Nat → Bool} {n : Nat} : oI ((List.range n).find? p) < 0 ↔ ∀ i, i < n → p i = false := by
  cases h : (List.range n).find? p with
  | none =>
    exact ⟨fun _ i hi => by simpa using List.find?_range_eq_none.1 h i hi, fun _ => (by decide : (-1 : Int) < 0)⟩
  | some k =>
    obtain ⟨h1, h2, _⟩ := List.find?_range_eq_some.1 h
    refine ⟨fun q => absurd q (by show ¬ (k : Int) < 0; omega), fun q => ?_⟩
    rw [q k (List.mem_range.1 h2)] at h1
    cases h1
theorem find_pos {p : Nat → Bool} {n : Nat} (h : ¬ oI ((List.range n).find? p) < 0) : ∃ k, k < n ∧ oI ((List.range n).find? p) = k ∧ p k = true ∧ ∀ j, j < k → p j = false := by
  cases e : (List.range n).find? p with
  | none => rw [e] at h; exact absurd (by decide : (-1 : Int) < 0) h
  | some k =>
    obtain ⟨h1, h2, h3⟩ := List.find?_range_eq_some.1 e
    exact ⟨k, List.mem_range.1 h2, rfl, h1, fun j hj => by simpa using h3 j hj⟩
theorem rat_eq (l : List EntT) (hl : l.length ≤ 100000) (x y : Int) : f12 l x y = some (atE l x y, ()) := by
  unfold f12 f12.L1 atE
  refine (it_find (x := (l, x, y, 0, ())) (fun i => standsAt x y (l.getD i eN)) l.length (fun i : Nat => (l, x, y, (i : Int), ())) (fun i => some ((i : Int), ())) (some (-1, ())) (fun rec i hi => ?_) (by omega) rfl).trans ?_
  rotate_left
  · cases (List.range l.length).find? fun i => standsAt x y (l.getD i eN) <;> rfl
  · dsimp only
    rw [bif_dec]
    by_cases c : i < l.length
    · rw [if_pos c, if_pos (by omega), inR (by omega), wr (by omega), Int.toNat_natCast]
      simp only [cond_true]
      unfold standsAt kd ex ey
      cases (l.getD i (0, 0, 0, 0, 0, 0, 0, 0, 0, 0, 0)).1 != 0 <;> cases (l.getD i (0, 0, 0, 0, 0, 0, 0, 0, 0, 0, 0)).2.2.2.1 == x <;> cases (l.getD i (0, 0, 0, 0, 0, 0, 0, 0, 0, 0, 0)).2.2.2.2.1 == y <;> rfl
    · rw [if_neg c, if_neg (by omega)]
theorem rhero_eq (l : List EntT) (hl : l.length ≤ 100000) (s : Int) : f10 l s = some (heroE' l s, ()) := by
  unfold f10 f10.L1 heroE'
  refine (it_find (x := (l, s, 0, ())) (fun i => isHero s (l.getD i eN)) l.length (fun i : Nat => (l, s, (i : Int), ())) (fun i => some ((i : Int), ())) (some (-1, ())) (fun rec i hi => ?_) (by omega) rfl).trans ?_
  rotate_left
  · cases (List.range l.length).find? fun i => isHero s (l.getD i eN) <;> rfl
  · dsimp only
    rw [bif_dec]
    by_cases c : i < l.length
    · rw [if_pos c, if_pos (by omega), inR (by omega), wr (by omega), Int.toNat_natCast]
      simp only [cond_true]
      unfold isHero kd st
      cases (l.getD i (0, 0, 0, 0, 0, 0, 0, 0, 0, 0, 0)).1 == 1 <;> cases (l.getD i (0, 0, 0, 0, 0, 0, 0, 0, 0, 0, 0)).2.2.1 == s <;> rfl
    · rw [if_neg c, if_neg (by omega)]
/-- The first free row. -/
def firstFree (l : List EntT) : Option Nat := (List.range 32).find? fun i => kd (l.getD i eN) == 0
def withGen (e : EntT) (g : Int) : EntT := (e.1, g, e.2.2.1, e.2.2.2.1, e.2.2.2.2.1, e.2.2.2.2.2.1, e.2.2.2.2.2.2.1, e.2.2.2.2.2.2.2.1, e.2.2.2.2.2.2.2.2.1, e.2.2.2.2.2.2.2.2.2.1, e.2.2.2.2.2.2.2.2.2.2)
theorem rspawn_eq {l : List EntT} (hl : l.length = 32) (e : EntT) (hk : 1 ≤ kd e ∧ kd e ≤ 4) :
    f13 l e.1 e.2.1 e.2.2.1 e.2.2.2.1 e.2.2.2.2.1 e.2.2.2.2.2.1 e.2.2.2.2.2.2.1 e.2.2.2.2.2.2.2.1 e.2.2.2.2.2.2.2.2.1 e.2.2.2.2.2.2.2.2.2.1 e.2.2.2.2.2.2.2.2.2.2 =
      match firstFree l with
      | some i => some ((i : Int), 0, l.set i (withGen e (Int.tmod (IntKind.wrap .i64 (gn (l.getD i eN) + 1)) 256)), ())
      | none => some (0, 5, [], ()) := by
  unfold kd at hk
  unfold f13 f13.L1 firstFree
  rw [bif_dec, if_neg (by omega), bif_dec, if_neg (by omega)]
  refine (congrArg (fun o => Option.bind o _) (it_find (x := (l, 0, e.1, e.2.1, e.2.2.1, e.2.2.2.1, e.2.2.2.2.1, e.2.2.2.2.2.1, e.2.2.2.2.2.2.1, e.2.2.2.2.2.2.2.1, e.2.2.2.2.2.2.2.2.1, e.2.2.2.2.2.2.2.2.2.1, e.2.2.2.2.2.2.2.2.2.2, ())) (fun i => kd (l.getD i eN) == 0) 32 (fun i : Nat => (l, (i : Int), e.1, e.2.1, e.2.2.1, e.2.2.2.1, e.2.2.2.2.1, e.2.2.2.2.2.1, e.2.2.2.2.2.2.1, e.2.2.2.2.2.2.2.1, e.2.2.2.2.2.2.2.2.1, e.2.2.2.2.2.2.2.2.2.1, e.2.2.2.2.2.2.2.2.2.2, ())) (fun i => some (Sum.inr ((i : Int), 0, l.set i (withGen e (Int.tmod (IntKind.wrap .i64 (gn (l.getD i eN) + 1)) 256)), ()))) (some (Sum.inl ())) (fun rec i hi => ?_) (by decide) rfl)).trans ?_
  · dsimp only
    rw [bif_dec, bif_dec]
    by_cases c : i < 32
    · rw [if_pos c, if_pos (by omega), if_pos (by omega), inR (by omega), wr (x := (i : Int) + 1) (by omega), Int.toNat_natCast, decide_eq_true (by simp [limit]; omega)]
      simp only [cond_true]
      unfold kd
      cases (l.getD i (0, 0, 0, 0, 0, 0, 0, 0, 0, 0, 0)).1 == 0 <;> rfl
    · rw [if_neg c, if_neg (by omega)]
  · cases (List.range 32).find? fun i => kd (l.getD i eN) == 0 <;> rfl
/-- What a kind has. -/
def statE (k : Int) : EntT := if k = 1 then (1, 0, 0, 0, 0, 20, 20, 5, 1, 0, 0) else if k = 2 then (2, 0, 0, 0, 0, 4, 4, 2, 0, 0, 0) else if k = 3 then (3, 0, 0, 0, 0, 9, 9, 4, 1, 0, 0) else (4, 0, 0, 0, 0, 6, 6, 3, 0, 0, 0)
theorem rstat_eq (k : Int) (h : 1 ≤ k ∧ k ≤ 4) : f11 k = some ((statE k).1, (statE k).2.1, (statE k).2.2.1, (statE k).2.2.2.1, (statE k).2.2.2.2.1, (statE k).2.2.2.2.2.1, (statE k).2.2.2.2.2.2.1, (statE k).2.2.2.2.2.2.2.1, (statE k).2.2.2.2.2.2.2.2.1, (statE k).2.2.2.2.2.2.2.2.2.1, (statE k).2.2.2.2.2.2.2.2.2.2, ()) := by
  have : k = 1 ∨ k = 2 ∨ k = 3 ∨ k = 4 := by omega
  rcases this with rfl | rfl | rfl | rfl <;> rfl
theorem stat_b (k : Int) (h : 1 ≤ k ∧ k ≤ 4) : kd (statE k) = k ∧ 1 ≤ mxh (statE k) ∧ mxh (statE k) ≤ 20 ∧ hp (statE k) = mxh (statE k) ∧ 0 ≤ atk (statE k) ∧ atk (statE k) ≤ 5 ∧ 0 ≤ df (statE k) ∧ df (statE k) ≤ 1 := by
  have : k = 1 ∨ k = 2 ∨ k = 3 ∨ k = 4 := by omega
  rcases this with rfl | rfl | rfl | rfl <;> decide
structure COk (c : List Int) (l : List EntT) : Prop where
  ok : LOk l
  pos : ∀ i, i < 32 → kd (l.getD i eN) ≠ 0 → 0 ≤ ex (l.getD i eN) ∧ ex (l.getD i eN) < 24 ∧ 0 ≤ ey (l.getD i eN) ∧ ey (l.getD i eN) < 16 ∧ c.getD (ey (l.getD i eN) * 24 + ex (l.getD i eN)).toNat 0 ≠ 0 ∧ 0 ≤ st (l.getD i eN) ∧ st (l.getD i eN) < 4
  apart : ∀ i j, i < 32 → j < 32 → kd (l.getD i eN) ≠ 0 → kd (l.getD j eN) ≠ 0 → ex (l.getD i eN) = ex (l.getD j eN) → ey (l.getD i eN) = ey (l.getD j eN) → i = j
  seats : ∀ i j, i < 32 → j < 32 → kd (l.getD i eN) = 1 → kd (l.getD j eN) = 1 → st (l.getD i eN) = st (l.getD j eN) → i = j
  hero : ∃ i, i < 32 ∧ kd (l.getD i eN) = 1 ∧ st (l.getD i eN) = 0
/-- One more comes. -/
theorem COk.add {c : List Int} {l : List EntT} (h : COk c l) {i : Nat} (hi : i < 32) (hf : kd (l.getD i eN) = 0) {e : EntT} (he : EOk e) (hp' : 0 ≤ ex e ∧ ex e < 24 ∧ 0 ≤ ey e ∧ ey e < 16 ∧ c.getD (ey e * 24 + ex e).toNat 0 ≠ 0 ∧ 0 ≤ st e ∧ st e < 4)
    (hn : ∀ j, j < 32 → standsAt (ex e) (ey e) (l.getD j eN) = false) (hs : kd e = 1 → ∀ j, j < 32 → isHero (st e) (l.getD j eN) = false) : COk c (l.set i e) := by
  have hl := h.ok.len
  have g : ∀ j, (l.set i e).getD j eN = if i = j then e else l.getD j eN := fun j => getD_set' l i j e eN (by omega)
  have no : ∀ j, j < 32 → kd (l.getD j eN) ≠ 0 → ex (l.getD j eN) = ex e → ey (l.getD j eN) = ey e → False := fun j hj h0 h1 h2 => by
    have := hn j hj
    unfold standsAt at this
    rw [bne_iff_ne.2 h0, h1, h2] at this
    simp at this
  have nh : kd e = 1 → ∀ j, j < 32 → kd (l.getD j eN) = 1 → st (l.getD j eN) = st e → False := fun hk j hj h0 h1 => by
    have := hs hk j hj
    unfold isHero at this
    rw [h0, h1] at this
    simp at this
  refine ⟨h.ok.set i he, fun j hj => ?_, fun j k hj hk => ?_, fun j k hj hk => ?_, ?_⟩
  · rw [g]
    split
    · exact fun _ => hp'
    · exact h.pos j hj
  · rw [g, g]
    by_cases e1 : i = j
    · by_cases e2 : i = k
      · intros; omega
      · rw [if_pos e1, if_neg e2]
        intro _ h0 h1 h2
        exact (no k hk h0 h1.symm h2.symm).elim
    · by_cases e2 : i = k
      · rw [if_neg e1, if_pos e2]
        intro h0 _ h1 h2
        exact (no j hj h0 h1 h2).elim
      · rw [if_neg e1, if_neg e2]
        exact h.apart j k hj hk
  · rw [g, g]
    by_cases e1 : i = j
    · by_cases e2 : i = k
      · intros; omega
      · rw [if_pos e1, if_neg e2]
        intro h0 h1 h2
        exact (nh h0 k hk h1 h2.symm).elim
    · by_cases e2 : i = k
      · rw [if_neg e1, if_pos e2]
        intro h0 h1 h2
        exact (nh h1 j hj h0 h2).elim
      · rw [if_neg e1, if_neg e2]
        exact h.seats j k hj hk
  · obtain ⟨k, hk, h1, h2⟩ := h.hero
    have : i ≠ k := fun z => by rw [z, h1] at hf; cases hf
    exact ⟨k, hk, by rw [g, if_neg this]; exact h1, by rw [g, if_neg this]; exact h2⟩
/-- The hero alone. -/
theorem COk.one (s fl at' : Int) (seat : Int) (hs : seat = 0) : COk (cells s fl) (entsW s fl seat at') := by
  have b := within_b at' 32 (by decide)
  have b2 := within_b at' 20 (by decide)
  have hg := heroAt_gc s fl at'
  have hg' := hg.1
  unfold GC at hg'
  have hw := hg.2
  rw [wk_iff (cells_val s fl _)] at hw
  have gR : ∀ j, (List.replicate 32 eN).getD j eN = eN := fun j => by
    rw [List.getD_eq_getElem?_getD, List.getElem?_replicate]
    split <;> rfl
  have g : ∀ j, (entsW s fl seat at').getD j eN = if (within at' 32).toNat = j then heroE s fl seat at' else eN := fun j => by
    unfold entsW
    have := getD_set' (List.replicate 32 eN) (within at' 32).toNat j (heroE s fl seat at') eN (by rw [List.length_replicate]; omega)
    rw [gR] at this
    exact this
  have k0 : kd eN = 0 := rfl
  refine ⟨⟨by unfold entsW; rw [List.length_set, List.length_replicate], fun j hj => ?_⟩, fun j hj => ?_, fun j k hj hk => ?_, fun j k hj hk => ?_, ?_⟩
  · rw [g]
    split
    · refine .inr ?_
      show 1 ≤ (1 : Int) ∧ (1 : Int) ≤ 4 ∧ 1 ≤ 1 + within at' 20 ∧ 1 + within at' 20 ≤ 20 ∧ (20 : Int) ≤ 20 ∧ 0 ≤ (5 : Int) ∧ (5 : Int) ≤ 5 ∧ 0 ≤ (1 : Int) ∧ (1 : Int) ≤ 1 ∧ 0 ≤ (0 : Int) ∧ (0 : Int) ≤ 9 ∧ 0 ≤ (0 : Int) ∧ (0 : Int) ≤ 9
      omega
    · exact .inl ⟨rfl, rfl⟩
  · rw [g]
    split
    · intro _
      show 0 ≤ heroAt s fl at' % 24 ∧ heroAt s fl at' % 24 < 24 ∧ 0 ≤ heroAt s fl at' / 24 ∧ heroAt s fl at' / 24 < 16 ∧ (cells s fl).getD (heroAt s fl at' / 24 * 24 + heroAt s fl at' % 24).toNat 0 ≠ 0 ∧ 0 ≤ seat ∧ seat < 4
      rw [show heroAt s fl at' / 24 * 24 + heroAt s fl at' % 24 = heroAt s fl at' by omega]
      exact ⟨by omega, by omega, by omega, by omega, hw, by omega, by omega⟩
    · exact fun z => absurd k0 z
  · rw [g, g]
    by_cases e1 : (within at' 32).toNat = j
    · by_cases e2 : (within at' 32).toNat = k
      · intros; omega
      · rw [if_neg e2]
        exact fun _ z => absurd k0 z
    · rw [if_neg e1]
      exact fun z => absurd k0 z
  · rw [g, g]
    by_cases e1 : (within at' 32).toNat = j
    · by_cases e2 : (within at' 32).toNat = k
      · intros; omega
      · rw [if_neg e2]
        exact fun _ z => absurd z (by decide)
    · rw [if_neg e1]
      exact fun z => absurd z (by decide)
  · refine ⟨(within at' 32).toNat, by omega, ?_, ?_⟩
    · rw [g, if_pos rfl]; rfl
    · rw [g, if_pos rfl]; exact hs
/-- The next cell that can be walked on, and where nobody stands. -/
theorem seek (kinds : List Int) (i z0 z1 z2 z3 z4 z5 z6 z7 w0 w1 w2 w3 w4 w5 w6 w7 : Int) (c : List Int) (l : List EntT) (its : List ItT) (hc : c.length = 384) (hcb : CB c) (hl : l.length = 32) (at' : Int) (h0 : 0 ≤ at' ∧ at' ≤ 1000) :
    OK (f15.L1 (kinds, at', i, z0, z1, z2, z3, z4, z5, z6, z7, w0, w1, w2, w3, w4, w5, w6, w7, c, l, its, ())) fun z => ∃ k, z = Sum.inl (kinds, k, i, z0, z1, z2, z3, z4, z5, z6, z7, w0, w1, w2, w3, w4, w5, w6, w7, c, l, its, ()) ∧ at' ≤ k ∧ k ≤ 1000 ∧
      (k < 384 → walkable (c.getD k.toNat 0) = true ∧ atE l (k % 24) (k / 24) < 0) ∧ ∀ j, at' ≤ j → j < k → j < 384 → ¬ (walkable (c.getD j.toNat 0) = true ∧ atE l (j % 24) (j / 24) < 0) := by
  unfold f15.L1
  refine OK.loop (fun k : Int => (kinds, k, i, z0, z1, z2, z3, z4, z5, z6, z7, w0, w1, w2, w3, w4, w5, w6, w7, c, l, its, ())) (fun k => at' ≤ k ∧ k ≤ 1000 ∧ (at' < k → k ≤ 384) ∧ ∀ j, at' ≤ j → j < k → j < 384 → ¬ (walkable (c.getD j.toNat 0) = true ∧ atE l (j % 24) (j / 24) < 0)) (fun k => (1000 - k).toNat) (fun rec k hk ih => ?_) at' rfl ⟨Int.le_refl _, h0.2, fun h => absurd h (Int.lt_irrefl _), fun j h1 h2 => by omega⟩ (by omega)
  obtain ⟨hk0, hk1, hk2, hk3⟩ := hk
  dsimp only
  have next : k < 384 → ¬ (walkable (c.getD k.toNat 0) = true ∧ atE l (k % 24) (k / 24) < 0) → OK (Option.bind (some (Sum.inl (kinds, k, i, z0, z1, z2, z3, z4, z5, z6, z7, w0, w1, w2, w3, w4, w5, w6, w7, c, l, its, ()))) fun y2 => Sum.elim (fun y3 => rec (y3.1, IntKind.wrap .i64 (y3.2.1 + 1), y3.2.2.1, y3.2.2.2.1, y3.2.2.2.2.1, y3.2.2.2.2.2.1, y3.2.2.2.2.2.2.1, y3.2.2.2.2.2.2.2.1, y3.2.2.2.2.2.2.2.2.1, y3.2.2.2.2.2.2.2.2.2.1, y3.2.2.2.2.2.2.2.2.2.2.1, y3.2.2.2.2.2.2.2.2.2.2.2.1, y3.2.2.2.2.2.2.2.2.2.2.2.2.1, y3.2.2.2.2.2.2.2.2.2.2.2.2.2.1, y3.2.2.2.2.2.2.2.2.2.2.2.2.2.2.1, y3.2.2.2.2.2.2.2.2.2.2.2.2.2.2.2.1, y3.2.2.2.2.2.2.2.2.2.2.2.2.2.2.2.2.1, y3.2.2.2.2.2.2.2.2.2.2.2.2.2.2.2.2.2.1, y3.2.2.2.2.2.2.2.2.2.2.2.2.2.2.2.2.2.2.1, y3.2.2.2.2.2.2.2.2.2.2.2.2.2.2.2.2.2.2.2.1, y3.2.2.2.2.2.2.2.2.2.2.2.2.2.2.2.2.2.2.2.2.1, y3.2.2.2.2.2.2.2.2.2.2.2.2.2.2.2.2.2.2.2.2.2.1, ())) (fun z4 => some z4) y2) fun z => ∃ k, z = Sum.inl (kinds, k, i, z0, z1, z2, z3, z4, z5, z6, z7, w0, w1, w2, w3, w4, w5, w6, w7, c, l, its, ()) ∧ at' ≤ k ∧ k ≤ 1000 ∧
      (k < 384 → walkable (c.getD k.toNat 0) = true ∧ atE l (k % 24) (k / 24) < 0) ∧ ∀ j, at' ≤ j → j < k → j < 384 → ¬ (walkable (c.getD j.toNat 0) = true ∧ atE l (j % 24) (j / 24) < 0) := by
    intro q hn
    simp only [Option.bind_some, Sum.elim_inl]
    rw [wr (by omega)]
    refine ih (k + 1) ⟨by omega, by omega, fun _ => by omega, fun j h1 h2 h3 => ?_⟩ (by omega) _ rfl
    by_cases e : j = k
    · rw [e]; exact hn
    · exact hk3 j h1 (by omega) h3
  rw [bif_dec]
  by_cases q : k < 384
  · have b := hcb k.toNat
    rw [if_pos q, inR (by omega), cond_true, wr (x := c.getD k.toNat 0) (by omega), rwalk_eq]
    simp only [Option.bind_some]
    cases hw : walkable (c.getD k.toNat 0) with
    | false =>
      rw [Bool.not_false, cond_true]
      exact next q (fun z => by rw [hw] at z; cases z.1)
    | true =>
      rw [Bool.not_true, cond_false, Int.tmod_eq_emod_of_nonneg (by omega), Int.tdiv_eq_ediv_of_nonneg (by omega), wr (x := k / 24) (by omega), rat_eq l (by omega)]
      simp only [Option.bind_some]
      rw [bif_dec]
      by_cases z : atE l (k % 24) (k / 24) ≥ 0
      · rw [if_pos z]
        exact next q (fun y => by omega)
      · rw [if_neg z]
        exact OK.ret ⟨k, rfl, hk0, hk1, fun _ => ⟨hw, by omega⟩, hk3⟩
  · rw [if_neg q]
    exact OK.ret ⟨k, rfl, hk0, hk1, fun z => absurd z q, hk3⟩
end Go.Proofs.Yteaglfpppihpjaa.Ft

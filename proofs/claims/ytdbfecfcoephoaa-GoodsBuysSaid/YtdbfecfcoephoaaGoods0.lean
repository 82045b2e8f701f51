/- Goods in plain words: places, bags (own work). -/
import Derived.Test.YtdbfecfcoephoaaWorld
import Derived.Test.YtdbfecfcoephoaaRun
import Derived.Test.YtdbfecfcoephoaaRunB
namespace Go.Proofs.Ytdbfecfcoephoaa.Gd
open Go Go.Proofs.Ytdbfecfcoephoaa.Mx Go.Proofs.Ytdbfecfcoephoaa.Pc Go.Proofs.Ytdbfecfcoephoaa.Run Go.Proofs.Ytdbfecfcoephoaa.Field Go.Proofs.Ytdbfecfcoephoaa.Gen Go.Proofs.Ytdbfecfcoephoaa.GenL Go.Proofs.Ytdbfecfcoephoaa.Fl Go.Proofs.Ytdbfecfcoephoaa.Wd
set_option linter.unusedVariables false
set_option linter.unusedSimpArgs false
set_option maxHeartbeats 1000000
def kd (e : EntT) : Int := e.1
def st (e : EntT) : Int := e.2.2.1
def ex (e : EntT) : Int := e.2.2.2.1
def ey (e : EntT) : Int := e.2.2.2.2.1
def hp (e : EntT) : Int := e.2.2.2.2.2.1
def mxh (e : EntT) : Int := e.2.2.2.2.2.2.1
/-- Items of which none is somewhere and gone at once. -/
def IOk (its : List ItT) : Prop := its.length = 40 ∧ ∀ i, i < its.length → (its.getD i iN).2.1 ≠ 0 → (its.getD i iN).1 ≠ 0
theorem its_iok {c : List Int} {its : List ItT} (h : ItsOk c its) : IOk its := ⟨h.len, fun i hi hw => by
  have hl := h.len
  rcases h.kind i (by omega) with q | q
  · rw [q] at hw
    exact absurd rfl hw
  · omega⟩
theorem clone_b (l : List Int) (h : l.length ≤ 100000) : f44 l = some (l, ()) := by
  unfold f44 cloneF
  rw [decide_eq_true (by simp [limit]; omega), cond_true]; rfl
theorem clone_e (l : List EntT) (h : l.length ≤ 100000) : f45 l = some (l, ()) := by
  unfold f45 cloneF
  rw [decide_eq_true (by simp [limit]; omega), cond_true]; rfl
theorem clone_i (l : List ItT) (h : l.length ≤ 100000) : f46 l = some (l, ()) := by
  unfold f46 cloneF
  rw [decide_eq_true (by simp [limit]; omega), cond_true]; rfl
/-! A row's number; -1: none. -/
def oI : Option Nat → Int
  | some i => (i : Int)
  | none => -1
theorem find_neg {p : Nat → Bool} {n : Nat} : oI ((List.range n).find? p) < 0 ↔ ∀ i, i < n → p i = false := by
  cases h : (List.range n).find? p with
  | none =>
    exact ⟨fun _ i hi => by simpa using List.find?_range_eq_none.1 h i hi, fun _ => (by decide : (-1 : Int) < 0)⟩
  | some k =>
    obtain ⟨h1, h2, _⟩ := List.find?_range_eq_some.1 h
    refine ⟨fun q => absurd q (by show ¬ (k : Int) < 0; omega), fun q => ?_⟩
    rw [q k (List.mem_range.1 h2)] at h1
    cases h1
theorem find_pos {p : Nat → Bool} {n : Nat} (h : ¬ oI ((List.range n).find? p) < 0) : ∃ k, k < n ∧ oI ((List.range n).find? p) = k ∧ p k = true ∧ ∀ j, j < k → p j = false := by
  cases e : (List.range n).find? p with
  | none => rw [e] at h; exact absurd (by decide : (-1 : Int) < 0) h
  | some k =>
    obtain ⟨h1, h2, h3⟩ := List.find?_range_eq_some.1 e
    exact ⟨k, List.mem_range.1 h2, rfl, h1, fun j hj => by simpa using h3 j hj⟩
theorem find_b {p : Nat → Bool} {n : Nat} : -1 ≤ oI ((List.range n).find? p) ∧ oI ((List.range n).find? p) < (n : Int) := by
  by_cases h : oI ((List.range n).find? p) < 0
  · cases e : (List.range n).find? p with
    | none => exact ⟨Int.le_refl _, by show (-1 : Int) < n; omega⟩
    | some k => rw [e] at h; exact absurd h (by show ¬ (k : Int) < 0; omega)
  · obtain ⟨k, h1, h2, _⟩ := find_pos h
    omega
def isHero (s : Int) (e : EntT) : Bool := kd e == 1 && st e == s
def heroE' (l : List EntT) (s : Int) : Int := oI ((List.range l.length).find? fun i => isHero s (l.getD i eN))
theorem rhero_eq (l : List EntT) (hl : l.length ≤ 100000) (s : Int) : f19 l s = some (heroE' l s, ()) := by
  unfold f19 f19.L1 heroE'
  refine (it_find (x := (l, s, 0, ())) (fun i => isHero s (l.getD i eN)) l.length (fun i : Nat => (l, s, (i : Int), ())) (fun i => some ((i : Int), ())) (some (-1, ())) (fun rec i hi => ?_) (by omega) rfl).trans ?_
  rotate_left
  · cases (List.range l.length).find? fun i => isHero s (l.getD i eN) <;> rfl
  · dsimp only
    rw [bif_dec]
    by_cases c : i < l.length
    · rw [if_pos c, if_pos (by omega), inR (by omega), wr (by omega), Int.toNat_natCast]
      simp only [cond_true]
      unfold isHero kd st
      cases (l.getD i (0, 0, 0, 0, 0, 0, 0, 0, 0, 0, 0)).1 == 1 <;> cases (l.getD i (0, 0, 0, 0, 0, 0, 0, 0, 0, 0, 0)).2.2.1 == s <;> rfl
    · rw [if_neg c, if_neg (by omega)]
theorem rows_eq (l : List EntT) (hl : l.length = 32) : f60 l = some (l, ()) := by
  unfold f60
  have e : minI ((l.length : Nat) : Int) 32 = 32 := by rw [minI_eq]; omega
  rw [e, decide_eq_true (by omega), cond_true, show Int.toNat 32 = l.length by omega, List.take_length, List.drop_zero]
theorem hero_eq (l : List EntT) (hl : l.length = 32) (s : Int) : f28 l s = some (heroE' l s, ()) := by
  unfold f28 f47 f47.L1 heroE'
  rw [rows_eq l hl]
  simp only [Option.bind_some]
  have key := it_find (fuel := 100000000000000000000) (x := (l, (l.length : Int), 0, s, ())) (step := fun rec x => bif decide (x.2.2.1 < x.2.1) then bif inRange x.2.2.1 x.1.length then Option.bind (f48 x.2.2.1 (x.1.getD x.2.2.1.toNat (0, 0, 0, 0, 0, 0, 0, 0, 0, 0, 0)).1 (x.1.getD x.2.2.1.toNat (0, 0, 0, 0, 0, 0, 0, 0, 0, 0, 0)).2.1 (x.1.getD x.2.2.1.toNat (0, 0, 0, 0, 0, 0, 0, 0, 0, 0, 0)).2.2.1 (x.1.getD x.2.2.1.toNat (0, 0, 0, 0, 0, 0, 0, 0, 0, 0, 0)).2.2.2.1 (x.1.getD x.2.2.1.toNat (0, 0, 0, 0, 0, 0, 0, 0, 0, 0, 0)).2.2.2.2.1 (x.1.getD x.2.2.1.toNat (0, 0, 0, 0, 0, 0, 0, 0, 0, 0, 0)).2.2.2.2.2.1 (x.1.getD x.2.2.1.toNat (0, 0, 0, 0, 0, 0, 0, 0, 0, 0, 0)).2.2.2.2.2.2.1 (x.1.getD x.2.2.1.toNat (0, 0, 0, 0, 0, 0, 0, 0, 0, 0, 0)).2.2.2.2.2.2.2.1 (x.1.getD x.2.2.1.toNat (0, 0, 0, 0, 0, 0, 0, 0, 0, 0, 0)).2.2.2.2.2.2.2.2.1 (x.1.getD x.2.2.1.toNat (0, 0, 0, 0, 0, 0, 0, 0, 0, 0, 0)).2.2.2.2.2.2.2.2.2.1 (x.1.getD x.2.2.1.toNat (0, 0, 0, 0, 0, 0, 0, 0, 0, 0, 0)).2.2.2.2.2.2.2.2.2.2 x.2.2.2.1) fun y0 => bif y0.1 then some (x.2.2.1, x.2.2.2.1, ()) else rec (x.1, x.2.1, IntKind.wrap .i64 (x.2.2.1 + 1), x.2.2.2.1, ()) else none else some (-1, x.2.2.2.1, ())) (fun i => isHero s (l.getD i eN)) l.length (fun i : Nat => (l, (l.length : Int), (i : Int), s, ())) (fun i => some ((i : Int), s, ())) (some (-1, s, ())) (fun rec i hi' => by
    dsimp only
    rw [bif_dec]
    by_cases q : i < l.length
    · rw [if_pos (by omega), if_pos q, inR (by omega), cond_true, wr (by omega), Int.toNat_natCast]
      have ef : f48 (i : Int) (l.getD i eN).1 (l.getD i eN).2.1 (l.getD i eN).2.2.1 (l.getD i eN).2.2.2.1 (l.getD i eN).2.2.2.2.1 (l.getD i eN).2.2.2.2.2.1 (l.getD i eN).2.2.2.2.2.2.1 (l.getD i eN).2.2.2.2.2.2.2.1 (l.getD i eN).2.2.2.2.2.2.2.2.1 (l.getD i eN).2.2.2.2.2.2.2.2.2.1 (l.getD i eN).2.2.2.2.2.2.2.2.2.2 s = some (isHero s (l.getD i eN), ()) := by
        unfold f48 isHero kd st
        cases (l.getD i eN).1 == 1 <;> rfl
      rw [ef]
      simp only [Option.bind_some]
      cases isHero s (l.getD i eN) <;> rfl
    · rw [if_neg (by omega), if_neg q]) (by omega) rfl
  refine (congrArg (fun z => Option.bind z fun y0 => some (y0.1, ())) key).trans ?_
  cases (List.range l.length).find? fun i => isHero s (l.getD i eN) <;> rfl
/-! ### bags -/
/-- The lowest free slot; -1: none. -/
def emptyI (its : List ItT) (s : Int) : Int := oI ((List.range 4).find? fun b : Nat => decide (inI its 2 s b < 0))
def holdB (its : List ItT) (s lo hi : Int) (b : Nat) : Bool := decide (0 ≤ inI its 2 s b) && (decide (lo ≤ (its.getD (inI its 2 s b).toNat iN).1) && decide ((its.getD (inI its 2 s b).toNat iN).1 ≤ hi))
/-- The item in the lowest slot that holds one of kinds from lo to hi; -1: none. -/
def hold (its : List ItT) (s lo hi : Int) : Int := match (List.range 4).find? (holdB its s lo hi) with
  | some b => inI its 2 s b
  | none => -1
theorem inI_b (its : List ItT) (w a b : Int) : -1 ≤ inI its w a b ∧ inI its w a b < its.length := by
  by_cases h : inI its w a b < 0
  · unfold inI at h ⊢
    cases e : (List.range its.length).find? fun i => isAt w a b (its.getD i iN) with
    | none => exact ⟨Int.le_refl _, by show (-1 : Int) < _; omega⟩
    | some k => rw [e] at h; exact absurd h (by show ¬ (k : Int) < 0; omega)
  · obtain ⟨k, h1, h2, _⟩ := inI_some h
    omega
theorem rslot_eq (its : List ItT) (hl : its.length ≤ 1000) (s : Int) : f20 its s = some (emptyI its s, ()) := by
  unfold f20 f20.L1 emptyI
  refine (it_find (x := (its, s, 0, ())) (fun b : Nat => decide (inI its 2 s b < 0)) 4 (fun b : Nat => (its, s, (b : Int), ())) (fun b => some ((b : Int), ())) (some (-1, ())) (fun rec b hb => ?_) (by omega) rfl).trans ?_
  rotate_left
  · cases (List.range 4).find? fun b : Nat => decide (inI its 2 s b < 0) <;> rfl
  · dsimp only
    rw [bif_dec]
    by_cases q : b < 4
    · rw [if_pos (by omega), if_pos q, rin_eq its (by omega), wr (by omega)]
      simp only [Option.bind_some]
      rw [ite_bif]
      rfl
    · rw [if_neg (by omega), if_neg q]
theorem rhas_eq (its : List ItT) (hl : its.length ≤ 1000) (s lo hi : Int) : f35 its s lo hi = some (hold its s lo hi, ()) := by
  unfold f35 f35.L1 hold
  refine (it_find (x := (its, s, lo, hi, 0, ())) (holdB its s lo hi) 4 (fun b : Nat => (its, s, lo, hi, (b : Int), ())) (fun b => some (inI its 2 s b, ())) (some (-1, ())) (fun rec b hb => ?_) (by omega) rfl).trans ?_
  rotate_left
  · cases (List.range 4).find? (holdB its s lo hi) <;> rfl
  · dsimp only
    rw [bif_dec]
    by_cases q : b < 4
    · rw [if_pos (by omega), if_pos q, rin_eq its (by omega), wr (by omega)]
      simp only [Option.bind_some]
      have ib := inI_b its 2 s b
      unfold holdB
      rw [bif_dec]
      by_cases h0 : inI its 2 s b ≥ 0
      · have h0' : 0 ≤ inI its 2 s b := h0
        rw [if_pos h0, inR (by omega), decide_eq_true h0']
        simp only [cond_true, Bool.true_and]
        rw [bif_dec, bif_dec]
        by_cases h1 : lo ≤ (its.getD (inI its 2 s b).toNat iN).1
        · by_cases h2 : (its.getD (inI its 2 s b).toNat iN).1 ≤ hi
          · rw [if_pos (show (its.getD (inI its 2 s b).toNat (0, 0, 0, 0)).1 ≥ lo from h1), if_pos (show (its.getD (inI its 2 s b).toNat (0, 0, 0, 0)).1 ≤ hi from h2), decide_eq_true h1, decide_eq_true h2]; rfl
          · rw [if_pos (show (its.getD (inI its 2 s b).toNat (0, 0, 0, 0)).1 ≥ lo from h1), if_neg (show ¬ (its.getD (inI its 2 s b).toNat (0, 0, 0, 0)).1 ≤ hi from h2), decide_eq_true h1, decide_eq_false h2]; rfl
        · rw [if_neg (show ¬ (its.getD (inI its 2 s b).toNat (0, 0, 0, 0)).1 ≥ lo from h1), decide_eq_false h1]; rfl
      · have h0' : ¬ 0 ≤ inI its 2 s b := h0
        rw [if_neg h0, decide_eq_false h0']
        rfl
    · rw [if_neg (by omega), if_neg q]
theorem rpotion_eq (its : List ItT) (hl : its.length ≤ 1000) (s : Int) : f34 its s = some (hold its s 1 1, ()) := by
  unfold f34
  rw [rhas_eq its hl]
  rfl
section
variable (a0 a1 a2 a3 : Int) (c : List Int) (a7 a8 a9 a10 : Int)
theorem gtwin_eq {l : List EntT} {its : List ItT} (hc : c.length ≤ 1000) (hl : l.length ≤ 1000) (hi : its.length ≤ 1000) : f27 a0 a1 a2 a3 c l its a7 a8 a9 a10 = some (a0, a1, a2, a3, a7, a8, a9, a10, c, l, its, ()) := by
  unfold f27
  rw [clone_b c (by omega), clone_e l (by omega), clone_i its (by omega)]
  rfl
theorem rtwin_eq {l : List EntT} {its : List ItT} (hc : c.length ≤ 1000) (hl : l.length ≤ 1000) (hi : its.length ≤ 1000) : f13 a0 a1 a2 a3 c l its a7 a8 a9 a10 = some (a0, a1, a2, a3, a7, a8, a9, a10, c, l, its, ()) := by
  unfold f13
  rw [decide_eq_true (by simp [limit]; omega), decide_eq_true (by simp [limit]; omega), decide_eq_true (by simp [limit]; omega)]
  rfl
/-- The program's look for an item: one that is gone does not count. -/
theorem find_eq {its : List ItT} (hi : IOk its) {l : List EntT} (w a b : Int) (hw : w ≠ 0) : f32 a0 a1 a2 a3 c l its a7 a8 a9 a10 w a b = some (inI its w a b, ()) := by
  have hlen := hi.1
  unfold f32 f53 f53.L1
  have key : Mx.it _ _ _ = _ := it_find (fuel := 100000000000000000000) (x := (its, (its.length : Int), 0, w, a, b, ())) (step := fun rec x => bif decide (x.2.2.1 < x.2.1) then bif inRange x.2.2.1 x.1.length then Option.bind (f54 (x.1.getD x.2.2.1.toNat (0, 0, 0, 0)).1 (x.1.getD x.2.2.1.toNat (0, 0, 0, 0)).2.1 (x.1.getD x.2.2.1.toNat (0, 0, 0, 0)).2.2.1 (x.1.getD x.2.2.1.toNat (0, 0, 0, 0)).2.2.2 x.2.2.2.1 x.2.2.2.2.1 x.2.2.2.2.2.1) fun y0 => bif y0.1 then some (x.2.2.1, x.2.2.2.1, x.2.2.2.2.1, x.2.2.2.2.2.1, ()) else rec (x.1, x.2.1, IntKind.wrap .i64 (x.2.2.1 + 1), x.2.2.2.1, x.2.2.2.2.1, x.2.2.2.2.2.1, ()) else none else some (-1, x.2.2.2.1, x.2.2.2.2.1, x.2.2.2.2.2.1, ())) (fun i => isAt w a b (its.getD i iN)) its.length (fun i : Nat => (its, (its.length : Int), (i : Int), w, a, b, ())) (fun i => some ((i : Int), w, a, b, ())) (some (-1, w, a, b, ())) (fun rec i hi' => by
    dsimp only
    rw [bif_dec]
    by_cases q : i < its.length
    · rw [if_pos (by omega), if_pos q, inR (by omega), cond_true, wr (by omega), Int.toNat_natCast]
      have hk := hi.2 i q
      have ef : f54 (its.getD i iN).1 (its.getD i iN).2.1 (its.getD i iN).2.2.1 (its.getD i iN).2.2.2 w a b = some (isAt w a b (its.getD i iN), ()) := by
        unfold f54 isAt
        by_cases k0 : (its.getD i iN).1 = 0
        · have k1 : ((its.getD i iN).1 != 0) = false := by rw [k0]; rfl
          have w0 : (its.getD i iN).2.1 = 0 := Decidable.byContradiction fun z => hk z k0
          have w1 : ((its.getD i iN).2.1 == w) = false := by rw [beq_eq_false_iff_ne, w0]; exact fun z => hw z.symm
          rw [k1, w1]; rfl
        · have k1 : ((its.getD i iN).1 != 0) = true := bne_iff_ne.2 k0
          rw [k1, cond_true]
          cases (its.getD i iN).2.1 == w <;> cases (its.getD i iN).2.2.1 == a <;> cases (its.getD i iN).2.2.2 == b <;> rfl
      rw [ef]
      simp only [Option.bind_some]
      cases isAt w a b (its.getD i iN) <;> rfl
    · rw [if_neg (by omega), if_neg q]) (by omega) rfl
  rw [key]
  unfold inI
  cases (List.range its.length).find? fun i => isAt w a b (its.getD i iN) <;> rfl
theorem empty_eq {its : List ItT} (hi : IOk its) {l : List EntT} (s : Int) : f61 a0 a1 a2 a3 c l its a7 a8 a9 a10 s = some (emptyI its s, ()) := by
  unfold f61 f50 f50.L1
  have key : Mx.it _ _ _ = _ := it_find (fuel := 100000000000000000000) (x := (s, 0, a0, a1, a2, a3, c, l, its, a7, a8, a9, a10, ())) (step := fun rec x => bif decide (x.2.1 < 4) then Option.bind (f32 x.2.2.1 x.2.2.2.1 x.2.2.2.2.1 x.2.2.2.2.2.1 x.2.2.2.2.2.2.1 x.2.2.2.2.2.2.2.1 x.2.2.2.2.2.2.2.2.1 x.2.2.2.2.2.2.2.2.2.1 x.2.2.2.2.2.2.2.2.2.2.1 x.2.2.2.2.2.2.2.2.2.2.2.1 x.2.2.2.2.2.2.2.2.2.2.2.2.1 2 x.1 x.2.1) fun y0 => Option.bind (f66 y0.1) fun y1 => bif y1.1 then some (x.2.1, ()) else rec (x.1, IntKind.wrap .i64 (x.2.1 + 1), x.2.2.1, x.2.2.2.1, x.2.2.2.2.1, x.2.2.2.2.2.1, x.2.2.2.2.2.2.1, x.2.2.2.2.2.2.2.1, x.2.2.2.2.2.2.2.2.1, x.2.2.2.2.2.2.2.2.2.1, x.2.2.2.2.2.2.2.2.2.2.1, x.2.2.2.2.2.2.2.2.2.2.2.1, x.2.2.2.2.2.2.2.2.2.2.2.2.1, ()) else some (-1, ())) (fun b : Nat => decide (inI its 2 s b < 0)) 4 (fun b : Nat => (s, (b : Int), a0, a1, a2, a3, c, l, its, a7, a8, a9, a10, ())) (fun b => some ((b : Int), ())) (some (-1, ())) (fun rec b hb => by
    dsimp only
    rw [bif_dec]
    by_cases q : b < 4
    · rw [if_pos (by omega), if_pos q, find_eq a0 a1 a2 a3 c a7 a8 a9 a10 hi 2 s b (by decide), wr (by omega)]
      simp only [Option.bind_some]
      unfold f66
      simp only [Option.bind_some]
      rw [ite_bif]
      rfl
    · rw [if_neg (by omega), if_neg q]) (by omega) rfl
  refine (congrArg (fun z => Option.bind z fun y0 => some (y0.1, ())) key).trans ?_
  unfold emptyI
  cases (List.range 4).find? fun b : Nat => decide (inI its 2 s b < 0) <;> rfl
end
end Go.Proofs.Ytdbfecfcoephoaa.Gd

/- Goods in plain words: what the program's hands do (own work). -/
import Derived.Test.YtdbfecfcoephoaaGoods0
namespace Go.Proofs.Ytdbfecfcoephoaa.Gd
open Go Go.Proofs.Ytdbfecfcoephoaa.Mx Go.Proofs.Ytdbfecfcoephoaa.Pc Go.Proofs.Ytdbfecfcoephoaa.Run Go.Proofs.Ytdbfecfcoephoaa.Field Go.Proofs.Ytdbfecfcoephoaa.Gen Go.Proofs.Ytdbfecfcoephoaa.GenL Go.Proofs.Ytdbfecfcoephoaa.Fl Go.Proofs.Ytdbfecfcoephoaa.Wd
set_option linter.unusedVariables false
set_option linter.unusedSimpArgs false
set_option maxHeartbeats 1000000
theorem contains_eq (ks : List Int) (hl : ks.length ≤ 1000) (k : Int) : f52 ks k = some (decide (k ∈ ks), ()) := by
  have key : f62 ks k = some (oI ((List.range ks.length).find? fun i => k == ks.getD i 0), ()) := by
    unfold f62 f62.L1
    refine (it_find (x := (ks, k, (ks.length : Int), 0, ())) (fun i => k == ks.getD i 0) ks.length (fun i : Nat => (ks, k, (ks.length : Int), (i : Int), ())) (fun i => some ((i : Int), ())) (some (-1, ())) (fun rec i hi => ?_) (by omega) rfl).trans ?_
    rotate_left
    · cases (List.range ks.length).find? fun i => k == ks.getD i 0 <;> rfl
    · dsimp only
      rw [bif_dec]
      by_cases q : i < ks.length
      · rw [if_pos (by omega), if_pos q, inR (by omega), wr (by omega), Int.toNat_natCast]
        simp only [cond_true]
        rw [ite_bif]
        rfl
      · rw [if_neg (by omega), if_neg q]
  unfold f52
  rw [key]
  simp only [Option.bind_some]
  refine congrArg (fun b => some (b, ())) (decide_eq_decide.2 ?_)
  constructor
  · intro h
    obtain ⟨i, h1, h2, h3, _⟩ := find_pos (p := fun i => k == ks.getD i 0) (n := ks.length) (by omega)
    have e := beq_iff_eq.1 h3
    rw [e, List.getD_eq_getElem?_getD, List.getElem?_eq_getElem h1]
    exact List.getElem_mem _
  · intro h
    refine Decidable.byContradiction fun z => ?_
    have hn := find_neg.1 (show oI ((List.range ks.length).find? fun i => k == ks.getD i 0) < 0 by omega)
    obtain ⟨i, hi, e⟩ := List.mem_iff_getElem.1 h
    have := hn i hi
    rw [List.getD_eq_getElem?_getD, List.getElem?_eq_getElem hi, Option.getD_some, e] at this
    simp at this
def mv (x : ItT) (w a b : Int) : ItT := (x.1, w, a, b)
/-- An item put into the lowest free slot. -/
def intoI (its : List ItT) (s i : Int) : List ItT := if emptyI its s < 0 then its else its.set i.toNat (mv (its.getD i.toNat iN) 2 s (emptyI its s))
section
variable (a0 a1 a2 a3 : Int) (c : List Int) (a7 a8 a9 a10 : Int)
theorem holding_eq {its : List ItT} (hi : IOk its) {l : List EntT} (s lo hi' : Int) (ks : List Int) (hks : ks.length ≤ 1000)
    (hP : ∀ b : Nat, b < 4 → 0 ≤ inI its 2 s b → decide ((its.getD (inI its 2 s b).toNat iN).1 ∈ ks) = (decide (lo ≤ (its.getD (inI its 2 s b).toNat iN).1) && decide ((its.getD (inI its 2 s b).toNat iN).1 ≤ hi'))) :
    f30 a0 a1 a2 a3 c l its a7 a8 a9 a10 s ks = some (hold its s lo hi', ()) := by
  have key : f50_1 a0 a1 a2 a3 c l its a7 a8 a9 a10 s ks a0 a1 a2 a3 c l its a7 a8 a9 a10 = some (oI ((List.range 4).find? (holdB its s lo hi')), ks, a0, a1, a2, a3, c, l, its, a7, a8, a9, a10, ()) := by
    unfold f50_1 f50_1.L1
    refine (it_find (x := (s, 0, ks, a0, a1, a2, a3, c, l, its, a7, a8, a9, a10, a0, a1, a2, a3, c, l, its, a7, a8, a9, a10, ())) (holdB its s lo hi') 4 (fun b : Nat => (s, (b : Int), ks, a0, a1, a2, a3, c, l, its, a7, a8, a9, a10, a0, a1, a2, a3, c, l, its, a7, a8, a9, a10, ())) (fun b => some ((b : Int), ks, a0, a1, a2, a3, c, l, its, a7, a8, a9, a10, ())) (some (-1, ks, a0, a1, a2, a3, c, l, its, a7, a8, a9, a10, ())) (fun rec b hb => ?_) (by omega) rfl).trans ?_
    rotate_left
    · cases (List.range 4).find? (holdB its s lo hi') <;> rfl
    · dsimp only
      rw [bif_dec]
      by_cases q : b < 4
      · rw [if_pos (by omega), if_pos q, find_eq a0 a1 a2 a3 c a7 a8 a9 a10 hi 2 s b (by decide), wr (by omega)]
        simp only [Option.bind_some]
        unfold f51 holdB
        dsimp only
        have ib := inI_b its 2 s b
        rw [bif_dec]
        by_cases h0 : inI its 2 s b ≥ 0
        · have h0' : 0 ≤ inI its 2 s b := h0
          rw [if_pos h0, inR (by omega), cond_true, contains_eq ks hks, decide_eq_true h0']
          simp only [Option.bind_some]
          rw [← hP b q h0, Bool.true_and, ite_bif]
          rfl
        · have h0' : ¬ 0 ≤ inI its 2 s b := h0
          rw [if_neg h0, decide_eq_false h0']
          rfl
      · rw [if_neg (by omega), if_neg q]
  unfold f30 hold
  rw [key]
  simp only [Option.bind_some]
  cases e : (List.range 4).find? (holdB its s lo hi') with
  | none => rfl
  | some b =>
    have : oI (some b) = (b : Int) := rfl
    rw [this, bif_dec, if_neg (by omega), find_eq a0 a1 a2 a3 c a7 a8 a9 a10 hi 2 s b (by decide)]
    rfl
theorem into_eq {its : List ItT} (hi : IOk its) (l : List EntT) (s i : Int) (h0 : 0 ≤ i) (h1 : i < its.length) :
    f49 a0 a1 a2 a3 a7 a8 a9 a10 s i c l its = some (decide (0 ≤ emptyI its s), c, l, intoI its s i, ()) := by
  unfold f49 intoI
  rw [empty_eq a0 a1 a2 a3 c a7 a8 a9 a10 hi]
  simp only [Option.bind_some]
  rw [bif_dec]
  by_cases q : emptyI its s < 0
  · rw [if_pos q, if_pos q, decide_eq_false (by omega)]
  · have gs : ∀ x : ItT, (its.set i.toNat x).getD i.toNat (0, 0, 0, 0) = x := fun x => by rw [getD_set, if_pos ⟨rfl, by omega⟩]
    rw [if_neg q, if_neg q, decide_eq_true (by omega), inR (by omega), cond_true]
    simp only [List.set_set, gs]
    rfl
end
/-! ### gold, wares -/
def gget (g0 g1 g2 g3 s : Int) : Int := [g0, g1, g2, g3].getD s.toNat 0
def gset (s v : Int) (j : Nat) (g : Int) : Int := if s.toNat = j then v else g
abbrev GT := Int × Int × Int × Int × List ItT
def pickP (its : List ItT) (g0 g1 g2 g3 s x y : Int) : GT :=
  if inI its 1 x y < 0 then (g0, g1, g2, g3, its) else
  if (its.getD (inI its 1 x y).toNat iN).1 = 4 then (gset s (min (gget g0 g1 g2 g3 s + 5) 999) 0 g0, gset s (min (gget g0 g1 g2 g3 s + 5) 999) 1 g1, gset s (min (gget g0 g1 g2 g3 s + 5) 999) 2 g2, gset s (min (gget g0 g1 g2 g3 s + 5) 999) 3 g3, its.set (inI its 1 x y).toNat iN)
  else (g0, g1, g2, g3, intoI its s (inI its 1 x y))
def wear1 (its : List ItT) (s i : Int) : List ItT :=
  if inI its 3 s ((its.getD i.toNat iN).1 - 2) < 0 then its else
  its.set (inI its 3 s ((its.getD i.toNat iN).1 - 2)).toNat ((its.getD (inI its 3 s ((its.getD i.toNat iN).1 - 2)).toNat iN).1, 2, (its.getD (inI its 3 s ((its.getD i.toNat iN).1 - 2)).toNat iN).2.2.1, (its.getD i.toNat iN).2.2.2)
def wearP (its : List ItT) (s : Int) : List ItT :=
  if hold its s 2 3 < 0 then its else
  (wear1 its s (hold its s 2 3)).set (hold its s 2 3).toNat (((wear1 its s (hold its s 2 3)).getD (hold its s 2 3).toNat iN).1, 3, ((wear1 its s (hold its s 2 3)).getD (hold its s 2 3).toNat iN).2.2.1, (its.getD (hold its s 2 3).toNat iN).1 - 2)
def dropP (its : List ItT) (s x y : Int) : List ItT :=
  if 0 ≤ hold its s 1 3 ∧ inI its 1 x y < 0 then its.set (hold its s 1 3).toNat (mv (its.getD (hold its s 1 3).toNat iN) 1 x y) else its
open Classical in
noncomputable def atC (c : List Int) (x y : Int) : Int := if InG x y then Field.rd c (cel x y) else 0
/-- The lowest ware; -1: none. -/
def wareI (its : List ItT) : Int := match (List.range 3).find? (fun k : Nat => decide (0 ≤ inI its 4 k 0)) with
  | some k => inI its 4 k 0
  | none => -1
open Classical in
noncomputable def buyP (c : List Int) (its : List ItT) (g0 g1 g2 g3 s x y : Int) : GT :=
  if atC c x y ≠ 5 ∨ gget g0 g1 g2 g3 s < 5 ∨ wareI its < 0 ∨ emptyI its s < 0 then (g0, g1, g2, g3, its)
  else (gset s (gget g0 g1 g2 g3 s - 5) 0 g0, gset s (gget g0 g1 g2 g3 s - 5) 1 g1, gset s (gget g0 g1 g2 g3 s - 5) 2 g2, gset s (gget g0 g1 g2 g3 s - 5) 3 g3, intoI its s (wareI its))
def GOk (g0 g1 g2 g3 : Int) : Prop := (0 ≤ g0 ∧ g0 ≤ 999) ∧ (0 ≤ g1 ∧ g1 ≤ 999) ∧ (0 ≤ g2 ∧ g2 ≤ 999) ∧ (0 ≤ g3 ∧ g3 ≤ 999)
theorem gget_b {g0 g1 g2 g3 s : Int} (h : GOk g0 g1 g2 g3) : 0 ≤ gget g0 g1 g2 g3 s ∧ gget g0 g1 g2 g3 s ≤ 999 := by
  unfold gget
  unfold GOk at h
  match s.toNat with
  | 0 => exact h.1
  | 1 => exact h.2.1
  | 2 => exact h.2.2.1
  | 3 => exact h.2.2.2
  | n + 4 => exact ⟨Int.le_refl _, (by decide : (0 : Int) ≤ 999)⟩
/-- Wares lie as they may. -/
def SOk (its : List ItT) : Prop := ∀ i, i < its.length → (its.getD i iN).2.1 = 4 → (its.getD i iN).2.2.2 = 0
theorem its_sok {c : List Int} {its : List ItT} (h : ItsOk c its) : SOk its := fun i hi hw => by
  have hl := h.len
  rcases h.kind i (by omega) with q | ⟨_, _, q⟩
  · rw [q]
  · unfold Placed at q; omega
section
variable (a0 a1 a2 a3 : Int) (c : List Int) (a7 a8 a9 a10 : Int)
theorem pick_eq {its : List ItT} (hi : IOk its) (l : List EntT) (g0 g1 g2 g3 s x y e0 e1 e2 e5 e6 e7 e8 e9 e10 : Int) (hs : 0 ≤ s ∧ s < 4) (hg : GOk g0 g1 g2 g3) :
    f29 s e0 e1 e2 x y e5 e6 e7 e8 e9 e10 a0 a1 a2 a3 g0 g1 g2 g3 c l its =
    some (a0, a1, a2, a3, (pickP its g0 g1 g2 g3 s x y).1, (pickP its g0 g1 g2 g3 s x y).2.1, (pickP its g0 g1 g2 g3 s x y).2.2.1, (pickP its g0 g1 g2 g3 s x y).2.2.2.1, c, l, (pickP its g0 g1 g2 g3 s x y).2.2.2.2, ()) := by
  unfold f29 pickP
  rw [find_eq a0 a1 a2 a3 c g0 g1 g2 g3 hi 1 x y (by decide)]
  simp only [Option.bind_some]
  have ib := inI_b its 1 x y
  have gb := gget_b (s := s) hg
  rw [bif_dec]
  by_cases q : inI its 1 x y < 0
  · rw [if_pos q, if_pos q]
  · have ir : inRange (inI its 1 x y) its.length = true := inR (by omega)
    have is : inRange s 4 = true := inR (by omega)
    rw [if_neg q, if_neg q]
    simp only [ir, is, cond_true]
    by_cases k : (its.getD (inI its 1 x y).toNat iN).1 = 4
    · rw [if_pos k, beq_iff_eq.2 k, cond_true]
      have e : minI (IntKind.wrap .i64 ([g0, g1, g2, g3].getD s.toNat 0 + 5)) 999 = min (gget g0 g1 g2 g3 s + 5) 999 := by
        unfold gget at gb ⊢
        rw [wr (by omega), minI_eq]
      simp only [e]
      rfl
    · rw [if_neg k, beq_eq_false_iff_ne.2 k, cond_false, into_eq a0 a1 a2 a3 c g0 g1 g2 g3 hi l s _ (by omega) (by omega)]
      rfl
theorem hold_b {its : List ItT} {s lo hi : Int} : -1 ≤ hold its s lo hi ∧ hold its s lo hi < its.length := by
  unfold hold
  split
  · rename_i b _
    exact inI_b its 2 s b
  · exact ⟨Int.le_refl _, by omega⟩
theorem hold_some {its : List ItT} {s lo hi : Int} (h : 0 ≤ hold its s lo hi) : ∃ b : Nat, b < 4 ∧ hold its s lo hi = inI its 2 s b ∧ holdB its s lo hi b = true ∧ ∀ j, j < b → holdB its s lo hi j = false := by
  unfold hold at h ⊢
  split at h
  · rename_i b e
    obtain ⟨h1, h2, h3⟩ := List.find?_range_eq_some.1 e
    exact ⟨b, List.mem_range.1 h2, rfl, h1, fun j hj => by simpa using h3 j hj⟩
  · omega
theorem hold_kind {its : List ItT} {s lo hi : Int} (h : 0 ≤ hold its s lo hi) : lo ≤ (its.getD (hold its s lo hi).toNat iN).1 ∧ (its.getD (hold its s lo hi).toNat iN).1 ≤ hi := by
  obtain ⟨b, _, e, hb, _⟩ := hold_some h
  unfold holdB at hb
  rw [e]
  simp only [Bool.and_eq_true, decide_eq_true_eq] at hb
  exact hb.2
theorem wear_eq {its : List ItT} (hi : IOk its) (l : List EntT) (s : Int) : f31 a0 a1 a2 a3 a7 a8 a9 a10 s c l its = some (c, l, wearP its s, ()) := by
  unfold f31 wearP
  rw [holding_eq a0 a1 a2 a3 c a7 a8 a9 a10 hi s 2 3 [2, 3] (by decide) (fun b hb h => by
    rw [Bool.eq_iff_iff]
    simp only [List.mem_cons, List.not_mem_nil, or_false, decide_eq_true_eq, Bool.and_eq_true]
    omega)]
  simp only [Option.bind_some]
  have hb := hold_b (its := its) (s := s) (lo := 2) (hi := 3)
  rw [bif_dec]
  by_cases q : hold its s 2 3 < 0
  · rw [if_pos q, if_pos q]
  · have hk := hold_kind (its := its) (s := s) (lo := 2) (hi := 3) (by omega)
    rw [if_neg q, if_neg q, inR (by omega), cond_true]
    have e2 : IntKind.wrap .i64 ((its.getD (hold its s 2 3).toNat (0, 0, 0, 0)).1 - 2) = (its.getD (hold its s 2 3).toNat iN).1 - 2 := wr (x := (its.getD (hold its s 2 3).toNat iN).1 - 2) (by omega)
    rw [e2, find_eq a0 a1 a2 a3 c a7 a8 a9 a10 hi 3 s _ (by decide)]
    simp only [Option.bind_some]
    unfold wear1
    have ib := inI_b its 3 s ((its.getD (hold its s 2 3).toNat iN).1 - 2)
    generalize inI its 3 s ((its.getD (hold its s 2 3).toNat iN).1 - 2) = o at *
    have fin : ∀ its1 : List ItT, its1.length = its.length → ∀ x : ItT, (its1.set (hold its s 2 3).toNat x).getD (hold its s 2 3).toNat (0, 0, 0, 0) = x := fun its1 h x => by rw [getD_set, if_pos ⟨rfl, by omega⟩]
    rw [bif_dec]
    by_cases q2 : o < 0
    · rw [if_neg (by omega), if_pos q2]
      simp only [Option.bind_some, Sum.elim_inl, List.set_set, fin its rfl]
    · have go : ∀ x : ItT, (its.set o.toNat x).getD o.toNat (0, 0, 0, 0) = x := fun x => by rw [getD_set, if_pos ⟨rfl, by omega⟩]
      have r1 : inRange o its.length = true := inR (by omega)
      rw [if_pos (by omega), if_neg q2]
      simp only [List.length_set, r1, cond_true, Option.bind_some, Sum.elim_inl, List.set_set, go]
      rw [fin (its.set o.toNat _) (by rw [List.length_set])]
theorem gat_eq (hc : CB c) (hl : c.length = 384) (x y : Int) : f55 c x y = some (atC c x y, ()) := by
  unfold f55 f64 f63 atC InG
  simp only [bif_dec]
  have out : Option.bind (some ((-1 : Int), ())) (fun y0 => Option.bind (if y0.1 < 0 then some ((0 : Int), ()) else if y0.1 ≥ (c.length : Int) then some (0, ()) else bif inRange y0.1 c.length then some (IntKind.wrap .i64 (c.getD y0.1.toNat 0), ()) else none) fun y1 => some (y1.1, ())) = some (0, ()) := rfl
  by_cases h1 : x < 0
  · rw [if_pos h1, if_neg (by omega)]; exact out
  · by_cases h2 : x ≥ 24
    · rw [if_neg h1, if_pos h2, if_neg (by omega)]; exact out
    · by_cases h3 : y < 0
      · rw [if_neg h1, if_neg h2, if_pos h3, if_neg (by omega)]; exact out
      · by_cases h4 : y ≥ 16
        · rw [if_neg h1, if_neg h2, if_neg h3, if_pos h4, if_neg (by omega)]; exact out
        · rw [if_neg h1, if_neg h2, if_neg h3, if_neg h4, if_pos (by omega)]
          simp only [Option.bind_some]
          rw [wr (x := y * 24) (by omega), wr (x := y * 24 + x) (by omega), if_neg (by omega), if_neg (by omega), inR (by omega), cond_true]
          simp only [Option.bind_some]
          have b := hc (y * 24 + x).toNat
          rw [wr (by omega)]
          rfl
theorem shop_eq {its : List ItT} (hi : IOk its) (hS : SOk its) (k : Int) : f53_1 its k = some (inI its 4 k 0, k, ()) := by
  have hlen := hi.1
  unfold f53_1 f53_1.L1 inI
  refine (it_find (x := (its, (its.length : Int), 0, k, ())) (fun i => isAt 4 k 0 (its.getD i iN)) its.length (fun i : Nat => (its, (its.length : Int), (i : Int), k, ())) (fun i => some ((i : Int), k, ())) (some (-1, k, ())) (fun rec i hi' => ?_) (by omega) rfl).trans ?_
  rotate_left
  · cases (List.range its.length).find? fun i => isAt 4 k 0 (its.getD i iN) <;> rfl
  · dsimp only
    rw [bif_dec]
    by_cases q : i < its.length
    · rw [if_pos (by omega), if_pos q, inR (by omega), cond_true, wr (by omega), Int.toNat_natCast]
      have hk := hi.2 i q
      have hz := hS i q
      have ef : f56 (its.getD i iN).1 (its.getD i iN).2.1 (its.getD i iN).2.2.1 (its.getD i iN).2.2.2 k = some (isAt 4 k 0 (its.getD i iN), ()) := by
        unfold f56 isAt
        by_cases w4 : (its.getD i iN).2.1 = 4
        · have k1 : ((its.getD i iN).1 != 0) = true := bne_iff_ne.2 (hk (by omega))
          rw [k1, cond_true, beq_iff_eq.2 w4, cond_true, hz w4]
          cases (its.getD i iN).2.2.1 == k <;> rfl
        · have w1 : ((its.getD i iN).2.1 == 4) = false := beq_eq_false_iff_ne.2 w4
          rw [w1]
          cases (its.getD i iN).1 != 0 <;> rfl
      rw [ef]
      simp only [Option.bind_some]
      cases isAt 4 k 0 (its.getD i iN) <;> rfl
    · rw [if_neg (by omega), if_neg q]
theorem buy_eq {its : List ItT} (hi : IOk its) (hS : SOk its) (l : List EntT) (hc : CB c) (hl : c.length = 384) (g0 g1 g2 g3 s x y e0 e1 e2 e5 e6 e7 e8 e9 e10 : Int) (hs : 0 ≤ s ∧ s < 4) (hg : GOk g0 g1 g2 g3) :
    f33 s e0 e1 e2 x y e5 e6 e7 e8 e9 e10 a0 a1 a2 a3 g0 g1 g2 g3 c l its =
    some (a0, a1, a2, a3, (buyP c its g0 g1 g2 g3 s x y).1, (buyP c its g0 g1 g2 g3 s x y).2.1, (buyP c its g0 g1 g2 g3 s x y).2.2.1, (buyP c its g0 g1 g2 g3 s x y).2.2.2.1, c, l, (buyP c its g0 g1 g2 g3 s x y).2.2.2.2, ()) := by
  unfold f33
  rw [gat_eq c hc hl]
  simp only [Option.bind_some]
  have gb := gget_b (s := s) hg
  have is : inRange s 4 = true := inR (by omega)
  have keep : (atC c x y ≠ 5 ∨ gget g0 g1 g2 g3 s < 5 ∨ wareI its < 0 ∨ emptyI its s < 0) → buyP c its g0 g1 g2 g3 s x y = (g0, g1, g2, g3, its) := fun h => by unfold buyP; rw [if_pos h]
  by_cases h5 : atC c x y = 5
  · rw [show (atC c x y != 5) = false by rw [h5]; rfl, cond_false]
    simp only [is, cond_true]
    rw [bif_dec]
    by_cases h6 : gget g0 g1 g2 g3 s < 5
    · rw [if_pos (show [g0, g1, g2, g3].getD s.toNat 0 < 5 from h6), keep (.inr (.inl h6))]
    · rw [if_neg (show ¬ [g0, g1, g2, g3].getD s.toNat 0 < 5 from h6)]
      have e5 : IntKind.wrap .i64 ([g0, g1, g2, g3].getD s.toNat 0 - 5) = gget g0 g1 g2 g3 s - 5 := by
        unfold gget at gb ⊢
        exact wr (by omega)
      unfold f33.L1
      refine (it_find (x := (s, 0, a0, a1, a2, a3, g0, g1, g2, g3, c, l, its, ())) (fun k : Nat => decide (0 ≤ inI its 4 k 0)) 3 (fun k : Nat => (s, (k : Int), a0, a1, a2, a3, g0, g1, g2, g3, c, l, its, ()))
        (fun k => some (if emptyI its s < 0 then (a0, a1, a2, a3, g0, g1, g2, g3, c, l, its, ()) else (a0, a1, a2, a3, gset s (gget g0 g1 g2 g3 s - 5) 0 g0, gset s (gget g0 g1 g2 g3 s - 5) 1 g1, gset s (gget g0 g1 g2 g3 s - 5) 2 g2, gset s (gget g0 g1 g2 g3 s - 5) 3 g3, c, l, intoI its s (inI its 4 k 0), ())))
        (some (a0, a1, a2, a3, g0, g1, g2, g3, c, l, its, ())) (fun rec k hk => ?_) (by omega) rfl).trans ?_
      · dsimp only
        rw [bif_dec]
        by_cases q : k < 3
        · rw [if_pos (by omega), if_pos q, shop_eq hi hS, wr (x := (k : Int) + 1) (by omega)]
          simp only [Option.bind_some]
          have ib := inI_b its 4 k 0
          rw [bif_dec]
          by_cases h0 : inI its 4 k 0 ≥ 0
          · have h0' : 0 ≤ inI its 4 k 0 := h0
            rw [if_pos h0, if_pos (decide_eq_true h0'), into_eq a0 a1 a2 a3 c g0 g1 g2 g3 hi l s _ h0 (by omega)]
            simp only [Option.bind_some, is, cond_true, e5]
            rw [bif_dec]
            by_cases h7 : emptyI its s < 0
            · rw [if_neg (by omega), if_pos h7]
              unfold intoI
              rw [if_pos h7]
            · rw [if_pos (by omega), if_neg h7]
              rfl
          · have h0' : ¬ 0 ≤ inI its 4 k 0 := h0
            rw [if_neg h0, if_neg (by rw [decide_eq_false h0']; decide)]
            rfl
        · rw [if_neg (by omega), if_neg q]
      · unfold buyP wareI
        cases e : (List.range 3).find? fun k : Nat => decide (0 ≤ inI its 4 k 0) with
        | none => rw [if_pos (.inr (.inr (.inl (by decide : (-1 : Int) < 0))))]
        | some k =>
          obtain ⟨h1, _, _⟩ := List.find?_range_eq_some.1 e
          have h1 := of_decide_eq_true h1
          dsimp only
          by_cases h7 : emptyI its s < 0
          · rw [if_pos h7, if_pos (.inr (.inr (.inr h7)))]
          · rw [if_neg h7, if_neg (by omega)]
  · rw [bne_iff_ne.2 h5, cond_true, keep (.inl h5)]
end
end Go.Proofs.Ytdbfecfcoephoaa.Gd

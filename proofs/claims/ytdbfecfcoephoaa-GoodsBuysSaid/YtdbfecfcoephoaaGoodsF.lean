/- Goods in plain words: items that are told one by one (own work). -/
import Derived.Test.YtdbfecfcoephoaaGoodsLaw
namespace Go.Proofs.Ytdbfecfcoephoaa.Gd
open Go Go.Proofs.Ytdbfecfcoephoaa.Mx Go.Proofs.Ytdbfecfcoephoaa.Pc Go.Proofs.Ytdbfecfcoephoaa.Run Go.Proofs.Ytdbfecfcoephoaa.Field Go.Proofs.Ytdbfecfcoephoaa.Gen Go.Proofs.Ytdbfecfcoephoaa.GenL Go.Proofs.Ytdbfecfcoephoaa.Fl Go.Proofs.Ytdbfecfcoephoaa.Wd
set_option linter.unusedVariables false
set_option linter.unusedSimpArgs false
theorem items_ext {a b : List ItT} (ha : a.length = 40) (hb : b.length = 40) (h : ∀ i, i < 40 → a.getD i iN = b.getD i iN) : a = b := by
  refine List.ext_getElem (ha.trans hb.symm) fun i h1 h2 => ?_
  have := h i (by omega)
  rw [List.getD_eq_getElem?_getD, List.getD_eq_getElem?_getD, List.getElem?_eq_getElem h1, List.getElem?_eq_getElem h2] at this
  exact this
theorem inI_is {its : List ItT} (hl : its.length = 40) {w a b : Int} {k : Nat} (hk : k < 40) (h : (its.getD k iN).2 = (w, a, b)) (ho : ∀ j, j < k → (its.getD j iN).2 ≠ (w, a, b)) : inI its w a b = k := by
  have hn : ¬ inI its w a b < 0 := fun z => isAt_not (inI_none.1 z k (by omega)) h
  obtain ⟨j, h1, e, h3, h4⟩ := inI_some hn
  rw [e]
  have h3 := isAt_iff.1 h3
  rcases Nat.lt_trichotomy j k with z | z | z
  · exact absurd h3 (ho j z)
  · rw [z]
  · exact absurd h (isAt_not (h4 k z))
theorem inI_no {its : List ItT} (hl : its.length = 40) {w a b : Int} (h : ∀ j, j < 40 → (its.getD j iN).2 ≠ (w, a, b)) : inI its w a b = -1 := by
  have hb := inI_b its w a b
  have : inI its w a b < 0 := inI_none.2 fun i hi => by
    cases e : isAt w a b (its.getD i iN) with
    | false => rfl
    | true => exact absurd (isAt_iff.1 e) (h i (by omega))
  omega
theorem hold_is {its : List ItT} {s lo hi : Int} {b : Nat} (hb : b < 4) (h : holdB its s lo hi b = true) (ho : ∀ j, j < b → holdB its s lo hi j = false) : hold its s lo hi = inI its 2 s b := by
  unfold hold
  rw [List.find?_range_eq_some.2 ⟨h, List.mem_range.2 hb, fun j hj => by rw [ho j hj]; rfl⟩]
theorem hold_no {its : List ItT} {s lo hi : Int} (h : ∀ j, j < 4 → holdB its s lo hi j = false) : hold its s lo hi = -1 := by
  unfold hold
  rw [List.find?_range_eq_none.2 fun j hj => by rw [h j hj]; rfl]
theorem holdB_no {its : List ItT} {s lo hi : Int} {b : Nat} (h : inI its 2 s b < 0) : holdB its s lo hi b = false := by
  unfold holdB
  rw [decide_eq_false (by omega)]
  rfl
theorem holdB_yes {its : List ItT} {s lo hi : Int} {b k : Nat} (h : inI its 2 s b = k) (h1 : lo ≤ (its.getD k iN).1) (h2 : (its.getD k iN).1 ≤ hi) : holdB its s lo hi b = true := by
  unfold holdB
  rw [h, Int.toNat_natCast, decide_eq_true (by omega), decide_eq_true h1, decide_eq_true h2]
  rfl
theorem empty_is {its : List ItT} {s : Int} {b : Nat} (hb : b < 4) (h : inI its 2 s b < 0) (ho : ∀ j : Nat, j < b → 0 ≤ inI its 2 s j) : emptyI its s = b := by
  unfold emptyI
  rw [List.find?_range_eq_some.2 ⟨decide_eq_true h, List.mem_range.2 hb, fun j hj => by rw [decide_eq_false (by have := ho j hj; omega)]; rfl⟩]
  rfl
theorem empty_no {its : List ItT} {s : Int} (h : ∀ j : Nat, j < 4 → 0 ≤ inI its 2 s j) : emptyI its s = -1 := by
  unfold emptyI
  rw [List.find?_range_eq_none.2 fun j hj => by rw [decide_eq_false (by have := h j hj; omega)]; rfl]
  rfl
theorem rep_get (i : Nat) : (List.replicate 40 iN).getD i iN = iN := by
  rw [List.getD_eq_getElem?_getD, List.getElem?_replicate]
  split <;> rfl
theorem set_get {its : List ItT} (hl : its.length = 40) {n : Nat} (hn : n < 40) (x : ItT) (i : Nat) : (its.set n x).getD i iN = if n = i then x else its.getD i iN := by
  rw [getD_set]
  by_cases z : n = i
  · rw [if_pos ⟨z, by omega⟩, if_pos z]
  · rw [if_neg (fun y => z y.1), if_neg z]
theorem hero_set {l : List EntT} {k : Nat} {e : EntT} (h1 : kd e = kd (l.getD k eN)) (h2 : st e = st (l.getD k eN)) (s : Int) : heroE' (l.set k e) s = heroE' l s := by
  unfold heroE'
  rw [List.length_set]
  refine congrArg oI (congrArg (fun p => List.find? p (List.range l.length)) (funext fun i => ?_))
  unfold isHero
  rw [getD_set]
  split
  · rename_i z
    rw [h1, h2, z.1]
  · rfl
/-- The world of a law without items: a hero of a seat in row 1. -/
theorem plain_hero (a0 fl seat : Int) : heroE' (entsW a0 fl seat 1) seat = 1 ∧ (entsW a0 fl seat 1).getD 1 eN = heroE a0 fl seat 1 := by
  have h := hero_row a0 fl seat 1
  have w : within 1 32 = 1 := by decide
  rw [w] at h
  refine ⟨h, ?_⟩
  have := entsW_get a0 fl seat 1 1 (by decide)
  rw [w] at this
  exact this
end Go.Proofs.Ytdbfecfcoephoaa.Gd

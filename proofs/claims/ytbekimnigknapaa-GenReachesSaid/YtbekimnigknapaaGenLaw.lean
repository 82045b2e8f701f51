/- What the laws of chapter 4 share (own work). -/
import Derived.Test.YtbekimnigknapaaFloorH
namespace Go.Proofs.Ytbekimnigknapaa.Fl
open Go Go.Proofs.Ytbekimnigknapaa.Mx Go.Proofs.Ytbekimnigknapaa.Pc Go.Proofs.Ytbekimnigknapaa.Run Go.Proofs.Ytbekimnigknapaa.Field Go.Proofs.Ytbekimnigknapaa.Gen Go.Proofs.Ytbekimnigknapaa.GenL
set_option linter.unusedVariables false
set_option linter.unusedSimpArgs false
theorem findC_one {c : List Int} {v : Int} {k : Nat} (hk : k < 384) (h : ∀ n : Nat, c.getD n 0 = v ↔ n = k) : findC c v = k := by
  unfold findC
  have : (List.range 384).find? (fun j : Nat => c.getD j 0 == v) = some k := List.find?_range_eq_some.2 ⟨beq_iff_eq.2 ((h k).2 rfl), List.mem_range.2 hk, fun j hj => by
    have : (c.getD j 0 == v) = false := by
      rw [beq_eq_false_iff_ne]
      intro e
      have := (h j).1 e
      omega
    rw [this]; rfl⟩
  rw [this]
theorem find_up (s fl : Int) : findC (cells s fl) 3 = upc s fl := by
  have g := upc_gc s fl
  unfold GC at g
  rw [findC_one (k := (upc s fl).toNat) (by omega) (cells_up s fl)]
  omega
theorem find_down (s fl : Int) : findC (cells s fl) 4 = far s fl := by
  have g := far_gc s fl
  unfold GC at g
  rw [findC_one (k := (far s fl).toNat) (by omega) (cells_down s fl)]
  omega
/-- The field of the whole floor is the one that it was made by. -/
theorem fld_cells (s fl : Int) : fld (cells s fl) (upc s fl) = dist s fl := by
  have h := (fld_is (cells s fl) (cells_cb s fl) (upc s fl)).2
  have e1 : opnC (cells s fl) [] = opnC (cellsU s fl) [] := funext fun n => propext (by
    have := cells_wk s fl n
    unfold Wk at this
    unfold opnC
    rw [this])
  have e2 : IsT (cells s fl) [upc s fl] = IsT (cellsU s fl) [upc s fl] := funext fun n => propext (by
    have := cells_wk s fl n
    unfold Wk at this
    unfold IsT
    rw [this])
  rw [e1, e2] at h
  exact field_one h (dist_is s fl)
theorem known_eq : f13 = some (true, ()) := by
  unfold f13
  have g1 := upc_gc 1 1
  have g2 := far_gc 1 1
  unfold GC at g1 g2
  have e1 : (floor 1 1).1 = cells 1 1 := rfl
  rw [make_eq 1 1 (by decide) (by decide), make_out 1 0 (by decide)]
  simp only [Option.bind_some]
  rw [e1, find_r _ (cells_cb 1 1) (cells_len 1 1), find_up]
  simp only [Option.bind_some, beq_self_eq_true, cond_true]
  rw [decide_eq_true g1.1, cond_true, find_r _ (cells_cb 1 1) (cells_len 1 1), find_down]
  simp only [Option.bind_some]
  rw [decide_eq_true g2.1]
theorem within_eq (a n : Int) (h : 0 < n) (hn : n ≤ 1000000000000) : f17 a n = some (within a n, ()) := by
  have := within_b a n h
  unfold f17 within
  simp only [Option.bind_some, bif_dec]
  rw [if_neg (by omega)]
  split
  · rw [wr (by omega)]; rfl
  · rfl
abbrev e0' : EntT := (0, 0, 0, 0, 0, 0, 0, 0, 0, 0, 0)
abbrev i0' : ItT := (0, 0, 0, 0)
/-- Where the monsters stand. -/
structure MI (s fl : Int) (c f : List Int) (L : List Int) (es : List EntT) : Prop where
  len : es.length = L.length
  one : L.Nodup
  at' : ∀ i, i < L.length → ∃ k, es.getD i e0' = entAt s fl k (L.getD i 0)
  good : ∀ n ∈ L, 0 ≤ n ∧ n < 384 ∧ c.getD n.toNat 0 = 1 ∧ 4 ≤ f.getD n.toNat 0
theorem getD_snoc {A : Type} (l : List A) (x d : A) (i : Nat) : (l ++ [x]).getD i d = if i = l.length then x else l.getD i d := by
  rw [List.getD_eq_getElem?_getD, List.getD_eq_getElem?_getD]
  by_cases h : i = l.length
  · subst h
    rw [List.getElem?_append_right (Nat.le_refl _), if_pos rfl]
    simp
  · rw [if_neg h]
    by_cases h2 : i < l.length
    · rw [List.getElem?_append_left h2]
    · rw [List.getElem?_eq_none (by simp; omega), List.getElem?_eq_none (by omega)]
theorem nodup_snoc {l : List Int} {x : Int} (h : l.Nodup) (hx : x ∉ l) : (l ++ [x]).Nodup := by
  rw [List.nodup_append]
  exact ⟨h, by simp, fun a ha b hb => by
    have : b = x := by simpa using hb
    intro e
    rw [this] at e
    exact hx (e ▸ ha)⟩
theorem mons_mi (s fl : Int) (c f : List Int) : ∀ (n : Nat) (k : Int) (L : List Int) (es : List EntT), MI s fl c f L es → ∃ L', MI s fl c f L' (mons s fl c f n k L es) ∧ L'.length ≤ L.length + n
  | 0, k, L, es, h => ⟨L, h, Nat.le_refl _⟩
  | n + 1, k, L, es, h => by
    unfold mons
    by_cases h0 : frees c f 4 L = []
    · rw [if_pos h0]
      exact ⟨L, h, by omega⟩
    · rw [if_neg h0]
      have hm := frees_mem (pk_mem s fl c f 4 (7 + k) L h0)
      have ep : (frees c f 4 L).getD (dv s fl (7 + k) 0 (frees c f 4 L).length).toNat 0 = pk s fl c f 4 (7 + k) L := rfl
      rw [ep]
      generalize pk s fl c f 4 (7 + k) L = p at *
      obtain ⟨L', h1, h2⟩ := mons_mi s fl c f n (k + 1) (L ++ [p]) (es ++ [entAt s fl k p]) ⟨by simp [h.len], nodup_snoc h.one hm.2.2.2.2, fun i hi => by
        rw [getD_snoc, getD_snoc, h.len]
        by_cases e : i = L.length
        · rw [if_pos e, if_pos e]
          exact ⟨k, rfl⟩
        · rw [if_neg e, if_neg e]
          rw [List.length_append] at hi
          exact h.at' i (by simp at hi; omega), fun m hm' => by
        rcases List.mem_append.1 hm' with x | x
        · exact h.good m x
        · have : m = p := by simpa using x
          subst this
          exact ⟨hm.1, hm.2.1, hm.2.2.1, hm.2.2.2.1⟩⟩
      exact ⟨L', h1, by simp at h2; omega⟩
theorem mons_is (s fl : Int) (c f : List Int) : ∃ L, MI s fl c f L (mons s fl c f (fl + 2).toNat 0 [] []) ∧ L.length ≤ (fl + 2).toNat := by
  obtain ⟨L, h1, h2⟩ := mons_mi s fl c f (fl + 2).toNat 0 [] [] ⟨rfl, List.nodup_nil, fun i hi => absurd hi (Nat.not_lt_zero i), fun n hn => by cases hn⟩
  exact ⟨L, h1, by simpa using h2⟩
theorem ent_is (s fl k at' : Int) : 2 ≤ (entAt s fl k at').1 ∧ (entAt s fl k at').1 ≤ 4 ∧ (entAt s fl k at').2.2.2.1 = at' % 24 ∧ (entAt s fl k at').2.2.2.2.1 = at' / 24 ∧ (entAt s fl k at').2.2.2.2.2.1 = (entAt s fl k at').2.2.2.2.2.2.1 ∧ 1 ≤ (entAt s fl k at').2.2.2.2.2.1 := by
  unfold entAt
  split <;> exact ⟨by dsimp only; omega, by dsimp only; omega, rfl, rfl, rfl, by dsimp only; omega⟩
/-- Where the items lie. -/
structure II (c : List Int) (L : List Int) (l : List ItT) : Prop where
  len : l.length = L.length
  one : L.Nodup
  at' : ∀ i, i < L.length → 1 ≤ (l.getD i i0').1 ∧ (l.getD i i0').1 ≤ 4 ∧ (l.getD i i0').2 = (1, L.getD i 0 % 24, L.getD i 0 / 24)
  good : ∀ n ∈ L, 0 ≤ n ∧ n < 384 ∧ c.getD n.toNat 0 = 1
theorem its_ii (s fl : Int) (c f : List Int) : ∀ (n : Nat) (k : Int) (L : List Int) (l : List ItT), II c L l → ∃ L', II c L' (its s fl c f n k L l) ∧ L'.length ≤ L.length + n
  | 0, k, L, l, h => ⟨L, h, Nat.le_refl _⟩
  | n + 1, k, L, l, h => by
    unfold its
    by_cases h0 : frees c f 0 L = []
    · rw [if_pos h0]
      obtain ⟨L', h1, h2⟩ := its_ii s fl c f n (k + 1) L l h
      exact ⟨L', h1, by omega⟩
    · rw [if_neg h0]
      have hm := frees_mem (pk_mem s fl c f 0 (40 + k) L h0)
      have ep : (frees c f 0 L).getD (dv s fl (40 + k) 0 (frees c f 0 L).length).toNat 0 = pk s fl c f 0 (40 + k) L := rfl
      have d := (d_is s fl (40 + k) 1 4 (by decide) (by decide)).2
      rw [ep]
      generalize pk s fl c f 0 (40 + k) L = p at *
      obtain ⟨L', h1, h2⟩ := its_ii s fl c f n (k + 1) (L ++ [p]) (l ++ [(1 + dv s fl (40 + k) 1 4, 1, p % 24, p / 24)]) ⟨by simp [h.len], nodup_snoc h.one hm.2.2.2.2, fun i hi => by
        rw [getD_snoc, getD_snoc, h.len]
        by_cases e : i = L.length
        · rw [if_pos e, if_pos e]
          exact ⟨by dsimp only; omega, by dsimp only; omega, rfl⟩
        · rw [if_neg e, if_neg e]
          rw [List.length_append] at hi
          exact h.at' i (by simp at hi; omega), fun m hm' => by
        rcases List.mem_append.1 hm' with x | x
        · exact h.good m x
        · have : m = p := by simpa using x
          subst this
          exact ⟨hm.1, hm.2.1, hm.2.2.1⟩⟩
      exact ⟨L', h1, by simp at h2; omega⟩
theorem its_is (s fl : Int) (c f : List Int) : ∃ L, II c L (its s fl c f 4 0 [] []) ∧ L.length ≤ 4 := by
  obtain ⟨L, h1, h2⟩ := its_ii s fl c f 4 0 [] [] ⟨rfl, List.nodup_nil, fun i hi => absurd hi (Nat.not_lt_zero i), fun n hn => by cases hn⟩
  exact ⟨L, h1, by simpa using h2⟩
theorem wares_len (s fl : Int) : (wares s fl).length = if (shopAt s fl).isSome then 3 else 0 := by
  unfold wares
  split <;> rfl
theorem nodup_sub : ∀ (D l : List Nat), l.Nodup → (∀ x ∈ l, x ∈ D) → l.length ≤ D.length
  | [], l, _, h => by
    cases l with
    | nil => exact Nat.le_refl _
    | cons a l => exact absurd (h a List.mem_cons_self) (by simp)
  | d :: D, l, hn, h => by
    have h2 := nodup_sub D (l.erase d) (hn.erase d) fun x hx => by
      have a := h x (List.mem_of_mem_erase hx)
      have b : x ≠ d := fun e => by
        subst e
        exact (hn.not_mem_erase) hx
      rcases List.mem_cons.1 a with e | e
      · exact absurd e b
      · exact e
    rw [List.length_cons]
    by_cases hm : d ∈ l
    · have := List.length_erase_of_mem hm
      omega
    · have := List.erase_of_not_mem hm
      rw [this] at h2
      omega
/-- How many of the first n cells are so. -/
def cnt (p : Nat → Bool) (n : Nat) : Nat := ((List.range n).filter p).length
theorem cnt_succ (p : Nat → Bool) (n : Nat) : cnt p (n + 1) = cnt p n + if p n then 1 else 0 := by
  unfold cnt
  rw [List.range_succ, List.filter_append, List.length_append, List.filter_cons]
  cases p n <;> rfl
theorem cnt_le' (p : Nat → Bool) : ∀ n, cnt p n ≤ n
  | 0 => Nat.le_refl _
  | n + 1 => by rw [cnt_succ]; have := cnt_le' p n; split <;> omega
theorem cnt_le {p : Nat → Bool} {n : Nat} (D : List Nat) (h : ∀ j, j < n → p j = true → j ∈ D) : cnt p n ≤ D.length := by
  unfold cnt
  refine nodup_sub D _ (List.nodup_range.filter p) fun x hx => ?_
  obtain ⟨h1, h2⟩ := List.mem_filter.1 hx
  exact h x (List.mem_range.1 h1) h2
theorem cnt_ge {p : Nat → Bool} {n : Nat} (D : List Nat) (hn : D.Nodup) (h : ∀ j ∈ D, j < n ∧ p j = true) : D.length ≤ cnt p n := by
  unfold cnt
  exact nodup_sub _ D hn fun x hx => List.mem_filter.2 ⟨List.mem_range.2 (h x hx).1, (h x hx).2⟩
end Go.Proofs.Ytbekimnigknapaa.Fl

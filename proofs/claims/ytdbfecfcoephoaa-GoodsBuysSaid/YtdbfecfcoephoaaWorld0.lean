/- Worlds of the laws: a floor, a hero, items each at a place of its own (own work). -/
import Derived.Test.YtdbfecfcoephoaaFloorF
import Derived.Test.YtdbfecfcoephoaaRun
import Derived.Test.YtdbfecfcoephoaaRunB
namespace Go.Proofs.Ytdbfecfcoephoaa.Wd
open Go Go.Proofs.Ytdbfecfcoephoaa.Mx Go.Proofs.Ytdbfecfcoephoaa.Pc Go.Proofs.Ytdbfecfcoephoaa.Run Go.Proofs.Ytdbfecfcoephoaa.Field Go.Proofs.Ytdbfecfcoephoaa.Gen Go.Proofs.Ytdbfecfcoephoaa.GenL Go.Proofs.Ytdbfecfcoephoaa.Fl
set_option linter.unusedVariables false
set_option linter.unusedSimpArgs false
set_option maxHeartbeats 1000000
abbrev eN : EntT := (0, 0, 0, 0, 0, 0, 0, 0, 0, 0, 0)
abbrev iN : ItT := (0, 0, 0, 0)
theorem within7_eq (a n : Int) (h : 0 < n) (hn : n ≤ 1000000000000) : f12 a n = some (within a n, ()) := by
  have := within_b a n h
  unfold f12 within
  simp only [Option.bind_some, bif_dec]
  rw [if_neg (by omega)]
  split
  · rw [wr (by omega)]; rfl
  · rfl
/-- Is an item at a place? -/
def isAt (w a b : Int) (x : ItT) : Bool := x.2.1 == w && (x.2.2.1 == a && x.2.2.2 == b)
/-- The first item at a place; -1: none. -/
def inI (l : List ItT) (w a b : Int) : Int := match (List.range l.length).find? fun i => isAt w a b (l.getD i iN) with | some i => (i : Int) | none => -1
theorem rin_eq (l : List ItT) (hl : l.length ≤ 100000) (w a b : Int) : f26 l w a b = some (inI l w a b, ()) := by
  unfold f26 f26.L1 inI
  refine (it_find (x := (l, w, a, b, 0, ())) (fun i => isAt w a b (l.getD i iN)) l.length (fun i : Nat => (l, w, a, b, (i : Int), ())) (fun i => some ((i : Int), ())) (some (-1, ())) (fun rec i hi => ?_) (by omega) rfl).trans ?_
  rotate_left
  · cases (List.range l.length).find? fun i => isAt w a b (l.getD i iN) <;> rfl
  · dsimp only
    rw [bif_dec]
    by_cases c : i < l.length
    · rw [if_pos c, if_pos (by omega), inR (by omega), wr (x := (i : Int) + 1) (by omega), Int.toNat_natCast]
      unfold isAt
      simp only [cond_true]
      cases (l.getD i (0, 0, 0, 0)).2.1 == w <;> cases (l.getD i (0, 0, 0, 0)).2.2.1 == a <;> cases (l.getD i (0, 0, 0, 0)).2.2.2 == b <;> rfl
    · rw [if_neg c, if_neg (by omega)]
theorem inI_none {l : List ItT} {w a b : Int} : inI l w a b < 0 ↔ ∀ i, i < l.length → isAt w a b (l.getD i iN) = false := by
  unfold inI
  cases h : (List.range l.length).find? fun i => isAt w a b (l.getD i iN) with
  | none =>
    simp only
    refine ⟨fun _ i hi => ?_, fun _ => by decide⟩
    have := List.find?_range_eq_none.1 h i hi
    simpa using this
  | some k =>
    simp only
    obtain ⟨h1, h2, _⟩ := List.find?_range_eq_some.1 h
    refine ⟨fun q => by omega, fun q => ?_⟩
    rw [q k (List.mem_range.1 h2)] at h1
    cases h1
theorem inI_some {l : List ItT} {w a b : Int} (h : ¬ inI l w a b < 0) : ∃ k, k < l.length ∧ inI l w a b = k ∧ isAt w a b (l.getD k iN) = true ∧ ∀ j, j < k → isAt w a b (l.getD j iN) = false := by
  unfold inI at h ⊢
  cases e : (List.range l.length).find? fun i => isAt w a b (l.getD i iN) with
  | none => rw [e] at h; exact absurd (by decide) h
  | some k =>
    obtain ⟨h1, h2, h3⟩ := List.find?_range_eq_some.1 e
    exact ⟨k, List.mem_range.1 h2, rfl, h1, fun j hj => by simpa using h3 j hj⟩
/-- May an item be where it is? -/
def Placed (c : List Int) (x : ItT) : Prop :=
  (x.2.1 = 1 ∧ 0 ≤ x.2.2.1 ∧ x.2.2.1 < 24 ∧ 0 ≤ x.2.2.2 ∧ x.2.2.2 < 16 ∧ c.getD (x.2.2.2 * 24 + x.2.2.1).toNat 0 ≠ 0) ∨
  (x.2.1 = 2 ∧ 0 ≤ x.2.2.1 ∧ x.2.2.1 < 4 ∧ 0 ≤ x.2.2.2 ∧ x.2.2.2 < 4 ∧ x.1 ≠ 4) ∨
  (x.2.1 = 3 ∧ 0 ≤ x.2.2.1 ∧ x.2.2.1 < 4 ∧ ((x.1 = 2 ∧ x.2.2.2 = 0) ∨ (x.1 = 3 ∧ x.2.2.2 = 1))) ∨
  (x.2.1 = 4 ∧ 0 ≤ x.2.2.1 ∧ x.2.2.1 < 3 ∧ x.2.2.2 = 0 ∧ x.1 ≠ 4)
/-- Items, each at a place of its own. -/
structure ItsOk (c : List Int) (l : List ItT) : Prop where
  len : l.length = 40
  kind : ∀ i, i < 40 → l.getD i iN = iN ∨ (1 ≤ (l.getD i iN).1 ∧ (l.getD i iN).1 ≤ 4 ∧ Placed c (l.getD i iN))
  one : ∀ i j, i < 40 → j < 40 → l.getD i iN ≠ iN → (l.getD i iN).2 = (l.getD j iN).2 → i = j
theorem Placed.wh {c : List Int} {x : ItT} (h : Placed c x) : 1 ≤ x.2.1 ∧ x.2.1 ≤ 4 := by unfold Placed at h; omega
theorem ItsOk.none (c : List Int) : ItsOk c (List.replicate 40 iN) := by
  have g : ∀ i, (List.replicate 40 iN).getD i iN = iN := fun i => by
    rw [List.getD_eq_getElem?_getD, List.getElem?_replicate]
    split <;> rfl
  exact ⟨List.length_replicate, fun i _ => .inl (g i), fun i j _ _ h _ => absurd (g i) h⟩
/-- An item is laid at a place where none is. -/
theorem ItsOk.put {c : List Int} {l : List ItT} (h : ItsOk c l) {x : ItT} {n : Nat} (hn : n < 40) (hk : 1 ≤ x.1 ∧ x.1 ≤ 4) (hp : Placed c x) (hf : ∀ i, i < 40 → i ≠ n → (l.getD i iN).2 ≠ x.2) : ItsOk c (l.set n x) := by
  have hl := h.len
  have g : ∀ i, (l.set n x).getD i iN = if n = i then x else l.getD i iN := fun i => by
    rw [getD_set]
    by_cases e : n = i
    · rw [if_pos ⟨e, by omega⟩, if_pos e]
    · rw [if_neg (fun z => e z.1), if_neg e]
  refine ⟨by rw [List.length_set]; exact hl, fun i hi => ?_, fun i j hi hj hne he => ?_⟩
  · rw [g]
    by_cases e : n = i
    · rw [if_pos e]; exact .inr ⟨hk.1, hk.2, hp⟩
    · rw [if_neg e]; exact h.kind i hi
  · rw [g] at hne he
    rw [g] at he
    by_cases e : n = i
    · rw [if_pos e] at he
      by_cases e2 : n = j
      · omega
      · rw [if_neg e2] at he
        exact absurd he.symm (hf j hj (fun z => e2 z.symm))
    · rw [if_neg e] at hne he
      by_cases e2 : n = j
      · rw [if_pos e2] at he
        exact absurd he (hf i hi (fun z => e z.symm))
      · rw [if_neg e2] at he
        exact h.one i j hi hj hne he
theorem ItsOk.drop {c : List Int} {l : List ItT} (h : ItsOk c l) (n : Nat) : ItsOk c (l.set n iN) := by
  have hl := h.len
  by_cases hn : n < 40
  · have g : ∀ i, (l.set n iN).getD i iN = if n = i then iN else l.getD i iN := fun i => by
      rw [getD_set]
      by_cases e : n = i
      · rw [if_pos ⟨e, by omega⟩, if_pos e]
      · rw [if_neg (fun z => e z.1), if_neg e]
    refine ⟨by rw [List.length_set]; exact hl, fun i hi => ?_, fun i j hi hj hne he => ?_⟩
    · rw [g]
      by_cases e : n = i
      · rw [if_pos e]; exact .inl rfl
      · rw [if_neg e]; exact h.kind i hi
    · rw [g] at hne he
      rw [g] at he
      by_cases e : n = i
      · rw [if_pos e] at hne; exact absurd rfl hne
      · rw [if_neg e] at hne he
        by_cases e2 : n = j
        · rw [if_pos e2] at he
          rcases h.kind i hi with q | q
          · exact absurd q hne
          · have := q.2.2.wh
            rw [he] at this
            exact absurd this.1 (by decide)
        · rw [if_neg e2] at he
          exact h.one i j hi hj hne he
  · rw [List.set_eq_of_length_le (by omega)]
    exact h
/-- The cells that can be walked on. -/
def opens (c : List Int) (n : Nat) : List Int := ((List.range n).filter fun i : Nat => walkable (c.getD i 0)).map fun i : Nat => (i : Int)
theorem opens_succ (c : List Int) (n : Nat) : opens c (n + 1) = opens c n ++ if walkable (c.getD n 0) then [(n : Int)] else [] := by
  unfold opens
  rw [List.range_succ, List.filter_append, List.map_append, List.filter_cons]
  cases walkable (c.getD n 0) <;> rfl
theorem opens_mem {c : List Int} {n : Nat} {k : Int} (h : k ∈ opens c n) : 0 ≤ k ∧ k < n ∧ walkable (c.getD k.toNat 0) = true := by
  unfold opens at h
  obtain ⟨i, hi, rfl⟩ := List.mem_map.1 h
  obtain ⟨h1, h2⟩ := List.mem_filter.1 hi
  have := List.mem_range.1 h1
  rw [Int.toNat_natCast]
  exact ⟨by omega, by omega, h2⟩
theorem mem_opens {c : List Int} {n : Nat} {k : Int} (h0 : 0 ≤ k) (hk : k < n) (hw : walkable (c.getD k.toNat 0) = true) : k ∈ opens c n := by
  unfold opens
  exact List.mem_map.2 ⟨k.toNat, List.mem_filter.2 ⟨List.mem_range.2 (by omega), hw⟩, by omega⟩
theorem opens_len (c : List Int) (n : Nat) : (opens c n).length ≤ n := by
  unfold opens
  rw [List.length_map]
  have := List.length_filter_le (fun i : Nat => walkable (c.getD i 0)) (List.range n)
  rw [List.length_range] at this
  exact this
/-- Where the hero is put. -/
noncomputable def heroAt (s fl at' : Int) : Int := if Int.tmod at' 3 = 0 ∧ (shopAt s fl).isSome then ((shopAt s fl).getD 0 : Nat) else (opens (cells s fl) 384).getD (within at' (opens (cells s fl) 384).length).toNat 0
theorem opens_some (s fl : Int) : 1 ≤ (opens (cells s fl) 384).length := by
  have g := upc_gc s fl
  unfold GC at g
  have : upc s fl ∈ opens (cells s fl) 384 := mem_opens g.1 g.2 ((cells_wk s fl _).2 (up_wk s fl))
  cases h : opens (cells s fl) 384 with
  | nil => rw [h] at this; cases this
  | cons _ _ => simp
theorem heroAt_gc (s fl at' : Int) : GC (heroAt s fl at') ∧ Wk (cells s fl) (heroAt s fl at') := by
  unfold heroAt
  split
  · rename_i h
    obtain ⟨i, hi⟩ := Option.isSome_iff_exists.1 h.2
    rw [hi]
    have := shop_is s fl hi
    refine ⟨⟨by simp only [Option.getD_some]; omega, by simp only [Option.getD_some]; omega⟩, ?_⟩
    rw [wk_iff (cells_val s fl _)]
    simp only [Option.getD_some, Int.toNat_natCast]
    rw [(cells_shop s fl i).2 hi]; decide
  · have h1 := opens_some s fl
    have h2 := opens_len (cells s fl) 384
    have b := within_b at' (opens (cells s fl) 384).length (by omega)
    have hm : (opens (cells s fl) 384).getD (within at' (opens (cells s fl) 384).length).toNat 0 ∈ opens (cells s fl) 384 := by
      rw [List.getD_eq_getElem?_getD, List.getElem?_eq_getElem (by omega)]
      exact List.getElem_mem _
    have := opens_mem hm
    exact ⟨⟨this.1, this.2.1⟩, this.2.2⟩
/-- The hero as it comes. -/
noncomputable def heroE (s fl seat at' : Int) : EntT := (1, 0, seat, heroAt s fl at' % 24, heroAt s fl at' / 24, 1 + within at' 20, 20, 5, 1, 0, 0)
noncomputable def entsW (s fl seat at' : Int) : List EntT := (List.replicate 32 eN).set (within at' 32).toNat (heroE s fl seat at')
abbrev WT := Int × Int × Int × Int × Int × Int × Int × Int × List Int × List EntT × List ItT × Unit
def goldOf (seat g j : Int) : Int := if seat = j then g else 0
/-- An item that is wanted, before its kind is set right. -/
def Want (c : List Int) (kd wh a b : Int) : Prop :=
  (wh = 1 ∧ 0 ≤ a ∧ a < 24 ∧ 0 ≤ b ∧ b < 16 ∧ c.getD (b * 24 + a).toNat 0 ≠ 0 ∧ 1 ≤ kd ∧ kd ≤ 4) ∨ (wh = 2 ∧ 0 ≤ a ∧ a < 4 ∧ 0 ≤ b ∧ b < 4 ∧ 1 ≤ kd ∧ kd ≤ 4) ∨ (wh = 3 ∧ 0 ≤ a ∧ a < 4 ∧ ((kd = 2 ∧ b = 0) ∨ (kd = 3 ∧ b = 1))) ∨ (wh = 4 ∧ 0 ≤ a ∧ a < 3 ∧ b = 0 ∧ 1 ≤ kd ∧ kd ≤ 4)
theorem want_placed {c : List Int} {kd wh a b : Int} (h : Want c kd wh a b) {kd' : Int} (e : kd' = if kd = 4 ∧ wh ≠ 1 then 1 else kd) : Placed c (kd', wh, a, b) ∧ 1 ≤ kd' ∧ kd' ≤ 4 := by
  rcases h with ⟨h1, h2, h3, h4, h5, h6, h7, h8⟩ | ⟨h1, h2, h3, h4, h5, h6, h7⟩ | ⟨h1, h2, h3, h4⟩ | ⟨h1, h2, h3, h4, h5, h6⟩
  · rw [if_neg (fun z => z.2 h1)] at e
    subst e
    exact ⟨.inl ⟨h1, h2, h3, h4, h5, h6⟩, h7, h8⟩
  · by_cases q : kd = 4 ∧ wh ≠ 1
    · rw [if_pos q] at e; subst e
      exact ⟨.inr (.inl ⟨h1, h2, h3, h4, h5, (by decide : (1 : Int) ≠ 4)⟩), by decide, by decide⟩
    · have n4 : kd ≠ 4 := fun z => q ⟨z, by omega⟩
      rw [if_neg q] at e; subst e
      exact ⟨.inr (.inl ⟨h1, h2, h3, h4, h5, n4⟩), h6, h7⟩
  · rw [if_neg (fun z => by omega)] at e
    subst e
    exact ⟨.inr (.inr (.inl ⟨h1, h2, h3, h4⟩)), by omega, by omega⟩
  · by_cases q : kd = 4 ∧ wh ≠ 1
    · rw [if_pos q] at e; subst e
      exact ⟨.inr (.inr (.inr ⟨h1, h2, h3, h4, (by decide : (1 : Int) ≠ 4)⟩)), by decide, by decide⟩
    · have n4 : kd ≠ 4 := fun z => q ⟨z, by omega⟩
      rw [if_neg q] at e; subst e
      exact ⟨.inr (.inr (.inr ⟨h1, h2, h3, h4, n4⟩)), h5, h6⟩
theorem walk_ne {c : List Int} {k : Int} (h : walkable (c.getD k.toNat 0) = true) : c.getD k.toNat 0 ≠ 0 := by
  unfold walkable at h
  have := of_decide_eq_true h
  omega
theorem items_w (s fl seat k : Int) (l : List ItT) (hl : l.length ≤ 1000000000000000) (c : List Int) (op : List Int) (hs : 0 ≤ seat ∧ seat < 4) (hk : GC k) (hkw : c.getD k.toNat 0 ≠ 0) (hop : ∀ n ∈ op, 0 ≤ n ∧ n < 384 ∧ c.getD n.toNat 0 ≠ 0) (hop1 : 1 ≤ op.length ∧ op.length ≤ 384)
    (z0 z1 z2 z3 z4 z5 z6 z7 w0 w1 w2 w3 g0 g1 g2 g3 : Int) (es : List EntT) :
    OK (f11.L1 (seat, l, k, 0, z0, z1, z2, z3, z4, z5, z6, z7, w0, w1, w2, w3, g0, g1, g2, g3, op, c, es, List.replicate 40 iN, ())) fun z => ∃ its, z = Sum.inl (z0, z1, z2, z3, z4, z5, z6, z7, w0, w1, w2, w3, g0, g1, g2, g3, c, es, its, ()) ∧ ItsOk c its ∧ (l = [] → its = List.replicate 40 iN) := by
  unfold f11.L1
  refine OK.loop (fun j : Nat × List ItT => (seat, l, k, (j.1 : Int), z0, z1, z2, z3, z4, z5, z6, z7, w0, w1, w2, w3, g0, g1, g2, g3, op, c, es, j.2, ())) (fun j => j.1 ≤ 20 ∧ ItsOk c j.2 ∧ (l = [] → j.2 = List.replicate 40 iN)) (fun j => 20 - j.1) (fun rec j hj ih => ?_) (0, List.replicate 40 iN) rfl ⟨Nat.zero_le _, ItsOk.none c, fun _ => rfl⟩ (by dsimp only; decide)
  obtain ⟨i, its⟩ := j
  obtain ⟨hi, hI, hN⟩ := hj
  dsimp only at hi hI hN ih ⊢
  have hil := hI.len
  have done : OK (some (Sum.inl (β := WT) (z0, z1, z2, z3, z4, z5, z6, z7, w0, w1, w2, w3, g0, g1, g2, g3, c, es, its, ()))) fun z => ∃ its, z = Sum.inl (z0, z1, z2, z3, z4, z5, z6, z7, w0, w1, w2, w3, g0, g1, g2, g3, c, es, its, ()) ∧ ItsOk c its ∧ (l = [] → its = List.replicate 40 iN) := OK.ret ⟨its, rfl, hI, hN⟩
  rw [bif_dec, bif_dec]
  by_cases q1 : (i : Int) < l.length
  · by_cases q2 : (i : Int) < 20
    · rw [if_pos q1, if_pos q2]
      have ir : inRange (i : Int) l.length = true := inR (by omega)
      have fin : ∀ kd wh a b : Int, Want c kd wh a b → ∀ kd', (kd' = if kd = 4 ∧ wh ≠ 1 then 1 else kd) →
          OK (Option.bind (f26 its wh a b) fun y14 =>
            bif decide (y14.1 < 0) then
              bif inRange (Int.tmod (IntKind.wrap .i64 (2 * (i : Int))) 40) its.length then
                rec (seat, l, k, IntKind.wrap .i64 ((i : Int) + 1), z0, z1, z2, z3, z4, z5, z6, z7, w0, w1, w2, w3, g0, g1, g2, g3, op, c, es, its.set (Int.toNat (Int.tmod (IntKind.wrap .i64 (2 * (i : Int))) 40)) (kd', wh, a, b), ())
              else none
            else rec (seat, l, k, IntKind.wrap .i64 ((i : Int) + 1), z0, z1, z2, z3, z4, z5, z6, z7, w0, w1, w2, w3, g0, g1, g2, g3, op, c, es, its, ())) fun z => ∃ its, z = Sum.inl (z0, z1, z2, z3, z4, z5, z6, z7, w0, w1, w2, w3, g0, g1, g2, g3, c, es, its, ()) ∧ ItsOk c its ∧ (l = [] → its = List.replicate 40 iN) := by
        intro kd wh a b hW kd' ekd
        rw [rin_eq its (by omega)]
        simp only [Option.bind_some]
        rw [bif_dec, wr (x := (i : Int) + 1) (by omega), wr (x := 2 * (i : Int)) (by omega), Int.tmod_eq_emod_of_nonneg (by omega)]
        by_cases q3 : inI its wh a b < 0
        · rw [if_pos q3, inR (by omega), cond_true]
          have hP := want_placed hW ekd
          clear hW ekd
          refine ih (i + 1, its.set (2 * (i : Int) % 40).toNat (kd', wh, a, b)) ⟨by dsimp only; omega, hI.put (by omega) hP.2 hP.1 fun j hj _ e => ?_, fun e => ?_⟩ (by dsimp only; omega) _ rfl
          · have := inI_none.1 q3 j (by omega)
            unfold isAt at this
            rw [e] at this
            simp at this
          · subst e
            exact absurd q1 (by simp)
        · rw [if_neg q3]
          exact ih (i + 1, its) ⟨by dsimp only; omega, hI, hN⟩ (by dsimp only; omega) _ rfl
      simp only [ir, cond_true]
      have bk := within_b (l.getD (Int.toNat (i : Int)) (0, 0, 0, 0)).1 4 (by decide)
      have bw := within_b (l.getD (Int.toNat (i : Int)) (0, 0, 0, 0)).2.1 4 (by decide)
      rw [within7_eq _ _ (by decide) (by decide)]
      simp only [Option.bind_some]
      rw [within7_eq _ _ (by decide) (by decide)]
      simp only [Option.bind_some]
      rw [wr (x := 1 + within (l.getD (Int.toNat (i : Int)) (0, 0, 0, 0)).2.1 4) (by omega), wr (x := 1 + within (l.getD (Int.toNat (i : Int)) (0, 0, 0, 0)).1 4) (by omega)]
      have bK : 1 ≤ 1 + within (l.getD (Int.toNat (i : Int)) (0, 0, 0, 0)).1 4 ∧ 1 + within (l.getD (Int.toNat (i : Int)) (0, 0, 0, 0)).1 4 ≤ 4 := by omega
      have bV : 1 ≤ 1 + within (l.getD (Int.toNat (i : Int)) (0, 0, 0, 0)).2.1 4 ∧ 1 + within (l.getD (Int.toNat (i : Int)) (0, 0, 0, 0)).2.1 4 ≤ 4 := by omega
      generalize 1 + within (l.getD (Int.toNat (i : Int)) (0, 0, 0, 0)).1 4 = K at *
      generalize hWh : 1 + within (l.getD (Int.toNat (i : Int)) (0, 0, 0, 0)).2.1 4 = V at *
      refine OK.callR (R := fun z => ∃ kd a b, z = Sum.inl (seat, l, k, (i : Int), z0, z1, z2, z3, z4, z5, z6, z7, w0, w1, w2, w3, g0, g1, g2, g3, op, kd, V, a, b, c, es, its, ()) ∧ Want c kd V a b) ?_ ?_
      · refine OK.bif (fun h1 => ?_) (fun h1 => ?_)
        · have eV : V = 1 := beq_iff_eq.1 h1
          rw [within7_eq _ _ (by omega) (by omega)]
          simp only [Option.bind_some]
          have bo := within_b (l.getD (Int.toNat (i : Int)) (0, 0, 0, 0)).2.2.1 op.length (by omega)
          generalize within (l.getD (Int.toNat (i : Int)) (0, 0, 0, 0)).2.2.1 op.length = u at *
          have hm : op.getD u.toNat 0 ∈ op := by
            rw [List.getD_eq_getElem?_getD, List.getElem?_eq_getElem (by omega)]
            exact List.getElem_mem _
          have ho := hop _ hm
          rw [inR (by omega), cond_true]
          have cell : ∀ m : Int, 0 ≤ m → m < 384 → c.getD m.toNat 0 ≠ 0 → Want c K V (Int.tmod m 24) (IntKind.wrap .i64 (Int.tdiv m 24)) := fun m m0 m1 m2 => by
            rw [Int.tmod_eq_emod_of_nonneg m0, Int.tdiv_eq_ediv_of_nonneg m0, wr (by omega)]
            refine .inl ⟨eV, by omega, by omega, by omega, by omega, ?_, by omega, by omega⟩
            rw [show m / 24 * 24 + m % 24 = m by omega]
            exact m2
          refine OK.callR (R := fun z => ∃ m, z = Sum.inl (seat, l, k, (i : Int), m, z0, z1, z2, z3, z4, z5, z6, z7, w0, w1, w2, w3, g0, g1, g2, g3, op, K, V, 0, 0, c, es, its, ()) ∧ 0 ≤ m ∧ m < 384 ∧ c.getD m.toNat 0 ≠ 0) ?_ ?_
          · refine OK.bif (fun _ => ?_) (fun _ => ?_)
            · exact OK.ret ⟨k, rfl, hk.1, hk.2, hkw⟩
            · exact OK.ret ⟨_, rfl, ho⟩
          · rintro z ⟨m, rfl, m0, m1, m2⟩
            simp only [Sum.elim_inl]
            exact OK.ret ⟨_, _, _, rfl, cell m m0 m1 m2⟩
        · refine OK.bif (fun h2 => ?_) (fun h2 => ?_)
          · have eV : V = 2 := beq_iff_eq.1 h2
            have ba := within_b (l.getD (Int.toNat (i : Int)) (0, 0, 0, 0)).2.2.1 4 (by decide)
            have bb := within_b (l.getD (Int.toNat (i : Int)) (0, 0, 0, 0)).2.2.2 4 (by decide)
            rw [within7_eq _ _ (by decide) (by decide)]
            simp only [Option.bind_some]
            rw [within7_eq _ _ (by decide) (by decide)]
            simp only [Option.bind_some]
            refine OK.bif (fun _ => ?_) (fun _ => ?_)
            · exact OK.ret ⟨_, _, _, rfl, .inr (.inl ⟨eV, hs.1, hs.2, bb.2.2.1, bb.2.2.2, by omega, by omega⟩)⟩
            · exact OK.ret ⟨_, _, _, rfl, .inr (.inl ⟨eV, ba.2.2.1, ba.2.2.2, bb.2.2.1, bb.2.2.2, by omega, by omega⟩)⟩
          · refine OK.bif (fun h3 => ?_) (fun h3 => ?_)
            · have eV : V = 3 := beq_iff_eq.1 h3
              have ba := within_b (l.getD (Int.toNat (i : Int)) (0, 0, 0, 0)).1 2 (by decide)
              rw [within7_eq _ _ (by decide) (by decide)]
              simp only [Option.bind_some]
              rw [wr (x := 2 + within (l.getD (Int.toNat (i : Int)) (0, 0, 0, 0)).1 2) (by omega), wr (by omega)]
              exact OK.ret ⟨_, _, _, rfl, .inr (.inr (.inl ⟨eV, hs.1, hs.2, by omega⟩))⟩
            · have eV : V = 4 := by
                have n1 := beq_eq_false_iff_ne.1 h1
                have n2 := beq_eq_false_iff_ne.1 h2
                have n3 := beq_eq_false_iff_ne.1 h3
                omega
              have ba := within_b (l.getD (Int.toNat (i : Int)) (0, 0, 0, 0)).2.2.1 3 (by decide)
              rw [beq_iff_eq.2 eV, cond_true, within7_eq _ _ (by decide) (by decide)]
              simp only [Option.bind_some]
              exact OK.ret ⟨_, _, _, rfl, .inr (.inr (.inr ⟨eV, ba.2.2.1, ba.2.2.2, rfl, by omega, by omega⟩))⟩
      · rintro z ⟨kd, a, b, rfl, hW⟩
        simp only [Sum.elim_inl]
        refine OK.callR (R := fun z => ∃ kd', z = Sum.inl (seat, l, k, (i : Int), z0, z1, z2, z3, z4, z5, z6, z7, w0, w1, w2, w3, g0, g1, g2, g3, op, kd', V, a, b, c, es, its, ()) ∧ kd' = if kd = 4 ∧ V ≠ 1 then 1 else kd) ?_ ?_
        · refine OK.bif (fun h1 => ?_) (fun h1 => ?_)
          · have e1 := beq_iff_eq.1 h1
            refine OK.bif (fun h2 => ?_) (fun h2 => ?_)
            · exact OK.ret ⟨_, rfl, by rw [if_pos ⟨e1, bne_iff_ne.1 h2⟩]⟩
            · refine OK.ret ⟨_, rfl, ?_⟩
              rw [if_neg]
              intro z
              have := bne_iff_ne.2 z.2
              rw [h2] at this
              cases this
          · exact OK.ret ⟨_, rfl, by rw [if_neg (fun z => beq_eq_false_iff_ne.1 h1 z.1)]⟩
        · rintro z ⟨kd', rfl, hkd⟩
          simp only [Sum.elim_inl]
          exact fin kd V a b hW kd' hkd
    · rw [if_pos q1, if_neg q2]
      exact done
  · rw [if_neg q1]
    exact done
end Go.Proofs.Ytdbfecfcoephoaa.Wd

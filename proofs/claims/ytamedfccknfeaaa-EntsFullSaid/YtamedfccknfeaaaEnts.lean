/- What the functions of ents compute (own work). -/
import Derived.Test.YtamedfccknfeaaaRun
import Derived.Test.YtamedfccknfeaaaPc
namespace Go.Proofs.Ytamedfccknfeaaa.Ents
open Go Go.Proofs.Ytamedfccknfeaaa.Mx Go.Proofs.Ytamedfccknfeaaa.Pc Go.Proofs.Ytamedfccknfeaaa.Run
set_option autoImplicit false
set_option linter.unusedVariables false
set_option linter.unusedSimpArgs false
/-- A row: its kind, its count, seat, place, hit points, most, arm, guard, poison, stun. -/
abbrev E := Int × Int × Int × Int × Int × Int × Int × Int × Int × Int × Int
def e0 : E := (0, 0, 0, 0, 0, 0, 0, 0, 0, 0, 0)
theorem fold0 : ((0, 0, 0, 0, 0, 0, 0, 0, 0, 0, 0) : E) = e0 := rfl
def stats (k : Int) : E :=
  if k = 1 then (1, 0, 0, 0, 0, 20, 20, 5, 1, 0, 0) else if k = 2 then (2, 0, 0, 0, 0, 4, 4, 2, 0, 0, 0) else if k = 3 then (3, 0, 0, 0, 0, 9, 9, 4, 1, 0, 0) else if k = 4 then (4, 0, 0, 0, 0, 6, 6, 3, 0, 0, 0) else e0
theorem stats_eq (k : Int) : f22 k = some ((stats k).1, (stats k).2.1, (stats k).2.2.1, (stats k).2.2.2.1, (stats k).2.2.2.2.1, (stats k).2.2.2.2.2.1, (stats k).2.2.2.2.2.2.1, (stats k).2.2.2.2.2.2.2.1, (stats k).2.2.2.2.2.2.2.2.1, (stats k).2.2.2.2.2.2.2.2.2.1, (stats k).2.2.2.2.2.2.2.2.2.2, ()) := by
  unfold f22 stats
  simp only [ite_bif, beq_iff_eq]
  by_cases h1 : k = 1
  · simp [h1]
  by_cases h2 : k = 2
  · simp [h2]
  by_cases h3 : k = 3
  · simp [h3]
  by_cases h4 : k = 4
  · simp [h4]
  · simp [h1, h2, h3, h4, e0]
/-- How many rows are looked at. -/
def most (l : List E) : Nat := min l.length 32
theorem rows_eq (l : List E) : f36 l = some (l.take 32, ()) := by
  unfold f36
  rw [minI_eq, bif_dec, if_pos (by omega)]
  rcases Nat.le_total l.length 32 with h | h
  · rw [show (min (l.length : Int) 32).toNat = l.length by omega]
    simp [List.take_of_length_le h]
  · rw [show (min (l.length : Int) 32).toNat = 32 by omega]
    simp
/-- The first row of which p says yes. -/
def ix (p : Nat → E → Bool) (l : List E) : Int := match (List.range (most l)).find? fun i => p i (l.getD i e0) with | some i => (i : Int) | none => -1
theorem take_getD (l : List E) (i : Nat) (h : i < 32) : (l.take 32).getD i e0 = l.getD i e0 := by
  simp [List.getD_eq_getElem?_getD, List.getElem?_take, h]
theorem ix_some {p : Nat → E → Bool} {l : List E} {i : Nat} (h : i < most l) (hp : p i (l.getD i e0) = true) (hn : ∀ j, j < i → p j (l.getD j e0) = false) : ix p l = i := by
  have : (List.range (most l)).find? (fun i => p i (l.getD i e0)) = some i := by
    rw [List.find?_range_eq_some]
    exact ⟨hp, List.mem_range.2 h, fun j hj => by rw [hn j hj]; rfl⟩
  unfold ix
  rw [this]
theorem ix_none {p : Nat → E → Bool} {l : List E} (hn : ∀ j, j < most l → p j (l.getD j e0) = false) : ix p l = -1 := by
  have : (List.range (most l)).find? (fun i => p i (l.getD i e0)) = none := by
    rw [List.find?_range_eq_none]
    intro j hj
    simp only [hn j hj, Bool.not_false]
  unfold ix
  rw [this]
/-- What a search tells. -/
theorem ix_spec (p : Nat → E → Bool) (l : List E) : (∃ i : Nat, ix p l = i ∧ i < most l ∧ p i (l.getD i e0) = true ∧ ∀ j, j < i → p j (l.getD j e0) = false) ∨ (ix p l = -1 ∧ ∀ j, j < most l → p j (l.getD j e0) = false) := by
  cases h : (List.range (most l)).find? (fun i => p i (l.getD i e0)) with
  | some i =>
    rw [List.find?_range_eq_some] at h
    exact .inl ⟨i, ix_some (List.mem_range.1 h.2.1) h.1 (fun j hj => by simpa using h.2.2 j hj), List.mem_range.1 h.2.1, h.1, fun j hj => by simpa using h.2.2 j hj⟩
  | none =>
    rw [List.find?_range_eq_none] at h
    exact .inr ⟨ix_none fun j hj => by simpa using h j hj, fun j hj => by simpa using h j hj⟩
/-- Is a row free? -/
def free (_ : Nat) (e : E) : Bool := e.1 == 0
theorem findFree_eq (l : List E) : f33 l = some (ix free l, ()) := by
  unfold f33
  rw [rows_eq]
  simp only [Option.bind_some]
  have hn : (l.take 32).length = most l := by rw [List.length_take, most, Nat.min_comm]
  refine (it_find (fun i => free i (l.getD i e0)) (most l) (fun i => (l.take 32, ((l.take 32).length : Int), (i : Int), ())) (fun i => some ((i : Int), ())) (some (-1, ())) (fun rec i hi => ?_) (by unfold most; omega) rfl).trans ?_
  · simp only [hn, bif_dec, Int.toNat_natCast]
    by_cases c : i < most l
    · rw [if_pos (by omega), if_pos c, inR (by omega), cond_true, fold0, take_getD _ _ (by unfold most at c; omega)]
      unfold f34
      rw [wr (by unfold most at c; omega)]
      simp [ite_bif, free]
    · rw [if_neg (by omega), if_neg c]
  · unfold ix
    cases (List.range (most l)).find? (fun i => free i (l.getD i e0)) <;> rfl
/-- Is it this number's row? -/
def isId (id : Int) (i : Nat) (e : E) : Bool := e.1 != 0 && (i : Int) + 32 * e.2.1 == id
def gens (l : List E) : Prop := ∀ i, i < l.length → 0 ≤ (l.getD i e0).2.1 ∧ (l.getD i e0).2.1 < 1000000
theorem findId_eq (l : List E) (id : Int) (hg : gens l) : f33_1 l id = some (ix (isId id) l, id, ()) := by
  unfold f33_1
  rw [rows_eq]
  simp only [Option.bind_some]
  have hn : (l.take 32).length = most l := by rw [List.length_take, most, Nat.min_comm]
  refine (it_find (fun i => isId id i (l.getD i e0)) (most l) (fun i => (l.take 32, ((l.take 32).length : Int), (i : Int), id, ())) (fun i => some ((i : Int), id, ())) (some (-1, id, ())) (fun rec i hi => ?_) (by unfold most; omega) rfl).trans ?_
  · simp only [hn, bif_dec, Int.toNat_natCast]
    by_cases c : i < most l
    · have hi : i < l.length := by unfold most at c; omega
      have := hg i hi
      rw [if_pos (by omega), if_pos c, inR (by omega), cond_true, fold0, take_getD _ _ (by unfold most at c; omega)]
      unfold f37
      unfold most at c
      simp (disch := omega) only [wr, Int.toNat_natCast]
      generalize l.getD i e0 = e at *
      by_cases h : e.1 = 0
      · simp [ite_bif, isId, h]
      · simp [ite_bif, isId, h]
    · rw [if_neg (by omega), if_neg c]
  · unfold ix
    cases (List.range (most l)).find? (fun i => isId id i (l.getD i e0)) <;> rfl
theorem of_eq (l : List E) (id : Int) (hg : gens l) : f24 l id = some (ix (isId id) l, ()) := by
  unfold f24
  rw [findId_eq l id hg]
  rfl
theorem id_eq (l : List E) (row : Int) (hg : gens l) : f25 l row = some (if row < 0 ∨ row ≥ most l ∨ (l.getD row.toNat e0).1 = 0 then -1 else row + 32 * (l.getD row.toNat e0).2.1, ()) := by
  unfold f25
  rw [rows_eq]
  have hn : (l.take 32).length = most l := by rw [List.length_take, most, Nat.min_comm]
  simp only [Option.bind_some, bif_dec, hn]
  by_cases c1 : row < 0
  · simp [c1]
  by_cases c2 : row ≥ most l
  · simp [c2]
  have : row < l.length := by unfold most at c2; omega
  have h32 : row < 32 := by unfold most at c2; omega
  have := hg row.toNat (by omega)
  rw [if_neg c1, if_neg c2, inR (by omega), fold0]
  simp (disch := omega) only [wr, cond_true]
  generalize l.getD row.toNat e0 = e at *
  by_cases c3 : e.1 = 0
  · simp [c3]
  · have : (e.1 == 0) = false := by simpa using c3
    rw [this, cond_false, if_neg (by omega)]
/-- A free row's count turned on. -/
def spawned (l : List E) (e : E) (i : Nat) : List E := l.set i (e.1, ((l.getD i e0).2.1 + 1) % 256, e.2.2)
theorem clone_ents (l : List E) (h : l.length ≤ 1000000) : f35 l = some (l, ()) := by
  unfold f35 cloneF
  rw [decide_eq_true (by simp [limit]; omega)]
  rfl
theorem spawn_eq (l : List E) (e : E) (hl : l.length ≤ 1000000) (hg : gens l) :
    f21 l e.1 e.2.1 e.2.2.1 e.2.2.2.1 e.2.2.2.2.1 e.2.2.2.2.2.1 e.2.2.2.2.2.2.1 e.2.2.2.2.2.2.2.1 e.2.2.2.2.2.2.2.2.1 e.2.2.2.2.2.2.2.2.2.1 e.2.2.2.2.2.2.2.2.2.2 =
      some (if e.1 < 1 ∨ e.1 > 4 then (0, 3, [], ()) else if ix free l < 0 then (0, 5, [], ()) else (ix free l, 0, spawned l e (ix free l).toNat, ())) := by
  unfold f21
  simp only [bif_dec]
  by_cases c1 : e.1 < 1
  · simp [c1]
  by_cases c2 : e.1 > 4
  · simp [c2]
  rw [if_neg c1, if_neg c2, if_neg (by omega), findFree_eq]
  simp only [Option.bind_some]
  rcases ix_spec free l with ⟨i, h1, h2, _⟩ | ⟨h1, _⟩
  · have hi : i < l.length := by unfold most at h2; omega
    have := hg i hi
    rw [h1, if_neg (by omega), if_neg (by omega), clone_ents _ hl]
    simp only [Option.bind_some]
    rw [inR (by omega), cond_true, cond_true, Int.toNat_natCast, fold0]
    rw [wr (x := (l.getD i e0).2.1 + 1) (by omega)]
    rw [Int.tmod_eq_emod_of_nonneg (by omega : (0 : Int) ≤ (l.getD i e0).2.1 + 1), wr (by omega), Int.tmod_eq_emod_of_nonneg (by omega : (0 : Int) ≤ ((l.getD i e0).2.1 + 1) % 256 + 256)]
    have : (((l.getD i e0).2.1 + 1) % 256 + 256) % 256 = ((l.getD i e0).2.1 + 1) % 256 := by omega
    rw [this]
    rfl
  · rw [h1, if_pos (by omega), if_pos (by omega)]
def freed (l : List E) (i : Nat) : List E := l.set i (0, (l.getD i e0).2.1, 0, 0, 0, 0, 0, 0, 0, 0, 0)
theorem free_eq (l : List E) (row : Int) (hl : l.length ≤ 1000000) : f23 l row = some (if 0 ≤ row ∧ row < most l then freed l row.toNat else l, ()) := by
  unfold f23
  rw [clone_ents _ hl, rows_eq]
  have hn : (l.take 32).length = most l := by rw [List.length_take, most, Nat.min_comm]
  simp only [Option.bind_some, bif_dec, hn]
  by_cases c1 : row ≥ 0
  · by_cases c2 : row < most l
    · have : row < l.length := by unfold most at c2; omega
      rw [if_pos c1, if_pos c2, if_pos ⟨c1, c2⟩, inR (by omega)]
      rfl
    · rw [if_pos c1, if_neg c2, if_neg (by omega)]
      rfl
  · rw [if_neg c1, if_neg (by omega)]
    rfl
theorem spawn_at {l : List E} {e : E} {i : Nat} (hl : l.length ≤ 1000000) (hg : gens l) (h1 : 1 ≤ e.1) (h4 : e.1 ≤ 4) (hi : i < most l) (hf : (l.getD i e0).1 = 0) (hn : ∀ j, j < i → (l.getD j e0).1 ≠ 0) :
    f21 l e.1 e.2.1 e.2.2.1 e.2.2.2.1 e.2.2.2.2.1 e.2.2.2.2.2.1 e.2.2.2.2.2.2.1 e.2.2.2.2.2.2.2.1 e.2.2.2.2.2.2.2.2.1 e.2.2.2.2.2.2.2.2.2.1 e.2.2.2.2.2.2.2.2.2.2 = some ((i : Int), 0, spawned l e i, ()) := by
  have : ix free l = i := ix_some hi (by simpa [free] using hf) fun j hj => by simpa [free] using hn j hj
  rw [spawn_eq l e hl hg, this, if_neg (by omega), if_neg (by omega), Int.toNat_natCast]
theorem spawn_full {l : List E} {e : E} (hl : l.length ≤ 1000000) (hg : gens l) (h1 : 1 ≤ e.1) (h4 : e.1 ≤ 4) (hn : ∀ j, j < most l → (l.getD j e0).1 ≠ 0) :
    f21 l e.1 e.2.1 e.2.2.1 e.2.2.2.1 e.2.2.2.2.1 e.2.2.2.2.2.1 e.2.2.2.2.2.2.1 e.2.2.2.2.2.2.2.1 e.2.2.2.2.2.2.2.2.1 e.2.2.2.2.2.2.2.2.2.1 e.2.2.2.2.2.2.2.2.2.2 = some (0, 5, [], ()) := by
  have : ix free l = -1 := ix_none fun j hj => by simpa [free] using hn j hj
  rw [spawn_eq l e hl hg, this, if_neg (by omega), if_pos (by omega)]
theorem gens_set {l : List E} {i : Nat} {e : E} (hg : gens l) (h : 0 ≤ e.2.1 ∧ e.2.1 < 1000000) : gens (l.set i e) := fun j hj => by
  rw [getD_set]
  split
  · exact h
  · exact hg j (by simpa using hj)
theorem gens_spawned {l : List E} {i : Nat} {e : E} (hg : gens l) : gens (spawned l e i) := gens_set hg (by dsimp only; omega)
theorem gens_freed {l : List E} {i : Nat} (hi : i < l.length) (hg : gens l) : gens (freed l i) := gens_set hg (hg i hi)
theorem stats_kind {k : Int} (h1 : 1 ≤ k) (h4 : k ≤ 4) : (stats k).1 = k := by
  unfold stats
  by_cases k1 : k = 1
  · simp [k1]
  by_cases k2 : k = 2
  · simp [k2]
  by_cases k3 : k = 3
  · simp [k3]
  · simp [show k = 4 by omega]
/-- All rows free. -/
def empty32 : List E := List.replicate 32 e0
theorem empty32_get (i : Nat) : empty32.getD i e0 = e0 := by
  simp only [empty32, List.getD_eq_getElem?_getD, List.getElem?_replicate]
  split <;> rfl
theorem gens_empty32 : gens empty32 := fun i _ => by rw [empty32_get]; decide
end Go.Proofs.Ytamedfccknfeaaa.Ents

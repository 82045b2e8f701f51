/- A floor in plain words: what its cells are (own work). -/
import Derived.Test.YtdbfecfcoephoaaFloor0
namespace Go.Proofs.Ytdbfecfcoephoaa.Fl
open Go Go.Proofs.Ytdbfecfcoephoaa.Mx Go.Proofs.Ytdbfecfcoephoaa.Pc Go.Proofs.Ytdbfecfcoephoaa.Run Go.Proofs.Ytdbfecfcoephoaa.Field Go.Proofs.Ytdbfecfcoephoaa.Gen Go.Proofs.Ytdbfecfcoephoaa.GenL
set_option linter.unusedVariables false
set_option linter.unusedSimpArgs false
/-- Within the outer walls. -/
def Inn (n : Nat) : Prop := 1 ≤ n % 24 ∧ n % 24 ≤ 22 ∧ 1 ≤ n / 24 ∧ n / 24 ≤ 14
/-- Cells while they are dug: wall, floor, doors; the doors are among D. -/
structure HI (c : List Int) (D : List Nat) : Prop where
  len : c.length = 384
  val : ∀ n, 0 ≤ c.getD n 0 ∧ c.getD n 0 ≤ 2
  inn : ∀ n, c.getD n 0 ≠ 0 → Inn n
  door : ∀ n, c.getD n 0 = 2 → n ∈ D
theorem HI.blank : HI (List.replicate 384 0) [] := by
  have gd : ∀ i, (List.replicate 384 (0 : Int)).getD i 0 = 0 := fun i => by
    rw [List.getD_eq_getElem?_getD, List.getElem?_replicate]
    split <;> rfl
  exact ⟨List.length_replicate, fun n => by rw [gd]; decide, fun n h => absurd (gd n) h, fun n h => by rw [gd] at h; cases h⟩
theorem getD_out {c : List Int} (h : c.length = 384) {n : Nat} (hn : ¬ n < 384) : c.getD n 0 = 0 := by
  rw [List.getD_eq_getElem?_getD, List.getElem?_eq_none (by omega)]; rfl
theorem carve_get' (c : List Int) (hc : c.length = 384) (x y w h : Int) (n : Nat) (hyh : y + h ≤ 16) : (carve c x y w h).getD n 0 = if inRect x y w h n then 1 else c.getD n 0 := by
  by_cases hn : n < 384
  · exact carve_get c x y w h n hn
  · rw [getD_out (carve_len c x y w h) hn, getD_out hc hn]
    have : inRect x y w h n = false := by unfold inRect; simp only [decide_eq_false_iff_not]; omega
    rw [this]; rfl
theorem HI.carve {c : List Int} {D : List Nat} (h : HI c D) {x y w h' : Int} (hx : 1 ≤ x) (hw : x + w ≤ 23) (hy : 1 ≤ y) (hh : y + h' ≤ 15) : HI (carve c x y w h') D := by
  have g := fun n => carve_get' c h.len x y w h' n (by omega)
  refine ⟨carve_len .., fun n => ?_, fun n hn => ?_, fun n hn => ?_⟩
  · rw [g]; split
    · decide
    · exact h.val n
  · rw [g] at hn
    cases e : inRect x y w h' n with
    | true =>
      unfold inRect at e
      have := of_decide_eq_true e
      unfold Inn
      omega
    | false =>
      rw [e] at hn
      exact h.inn n hn
  · rw [g] at hn
    cases e : inRect x y w h' n with
    | true => rw [e] at hn; simp at hn
    | false =>
      rw [e] at hn
      exact h.door n hn
theorem dg_hi {c : List Int} {D : List Nat} (h : HI c D) {x y : Int} (hx : 1 ≤ x ∧ x ≤ 22) (hy : 1 ≤ y ∧ y ≤ 14) (d : Bool) :
    ∃ D', HI (dg x y d c).2 D' ∧ D'.length + (if (dg x y d c).1 then 0 else 1) ≤ D.length + (if d then 0 else 1) := by
  unfold dg
  by_cases e : c.getD (y * 24 + x).toNat 0 ≠ 0
  · rw [if_pos e]
    exact ⟨D, h, Nat.le_refl _⟩
  · rw [if_neg e]
    have hl := h.len
    have inn : Inn (y * 24 + x).toNat := by unfold Inn; omega
    cases d with
    | true =>
      refine ⟨D, ⟨by rw [List.length_set]; exact hl, fun n => ?_, fun n hn => ?_, fun n hn => ?_⟩, Nat.le_refl _⟩
      · simp only [getD_set]
        split
        · simp
        · exact h.val n
      · simp only [getD_set] at hn
        split at hn
        · rename_i q; rw [← q.1]; exact inn
        · exact h.inn n hn
      · simp only [getD_set] at hn
        split at hn
        · simp at hn
        · exact h.door n hn
    | false =>
      refine ⟨(y * 24 + x).toNat :: D, ⟨by rw [List.length_set]; exact hl, fun n => ?_, fun n hn => ?_, fun n hn => ?_⟩, by simp⟩
      · simp only [getD_set]
        split
        · simp
        · exact h.val n
      · simp only [getD_set] at hn
        split at hn
        · rename_i q; rw [← q.1]; exact inn
        · exact h.inn n hn
      · simp only [getD_set] at hn
        split at hn
        · rename_i q; rw [← q.1]; exact List.mem_cons_self
        · exact List.mem_cons_of_mem _ (h.door n hn)
theorem hall_hi : ∀ (n : Nat) {c : List Int} {D : List Nat} {x y X Y : Int} {first d : Bool}, HI c D → (1 ≤ x ∧ x ≤ 22) → (1 ≤ y ∧ y ≤ 14) → (1 ≤ X ∧ X ≤ 22) → (1 ≤ Y ∧ Y ≤ 14) →
    ∃ D', HI (hall n x y X Y first d c) D' ∧ D'.length ≤ D.length + (if d then 0 else 1)
  | 0, c, D, x, y, X, Y, first, d, h, hx, hy, hX, hY => ⟨D, h, by omega⟩
  | n + 1, c, D, x, y, X, Y, first, d, h, hx, hy, hX, hY => by
    unfold hall
    by_cases e : x = X ∧ y = Y
    · rw [if_pos e]
      exact ⟨D, h, by omega⟩
    · rw [if_neg e]
      obtain ⟨g1, g2⟩ := stp_in first e hx hX hy hY
      obtain ⟨D1, h1, l1⟩ := dg_hi h g1 g2 d
      obtain ⟨D2, h2, l2⟩ := hall_hi n (first := first) (d := (dg (stp x y X Y first).1 (stp x y X Y first).2 d c).1) h1 g1 g2 hX hY
      exact ⟨D2, h2, by omega⟩
/-- What was no wall is none. -/
def Keep (c c' : List Int) : Prop := ∀ n, c.getD n 0 ≠ 0 → c'.getD n 0 ≠ 0
theorem Keep.refl (c : List Int) : Keep c c := fun _ h => h
theorem Keep.trans {a b c : List Int} (h : Keep a b) (h' : Keep b c) : Keep a c := fun n x => h' n (h n x)
theorem keep_set (c : List Int) (i : Nat) (v : Int) (hv : v ≠ 0) : Keep c (c.set i v) := fun n h => by
  rw [getD_set]
  split
  · exact hv
  · exact h
theorem dg_keep (x y : Int) (d : Bool) (c : List Int) : Keep c (dg x y d c).2 := by
  unfold dg
  split
  · exact Keep.refl c
  · exact keep_set c _ _ (by split <;> decide)
theorem hall_keep : ∀ (n : Nat) (c : List Int) (x y X Y : Int) (first d : Bool), Keep c (hall n x y X Y first d c)
  | 0, c, x, y, X, Y, first, d => Keep.refl c
  | n + 1, c, x, y, X, Y, first, d => by
    unfold hall
    split
    · exact Keep.refl c
    · exact (dg_keep _ _ d c).trans (hall_keep n _ _ _ _ _ _ _)
theorem carve_keep (c : List Int) (hc : c.length = 384) (x y w h : Int) (hyh : y + h ≤ 16) : Keep c (carve c x y w h) := fun n hn => by
  rw [carve_get' c hc x y w h n hyh]
  split
  · decide
  · exact hn
section
variable (s fl : Int)
theorem roomOf_hi (i : Int) {c : List Int} {D : List Nat} (h : HI c D) : HI (roomOf s fl i c) D := by
  have b := room_b s fl i
  exact h.carve (by omega) (by omega) (by omega) (by omega)
theorem rooms_hi' : ∀ n : Nat, HI ((List.range n).foldl (fun c (i : Nat) => roomOf s fl i c) (List.replicate 384 0)) []
  | 0 => HI.blank
  | n + 1 => by
    rw [List.range_succ, List.foldl_append]
    exact roomOf_hi s fl n (rooms_hi' n)
theorem rooms_hi : HI (rooms s fl) [] := rooms_hi' s fl 6
theorem halls_hi : ∀ n : Nat, ∃ D, HI (halls s fl n) D ∧ D.length ≤ n
  | 0 => ⟨[], rooms_hi s fl, Nat.le_refl _⟩
  | n + 1 => by
    obtain ⟨D, h, hl⟩ := halls_hi n
    have e : halls s fl (n + 1) = hallTo s fl ((n : Int) + 1) (halls s fl n) := by unfold halls; rw [List.range_succ, List.foldl_append]; rfl
    have b1 := mid_b s fl ((n : Int) + 1 - 1)
    have b2 := mid_b s fl ((n : Int) + 1)
    obtain ⟨D1, h1, l1⟩ := dg_hi h (x := mx s fl ((n : Int) + 1 - 1)) (y := my s fl ((n : Int) + 1 - 1)) (by omega) (by omega) false
    obtain ⟨D2, h2, l2⟩ := hall_hi (gap (mx s fl ((n : Int) + 1 - 1)) (my s fl ((n : Int) + 1 - 1)) (mx s fl ((n : Int) + 1)) (my s fl ((n : Int) + 1))) (first := dv s fl ((n : Int) + 1) 4 2 == 0) (d := (dg (mx s fl ((n : Int) + 1 - 1)) (my s fl ((n : Int) + 1 - 1)) false (halls s fl n)).1) h1 (X := mx s fl ((n : Int) + 1)) (Y := my s fl ((n : Int) + 1)) (x := mx s fl ((n : Int) + 1 - 1)) (y := my s fl ((n : Int) + 1 - 1)) (by omega) (by omega) (by omega) (by omega)
    rw [e]
    refine ⟨D2, h2, ?_⟩
    simp only [Bool.false_eq_true, if_false] at l1
    omega
theorem halls_keep : ∀ n : Nat, Keep (rooms s fl) (halls s fl n)
  | 0 => Keep.refl _
  | n + 1 => by
    have e : halls s fl (n + 1) = hallTo s fl ((n : Int) + 1) (halls s fl n) := by unfold halls; rw [List.range_succ, List.foldl_append]; rfl
    rw [e]
    exact (halls_keep n).trans ((dg_keep _ _ _ _).trans (hall_keep _ _ _ _ _ _ _ _))
theorem rooms_first' : ∀ n : Nat, 1 ≤ n → ∀ k : Nat, inRect (rx' s fl 0) (ry' s fl 0) (rw' s fl 0) (rh' s fl 0) k = true → ((List.range n).foldl (fun c (i : Nat) => roomOf s fl i c) (List.replicate 384 0)).getD k 0 ≠ 0
  | 0, h, _, _ => absurd h (by decide)
  | n + 1, _, k, hk => by
    rw [List.range_succ, List.foldl_append]
    have b := room_b s fl n
    have hl := (rooms_hi' s fl n).len
    show (carve ((List.range n).foldl (fun c (i : Nat) => roomOf s fl i c) (List.replicate 384 0)) (rx' s fl n) (ry' s fl n) (rw' s fl n) (rh' s fl n)).getD k 0 ≠ 0
    rw [carve_get' _ hl _ _ _ _ _ (by omega)]
    by_cases e : n = 0
    · subst e
      have hk' : inRect (rx' s fl ((0 : Nat) : Int)) (ry' s fl ((0 : Nat) : Int)) (rw' s fl ((0 : Nat) : Int)) (rh' s fl ((0 : Nat) : Int)) k = true := hk
      rw [if_pos hk']; decide
    · split
      · decide
      · exact rooms_first' n (by omega) k hk
/-- The first room's cells are no walls. -/
theorem halls_first (n : Nat) (k : Nat) (hk : inRect (rx' s fl 0) (ry' s fl 0) (rw' s fl 0) (rh' s fl 0) k = true) : (halls s fl n).getD k 0 ≠ 0 := halls_keep s fl n k (rooms_first' s fl 6 (by decide) k hk)
theorem upc_b : Inn (upc s fl).toNat ∧ 0 ≤ upc s fl ∧ upc s fl < 384 := by
  have b := mid_b s fl 0
  unfold upc Inn
  omega
theorem upc_gc : GC (upc s fl) := ⟨(upc_b s fl).2.1, (upc_b s fl).2.2⟩
theorem cellsU_get (n : Nat) : (cellsU s fl).getD n 0 = if n = (upc s fl).toNat then 3 else (halls s fl 5).getD n 0 := by
  obtain ⟨D, h, _⟩ := halls_hi s fl 5
  have b := upc_b s fl
  have hl := h.len
  unfold cellsU
  rw [getD_set]
  by_cases e : n = (upc s fl).toNat
  · rw [if_pos e, if_pos ⟨e.symm, by omega⟩]
  · rw [if_neg e, if_neg (fun q => e q.1.symm)]
theorem cellsU_len : (cellsU s fl).length = 384 := by
  obtain ⟨D, h, _⟩ := halls_hi s fl 5
  unfold cellsU
  rw [List.length_set]
  exact h.len
theorem cellsU_val (n : Nat) : 0 ≤ (cellsU s fl).getD n 0 ∧ (cellsU s fl).getD n 0 ≤ 3 := by
  obtain ⟨D, h, _⟩ := halls_hi s fl 5
  rw [cellsU_get]
  have := h.val n
  split
  · decide
  · omega
theorem cellsU_cb : CB (cellsU s fl) := fun i => by have := cellsU_val s fl i; omega
theorem cellsU_inn (n : Nat) (h : (cellsU s fl).getD n 0 ≠ 0) : Inn n := by
  obtain ⟨D, hi, _⟩ := halls_hi s fl 5
  rw [cellsU_get] at h
  by_cases e : n = (upc s fl).toNat
  · rw [e]; exact (upc_b s fl).1
  · rw [if_neg e] at h
    exact hi.inn n h
theorem wk_iff {c : List Int} {n : Int} (h : 0 ≤ c.getD n.toNat 0 ∧ c.getD n.toNat 0 ≤ 5) : Wk c n ↔ c.getD n.toNat 0 ≠ 0 := by
  show walkable (c.getD n.toNat 0) = true ↔ _
  unfold walkable
  rw [decide_eq_true_eq]
  omega
theorem dist_is : IsField (opnC (cellsU s fl) []) (IsT (cellsU s fl) [upc s fl]) (dist s fl) := (fld_is (cellsU s fl) (cellsU_cb s fl) (upc s fl)).2
theorem up_wk : Wk (cellsU s fl) (upc s fl) := by
  have v := cellsU_val s fl (upc s fl).toNat
  rw [wk_iff (by omega), cellsU_get, if_pos rfl]; decide
theorem dist_up : Field.rd (dist s fl) (upc s fl) = 0 := ((dist_is s fl).zero _ (upc_gc s fl)).2 ⟨by simp, up_wk s fl⟩
theorem dist_zero (n : Int) (hn : GC n) (h : Field.rd (dist s fl) n = 0) : n = upc s fl := by
  have := (((dist_is s fl).zero n hn).1 h).1
  simpa using this
theorem dist_wk (n : Int) (hn : GC n) (h : 0 ≤ Field.rd (dist s fl) n) : Wk (cellsU s fl) n := by
  by_cases h0 : Field.rd (dist s fl) n = 0
  · rw [dist_zero s fl n hn h0]; exact up_wk s fl
  · exact ((dist_is s fl).up n hn (by omega)).1.1
theorem nodup_le : ∀ (N : Nat) (l : List Nat), l.Nodup → (∀ x ∈ l, x < N) → l.length ≤ N
  | 0, l, _, h => by
    cases l with
    | nil => exact Nat.le_refl _
    | cons a l => exact absurd (h a List.mem_cons_self) (Nat.not_lt_zero a)
  | N + 1, l, hn, h => by
    have h1 : (l.erase N).Nodup := hn.erase N
    have h2 := nodup_le N (l.erase N) h1 fun x hx => by
      have a := h x (List.mem_of_mem_erase hx)
      have b : x ≠ N := fun e => by
        subst e
        exact (hn.not_mem_erase) hx
      omega
    by_cases hm : N ∈ l
    · have := List.length_erase_of_mem hm
      omega
    · have := List.erase_of_not_mem hm
      rw [this] at h2
      omega
theorem field_chain {opn T : Int → Prop} {f : List Int} (h : IsField opn T f) : ∀ (d : Nat) (n : Int), GC n → Field.rd f n = d → ∃ l : List Nat, l.length = d + 1 ∧ l.Nodup ∧ ∀ x ∈ l, x < 384 ∧ Field.rd f x ≤ d
  | 0, n, hn, e => ⟨[n.toNat], rfl, by simp, fun x hx => by
    unfold GC at hn
    have : x = n.toNat := by simpa using hx
    subst this
    rw [show ((n.toNat : Nat) : Int) = n by omega, e]
    exact ⟨by omega, Int.le_refl _⟩⟩
  | d + 1, n, hn, e => by
    obtain ⟨ho, m, hm, ha, hv⟩ := h.up n hn (by omega)
    obtain ⟨l, h1, h2, h3⟩ := field_chain h d m hm (by omega)
    unfold GC at hn
    refine ⟨n.toNat :: l, by simp [h1], List.nodup_cons.2 ⟨fun hx => ?_, h2⟩, fun x hx => ?_⟩
    · have := (h3 _ hx).2
      rw [show ((n.toNat : Nat) : Int) = n by omega, e] at this
      omega
    · rcases List.mem_cons.1 hx with rfl | hx
      · rw [show ((n.toNat : Nat) : Int) = n by omega, e]
        exact ⟨by omega, by omega⟩
      · have := h3 x hx
        omega
/-- No cell is farther than there are cells. -/
theorem field_lt {opn T : Int → Prop} {f : List Int} (h : IsField opn T f) (n : Int) (hn : GC n) : Field.rd f n ≤ 383 := by
  by_cases h0 : 0 ≤ Field.rd f n
  · obtain ⟨l, h1, h2, h3⟩ := field_chain h (Field.rd f n).toNat n hn (by omega)
    have := nodup_le 384 l h2 fun x hx => (h3 x hx).1
    omega
  · omega
/-- What the farthest cell is. -/
theorem farOf_is (f : List Int) (u : Int) : ∀ n : Nat, n ≤ 384 → (farOf f u n = u ∨ ∃ i : Nat, i < n ∧ farOf f u n = i ∧ Field.rd f u < Field.rd f i ∧ ∀ j : Nat, j < i → Field.rd f j < Field.rd f i) ∧ ∀ j : Nat, j < n → Field.rd f j ≤ Field.rd f (farOf f u n)
  | 0, _ => ⟨.inl rfl, fun j hj => absurd hj (Nat.not_lt_zero j)⟩
  | n + 1, hn => by
    obtain ⟨h1, h2⟩ := farOf_is f u n (by omega)
    have e : farOf f u (n + 1) = if Field.rd f n > Field.rd f (farOf f u n) then (n : Int) else farOf f u n := by unfold farOf; rw [List.range_succ, List.foldl_append]; rfl
    rw [e]
    by_cases g : Field.rd f n > Field.rd f (farOf f u n)
    · rw [if_pos g]
      refine ⟨.inr ⟨n, by omega, rfl, ?_, fun j hj => ?_⟩, fun j hj => ?_⟩
      · rcases h1 with q | ⟨i, hi, q, q1, q2⟩
        · rw [q] at g; exact g
        · rw [q] at g; omega
      · have := h2 j hj; omega
      · by_cases ej : j = n
        · subst ej; exact Int.le_refl _
        · have := h2 j (by omega); omega
    · rw [if_neg g]
      refine ⟨h1.imp id fun ⟨i, a, b, c, d⟩ => ⟨i, by omega, b, c, d⟩, fun j hj => ?_⟩
      by_cases ej : j = n
      · subst ej; omega
      · exact h2 j (by omega)
/-- Right of the up stair is the first room's floor, too: one step away. -/
theorem dist_right : ∃ n, GC n ∧ Field.rd (dist s fl) n = 1 := by
  have b := room_b s fl 0
  have eu : upc s fl = (ry' s fl 0 + rh' s fl 0 / 2) * 24 + (rx' s fl 0 + rw' s fl 0 / 2) := rfl
  have ub := upc_b s fl
  refine ⟨upc s fl - 1, ⟨by omega, by omega⟩, ?_⟩
  have ad : adj (upc s fl - 1) (upc s fl) := by
    have := adj_x (m := upc s fl - 1) (by omega)
    rw [show upc s fl - 1 + 1 = upc s fl by omega] at this
    exact this
  have hne : (cellsU s fl).getD (upc s fl - 1).toNat 0 ≠ 0 := by
    rw [cellsU_get, if_neg (by omega)]
    refine halls_first s fl 5 _ ?_
    unfold inRect
    rw [decide_eq_true_eq]
    omega
  have hw : Wk (cellsU s fl) (upc s fl - 1) := by
    have v := cellsU_val s fl (upc s fl - 1).toNat
    rw [wk_iff (by omega)]; exact hne
  have gc : GC (upc s fl - 1) := ⟨by omega, by omega⟩
  have := (dist_is s fl).down (upc s fl) (upc s fl - 1) (upc_gc s fl) gc (by rw [dist_up]; decide) (adj_sym _ _ gc (upc_gc s fl) ad) ⟨hw, fun x => absurd x.2 (by simp)⟩
  rw [dist_up] at this
  by_cases h0 : Field.rd (dist s fl) (upc s fl - 1) = 0
  · have := dist_zero s fl _ gc h0; omega
  · omega
theorem far_is : ∃ i : Nat, i < 384 ∧ far s fl = i ∧ 1 ≤ Field.rd (dist s fl) i ∧ (∀ j : Nat, j < i → Field.rd (dist s fl) j < Field.rd (dist s fl) i) ∧ ∀ j : Nat, j < 384 → Field.rd (dist s fl) j ≤ Field.rd (dist s fl) i := by
  obtain ⟨h1, h2⟩ := farOf_is (dist s fl) (upc s fl) 384 (Nat.le_refl _)
  obtain ⟨n, gn, hn⟩ := dist_right s fl
  have := h2 n.toNat (by unfold GC at gn; omega)
  rw [show ((n.toNat : Nat) : Int) = n by unfold GC at gn; omega, hn] at this
  rcases h1 with q | ⟨i, hi, q, q1, q2⟩
  · rw [q, dist_up] at this; exact absurd this (by decide)
  · have e : far s fl = i := q
    refine ⟨i, hi, q, by rw [q] at this; exact this, q2, fun j hj => ?_⟩
    have := h2 j hj
    rw [q] at this
    exact this
theorem far_gc : GC (far s fl) := by obtain ⟨i, hi, e, _⟩ := far_is s fl; rw [e]; exact ⟨by omega, by omega⟩
theorem far_dist : 1 ≤ Field.rd (dist s fl) (far s fl) := by obtain ⟨i, hi, e, h, _⟩ := far_is s fl; rw [e]; exact h
theorem far_ne : far s fl ≠ upc s fl := fun e => by
  have := far_dist s fl
  rw [e, dist_up] at this
  exact absurd this (by decide)
theorem far_wk : Wk (cellsU s fl) (far s fl) := dist_wk s fl _ (far_gc s fl) (by have := far_dist s fl; omega)
theorem cellsD_len : (cellsD s fl).length = 384 := by unfold cellsD; rw [List.length_set]; exact cellsU_len s fl
theorem cellsD_get (n : Nat) : (cellsD s fl).getD n 0 = if n = (far s fl).toNat then 4 else (cellsU s fl).getD n 0 := by
  have hl := cellsU_len s fl
  have g := far_gc s fl
  unfold GC at g
  unfold cellsD
  rw [getD_set]
  by_cases e : n = (far s fl).toNat
  · rw [if_pos e, if_pos ⟨e.symm, by omega⟩]
  · rw [if_neg e, if_neg (fun q => e q.1.symm)]
theorem shop_is {i : Nat} (h : shopAt s fl = some i) : i < 384 ∧ (cellsD s fl).getD i 0 = 1 := by
  unfold shopAt at h
  split at h
  · have h1 := List.mem_of_find?_eq_some h
    have h2 := List.find?_some h
    simp only [Bool.and_eq_true, beq_iff_eq] at h2
    exact ⟨List.mem_range.1 h1, h2.1⟩
  · cases h
theorem cells_len : (cells s fl).length = 384 := by
  unfold cells
  split
  · rw [List.length_set]; exact cellsD_len s fl
  · exact cellsD_len s fl
theorem cells_get (n : Nat) : (cells s fl).getD n 0 = if shopAt s fl = some n then 5 else (cellsD s fl).getD n 0 := by
  have hl := cellsD_len s fl
  unfold cells
  cases h : shopAt s fl with
  | none => rw [if_neg (by simp)]
  | some i =>
    simp only
    have hi := shop_is s fl h
    rw [getD_set]
    by_cases e : i = n
    · rw [if_pos ⟨e, by omega⟩, if_pos (by rw [e])]
    · rw [if_neg (fun q => e q.1), if_neg (fun q => e (by cases q; rfl))]
/-- All at once. -/
theorem cells_at (n : Nat) : (cells s fl).getD n 0 = if shopAt s fl = some n then 5 else if n = (far s fl).toNat then 4 else if n = (upc s fl).toNat then 3 else (halls s fl 5).getD n 0 := by
  rw [cells_get, cellsD_get, cellsU_get]
theorem cells_zero (n : Nat) : (cells s fl).getD n 0 ≠ 0 ↔ (cellsU s fl).getD n 0 ≠ 0 := by
  rw [cells_get, cellsD_get]
  by_cases h : shopAt s fl = some n
  · rw [if_pos h]
    have := (shop_is s fl h).2
    rw [cellsD_get] at this
    constructor
    · intro _
      split at this
      · simp at this
      · rw [this]; decide
    · intro _; decide
  · rw [if_neg h]
    by_cases e : n = (far s fl).toNat
    · rw [if_pos e]
      constructor
      · intro _
        have v := cellsU_val s fl (far s fl).toNat
        have := (wk_iff (by omega)).1 (far_wk s fl)
        rw [e]; exact this
      · intro _; decide
    · rw [if_neg e]
theorem cells_val (n : Nat) : 0 ≤ (cells s fl).getD n 0 ∧ (cells s fl).getD n 0 ≤ 5 := by
  rw [cells_get, cellsD_get]
  have := cellsU_val s fl n
  split
  · decide
  · split
    · decide
    · omega
theorem cells_cb : CB (cells s fl) := fun i => by have := cells_val s fl i; omega
theorem cells_wk (n : Int) : Wk (cells s fl) n ↔ Wk (cellsU s fl) n := by
  have v := cellsU_val s fl n.toNat
  rw [wk_iff (cells_val s fl _), wk_iff (by omega)]
  exact cells_zero s fl n.toNat
theorem cells_inn (n : Nat) (h : (cells s fl).getD n 0 ≠ 0) : Inn n := cellsU_inn s fl n ((cells_zero s fl n).1 h)
theorem cells_up (n : Nat) : (cells s fl).getD n 0 = 3 ↔ n = (upc s fl).toNat := by
  obtain ⟨D, h, _⟩ := halls_hi s fl 5
  have hv := h.val n
  have g1 := far_gc s fl
  have g2 := upc_gc s fl
  have ne := far_ne s fl
  unfold GC at g1 g2
  rw [cells_at]
  constructor
  · intro e
    split at e
    · simp at e
    · split at e
      · simp at e
      · split at e
        · assumption
        · omega
  · intro e
    rw [if_neg, if_neg (by omega), if_pos e]
    intro q
    have := (shop_is s fl q).2
    rw [cellsD_get, if_neg (by omega), cellsU_get, if_pos e] at this
    simp at this
theorem cells_down (n : Nat) : (cells s fl).getD n 0 = 4 ↔ n = (far s fl).toNat := by
  obtain ⟨D, h, _⟩ := halls_hi s fl 5
  have hv := h.val n
  rw [cells_at]
  constructor
  · intro e
    split at e
    · simp at e
    · split at e
      · assumption
      · split at e
        · simp at e
        · omega
  · intro e
    rw [if_neg, if_pos e]
    intro q
    have := (shop_is s fl q).2
    rw [cellsD_get, if_pos e] at this
    simp at this
theorem cells_shop (n : Nat) : (cells s fl).getD n 0 = 5 ↔ shopAt s fl = some n := by
  obtain ⟨D, h, _⟩ := halls_hi s fl 5
  have hv := h.val n
  rw [cells_at]
  constructor
  · intro e
    split at e
    · assumption
    · split at e
      · simp at e
      · split at e
        · simp at e
        · omega
  · intro e
    rw [if_pos e]
theorem cells_door : ∃ D : List Nat, D.length ≤ 5 ∧ ∀ n, (cells s fl).getD n 0 = 2 → n ∈ D := by
  obtain ⟨D, h, hl⟩ := halls_hi s fl 5
  refine ⟨D, hl, fun n e => h.door n ?_⟩
  rw [cells_at] at e
  split at e
  · simp at e
  · split at e
    · simp at e
    · split at e
      · simp at e
      · exact e
end
end Go.Proofs.Ytdbfecfcoephoaa.Fl

/- The document's floors: any floor comes out, its cells are cells, and one can be walked on (own work). -/
import Derived.Test.YtdbfecfcoephoaaMake0
namespace Go.Proofs.Ytdbfecfcoephoaa.Gen
open Go Go.Proofs.Ytdbfecfcoephoaa.Mx Go.Proofs.Ytdbfecfcoephoaa.Pc Go.Proofs.Ytdbfecfcoephoaa.Run Go.Proofs.Ytdbfecfcoephoaa.Field
set_option linter.unusedVariables false
set_option linter.unusedSimpArgs false
abbrev EntT := Int × Int × Int × Int × Int × Int × Int × Int × Int × Int × Int
abbrev Res := List Int × List EntT × List (Int × Int × Int × Int) × Unit
abbrev Tail := Int × Int × Int × Int × Int × Int × Int × Int × Int × Int × Int × Int × Unit
def GX (v : Int) : Prop := 0 ≤ v ∧ v < 24
def GY (v : Int) : Prop := 0 ≤ v ∧ v < 16
structure Mids (t : Tail) : Prop where
  a0 : GX t.1
  a1 : GX t.2.1
  a2 : GX t.2.2.1
  a3 : GX t.2.2.2.1
  a4 : GX t.2.2.2.2.1
  a5 : GX t.2.2.2.2.2.1
  b0 : GY t.2.2.2.2.2.2.1
  b1 : GY t.2.2.2.2.2.2.2.1
  b2 : GY t.2.2.2.2.2.2.2.2.1
  b3 : GY t.2.2.2.2.2.2.2.2.2.1
  b4 : GY t.2.2.2.2.2.2.2.2.2.2.1
  b5 : GY t.2.2.2.2.2.2.2.2.2.2.2.1
theorem GX.ite {c : Prop} [Decidable c] {a b : Int} (h1 : GX a) (h2 : GX b) : GX (if c then a else b) := by split <;> assumption
theorem GY.ite {c : Prop} [Decidable c] {a b : Int} (h1 : GY a) (h2 : GY b) : GY (if c then a else b) := by split <;> assumption
theorem Mids.x {t : Tail} (h : Mids t) (j : Nat) (hj : j < 6) : GX ([t.1, t.2.1, t.2.2.1, t.2.2.2.1, t.2.2.2.2.1, t.2.2.2.2.2.1].getD j 0) := by
  match j, hj with
  | 0, _ => exact h.a0
  | 1, _ => exact h.a1
  | 2, _ => exact h.a2
  | 3, _ => exact h.a3
  | 4, _ => exact h.a4
  | 5, _ => exact h.a5
theorem Mids.y {t : Tail} (h : Mids t) (j : Nat) (hj : j < 6) : GY ([t.2.2.2.2.2.2.1, t.2.2.2.2.2.2.2.1, t.2.2.2.2.2.2.2.2.1, t.2.2.2.2.2.2.2.2.2.1, t.2.2.2.2.2.2.2.2.2.2.1, t.2.2.2.2.2.2.2.2.2.2.2.1].getD j 0) := by
  match j, hj with
  | 0, _ => exact h.b0
  | 1, _ => exact h.b1
  | 2, _ => exact h.b2
  | 3, _ => exact h.b3
  | 4, _ => exact h.b4
  | 5, _ => exact h.b5
theorem row_ok (k0 : Int × Int × Int × Int × Int × Int × Int × Int × List Int × Tail → Option Res) (Q : Res → Prop) (s fl i w h x y b : Int) (c : List Int) (t : Tail) (hc : F c) (hx : 0 ≤ x) (hw : 0 ≤ w) (hxw : x + w ≤ 24) (hb : 0 ≤ b ∧ b < 16)
    (k : ∀ c', F c' → OK (k0 (s, fl, i, w, h, x, y, b + 1, c', t)) Q) : OK (f23.L1 k0 (s, fl, i, w, h, x, y, b, x, c, t)) Q := by
  unfold f23.L1
  refine OK.loop (fun j : Nat × List Int => (s, fl, i, w, h, x, y, b, x + (j.1 : Int), j.2, t)) (fun j => (j.1 : Int) ≤ w ∧ F j.2) (fun j => w.toNat - j.1) (fun rec j hj ih => ?_) (0, c) (by simp) ⟨by dsimp only; omega, hc⟩ (by dsimp only; omega)
  obtain ⟨j, c⟩ := j
  obtain ⟨hj, hc⟩ := hj
  dsimp only at hj hc ih ⊢
  have hl := hc.len
  rw [wr (x := x + w) (by omega), bif_dec]
  by_cases q : x + (j : Int) < x + w
  · have e : IntKind.wrap .i64 (IntKind.wrap .i64 (b * 24) + (x + (j : Int))) = b * 24 + (x + j) := by rw [wr (x := b * 24) (by omega), wr (by omega)]
    rw [if_pos q, e, inR (by omega), cond_true, wr (by omega)]
    exact ih (j + 1, c.set (b * 24 + (x + j)).toNat 1) ⟨by dsimp only; omega, hc.set _ _ (by decide)⟩ (by dsimp only; omega) _ (by
      have : x + (j : Int) + 1 = x + ((j + 1 : Nat) : Int) := by omega
      rw [this])
  · rw [if_neg q, wr (by omega)]
    exact k c hc
theorem room_ok (k0 : Int × Int × Int × List Int × Tail → Option Res) (Q : Res → Prop) (s fl w h x y : Int) (i : Nat) (hi : i < 6) (c : List Int) (t : Tail) (hc : F c) (ht : Mids t) (hx : 0 ≤ x) (hw : 1 ≤ w) (hxw : x + w ≤ 24) (hy : 0 ≤ y) (hh : 1 ≤ h) (hyh : y + h ≤ 16)
    (k : ∀ c' t', F c' → Mids t' → OK (k0 (s, fl, ((i + 1 : Nat) : Int), c', t')) Q) : OK (f23.L2 k0 (s, fl, (i : Int), w, h, x, y, y, c, t)) Q := by
  unfold f23.L2
  refine OK.loop (fun j : Nat × List Int => (s, fl, (i : Int), w, h, x, y, y + (j.1 : Int), j.2, t)) (fun j => (j.1 : Int) ≤ h ∧ F j.2) (fun j => h.toNat - j.1) (fun rec j hj ih => ?_) (0, c) (by simp) ⟨by dsimp only; omega, hc⟩ (by dsimp only; omega)
  obtain ⟨j, c⟩ := j
  obtain ⟨hj, hc⟩ := hj
  dsimp only at hj hc ih ⊢
  rw [wr (x := y + h) (by omega), bif_dec]
  by_cases q : y + (j : Int) < y + h
  · rw [if_pos q]
    refine row_ok rec Q s fl (i : Int) w h x y (y + j) c t hc hx (by omega) hxw (by omega) fun c' hc' => ?_
    exact ih (j + 1, c') ⟨by dsimp only; omega, hc'⟩ (by dsimp only; omega) _ (by
      have : y + (j : Int) + 1 = y + ((j + 1 : Nat) : Int) := by omega
      rw [this])
  · have wx : IntKind.wrap .i64 (x + IntKind.wrap .i64 (Int.tdiv w 2)) = x + w / 2 := by
      rw [Int.tdiv_eq_ediv_of_nonneg (by omega), wr (x := w / 2) (by omega), wr (by omega)]
    have wy : IntKind.wrap .i64 (y + IntKind.wrap .i64 (Int.tdiv h 2)) = y + h / 2 := by
      rw [Int.tdiv_eq_ediv_of_nonneg (by omega), wr (x := h / 2) (by omega), wr (by omega)]
    have wi : IntKind.wrap .i64 ((i : Int) + 1) = ((i + 1 : Nat) : Int) := by rw [wr (by omega)]; omega
    have gx : GX (x + w / 2) := by unfold GX; omega
    have gy : GY (y + h / 2) := by unfold GY; omega
    rw [if_neg q, inR (by omega), cond_true, cond_true, wx, wy, wi]
    exact k c _ hc ⟨GX.ite gx ht.a0, GX.ite gx ht.a1, GX.ite gx ht.a2, GX.ite gx ht.a3, GX.ite gx ht.a4, GX.ite gx ht.a5, GY.ite gy ht.b0, GY.ite gy ht.b1, GY.ite gy ht.b2, GY.ite gy ht.b3, GY.ite gy ht.b4, GY.ite gy ht.b5⟩
theorem way_ok (k0 : Int × Int × Int × List Int × Tail → Option Res) (Q : Res → Prop) (s fl : Int) (i : Nat) (hi : i < 6) (x y : Int) (door first : Bool) (c : List Int) (t : Tail) (hc : F c) (ht : Mids t) (hx : GX x) (hy : GY y)
    (k : ∀ c', F c' → OK (k0 (s, fl, ((i + 1 : Nat) : Int), c', t)) Q) : OK (f23.L3 k0 (s, fl, (i : Int), x, y, door, first, c, t)) Q := by
  have hX := ht.x i hi
  have hY := ht.y i hi
  obtain ⟨X, eX⟩ : ∃ X, X = [t.1, t.2.1, t.2.2.1, t.2.2.2.1, t.2.2.2.2.1, t.2.2.2.2.2.1].getD i 0 := ⟨_, rfl⟩
  obtain ⟨Y, eY⟩ : ∃ Y, Y = [t.2.2.2.2.2.2.1, t.2.2.2.2.2.2.2.1, t.2.2.2.2.2.2.2.2.1, t.2.2.2.2.2.2.2.2.2.1, t.2.2.2.2.2.2.2.2.2.2.1, t.2.2.2.2.2.2.2.2.2.2.2.1].getD i 0 := ⟨_, rfl⟩
  rw [← eX] at hX
  rw [← eY] at hY
  unfold f23.L3
  refine OK.loop (fun j : Int × Int × Bool × List Int => (s, fl, (i : Int), j.1, j.2.1, j.2.2.1, first, j.2.2.2, t)) (fun j => GX j.1 ∧ GY j.2.1 ∧ F j.2.2.2) (fun j => (j.1 - X).natAbs + (j.2.1 - Y).natAbs) (fun rec j hj ih => ?_) (x, y, door, c) rfl ⟨hx, hy, hc⟩ (by dsimp only; unfold GX at *; unfold GY at *; omega)
  obtain ⟨x, y, door, c⟩ := j
  obtain ⟨hx, hy, hc⟩ := hj
  dsimp only at hx hy hc ih ⊢
  have wi : IntKind.wrap .i64 ((i : Int) + 1) = ((i + 1 : Nat) : Int) := by rw [wr (by omega)]; omega
  have ir : inRange (i : Int) 6 = true := inR (by omega)
  simp only [Int.toNat_natCast, ← eX, ← eY, ir, cond_true, wi]
  unfold GX at hx hX
  unfold GY at hy hY
  by_cases both : x = X ∧ y = Y
  · have q1 : (x != X) = false := by simp [both.1]
    have q2 : (y != Y) = false := by simp [both.2]
    rw [q1, q2, cond_false, cond_false]
    exact OK.callR (R := fun z => ∃ q, z = Sum.inr q ∧ Q q) (OK.callR (k c hc) fun q hq => OK.ret ⟨q, rfl, hq⟩) (fun z ⟨q, e, hq⟩ => by subst e; exact OK.ret hq)
  · refine OK.callR (R := fun z => z = Sum.inl (s, fl, (i : Int), x, y, door, first, c, t)) ?_ ?_
    · by_cases h1 : x = X
      · have q1 : (x != X) = false := by simp [h1]
        have q2 : (y != Y) = true := by simp; exact fun e => both ⟨h1, e⟩
        rw [q1, q2, cond_false, cond_true]
        exact OK.ret rfl
      · have q1 : (x != X) = true := by simpa using h1
        rw [q1, cond_true]
        exact OK.ret rfl
    · intro z e
      subst e
      simp only [Sum.elim_inl, Int.toNat_natCast, ← eX, ← eY, ir, cond_true]
      refine OK.callR (R := fun z => ∃ x' y', z = Sum.inl (s, fl, (i : Int), x', y', door, first, c, t) ∧ GX x' ∧ GY y' ∧ (x' - X).natAbs + (y' - Y).natAbs < (x - X).natAbs + (y - Y).natAbs) ?_ ?_
      · have tx : x ≠ X → GX (if x < X then x + 1 else x - 1) ∧ ((if x < X then x + 1 else x - 1) - X).natAbs + (y - Y).natAbs < (x - X).natAbs + (y - Y).natAbs := fun h => by unfold GX; split <;> omega
        have ty : y ≠ Y → GY (if y < Y then y + 1 else y - 1) ∧ (x - X).natAbs + ((if y < Y then y + 1 else y - 1) - Y).natAbs < (x - X).natAbs + (y - Y).natAbs := fun h => by unfold GY; split <;> omega
        have gx : GX x := hx
        have gy : GY y := hy
        rw [toward_eq x X (by omega), toward_eq y Y (by omega)]
        simp only [Option.bind_some]
        cases first with
        | true =>
          by_cases h1 : x = X
          · have q1 : (x != X) = false := by simp [h1]
            have h2 : y ≠ Y := fun e => both ⟨h1, e⟩
            rw [q1]
            exact OK.ret ⟨_, _, rfl, gx, (ty h2).1, (ty h2).2⟩
          · have q1 : (x != X) = true := by simpa using h1
            rw [q1]
            exact OK.ret ⟨_, _, rfl, (tx h1).1, gy, (tx h1).2⟩
        | false =>
          by_cases h2 : y = Y
          · have q2 : (y == Y) = true := by simp [h2]
            have h1 : x ≠ X := fun e => both ⟨e, h2⟩
            rw [q2]
            exact OK.ret ⟨_, _, rfl, (tx h1).1, gy, (tx h1).2⟩
          · have q2 : (y == Y) = false := by simpa using h2
            rw [q2]
            exact OK.ret ⟨_, _, rfl, gx, (ty h2).1, (ty h2).2⟩
      · rintro z ⟨x', y', e, g1, g2, g3⟩
        subst e
        simp only [Sum.elim_inl]
        refine OK.callR (dig_ok x' y' door c hc g1 g2) fun r hr => ?_
        exact ih (x', y', r.1, r.2.1) ⟨g1, g2, hr⟩ g3 _ rfl
structure G (u : Int) (c : List Int) : Prop extends F c where
  walk : walkable (rd c u) = true
theorem G.set {u : Int} {c : List Int} (h : G u c) (hu : GC u) (i : Nat) (v : Int) (hv : 1 ≤ v ∧ v ≤ 5) : G u (c.set i v) := ⟨h.toF.set i v (by omega), by
  have := h.walk
  unfold Field.rd at this ⊢
  rw [getD_set]
  split
  · unfold walkable; simpa using hv
  · exact this⟩
theorem shop_ok (s fl far u : Int) (c f : List Int) (hc : G u c) (hu : GC u) (hf : f.length = 384) (hfar : GC far) : OK (f23.L4 (s, fl, far, false, 0, c, f, ())) fun z => ∃ b c', z = Sum.inl (s, fl, b, c', f, ()) ∧ G u c' := by
  unfold f23.L4
  refine OK.loop (fun j : Nat × Bool × List Int => (s, fl, far, j.2.1, (j.1 : Int), j.2.2, f, ())) (fun j => j.1 ≤ 384 ∧ G u j.2.2) (fun j => 384 - j.1) (fun rec j hj ih => ?_) (0, false, c) rfl ⟨Nat.zero_le _, hc⟩ (by dsimp only; decide)
  obtain ⟨i, b, c⟩ := j
  obtain ⟨hi, hc⟩ := hj
  dsimp only at hi hc ih ⊢
  have hl := hc.len
  unfold GC at hfar
  by_cases c4 : i < 384
  · have c4' : (i : Int) < 384 := by omega
    have wj : IntKind.wrap .i64 ((i : Int) + 1) = ((i + 1 : Nat) : Int) := by rw [wr (by omega)]; omega
    rw [bif_dec, if_pos c4', inR (i := (i : Int)) (n := c.length) (by omega), inR (i := (i : Int)) (n := f.length) (by omega), inR (i := far) (n := f.length) (by omega), wj]
    simp only [cond_true]
    cases b with
    | true => exact OK.ret ⟨true, c, rfl, hc⟩
    | false =>
      rw [Bool.not_false, cond_true]
      have skip := ih (i + 1, false, c) ⟨by dsimp only; omega, hc⟩ (by dsimp only; omega) _ rfl
      refine OK.bif (fun _ => ?_) (fun _ => skip)
      refine OK.bif (fun _ => ?_) (fun _ => skip)
      exact ih (i + 1, true, c.set _ 5) ⟨by dsimp only; omega, hc.set hu _ _ (by decide)⟩ (by dsimp only; omega) _ rfl
  · have c4' : ¬ (i : Int) < 384 := by omega
    rw [bif_dec, if_neg c4']
    exact OK.ret ⟨b, c, rfl, hc⟩
theorem stats_ok (k : Int) : OK (f25 k) fun _ => True := by
  unfold f25
  cases (k == 1) with
  | true => exact OK.ret trivial
  | false =>
  cases (k == 2) with
  | true => exact OK.ret trivial
  | false =>
  cases (k == 3) with
  | true => exact OK.ret trivial
  | false =>
  cases (k == 4) with
  | true => exact OK.ret trivial
  | false => exact OK.ret trivial
theorem ents_ok (s fl : Int) (b : Bool) (c f : List Int) (used : List Bool) (hc : c.length = 384) (hf : f.length = 384) (hu : used.length = 384) (h1 : 0 ≤ fl) (h2 : fl ≤ 10000) :
    OK (f23.L5 (s, fl, b, 0, c, f, used, [], ())) fun z => ∃ es, z = Sum.inl (s, fl, b, c, f, es, ()) := by
  unfold f23.L5
  refine OK.loop (fun j : Nat × List Bool × List EntT => (s, fl, b, (j.1 : Int), c, f, j.2.1, j.2.2, ())) (fun j => (j.1 : Int) ≤ fl + 2 ∧ j.2.1.length = 384 ∧ j.2.2.length ≤ j.1) (fun j => (fl + 2).toNat - j.1) (fun rec j hj ih => ?_) (0, used, []) rfl ⟨by dsimp only; omega, hu, Nat.zero_le _⟩ (by dsimp only; omega)
  obtain ⟨i, used, es⟩ := j
  obtain ⟨hi, hu, he⟩ := hj
  dsimp only at hi hu he ih ⊢
  rw [wr (x := fl + 1) (by omega), bif_dec]
  by_cases q : (i : Int) ≤ fl + 1
  · rw [if_pos q]
    refine OK.callR (pick_ok c f 4 used s fl _ hc hf hu) fun y hy => ?_
    rw [bif_dec]
    rcases hy with hy | hy
    · rw [if_pos (by omega)]
      exact OK.ret ⟨es, rfl⟩
    · unfold GC at hy
      rw [if_neg (by omega), inR (by omega), cond_true]
      refine OK.callR (d_ok s fl _ 1 _ (by rw [minI_eq]; omega) (by rw [minI_eq]; omega)) fun y1 hy1 => ?_
      refine OK.callR (stats_ok _) fun y2 _ => ?_
      rw [decide_eq_true (by simp [limit]; omega), cond_true, wr (x := (i : Int) + 1) (by omega)]
      exact ih (i + 1, used.set _ true, es ++ [_]) ⟨by dsimp only; omega, by dsimp only; rw [List.length_set]; exact hu, by dsimp only; simp; omega⟩ (by dsimp only; omega) _ rfl
  · rw [if_neg q]
    exact OK.ret ⟨es, rfl⟩
theorem wares_ok (s fl : Int) (b : Bool) (c : List Int) (es : List EntT) (its : List (Int × Int × Int × Int)) (hi0 : its.length ≤ 100) :
    OK (f23.L6 (s, fl, b, 0, c, es, its, ())) fun z => ∃ its', z = Sum.inl (c, es, its', ()) := by
  unfold f23.L6
  refine OK.loop (fun j : Nat × List (Int × Int × Int × Int) => (s, fl, b, (j.1 : Int), c, es, j.2, ())) (fun j => j.1 ≤ 3 ∧ j.2.length ≤ 100 + j.1) (fun j => 3 - j.1) (fun rec j hj ih => ?_) (0, its) rfl ⟨Nat.zero_le _, by dsimp only; omega⟩ (by dsimp only; decide)
  obtain ⟨i, its⟩ := j
  obtain ⟨hi, he⟩ := hj
  dsimp only at hi he ih ⊢
  rw [bif_dec]
  by_cases q : (i : Int) < 3
  · rw [if_pos q]
    cases b with
    | false => exact OK.ret ⟨its, rfl⟩
    | true =>
      rw [cond_true]
      refine OK.callR (d_ok s fl _ 1 3 (by decide) (by decide)) fun y1 hy1 => ?_
      rw [decide_eq_true (by simp [limit]; omega), cond_true, wr (x := (i : Int) + 1) (by omega)]
      exact ih (i + 1, its ++ [_]) ⟨by dsimp only; omega, by dsimp only; simp; omega⟩ (by dsimp only; omega) _ rfl
  · rw [if_neg q]
    exact OK.ret ⟨its, rfl⟩
theorem items_ok (s fl : Int) (b : Bool) (c f : List Int) (used : List Bool) (es : List EntT) (hc : c.length = 384) (hf : f.length = 384) (hu : used.length = 384) :
    OK (f23.L7 (s, fl, b, 0, c, f, used, es, [], ())) fun z => z.1 = c := by
  unfold f23.L7
  refine OK.loop (fun j : Nat × List Bool × List (Int × Int × Int × Int) => (s, fl, b, (j.1 : Int), c, f, j.2.1, es, j.2.2, ())) (fun j => j.1 ≤ 4 ∧ j.2.1.length = 384 ∧ j.2.2.length ≤ j.1) (fun j => 4 - j.1) (fun rec j hj ih => ?_) (0, used, []) rfl ⟨by dsimp only; decide, hu, Nat.zero_le _⟩ (by dsimp only; decide)
  obtain ⟨i, used, its⟩ := j
  obtain ⟨hi, hu, he⟩ := hj
  dsimp only at hi hu he ih ⊢
  rw [bif_dec]
  by_cases q : (i : Int) < 4
  · rw [if_pos q, wr (x := (i : Int) + 1) (by omega)]
    refine OK.callR (pick_ok c f 0 used s fl _ hc hf hu) fun y hy => ?_
    rw [bif_dec]
    rcases hy with hy | hy
    · rw [if_pos (by omega)]
      exact ih (i + 1, used, its) ⟨by dsimp only; omega, hu, by dsimp only; omega⟩ (by dsimp only; omega) _ rfl
    · unfold GC at hy
      rw [if_neg (by omega), inR (by omega), cond_true]
      refine OK.callR (d_ok s fl _ 1 4 (by decide) (by decide)) fun y1 hy1 => ?_
      rw [decide_eq_true (by simp [limit]; omega), cond_true]
      exact ih (i + 1, used.set _ true, its ++ [_]) ⟨by dsimp only; omega, by dsimp only; rw [List.length_set]; exact hu, by dsimp only; simp; omega⟩ (by dsimp only; omega) _ rfl
  · rw [if_neg q]
    refine OK.callR (wares_ok s fl b c es its (by omega)) fun z ⟨its', e⟩ => ?_
    subst e
    exact OK.ret rfl
theorem far_ok (s fl u : Int) (c f : List Int) (hc : G u c) (hu : GC u) (hf : f.length = 384) (h1 : 0 ≤ fl) (h2 : fl ≤ 10000) :
    OK (f23.L8 (s, fl, u, 0, c, f, ())) fun z => G u z.1 := by
  unfold f23.L8
  refine OK.loop (fun j : Nat × Int => (s, fl, j.2, (j.1 : Int), c, f, ())) (fun j => j.1 ≤ 384 ∧ GC j.2) (fun j => 384 - j.1) (fun rec j hj ih => ?_) (0, u) rfl ⟨Nat.zero_le _, hu⟩ (by dsimp only; decide)
  obtain ⟨i, far⟩ := j
  obtain ⟨hi, hfar⟩ := hj
  dsimp only at hi hfar ih ⊢
  have hl := hc.len
  have hfar' := hfar
  unfold GC at hfar'
  rw [bif_dec]
  by_cases c4 : (i : Int) < 384
  · rw [if_pos c4, inR (i := (i : Int)) (n := f.length) (by omega), inR (i := far) (n := f.length) (by omega), cond_true, cond_true, wr (by omega)]
    refine OK.bif (fun _ => ?_) (fun _ => ?_)
    · exact ih (i + 1, (i : Int)) ⟨by dsimp only; omega, by dsimp only; exact ⟨by omega, by omega⟩⟩ (by dsimp only; omega) _ rfl
    · exact ih (i + 1, far) ⟨by dsimp only; omega, hfar⟩ (by dsimp only; omega) _ rfl
  · rw [if_neg c4, inR (i := far) (n := c.length) (by omega), cond_true]
    have hG := hc.set hu far.toNat 4 (by decide)
    refine OK.callR (R := fun z => ∃ b c', z = Sum.inl (s, fl, b, c', f, ()) ∧ G u c') ?_ ?_
    · refine OK.callR (d_ok s fl 6 0 2 (by decide) (by decide)) fun y0 _ => ?_
      refine OK.bif (fun _ => shop_ok s fl far u _ f hG hu hf hfar) (fun _ => OK.ret ⟨false, _, rfl, hG⟩)
    · rintro z ⟨b, c', e, hc'⟩
      subst e
      simp only [Sum.elim_inl]
      refine OK.callR (ents_ok s fl b c' f _ hc'.len hf List.length_replicate h1 h2) fun z ⟨es, e⟩ => ?_
      subst e
      simp only [Sum.elim_inl]
      exact (items_ok s fl b c' f _ es hc'.len hf List.length_replicate).mono fun z e => by rw [e]; exact hc'
theorem halls_ok (s fl : Int) (c : List Int) (t : Tail) (hc : F c) (ht : Mids t) (h1 : 0 ≤ fl) (h2 : fl ≤ 10000) :
    OK (f23.L9 (s, fl, 1, c, t)) fun z => ∃ u, GC u ∧ G u z.1 := by
  unfold f23.L9
  refine OK.loop (fun j : Nat × List Int => (s, fl, (j.1 : Int), j.2, t)) (fun j => 1 ≤ j.1 ∧ j.1 ≤ 6 ∧ F j.2) (fun j => 6 - j.1) (fun rec j hj ih => ?_) (1, c) rfl ⟨Nat.le_refl _, by dsimp only; decide, hc⟩ (by dsimp only; decide)
  obtain ⟨i, c⟩ := j
  obtain ⟨hi0, hi, hc⟩ := hj
  dsimp only at hi0 hi hc ih ⊢
  have hl := hc.len
  rw [bif_dec]
  by_cases q : (i : Int) < 6
  · have e : Int.toNat (IntKind.wrap .i64 ((i : Int) - 1)) = i - 1 := by rw [wr (by omega)]; omega
    have ir : inRange (IntKind.wrap .i64 ((i : Int) - 1)) 6 = true := inR (by rw [wr (by omega)]; omega)
    have gx := ht.x (i - 1) (by omega)
    have gy := ht.y (i - 1) (by omega)
    rw [if_pos q, ir, cond_true, cond_true, e]
    refine OK.callR (dig_ok _ _ false c hc gx gy) fun r hr => ?_
    refine OK.callR (d_ok s fl _ 4 2 (by decide) (by decide)) fun y1 _ => ?_
    exact way_ok rec _ s fl i (by omega) _ _ _ _ r.2.1 t hr ht gx gy fun c' hc' => ih (i + 1, c') ⟨by dsimp only; omega, by dsimp only; omega, hc'⟩ (by dsimp only; omega) _ rfl
  · have gx := ht.a0
    have gy := ht.b0
    unfold GX at gx
    unfold GY at gy
    have e : IntKind.wrap .i64 (IntKind.wrap .i64 (t.2.2.2.2.2.2.1 * 24) + t.1) = t.2.2.2.2.2.2.1 * 24 + t.1 := by rw [wr (x := t.2.2.2.2.2.2.1 * 24) (by omega), wr (by omega)]
    rw [if_neg q, e]
    have hu : GC (t.2.2.2.2.2.2.1 * 24 + t.1) := ⟨by omega, by omega⟩
    generalize t.2.2.2.2.2.2.1 * 24 + t.1 = u at hu
    have hu' := hu
    unfold GC at hu'
    rw [inR (by omega), cond_true]
    have hF := hc.set u.toNat 3 (by decide)
    have hG : G u (c.set u.toNat 3) := ⟨hF, by
      unfold Field.rd
      rw [getD_set, if_pos ⟨rfl, by omega⟩]
      decide⟩
    refine OK.callR (rfield_is _ hF.cb [] [u] (by simp)) fun y hy => ?_
    exact (far_ok s fl u _ y.1 hG hu hy.len h1 h2).mono fun z hz => ⟨u, hu, hz⟩
/-- Any floor comes out, and has a cell that can be walked on. -/
theorem make_ok (s fl : Int) (h1 : 0 ≤ fl) (h2 : fl ≤ 10000) : OK (f23 s fl) fun z => ∃ u, GC u ∧ G u z.1 := by
  unfold f23 f23.L10
  have z0 : Mids (0, 0, 0, 0, 0, 0, 0, 0, 0, 0, 0, 0, ()) := by
    have gx : GX 0 := ⟨by decide, by decide⟩
    have gy : GY 0 := ⟨by decide, by decide⟩
    exact ⟨gx, gx, gx, gx, gx, gx, gy, gy, gy, gy, gy, gy⟩
  refine OK.loop (fun j : Nat × List Int × Tail => (s, fl, (j.1 : Int), j.2.1, j.2.2)) (fun j => j.1 ≤ 6 ∧ F j.2.1 ∧ Mids j.2.2) (fun j => 6 - j.1) (fun rec j hj ih => ?_) (0, List.replicate 384 0, (0, 0, 0, 0, 0, 0, 0, 0, 0, 0, 0, 0, ())) rfl ⟨by dsimp only; decide, ⟨List.length_replicate, fun i => ?_⟩, z0⟩ (by dsimp only; decide)
  · obtain ⟨i, c, t⟩ := j
    obtain ⟨hi, hc, ht⟩ := hj
    dsimp only at hi hc ht ih ⊢
    rw [bif_dec]
    by_cases q : (i : Int) < 6
    · rw [if_pos q]
      refine OK.callR (d_ok s fl _ 0 5 (by decide) (by decide)) fun y0 hy0 => ?_
      refine OK.callR (d_ok s fl _ 1 4 (by decide) (by decide)) fun y1 hy1 => ?_
      have w0 : IntKind.wrap .i64 (3 + y0.1) = 3 + y0.1 := wr (by omega)
      have w1 : IntKind.wrap .i64 (2 + y1.1) = 2 + y1.1 := wr (by omega)
      have w2 : IntKind.wrap .i64 (23 - (3 + y0.1)) = 23 - (3 + y0.1) := wr (by omega)
      have w3 : IntKind.wrap .i64 (15 - (2 + y1.1)) = 15 - (2 + y1.1) := wr (by omega)
      rw [w0, w1, w2, w3]
      refine OK.callR (d_ok s fl _ 2 _ (by omega) (by omega)) fun y2 hy2 => ?_
      refine OK.callR (d_ok s fl _ 3 _ (by omega) (by omega)) fun y3 hy3 => ?_
      rw [wr (x := 1 + y2.1) (by omega), wr (x := 1 + y3.1) (by omega)]
      exact room_ok rec _ s fl _ _ _ _ i (by omega) c t hc ht (by omega) (by omega) (by omega) (by omega) (by omega) (by omega) fun c' t' hc' ht' => ih (i + 1, c', t') ⟨by dsimp only; omega, hc', ht'⟩ (by dsimp only; omega) _ rfl
    · rw [if_neg q]
      exact halls_ok s fl c t hc ht h1 h2
  · dsimp only
    rw [List.getD_eq_getElem?_getD, List.getElem?_replicate]
    split <;> decide
end Go.Proofs.Ytdbfecfcoephoaa.Gen

/- The program's floor is the floor in plain words (own work). -/
import Derived.Test.YtbekimnigknapaaFloorR
import Derived.Test.YtbekimnigknapaaMxY
namespace Go.Proofs.Ytbekimnigknapaa.Fl
open Go Go.Proofs.Ytbekimnigknapaa.Mx Go.Proofs.Ytbekimnigknapaa.Pc Go.Proofs.Ytbekimnigknapaa.Run Go.Proofs.Ytbekimnigknapaa.Field Go.Proofs.Ytbekimnigknapaa.Gen Go.Proofs.Ytbekimnigknapaa.GenL
set_option linter.unusedVariables false
set_option linter.unusedSimpArgs false
/-- Two loops side by side. -/
theorem it_sim {X Y B : Type} {F : (X → Option B) → X → Option B} {G : (Y → Option B) → Y → Option B} (r : X → Y → Prop)
    (h : ∀ (f : X → Option B) (g : Y → Option B) x y, r x y → (∀ x' y', r x' y' → f x' = g y') → F f x = G g y) : ∀ (n : Nat) (x : X) (y : Y), r x y → Mx.it F n x = Mx.it G n y
  | 0, x, y, _ => by rw [it_zero, it_zero]
  | n + 1, x, y, hr => by
    rw [it_succ, it_succ]
    exact h _ _ x y hr fun x' y' q => it_sim r h n x' y' q
theorem cg2 {A B C : Type} (f : A → B → C) {a a' : A} {b b' : B} (h : a = a') (h' : b = b') : f a b = f a' b' := by rw [h, h']
theorem ite_cg {A : Type} {c d : Prop} [Decidable c] [Decidable d] (h : c ↔ d) (a b : A) : (if c then a else b) = if d then a else b := by
  by_cases q : c
  · rw [if_pos q, if_pos (h.1 q)]
  · rw [if_neg q, if_neg fun z => q (h.2 z)]
theorem mix_one (a : Int) : f82 a = f81 a := rfl
theorem mix_same (s : Int) (l : List Int) : f75 s l = f73 s l := by
  unfold f75 f73
  rw [mix_one]
  refine congrArg _ (funext fun y => ?_)
  unfold f75.L1 f73.L1
  refine it_sim (fun x y => x = (y.2.1, y.1, (y.1.length : Int), y.2.2.1, ())) ?_ _ _ _ rfl
  rintro f g x ⟨l, acc, i, u⟩ rfl hr
  dsimp only
  rw [mix_one]
  generalize f81 _ = o
  refine cg2 (fun a b => bif decide (i < (l.length : Int)) then a else b) ?_ rfl
  refine cg2 (fun a b => bif inRange i l.length then a else b) ?_ rfl
  refine congrArg _ (funext fun y => ?_)
  exact hr _ (l, y.1, _, ()) rfl
theorem die_same (n s : Int) (l : List Int) : f65 n s l = f56 n s l := by
  unfold f65 f56
  rw [mix_same]
theorem die_g (m : (List Int × List EntT × List ItT) × Int × Int × List Int) (a b n : Int) : f43 m a b n = f47 m.2.1 m.2.2.1 a b n := by
  unfold f43 f47
  rw [die_same]
theorem cell_g (x y : Int) (hx : 0 ≤ x ∧ x < 24) (hy : 0 ≤ y ∧ y < 16) : f63 x y = some (y * 24 + x, ()) := by
  unfold f63
  rw [wr (x := y * 24) (by omega), wr (by omega)]
theorem room_g (s fl i : Int) (c : List Int) (hc : c.length = 384) : f41 i s fl c = some (mx s fl i, my s fl i, s, fl, roomOf s fl i c, ()) := by
  have b := room_b s fl i
  have d0 := d_is s fl i 0 5 (by decide) (by decide)
  have d1 := d_is s fl i 1 4 (by decide) (by decide)
  have e0 : 3 + dv s fl i 0 5 = rw' s fl i := rfl
  have e1 : 2 + dv s fl i 1 4 = rh' s fl i := rfl
  have d2 := d_is s fl i 2 (23 - rw' s fl i) (by omega) (by omega)
  have d3 := d_is s fl i 3 (15 - rh' s fl i) (by omega) (by omega)
  have e2 : 1 + dv s fl i 2 (23 - rw' s fl i) = rx' s fl i := rfl
  have e3 : 1 + dv s fl i 3 (15 - rh' s fl i) = ry' s fl i := rfl
  unfold f41
  simp only [die_g]
  rw [d0.1, d1.1]
  simp only [Option.bind_some]
  rw [e0, e1, wr (x := rw' s fl i) (by omega), wr (x := rh' s fl i) (by omega), wr (x := 23 - rw' s fl i) (by omega), wr (x := 15 - rh' s fl i) (by omega), d2.1, d3.1]
  simp only [Option.bind_some]
  rw [e2, e3, wr (x := rx' s fl i) (by omega), wr (x := ry' s fl i) (by omega)]
  have er : roomOf s fl i c = carve c (rx' s fl i) (ry' s fl i) (rw' s fl i) (rh' s fl i) := rfl
  have ex : mx s fl i = rx' s fl i + rw' s fl i / 2 := rfl
  have ey : my s fl i = ry' s fl i + rh' s fl i / 2 := rfl
  rw [er, ex, ey]
  generalize rw' s fl i = w at *
  generalize rh' s fl i = h at *
  generalize rx' s fl i = x at *
  generalize ry' s fl i = y at *
  have hwh : 0 ≤ w * h ∧ w * h ≤ 35 := ⟨Int.mul_nonneg (by omega) (by omega), by
    have : w * h ≤ 7 * 5 := Int.mul_le_mul (by omega) (by omega) (by omega) (by omega)
    omega⟩
  rw [wr (x := w * h) (by omega)]
  refine OK.eq ?_
  unfold f41.L1
  -- cell k of the room: row k / w, column k % w
  refine OK.loop (fun j : Nat × List Int => (w, h, x, y, w * h, (j.1 : Int), s, fl, j.2, 0, 0, ())) (fun j => (j.1 : Int) ≤ w * h ∧ j.2.length = 384 ∧ ∀ n : Nat, n < 384 → j.2.getD n 0 = if inRect x y w h n ∧ ((n : Int) / 24 - y) * w + ((n : Int) % 24 - x) < j.1 then 1 else c.getD n 0) (fun j => (w * h).toNat - j.1) (fun rec j hj ih => ?_) (0, c) rfl ⟨by dsimp only; omega, hc, fun n hn => by
    dsimp only
    rw [if_neg]
    rintro ⟨q1, q2⟩
    unfold inRect at q1
    have q3 := of_decide_eq_true q1
    have : 0 ≤ ((n : Int) / 24 - y) * w := Int.mul_nonneg (by omega) (by omega)
    omega⟩ (by dsimp only; omega)
  obtain ⟨k, c1⟩ := j
  obtain ⟨hk, hc1, hg⟩ := hj
  dsimp only at hk hc1 hg ih ⊢
  rw [bif_dec]
  by_cases q : (k : Int) < w * h
  · have hr : 0 ≤ (k : Int) % w ∧ (k : Int) % w < w := ⟨Int.emod_nonneg _ (by omega), Int.emod_lt_of_pos _ (by omega)⟩
    have hd0 : 0 ≤ (k : Int) / w := Int.ediv_nonneg (by omega) (by omega)
    have hd1 : (k : Int) / w < h := Int.ediv_lt_of_lt_mul (by omega) (by rw [Int.mul_comm]; exact q)
    have hdm : w * ((k : Int) / w) + (k : Int) % w = k := Int.mul_ediv_add_emod _ _
    have mt : Int.tmod (k : Int) w = (k : Int) % w := Int.tmod_eq_emod_of_nonneg (by omega)
    have dt : Int.tdiv (k : Int) w = (k : Int) / w := Int.tdiv_eq_ediv_of_nonneg (by omega)
    have w0 : ¬ w = 0 := by omega
    rw [if_pos q, bif_dec, if_neg w0, bif_dec, if_neg w0, mt, dt]
    generalize hcol : (k : Int) % w = col at *
    generalize hrow : (k : Int) / w = row at *
    rw [wr (x := x + col) (by omega), wr (x := row) (by omega), wr (x := y + row) (by omega), cell_g _ _ (by omega) (by omega)]
    simp only [Option.bind_some]
    rw [inR (by omega), cond_true, wr (by omega)]
    refine ih (k + 1, c1.set ((y + row) * 24 + (x + col)).toNat 1) ⟨by dsimp only; omega, by dsimp only; rw [List.length_set]; exact hc1, fun n hn => ?_⟩ (by dsimp only; omega) _ rfl
    dsimp only
    rw [getD_set, hg n hn]
    have hn24 : (n : Int) = (n : Int) / 24 * 24 + (n : Int) % 24 := by omega
    by_cases e1 : ((y + row) * 24 + (x + col)).toNat = n
    · have a1 : (n : Int) / 24 = y + row := by omega
      have a2 : (n : Int) % 24 = x + col := by omega
      have r : inRect x y w h n = true := by unfold inRect; rw [decide_eq_true_eq]; omega
      have lt : ((n : Int) / 24 - y) * w + ((n : Int) % 24 - x) < ((k + 1 : Nat) : Int) := by
        rw [a1, a2, show y + row - y = row by omega, show x + col - x = col by omega, Int.mul_comm row w]
        omega
      rw [if_pos ⟨e1, by omega⟩, if_pos ⟨r, lt⟩]
    · rw [if_neg (fun z => e1 z.1)]
      refine ite_cg ?_ _ _
      refine and_congr_right fun r => ?_
      have r' := r
      unfold inRect at r'
      have r'' := of_decide_eq_true r'
      constructor
      · intro z; omega
      · intro z
        by_cases z' : ((n : Int) / 24 - y) * w + ((n : Int) % 24 - x) < k
        · exact z'
        · exfalso
          have z2 : ((n : Int) / 24 - y) * w + ((n : Int) % 24 - x) = k := by omega
          have u := Int.emod_emod_of_dvd
          have m1 : (k : Int) % w = (n : Int) % 24 - x := by
            rw [← z2, Int.add_comm, Int.add_mul_emod_self_right]
            exact Int.emod_eq_of_lt (by omega) (by omega)
          have m2 : (k : Int) / w = (n : Int) / 24 - y := by
            rw [← z2, Int.add_comm, Int.add_mul_ediv_right _ _ w0, Int.ediv_eq_zero_of_lt (by omega) (by omega)]
            omega
          rw [hcol] at m1
          rw [hrow] at m2
          omega
  · have ek : (k : Int) = w * h := by omega
    have wx : IntKind.wrap .i64 (x + IntKind.wrap .i64 (Int.tdiv w 2)) = x + w / 2 := by
      rw [Int.tdiv_eq_ediv_of_nonneg (by omega), wr (x := w / 2) (by omega), wr (by omega)]
    have wy : IntKind.wrap .i64 (y + IntKind.wrap .i64 (Int.tdiv h 2)) = y + h / 2 := by
      rw [Int.tdiv_eq_ediv_of_nonneg (by omega), wr (x := h / 2) (by omega), wr (by omega)]
    rw [if_neg q, wx, wy]
    have : c1 = carve c x y w h := list_ext hc1 (carve_len ..) fun n hn => by
      rw [hg n hn, carve_get _ _ _ _ _ n hn, ek]
      refine ite_cg ?_ _ _
      constructor
      · exact fun z => z.1
      · intro r
        refine ⟨r, ?_⟩
        unfold inRect at r
        have r'' := of_decide_eq_true r
        have : ((n : Int) / 24 - y + 1) * w ≤ h * w := Int.mul_le_mul_of_nonneg_right (by omega) (by omega)
        rw [Int.add_mul, Int.one_mul, Int.mul_comm h w] at this
        omega
    rw [this]
    exact OK.ret rfl
theorem toward_g (a b : Int) (ha : -1000 ≤ a ∧ a ≤ 1000) (h : a ≠ b) : f64 a b = some (tow a b, ()) := by
  unfold f64 tow
  rw [bif_dec, bif_dec]
  by_cases c : a < b
  · rw [if_pos c, if_pos c, wr (by omega)]
  · rw [if_neg c, if_neg c, if_pos (by omega), wr (by omega)]
/-- One round of a hall behind its first cell. -/
theorem hop_g (rec : Bool × Bool × Int × Int × List Int × Int × Int × Int × Int × Unit → Option (Int × Int × List Int × Unit)) (Q : Int × Int × List Int × Unit → Prop) (first d : Bool) (s fl x y X Y : Int) (c : List Int)
    (hx : GX x) (hy : GY y) (hX : GX X) (hY : GY Y) (h0 : x = X ∧ y = Y → Q (s, fl, c, ())) (h1 : ¬ (x = X ∧ y = Y) → OK (rec (first, d, s, fl, c, (stp x y X Y first).1, (stp x y X Y first).2, X, Y, ())) Q) :
    OK (bif x == X && (y == Y && true) then some (s, fl, c, ()) else
      bif first then
        bif x != X then Option.bind (f64 x X) fun y3 => rec (first, d, s, fl, c, y3.1, y, X, Y, ())
        else bif y == Y then Option.bind (f64 x X) fun y4 => rec (first, d, s, fl, c, y4.1, y, X, Y, ())
        else Option.bind (f64 y Y) fun y5 => rec (first, d, s, fl, c, x, y5.1, X, Y, ())
      else bif y == Y then Option.bind (f64 x X) fun y6 => rec (first, d, s, fl, c, y6.1, y, X, Y, ())
        else Option.bind (f64 y Y) fun y7 => rec (first, d, s, fl, c, x, y7.1, X, Y, ())) Q := by
  unfold GX at hx hX
  unfold GY at hy hY
  by_cases both : x = X ∧ y = Y
  · have q1 : (x == X) = true := beq_iff_eq.2 both.1
    have q2 : (y == Y) = true := beq_iff_eq.2 both.2
    rw [q1, q2]
    exact OK.ret (h0 both)
  · have go := h1 both
    have q0 : (x == X && (y == Y && true)) = false := by
      rw [Bool.and_true, Bool.and_eq_false_iff, beq_eq_false_iff_ne, beq_eq_false_iff_ne]
      exact (Decidable.not_and_iff_or_not.1 both)
    rw [q0, cond_false]
    cases first with
    | true =>
      rw [cond_true]
      by_cases e : x = X
      · have q1 : (x != X) = false := by simp [e]
        have e2 : y ≠ Y := fun z => both ⟨e, z⟩
        have q2 : (y == Y) = false := beq_eq_false_iff_ne.2 e2
        have es : stp x y X Y true = (x, tow y Y) := if_neg (by simp [e])
        rw [q1, cond_false, q2, cond_false, toward_g y Y (by omega) e2]
        rw [es] at go
        exact go
      · have q1 : (x != X) = true := bne_iff_ne.2 e
        have es : stp x y X Y true = (tow x X, y) := if_pos (.inl ⟨rfl, e⟩)
        rw [q1, cond_true, toward_g x X (by omega) e]
        rw [es] at go
        exact go
    | false =>
      rw [cond_false]
      by_cases e : y = Y
      · have e2 : x ≠ X := fun z => both ⟨z, e⟩
        have q2 : (y == Y) = true := beq_iff_eq.2 e
        have es : stp x y X Y false = (tow x X, y) := if_pos (.inr ⟨rfl, e⟩)
        rw [q2, cond_true, toward_g x X (by omega) e2]
        rw [es] at go
        exact go
      · have q2 : (y == Y) = false := beq_eq_false_iff_ne.2 e
        have es : stp x y X Y false = (x, tow y Y) := if_neg (by simp [e])
        rw [q2, cond_false, toward_g y Y (by omega) e]
        rw [es] at go
        exact go
theorem hall_succ {x y X Y : Int} {first d : Bool} {c : List Int} (h : ¬ (x = X ∧ y = Y)) : hall (gap x y X Y) x y X Y first d c = hall (gap (stp x y X Y first).1 (stp x y X Y first).2 X Y) (stp x y X Y first).1 (stp x y X Y first).2 X Y first (dg (stp x y X Y first).1 (stp x y X Y first).2 d c).1 (dg (stp x y X Y first).1 (stp x y X Y first).2 d c).2 := by
  have hg := stp_gap first h
  rw [← hg]
  conv => lhs; unfold hall
  rw [if_neg h]
theorem dig_g (x y X Y : Int) (first : Bool) (s fl : Int) (c : List Int) (hc : c.length = 384) (hx : GX x) (hy : GY y) (hX : GX X) (hY : GY Y) :
    f42 x y X Y first s fl c = some (s, fl, hall (gap x y X Y) x y X Y first (dg x y false c).1 (dg x y false c).2, ()) := by
  have loop : ∀ (x y : Int) (d : Bool) (c : List Int) (H : List Int), GX x → GY y → c.length = 384 → hall (gap x y X Y) x y X Y first (dg x y d c).1 (dg x y d c).2 = H →
      OK (f42.L1 (first, d, s, fl, c, x, y, X, Y, ())) fun z => z = (s, fl, H, ()) := by
    intro x y d c H hx hy hc hH
    unfold f42.L1
    refine OK.loop (fun j : Int × Int × Bool × List Int => (first, j.2.2.1, s, fl, j.2.2.2, j.1, j.2.1, X, Y, ())) (fun j => GX j.1 ∧ GY j.2.1 ∧ j.2.2.2.length = 384 ∧ hall (gap j.1 j.2.1 X Y) j.1 j.2.1 X Y first (dg j.1 j.2.1 j.2.2.1 j.2.2.2).1 (dg j.1 j.2.1 j.2.2.1 j.2.2.2).2 = H) (fun j => gap j.1 j.2.1 X Y) (fun rec j hj ih => ?_) (x, y, d, c) rfl ⟨hx, hy, hc, hH⟩ (by dsimp only; unfold gap; unfold GX at *; unfold GY at *; omega)
    clear hH hx hy hc
    obtain ⟨x, y, d, c⟩ := j
    obtain ⟨hx, hy, hc, hH⟩ := hj
    dsimp only at hx hy hc hH ih ⊢
    have hx' := hx
    have hy' := hy
    unfold GX at hx'
    unfold GY at hy'
    rw [cell_g x y (by omega) (by omega)]
    simp only [Option.bind_some]
    rw [inR (by omega), cond_true]
    refine OK.callR (R := fun z => z = Sum.inl (first, (dg x y d c).1, s, fl, (dg x y d c).2, x, y, X, Y, ())) ?_ ?_
    · unfold dg
      by_cases q : c.getD (y * 24 + x).toNat 0 ≠ 0
      · have : (c.getD (y * 24 + x).toNat 0 == 0) = false := beq_eq_false_iff_ne.2 q
        rw [this, if_pos q]
        exact OK.ret rfl
      · have : (c.getD (y * 24 + x).toNat 0 == 0) = true := by simpa using q
        rw [this, if_neg q, List.set_set]
        cases d <;> exact OK.ret rfl
    · intro z e
      subst e
      simp only [Sum.elim_inl]
      have hdl : (dg x y d c).2.length = 384 := by rw [dg_len]; exact hc
      generalize dg x y d c = p at *
      obtain ⟨d', c'⟩ := p
      dsimp only at *
      refine hop_g rec _ first d' s fl x y X Y c' hx hy hX hY (fun both => ?_) (fun both => ?_)
      · rw [← hH, hall_zero _ _ _ _ _ _ _ both]
      · have hg := stp_gap first both
        unfold GX at hX
        unfold GY at hY
        have hin := stp_in first both (x0 := 0) (x1 := 23) (y0 := 0) (y1 := 15) (by omega) (by omega) (by omega) (by omega)
        rw [hall_succ both] at hH
        exact ih ((stp x y X Y first).1, (stp x y X Y first).2, d', c') ⟨by dsimp only; unfold GX; omega, by dsimp only; unfold GY; omega, hdl, hH⟩ (by dsimp only; omega) _ rfl
  refine OK.eq ?_
  unfold f42
  have hx' := hx
  have hy' := hy
  unfold GX at hx'
  unfold GY at hy'
  rw [cell_g x y (by omega) (by omega)]
  simp only [Option.bind_some]
  rw [inR (by omega), cond_true]
  refine OK.callR (R := fun z => z = Sum.inl (first, (dg x y false c).1, s, fl, (dg x y false c).2, x, y, X, Y, ())) ?_ ?_
  · unfold dg
    by_cases q : c.getD (y * 24 + x).toNat 0 ≠ 0
    · have : (c.getD (y * 24 + x).toNat 0 == 0) = false := beq_eq_false_iff_ne.2 q
      rw [this, if_pos q]
      exact OK.ret rfl
    · have : (c.getD (y * 24 + x).toNat 0 == 0) = true := by simpa using q
      rw [this, if_neg q, List.set_set]
      exact OK.ret rfl
  · intro z e
    subst e
    simp only [Sum.elim_inl]
    have hdl : (dg x y false c).2.length = 384 := by rw [dg_len]; exact hc
    generalize dg x y false c = p at *
    obtain ⟨d', c'⟩ := p
    dsimp only at *
    refine hop_g f42.L1 _ first d' s fl x y X Y c' hx hy hX hY (fun both => ?_) (fun both => ?_)
    · rw [hall_zero _ _ _ _ _ _ _ both]
    · unfold GX at hX
      unfold GY at hY
      have hin := stp_in first both (x0 := 0) (x1 := 23) (y0 := 0) (y1 := 15) (by omega) (by omega) (by omega) (by omega)
      exact loop _ _ d' c' _ (by unfold GX; omega) (by unfold GY; omega) hdl (hall_succ both).symm
/-- The greatest of a row. -/
theorem max_g (l : List Int) (m : Nat) (hm : m < l.length) (hl : l.length ≤ 100000) (h : ∀ j : Nat, j < l.length → Field.rd l j ≤ Field.rd l m) : f67 l = some (Field.rd l m, ()) := by
  refine OK.eq ?_
  unfold f67 f67.L1
  rw [bif_dec, if_neg (by omega), inR (by omega), cond_true]
  refine OK.loop (fun j : Nat × Int => (l, j.2, (j.1 : Int), ())) (fun j => j.1 ≤ l.length ∧ (∃ k : Nat, k < j.1 ∧ j.2 = Field.rd l k) ∧ ∀ k : Nat, k < j.1 → Field.rd l k ≤ j.2) (fun j => l.length - j.1) (fun rec j hj ih => ?_) (1, l.getD 0 0) rfl ⟨by dsimp only; omega, ⟨0, Nat.one_pos, rfl⟩, fun k hk => by
    have : k = 0 := by dsimp only at hk; omega
    subst this
    exact Int.le_refl _⟩ (by dsimp only; omega)
  obtain ⟨i, v⟩ := j
  obtain ⟨hi, ⟨k, hk, hv⟩, hmax⟩ := hj
  dsimp only at hi hk hv hmax ih ⊢
  rw [bif_dec]
  by_cases c : (i : Int) < l.length
  · rw [if_pos c, inR (by omega), cond_true, wr (by omega), maxI_eq, Int.toNat_natCast]
    have er : l.getD i 0 = Field.rd l i := rfl
    rw [er]
    refine ih (i + 1, max v (Field.rd l i)) ⟨by dsimp only; omega, ?_, fun j hj => ?_⟩ (by dsimp only; omega) _ rfl
    · dsimp only
      by_cases g : v ≤ Field.rd l i
      · exact ⟨i, by omega, by omega⟩
      · exact ⟨k, by omega, by omega⟩
    · dsimp only at hj ⊢
      by_cases e : j = i
      · subst e; omega
      · have := hmax j (by omega); omega
  · rw [if_neg c]
    refine OK.ret ?_
    have h1 := hmax m (by omega)
    have h2 := h k (by omega)
    have : v = Field.rd l m := by omega
    rw [this]
/-- The first place of a number. -/
theorem index_g (l : List Int) (v : Int) (hl : l.length ≤ 100000) : f68 l v = some (match (List.range l.length).find? fun i : Nat => v == l.getD i 0 with | some i => (i : Int) | none => -1, ()) := by
  unfold f68 f68.L1
  refine (it_find (x := (l, v, (l.length : Int), 0, ())) (fun i : Nat => v == l.getD i 0) l.length (fun i : Nat => (l, v, (l.length : Int), (i : Int), ())) (fun i => some ((i : Int), ())) (some (-1, ())) (fun rec i hi => ?_) (by omega) rfl).trans ?_
  rotate_left
  · cases (List.range l.length).find? fun i : Nat => v == l.getD i 0 <;> rfl
  · dsimp only
    rw [bif_dec]
    by_cases c : i < l.length
    · rw [if_pos c, if_pos (by omega), inR (by omega), cond_true, wr (by omega), Int.toNat_natCast, ite_bif]
      rfl
    · rw [if_neg c, if_neg (by omega)]
theorem contains_g (l : List Int) (v : Int) (hl : l.length ≤ 100000) : f79 l v = some (l.contains v, ()) := by
  unfold f79
  rw [index_g l v hl]
  simp only [Option.bind_some]
  cases e : (List.range l.length).find? fun i : Nat => v == l.getD i 0 with
  | none =>
    have : l.contains v = false := by
      rw [List.contains_eq_mem, decide_eq_false_iff_not]
      intro hm
      obtain ⟨i, hi, rfl⟩ := List.getElem_of_mem hm
      have := List.find?_range_eq_none.1 e i hi
      rw [List.getD_eq_getElem?_getD, List.getElem?_eq_getElem hi] at this
      simp at this
    rw [this]; rfl
  | some i =>
    obtain ⟨h1, h2, _⟩ := List.find?_range_eq_some.1 e
    have hi := List.mem_range.1 h2
    have : l.contains v = true := by
      rw [List.contains_eq_mem, decide_eq_true_eq]
      have := beq_iff_eq.1 h1
      rw [List.getD_eq_getElem?_getD, List.getElem?_eq_getElem hi] at this
      rw [this]
      exact List.getElem_mem hi
    rw [this]
    simp only
    have : decide ((i : Int) ≥ 0) = true := decide_eq_true (by omega)
    rw [this]
end Go.Proofs.Ytbekimnigknapaa.Fl

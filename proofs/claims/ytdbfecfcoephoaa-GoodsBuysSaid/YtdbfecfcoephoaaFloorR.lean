/- The document's floor is the floor in plain words (own work). -/
import Derived.Test.YtdbfecfcoephoaaFloor1
namespace Go.Proofs.Ytdbfecfcoephoaa.Fl
open Go Go.Proofs.Ytdbfecfcoephoaa.Mx Go.Proofs.Ytdbfecfcoephoaa.Pc Go.Proofs.Ytdbfecfcoephoaa.Run Go.Proofs.Ytdbfecfcoephoaa.Field Go.Proofs.Ytdbfecfcoephoaa.Gen Go.Proofs.Ytdbfecfcoephoaa.GenL
set_option linter.unusedVariables false
set_option linter.unusedSimpArgs false
theorem row_r (k0 : Int × Int × Int × Int × Int × Int × Int × Int × List Int × Tail → Option Res) (Q : Res → Prop) (s fl i w h x y b : Int) (c : List Int) (t : Tail) (hc : c.length = 384) (hx : 0 ≤ x) (hw : 0 ≤ w) (hxw : x + w ≤ 24) (hb : 0 ≤ b ∧ b < 16)
    (k : OK (k0 (s, fl, i, w, h, x, y, b + 1, carve c x b w 1, t)) Q) : OK (f23.L1 k0 (s, fl, i, w, h, x, y, b, x, c, t)) Q := by
  unfold f23.L1
  refine OK.loop (fun j : Nat × List Int => (s, fl, i, w, h, x, y, b, x + (j.1 : Int), j.2, t)) (fun j => (j.1 : Int) ≤ w ∧ j.2.length = 384 ∧ ∀ n : Nat, n < 384 → j.2.getD n 0 = if inRect x b j.1 1 n then 1 else c.getD n 0) (fun j => w.toNat - j.1) (fun rec j hj ih => ?_) (0, c) (by simp) ⟨by dsimp only; omega, hc, fun n hn => by
    have : inRect x b ((0 : Nat) : Int) 1 n = false := by unfold inRect; simp only [decide_eq_false_iff_not]; omega
    dsimp only
    rw [this]; rfl⟩ (by dsimp only; omega)
  obtain ⟨j, c1⟩ := j
  obtain ⟨hj, hc1, hg⟩ := hj
  dsimp only at hj hc1 hg ih ⊢
  rw [wr (x := x + w) (by omega), bif_dec]
  by_cases q : x + (j : Int) < x + w
  · have e : IntKind.wrap .i64 (IntKind.wrap .i64 (b * 24) + (x + (j : Int))) = b * 24 + (x + j) := by rw [wr (x := b * 24) (by omega), wr (by omega)]
    rw [if_pos q, e, inR (by omega), cond_true, wr (by omega)]
    refine ih (j + 1, c1.set (b * 24 + (x + j)).toNat 1) ⟨by dsimp only; omega, by dsimp only; rw [List.length_set]; exact hc1, fun n hn => ?_⟩ (by dsimp only; omega) _ (by
      have : x + (j : Int) + 1 = x + ((j + 1 : Nat) : Int) := by omega
      rw [this])
    dsimp only
    rw [getD_set, hg n hn]
    by_cases e1 : (b * 24 + (x + j)).toNat = n
    · have : inRect x b ((j + 1 : Nat) : Int) 1 n = true := by unfold inRect; rw [decide_eq_true_eq]; omega
      rw [if_pos ⟨e1, by omega⟩, this]; rfl
    · rw [if_neg (fun z => e1 z.1)]
      have : inRect x b ((j + 1 : Nat) : Int) 1 n = inRect x b (j : Int) 1 n := by unfold inRect; rw [decide_eq_decide]; omega
      rw [this]
  · rw [if_neg q, wr (by omega)]
    have ej : (j : Int) = w := by omega
    have : c1 = carve c x b w 1 := list_ext hc1 (carve_len ..) fun n hn => by rw [hg n hn, carve_get _ _ _ _ _ n hn, ej]
    rw [this]
    exact k
theorem room_r (k0 : Int × Int × Int × List Int × Tail → Option Res) (Q : Res → Prop) (s fl w h x y : Int) (i : Nat) (hi : i < 6) (c : List Int) (t : Tail) (hc : c.length = 384) (hx : 0 ≤ x) (hw : 1 ≤ w) (hxw : x + w ≤ 24) (hy : 0 ≤ y) (hh : 1 ≤ h) (hyh : y + h ≤ 16)
    (k : ∀ t', (∀ j, j < 6 → mxs t' j = if j = i then x + w / 2 else mxs t j) → (∀ j, j < 6 → mys t' j = if j = i then y + h / 2 else mys t j) → OK (k0 (s, fl, ((i + 1 : Nat) : Int), carve c x y w h, t')) Q) : OK (f23.L2 k0 (s, fl, (i : Int), w, h, x, y, y, c, t)) Q := by
  unfold f23.L2
  refine OK.loop (fun j : Nat × List Int => (s, fl, (i : Int), w, h, x, y, y + (j.1 : Int), j.2, t)) (fun j => (j.1 : Int) ≤ h ∧ j.2.length = 384 ∧ ∀ n : Nat, n < 384 → j.2.getD n 0 = if inRect x y w j.1 n then 1 else c.getD n 0) (fun j => h.toNat - j.1) (fun rec j hj ih => ?_) (0, c) (by simp) ⟨by dsimp only; omega, hc, fun n hn => by
    have : inRect x y w ((0 : Nat) : Int) n = false := by unfold inRect; simp only [decide_eq_false_iff_not]; omega
    dsimp only
    rw [this]; rfl⟩ (by dsimp only; omega)
  obtain ⟨j, c1⟩ := j
  obtain ⟨hj, hc1, hg⟩ := hj
  dsimp only at hj hc1 hg ih ⊢
  rw [wr (x := y + h) (by omega), bif_dec]
  by_cases q : y + (j : Int) < y + h
  · rw [if_pos q]
    refine row_r rec Q s fl (i : Int) w h x y (y + j) c1 t hc1 hx (by omega) hxw (by omega) ?_
    refine ih (j + 1, carve c1 x (y + j) w 1) ⟨by dsimp only; omega, carve_len .., fun n hn => ?_⟩ (by dsimp only; omega) _ (by
      have : y + (j : Int) + 1 = y + ((j + 1 : Nat) : Int) := by omega
      rw [this])
    dsimp only
    rw [carve_get _ _ _ _ _ n hn, hg n hn]
    by_cases e1 : inRect x (y + j) w 1 n = true
    · have e1' := e1
      unfold inRect at e1'
      have e2 := of_decide_eq_true e1'
      have : inRect x y w ((j + 1 : Nat) : Int) n = true := by unfold inRect; rw [decide_eq_true_eq]; omega
      rw [if_pos e1, if_pos this]
    · have e1' := e1
      unfold inRect at e1'
      rw [decide_eq_true_eq] at e1'
      have : inRect x y w ((j + 1 : Nat) : Int) n = inRect x y w (j : Int) n := by unfold inRect; rw [decide_eq_decide]; omega
      rw [if_neg e1, this]
  · have wx : IntKind.wrap .i64 (x + IntKind.wrap .i64 (Int.tdiv w 2)) = x + w / 2 := by
      rw [Int.tdiv_eq_ediv_of_nonneg (by omega), wr (x := w / 2) (by omega), wr (by omega)]
    have wy : IntKind.wrap .i64 (y + IntKind.wrap .i64 (Int.tdiv h 2)) = y + h / 2 := by
      rw [Int.tdiv_eq_ediv_of_nonneg (by omega), wr (x := h / 2) (by omega), wr (by omega)]
    have wi : IntKind.wrap .i64 ((i : Int) + 1) = ((i + 1 : Nat) : Int) := by rw [wr (by omega)]; omega
    have ej : (j : Int) = h := by omega
    have : c1 = carve c x y w h := list_ext hc1 (carve_len ..) fun n hn => by rw [hg n hn, carve_get _ _ _ _ _ n hn, ej]
    rw [if_neg q, inR (by omega), cond_true, cond_true, wx, wy, wi, Int.toNat_natCast, this]
    have key : ∀ p : Nat, ∀ a b : Int, (if i = p then a else b) = if p = i then a else b := fun p a b => by
      by_cases e : i = p
      · rw [if_pos e, if_pos e.symm]
      · rw [if_neg e, if_neg (fun x => e x.symm)]
    refine k _ (fun j hj => ?_) (fun j hj => ?_)
    · match j, hj with
      | 0, _ => exact key 0 _ _
      | 1, _ => exact key 1 _ _
      | 2, _ => exact key 2 _ _
      | 3, _ => exact key 3 _ _
      | 4, _ => exact key 4 _ _
      | 5, _ => exact key 5 _ _
    · match j, hj with
      | 0, _ => exact key 0 _ _
      | 1, _ => exact key 1 _ _
      | 2, _ => exact key 2 _ _
      | 3, _ => exact key 3 _ _
      | 4, _ => exact key 4 _ _
      | 5, _ => exact key 5 _ _
theorem dig_r (x y : Int) (d : Bool) (c : List Int) (hc : c.length = 384) (hx : 0 ≤ x ∧ x < 24) (hy : 0 ≤ y ∧ y < 16) : f40 x y d c = some ((dg x y d c).1, (dg x y d c).2, ()) := by
  unfold f40 dg
  have e : IntKind.wrap .i64 (IntKind.wrap .i64 (y * 24) + x) = y * 24 + x := by rw [wr (x := y * 24) (by omega), wr (by omega)]
  rw [e, inR (by omega), cond_true, cond_true, inR (n := (c.set (y * 24 + x).toNat 1).length) (by rw [List.length_set]; omega), cond_true, List.set_set]
  by_cases q : c.getD (y * 24 + x).toNat 0 ≠ 0
  · have : (c.getD (y * 24 + x).toNat 0 != 0) = true := bne_iff_ne.2 q
    rw [this, if_pos q]; rfl
  · have : (c.getD (y * 24 + x).toNat 0 != 0) = false := by simpa using q
    rw [this, if_neg q]
    cases d <;> rfl
theorem dg_len (x y : Int) (d : Bool) (c : List Int) : (dg x y d c).2.length = c.length := by unfold dg; split <;> simp
theorem hall_zero (x y X Y : Int) (first d : Bool) (c : List Int) (h : x = X ∧ y = Y) : ∀ n, hall n x y X Y first d c = c
  | 0 => rfl
  | n + 1 => by unfold hall; rw [if_pos h]
theorem way_r (k0 : Int × Int × Int × List Int × Tail → Option Res) (Q : Res → Prop) (s fl : Int) (i : Nat) (hi : i < 6) (x y : Int) (door first : Bool) (c : List Int) (t : Tail) (hc : c.length = 384) (hx : GX x) (hy : GY y) (hX : GX (mxs t i)) (hY : GY (mys t i))
    (k : OK (k0 (s, fl, ((i + 1 : Nat) : Int), hall (gap x y (mxs t i) (mys t i)) x y (mxs t i) (mys t i) first door c, t)) Q) : OK (f23.L3 k0 (s, fl, (i : Int), x, y, door, first, c, t)) Q := by
  have eX : mxs t i = [t.1, t.2.1, t.2.2.1, t.2.2.2.1, t.2.2.2.2.1, t.2.2.2.2.2.1].getD i 0 := rfl
  have eY : mys t i = [t.2.2.2.2.2.2.1, t.2.2.2.2.2.2.2.1, t.2.2.2.2.2.2.2.2.1, t.2.2.2.2.2.2.2.2.2.1, t.2.2.2.2.2.2.2.2.2.2.1, t.2.2.2.2.2.2.2.2.2.2.2.1].getD i 0 := rfl
  generalize mxs t i = X at *
  generalize mys t i = Y at *
  generalize hH : hall (gap x y X Y) x y X Y first door c = H at k
  unfold f23.L3
  refine OK.loop (fun j : Int × Int × Bool × List Int => (s, fl, (i : Int), j.1, j.2.1, j.2.2.1, first, j.2.2.2, t)) (fun j => GX j.1 ∧ GY j.2.1 ∧ j.2.2.2.length = 384 ∧ hall (gap j.1 j.2.1 X Y) j.1 j.2.1 X Y first j.2.2.1 j.2.2.2 = H) (fun j => gap j.1 j.2.1 X Y) (fun rec j hj ih => ?_) (x, y, door, c) rfl ⟨hx, hy, hc, hH⟩ (by dsimp only; unfold gap; unfold GX at *; unfold GY at *; omega)
  clear hH hx hy hc
  obtain ⟨x, y, door, c⟩ := j
  obtain ⟨hx, hy, hc, hH⟩ := hj
  dsimp only at hx hy hc hH ih ⊢
  have wi : IntKind.wrap .i64 ((i : Int) + 1) = ((i + 1 : Nat) : Int) := by rw [wr (by omega)]; omega
  have ir : inRange (i : Int) 6 = true := inR (by omega)
  simp only [Int.toNat_natCast, ← eX, ← eY, ir, cond_true, wi]
  have hx' := hx
  have hy' := hy
  unfold GX at hx' hX
  unfold GY at hy' hY
  by_cases both : x = X ∧ y = Y
  · have q1 : (x != X) = false := by simp [both.1]
    have q2 : (y != Y) = false := by simp [both.2]
    rw [q1, q2, cond_false, cond_false]
    rw [hall_zero _ _ _ _ _ _ _ both] at hH
    subst hH
    exact OK.callR (R := fun z => ∃ q, z = Sum.inr q ∧ Q q) (OK.callR k fun q hq => OK.ret ⟨q, rfl, hq⟩) (fun z ⟨q, e, hq⟩ => by subst e; exact OK.ret hq)
  · have hg := stp_gap first both
    have hin := stp_in first both (x0 := 0) (x1 := 23) (y0 := 0) (y1 := 15) (by omega) (by omega) (by omega) (by omega)
    obtain ⟨n, en⟩ : ∃ n, gap x y X Y = n + 1 := ⟨_, hg.symm⟩
    rw [en] at hH
    unfold hall at hH
    rw [if_neg both] at hH
    have en' : gap (stp x y X Y first).1 (stp x y X Y first).2 X Y = n := by omega
    refine OK.callR (R := fun z => z = Sum.inl (s, fl, (i : Int), x, y, door, first, c, t)) ?_ ?_
    · by_cases h1 : x = X
      · have q1 : (x != X) = false := by simp [h1]
        have q2 : (y != Y) = true := by simp; exact fun e => both ⟨h1, e⟩
        rw [q1, q2, cond_false, cond_true]
        exact OK.ret rfl
      · have q1 : (x != X) = true := by simpa using h1
        rw [q1, cond_true]
        exact OK.ret rfl
    · intro z e
      subst e
      simp only [Sum.elim_inl, Int.toNat_natCast, ← eX, ← eY, ir, cond_true]
      refine OK.callR (R := fun z => z = Sum.inl (s, fl, (i : Int), (stp x y X Y first).1, (stp x y X Y first).2, door, first, c, t)) ?_ ?_
      · have gx : GX x := hx
        have gy : GY y := hy
        rw [toward_eq x X (by omega), toward_eq y Y (by omega)]
        simp only [Option.bind_some]
        cases first with
        | true =>
          by_cases h1 : x = X
          · have q1 : (x != X) = false := by simp [h1]
            have es : stp x y X Y true = (x, tow y Y) := if_neg (by simp [h1])
            rw [q1, es]
            exact OK.ret rfl
          · have q1 : (x != X) = true := by simpa using h1
            have es : stp x y X Y true = (tow x X, y) := if_pos (.inl ⟨rfl, h1⟩)
            rw [q1, es]
            exact OK.ret rfl
        | false =>
          by_cases h2 : y = Y
          · have q2 : (y == Y) = true := by simp [h2]
            have es : stp x y X Y false = (tow x X, y) := if_pos (.inr ⟨rfl, h2⟩)
            rw [q2, es]
            exact OK.ret rfl
          · have q2 : (y == Y) = false := by simpa using h2
            have es : stp x y X Y false = (x, tow y Y) := if_neg (by simp [h2])
            rw [q2, es]
            exact OK.ret rfl
      · intro z e
        subst e
        simp only [Sum.elim_inl]
        generalize stp x y X Y first = p at *
        obtain ⟨x', y'⟩ := p
        dsimp only at *
        rw [dig_r x' y' door c hc (by omega) (by omega)]
        simp only [Option.bind_some]
        refine ih (x', y', (dg x' y' door c).1, (dg x' y' door c).2) ⟨by dsimp only; unfold GX; omega, by dsimp only; unfold GY; omega, by dsimp only; rw [dg_len]; exact hc, ?_⟩ (by dsimp only; omega) _ rfl
        dsimp only
        rw [en']
        exact hH
/-- The place of the shop, as it is looked for. -/
def shopIs (c f : List Int) (far : Int) (i : Nat) : Bool := c.getD i 0 == 1 && f.getD i 0 == Field.rd f far / 2
theorem shop_r (s fl far : Int) (c f : List Int) (hc : c.length = 384) (hf : f.length = 384) (hfar : GC far) (h0 : 0 ≤ Field.rd f far ∧ Field.rd f far ≤ 100000) :
    f23.L4 (s, fl, far, false, 0, c, f, ()) = some (Sum.inl (s, fl, ((List.range 384).find? (shopIs c f far)).isSome, (match (List.range 384).find? (shopIs c f far) with | some i => c.set i 5 | none => c), f, ())) := by
  have hfar' := hfar
  unfold GC at hfar'
  have e2 : IntKind.wrap .i64 (Int.tdiv (f.getD far.toNat 0) 2) = Field.rd f far / 2 := by
    have : f.getD far.toNat 0 = Field.rd f far := rfl
    rw [this, Int.tdiv_eq_ediv_of_nonneg h0.1, wr (by omega)]
  have fin1 : ∀ i, i < 384 → shopIs c f far i = true → (∀ j, j < i → shopIs c f far j = false) → (List.range 384).find? (shopIs c f far) = some i := fun i hi h hj => List.find?_range_eq_some.2 ⟨h, List.mem_range.2 hi, fun j q => by rw [hj j q]; rfl⟩
  have fin0 : (∀ j, j < 384 → shopIs c f far j = false) → (List.range 384).find? (shopIs c f far) = none := fun hj => List.find?_range_eq_none.2 fun j q => by rw [hj j q]; rfl
  refine OK.eq ?_
  unfold f23.L4
  refine OK.loop (fun j : Nat × Bool × List Int => (s, fl, far, j.2.1, (j.1 : Int), j.2.2, f, ())) (fun j => j.1 ≤ 384 ∧ j.2.2.length = 384 ∧ ((j.2.1 = false ∧ j.2.2 = c ∧ ∀ k, k < j.1 → shopIs c f far k = false) ∨ (j.2.1 = true ∧ ∃ k, k < 384 ∧ shopIs c f far k = true ∧ (∀ i, i < k → shopIs c f far i = false) ∧ j.2.2 = c.set k 5))) (fun j => 384 - j.1) (fun rec j hj ih => ?_) (0, false, c) rfl ⟨Nat.zero_le _, hc, .inl ⟨rfl, rfl, fun k hk => absurd hk (Nat.not_lt_zero k)⟩⟩ (by dsimp only; decide)
  obtain ⟨i, b, c'⟩ := j
  obtain ⟨hi, hl, hI⟩ := hj
  dsimp only at hi hl hI ih ⊢
  have done : ∀ (b : Bool) (c' : List Int), (b = true ∧ ∃ k, k < 384 ∧ shopIs c f far k = true ∧ (∀ i, i < k → shopIs c f far i = false) ∧ c' = c.set k 5) →
      OK (some (Sum.inl (α := Int × Int × Bool × List Int × List Int × Unit) (β := Res) (s, fl, b, c', f, ()))) fun z => z = Sum.inl (s, fl, ((List.range 384).find? (shopIs c f far)).isSome, (match (List.range 384).find? (shopIs c f far) with | some i => c.set i 5 | none => c), f, ()) := by
    rintro b c' ⟨rfl, k, hk, h1, h2, rfl⟩
    rw [fin1 k hk h1 h2]
    exact OK.ret rfl
  by_cases c4 : i < 384
  · have c4' : (i : Int) < 384 := by omega
    have wj : IntKind.wrap .i64 ((i : Int) + 1) = ((i + 1 : Nat) : Int) := by rw [wr (by omega)]; omega
    rw [bif_dec, if_pos c4', inR (i := (i : Int)) (n := c'.length) (by omega), inR (i := (i : Int)) (n := f.length) (by omega), inR (i := far) (n := f.length) (by omega), wj, e2]
    simp only [cond_true, Int.toNat_natCast]
    rcases hI with ⟨rfl, rfl, hn⟩ | hI
    · rw [Bool.not_false, cond_true]
      have skip : shopIs c' f far i = false → OK (rec (s, fl, far, false, ((i + 1 : Nat) : Int), c', f, ())) _ := fun hp => ih (i + 1, false, c') ⟨by dsimp only; omega, hl, .inl ⟨rfl, rfl, fun k hk => by
        rcases Nat.lt_or_ge k i with q | q
        · exact hn k q
        · have : k = i := by dsimp only at hk; omega
          rw [this]; exact hp⟩⟩ (by dsimp only; omega) _ rfl
      refine OK.bif (fun h1 => ?_) (fun h1 => skip (by unfold shopIs; rw [h1]; rfl))
      refine OK.bif (fun h2 => ?_) (fun h2 => skip (by unfold shopIs; rw [h2, Bool.and_false]))
      exact ih (i + 1, true, c'.set i 5) ⟨by dsimp only; omega, by dsimp only; rw [List.length_set]; exact hl, .inr ⟨rfl, i, c4, by unfold shopIs; rw [h1, h2]; rfl, hn, rfl⟩⟩ (by dsimp only; omega) _ rfl
    · have hb := hI.1
      subst hb
      exact done true c' hI
  · have c4' : ¬ (i : Int) < 384 := by omega
    rw [bif_dec, if_neg c4']
    rcases hI with ⟨rfl, rfl, hn⟩ | hI
    · rw [fin0 fun j hj => hn j (by omega)]
      exact OK.ret rfl
    · exact done b c' hI
theorem getD_map_cast (l : List Nat) (k : Nat) : (l.map fun i : Nat => (i : Int)).getD k 0 = ((l.getD k 0 : Nat) : Int) := by
  simp only [List.getD_eq_getElem?_getD, List.getElem?_map]
  cases l[k]? <;> rfl
/-- Which cell is picked. -/
noncomputable def pk (s fl : Int) (c f : List Int) (far a : Int) (taken : List Int) : Int := (frees c f far taken).getD (dv s fl a 0 (frees c f far taken).length).toNat 0
theorem frees_len (c f : List Int) (far : Int) (taken : List Int) : (frees c f far taken).length ≤ 384 := by
  unfold frees
  rw [List.length_map]
  have := List.length_filter_le (fun i : Nat => c.getD i 0 == 1 && decide (far ≤ f.getD i 0) && !taken.contains (i : Int)) (List.range 384)
  rw [List.length_range] at this
  exact this
theorem frees_mem {c f : List Int} {far : Int} {taken : List Int} {n : Int} (h : n ∈ frees c f far taken) : 0 ≤ n ∧ n < 384 ∧ c.getD n.toNat 0 = 1 ∧ far ≤ f.getD n.toNat 0 ∧ n ∉ taken := by
  unfold frees at h
  obtain ⟨i, hi, rfl⟩ := List.mem_map.1 h
  obtain ⟨h1, h2⟩ := List.mem_filter.1 hi
  have := List.mem_range.1 h1
  simp only [Bool.and_eq_true, beq_iff_eq, decide_eq_true_eq, Bool.not_eq_true', List.contains_eq_mem, decide_eq_false_iff_not] at h2
  rw [Int.toNat_natCast]
  exact ⟨by omega, by omega, h2.1.1, h2.1.2, h2.2⟩
theorem pk_mem (s fl : Int) (c f : List Int) (far a : Int) (taken : List Int) (h : frees c f far taken ≠ []) : pk s fl c f far a taken ∈ frees c f far taken := by
  have h1 : 1 ≤ (frees c f far taken).length := by
    cases e : frees c f far taken with
    | nil => exact absurd e h
    | cons _ _ => simp
  have hl := frees_len c f far taken
  have := (d_is s fl a 0 (frees c f far taken).length (by omega) (by omega)).2
  unfold pk
  rw [List.getD_eq_getElem?_getD, List.getElem?_eq_getElem (by omega)]
  exact List.getElem_mem _
/-- The rows that say which cells are used. -/
def Used (used : List Bool) (taken : List Int) : Prop := used.length = 384 ∧ ∀ i : Nat, i < 384 → used.getD i false = taken.contains (i : Int)
theorem Used.add {used : List Bool} {taken : List Int} (h : Used used taken) {n : Int} (hn : 0 ≤ n) : Used (used.set n.toNat true) (taken ++ [n]) := ⟨by rw [List.length_set]; exact h.1, fun i hi => by
  have hl := h.1
  rw [getD_set]
  have e0 : (taken ++ [n]).contains (i : Int) = (taken.contains (i : Int) || (i : Int) == n) := by
    simp only [List.contains_eq_mem, List.mem_append, List.mem_singleton, Bool.decide_or]
    rfl
  rw [e0, ← h.2 i hi]
  by_cases e : n.toNat = i
  · have : ((i : Int) == n) = true := by rw [beq_iff_eq]; omega
    rw [if_pos ⟨e, by omega⟩, this, Bool.or_true]
  · have : ((i : Int) == n) = false := by rw [beq_eq_false_iff_ne]; omega
    rw [if_neg (fun z => e z.1), this, Bool.or_false]⟩
theorem Used.none : Used (List.replicate 384 false) [] := ⟨List.length_replicate, fun i hi => by
  rw [List.getD_eq_getElem?_getD, List.getElem?_replicate]
  split <;> rfl⟩
theorem pick_r (c f : List Int) (far : Int) (used : List Bool) (taken : List Int) (s fl a : Int) (hc : c.length = 384) (hf : f.length = 384) (hu : Used used taken) :
    f43 c f far used s fl a = some (if frees c f far taken = [] then -1 else pk s fl c f far a taken, ()) := by
  have hul := hu.1
  refine OK.eq ?_
  unfold f43 f43.L1
  refine OK.loop (fun j : Nat × List Int => (c, f, far, used, s, fl, a, (j.1 : Int), j.2, ())) (fun j => j.1 ≤ 384 ∧ j.2 = ((List.range j.1).filter fun i : Nat => c.getD i 0 == 1 && decide (far ≤ f.getD i 0) && !taken.contains (i : Int)).map fun i : Nat => (i : Int)) (fun j => 384 - j.1) (fun rec j hj ih => ?_) (0, []) rfl ⟨Nat.zero_le _, rfl⟩ (by dsimp only; decide)
  obtain ⟨i, l⟩ := j
  obtain ⟨hi, hl⟩ := hj
  dsimp only at hi hl ih ⊢
  by_cases c4 : i < 384
  · have c4' : (i : Int) < 384 := by omega
    have wj : IntKind.wrap .i64 ((i : Int) + 1) = ((i + 1 : Nat) : Int) := by rw [wr (by omega)]; omega
    have hll : l.length ≤ 384 := by
      rw [hl, List.length_map]
      have := List.length_filter_le (fun i : Nat => c.getD i 0 == 1 && decide (far ≤ f.getD i 0) && !taken.contains (i : Int)) (List.range i)
      rw [List.length_range] at this
      omega
    rw [bif_dec, if_pos c4', inR (n := c.length) (by omega), inR (n := f.length) (by omega), inR (n := used.length) (by omega), cond_true, cond_true, cond_true, wj, Int.toNat_natCast, hu.2 i c4]
    have skip : (c.getD i 0 == 1 && decide (far ≤ f.getD i 0) && !taken.contains (i : Int)) = false → OK (rec (c, f, far, used, s, fl, a, ((i + 1 : Nat) : Int), l, ())) _ := fun hp => ih (i + 1, l) ⟨by dsimp only; omega, by
      dsimp only
      rw [List.range_succ, List.filter_append, List.filter_cons, hp]
      simpa using hl⟩ (by dsimp only; omega) _ rfl
    refine OK.bif (fun h1 => ?_) (fun h1 => skip (by rw [h1]; rfl))
    refine OK.bif (fun h2 => ?_) (fun h2 => skip (by
      have : decide (far ≤ f.getD i 0) = false := h2
      rw [this, Bool.and_false]; rfl))
    refine OK.bif (fun h3 => ?_) (fun h3 => skip (by rw [h3, Bool.and_false]))
    rw [decide_eq_true (by simp [limit]; omega), cond_true]
    refine ih (i + 1, l ++ [(i : Int)]) ⟨by dsimp only; omega, ?_⟩ (by dsimp only; omega) _ rfl
    have h2' : decide (far ≤ f.getD i 0) = true := h2
    dsimp only
    rw [List.range_succ, List.filter_append, List.filter_cons, h1, h2', h3, List.map_append, hl]
    rfl
  · have c4' : ¬ (i : Int) < 384 := by omega
    have ei : i = 384 := by omega
    subst ei
    have hl' : l = frees c f far taken := hl
    subst hl'
    rw [bif_dec, if_neg c4']
    have hlen := frees_len c f far taken
    by_cases h0 : frees c f far taken = []
    · rw [if_pos h0, h0]
      exact OK.ret rfl
    · have h1 : 1 ≤ (frees c f far taken).length := by
        cases e : frees c f far taken with
        | nil => exact absurd e h0
        | cons _ _ => simp
      have q : (((frees c f far taken).length : Int) == 0) = false := by rw [beq_eq_false_iff_ne]; omega
      have d := d_is s fl a 0 (frees c f far taken).length (by omega) (by omega)
      rw [if_neg h0, q, cond_false, d.1]
      simp only [Option.bind_some]
      rw [inR d.2, cond_true]
      exact OK.ret rfl
theorem stats_r (s fl k at' : Int) (y : Int × Int × Int × Int × Int × Int × Int × Int × Int × Int × Int × Unit) (h : 1 ≤ fl ∧ fl ≤ 10000) (e : f25 (2 + dv s fl (16 + k) 1 (min (fl + 1) 3)) = some y) :
    (y.1, y.2.1, y.2.2.1, at' % 24, at' / 24, y.2.2.2.2.2.1, y.2.2.2.2.2.2.1, y.2.2.2.2.2.2.2.1, y.2.2.2.2.2.2.2.2.1, y.2.2.2.2.2.2.2.2.2.1, y.2.2.2.2.2.2.2.2.2.2.1) = entAt s fl k at' := by
  have d := (d_is s fl (16 + k) 1 (min (fl + 1) 3) (by omega) (by omega)).2
  unfold entAt
  generalize dv s fl (16 + k) 1 (min (fl + 1) 3) = v at *
  have : v = 0 ∨ v = 1 ∨ v = 2 := by omega
  rcases this with rfl | rfl | rfl <;> (cases e; rfl)
theorem stats_some (v : Int) : ∃ y, f25 v = some y := by
  obtain ⟨y, e, _⟩ := stats_ok v
  exact ⟨y, e⟩
theorem ents_r (s fl : Int) (b : Bool) (c f : List Int) (hc : c.length = 384) (hf : f.length = 384) (h1 : 1 ≤ fl) (h2 : fl ≤ 10000) :
    f23.L5 (s, fl, b, 0, c, f, List.replicate 384 false, [], ()) = some (Sum.inl (s, fl, b, c, f, mons s fl c f (fl + 2).toNat 0 [] [], ())) := by
  refine OK.eq ?_
  unfold f23.L5
  generalize hM : mons s fl c f (fl + 2).toNat 0 [] [] = M
  refine OK.loop (fun j : Nat × List Bool × List EntT × List Int => (s, fl, b, (j.1 : Int), c, f, j.2.1, j.2.2.1, ())) (fun j => (j.1 : Int) ≤ fl + 2 ∧ Used j.2.1 j.2.2.2 ∧ j.2.2.1.length ≤ j.1 ∧ mons s fl c f (fl + 2 - j.1).toNat j.1 j.2.2.2 j.2.2.1 = M) (fun j => (fl + 2).toNat - j.1) (fun rec j hj ih => ?_) (0, List.replicate 384 false, [], []) rfl ⟨by dsimp only; omega, Used.none, Nat.zero_le _, by dsimp only; rw [show fl + 2 - ((0 : Nat) : Int) = fl + 2 by omega]; exact hM⟩ (by dsimp only; omega)
  clear hM
  obtain ⟨i, used, es, taken⟩ := j
  obtain ⟨hi, hu, he, hM⟩ := hj
  dsimp only at hi hu he hM ih ⊢
  rw [wr (x := fl + 1) (by omega), bif_dec]
  by_cases q : (i : Int) ≤ fl + 1
  · obtain ⟨n, en⟩ : ∃ n, (fl + 2 - (i : Int)).toNat = n + 1 := ⟨(fl + 1 - i).toNat, by omega⟩
    rw [en] at hM
    unfold mons at hM
    rw [if_pos q, wr (x := 7 + (i : Int)) (by omega), wr (x := 16 + (i : Int)) (by omega), pick_r c f 4 used taken s fl _ hc hf hu]
    simp only [Option.bind_some]
    by_cases h0 : frees c f 4 taken = []
    · rw [if_pos h0] at hM ⊢
      subst hM
      exact OK.ret rfl
    · have hm := frees_mem (pk_mem s fl c f 4 (7 + i) taken h0)
      have hul := hu.1
      rw [if_neg h0] at hM ⊢
      have d := d_is s fl (16 + (i : Int)) 1 (min (fl + 1) 3) (by omega) (by omega)
      rw [bif_dec, if_neg (by omega), inR (by omega), cond_true, minI_eq, d.1]
      simp only [Option.bind_some]
      rw [wr (x := 2 + dv s fl (16 + (i : Int)) 1 (min (fl + 1) 3)) (by omega)]
      obtain ⟨y, ey⟩ := stats_some (2 + dv s fl (16 + (i : Int)) 1 (min (fl + 1) 3))
      rw [ey]
      simp only [Option.bind_some]
      rw [decide_eq_true (by simp [limit]; omega), cond_true, wr (x := (i : Int) + 1) (by omega), Int.tmod_eq_emod_of_nonneg hm.1, Int.tdiv_eq_ediv_of_nonneg hm.1, wr (by omega)]
      have es' := stats_r s fl i (pk s fl c f 4 (7 + i) taken) y ⟨h1, h2⟩ ey
      rw [es']
      refine ih (i + 1, used.set (pk s fl c f 4 (7 + i) taken).toNat true, es ++ [entAt s fl i (pk s fl c f 4 (7 + i) taken)], taken ++ [pk s fl c f 4 (7 + i) taken]) ⟨by dsimp only; omega, hu.add hm.1, by dsimp only; simp; omega, ?_⟩ (by dsimp only; omega) _ rfl
      dsimp only
      have : (fl + 2 - ((i + 1 : Nat) : Int)).toNat = n := by omega
      rw [this]
      exact hM
  · have : (fl + 2 - (i : Int)).toNat = 0 := by omega
    rw [this] at hM
    rw [if_neg q]
    unfold mons at hM
    subst hM
    exact OK.ret rfl
theorem wares_r (s fl : Int) (b : Bool) (c : List Int) (es : List EntT) (l : List ItT) (hl : l.length ≤ 100) :
    f23.L6 (s, fl, b, 0, c, es, l, ()) = some (Sum.inl (c, es, l ++ (if b then [ware s fl 0, ware s fl 1, ware s fl 2] else []), ())) := by
  refine OK.eq ?_
  unfold f23.L6
  refine OK.loop (fun j : Nat × List ItT => (s, fl, b, (j.1 : Int), c, es, j.2, ())) (fun j => j.1 ≤ 3 ∧ (b = false → j.1 = 0) ∧ j.2 = l ++ [ware s fl 0, ware s fl 1, ware s fl 2].take j.1) (fun j => 3 - j.1) (fun rec j hj ih => ?_) (0, l) rfl ⟨Nat.zero_le _, fun _ => rfl, by simp⟩ (by dsimp only; decide)
  obtain ⟨i, l'⟩ := j
  obtain ⟨hi, hb, he⟩ := hj
  dsimp only at hi hb he ih ⊢
  rw [bif_dec]
  by_cases q : (i : Int) < 3
  · rw [if_pos q]
    cases b with
    | false =>
      have := hb rfl
      subst this
      subst he
      exact OK.ret (by simp)
    | true =>
      have d := d_is s fl (50 + (i : Int)) 1 3 (by decide) (by decide)
      have hl' : l'.length ≤ 103 := by subst he; simp; omega
      rw [cond_true, wr (x := 50 + (i : Int)) (by omega), d.1]
      simp only [Option.bind_some]
      rw [decide_eq_true (by simp [limit]; omega), cond_true, wr (x := (i : Int) + 1) (by omega), wr (x := 1 + dv s fl (50 + (i : Int)) 1 3) (by omega)]
      refine ih (i + 1, l' ++ [ware s fl i]) ⟨by dsimp only; omega, fun h => (by cases h), ?_⟩ (by dsimp only; omega) _ rfl
      dsimp only
      rw [he, List.append_assoc]
      have : i = 0 ∨ i = 1 ∨ i = 2 := by omega
      rcases this with rfl | rfl | rfl <;> rfl
  · have : i = 3 := by omega
    subst this
    rw [if_neg q]
    subst he
    cases b with
    | false => exact absurd (hb rfl) (by decide)
    | true => exact OK.ret rfl
theorem items_r (s fl : Int) (b : Bool) (c f : List Int) (es : List EntT) (hc : c.length = 384) (hf : f.length = 384) :
    f23.L7 (s, fl, b, 0, c, f, List.replicate 384 false, es, [], ()) = some (c, es, its s fl c f 4 0 [] [] ++ (if b then [ware s fl 0, ware s fl 1, ware s fl 2] else []), ()) := by
  refine OK.eq ?_
  unfold f23.L7
  generalize hM : its s fl c f 4 0 [] [] = M
  refine OK.loop (fun j : Nat × List Bool × List ItT × List Int => (s, fl, b, (j.1 : Int), c, f, j.2.1, es, j.2.2.1, ())) (fun j => j.1 ≤ 4 ∧ Used j.2.1 j.2.2.2 ∧ j.2.2.1.length ≤ j.1 ∧ its s fl c f (4 - j.1) j.1 j.2.2.2 j.2.2.1 = M) (fun j => 4 - j.1) (fun rec j hj ih => ?_) (0, List.replicate 384 false, [], []) rfl ⟨by dsimp only; decide, Used.none, Nat.zero_le _, hM⟩ (by dsimp only; decide)
  clear hM
  obtain ⟨i, used, l, taken⟩ := j
  obtain ⟨hi, hu, he, hM⟩ := hj
  dsimp only at hi hu he hM ih ⊢
  rw [bif_dec]
  by_cases q : (i : Int) < 4
  · obtain ⟨n, en⟩ : ∃ n, 4 - i = n + 1 := ⟨3 - i, by omega⟩
    rw [en] at hM
    unfold its at hM
    rw [if_pos q, wr (x := (i : Int) + 1) (by omega), wr (x := 40 + (i : Int)) (by omega), pick_r c f 0 used taken s fl _ hc hf hu]
    simp only [Option.bind_some]
    by_cases h0 : frees c f 0 taken = []
    · rw [if_pos h0] at hM ⊢
      refine ih (i + 1, used, l, taken) ⟨by dsimp only; omega, hu, by dsimp only; omega, ?_⟩ (by dsimp only; omega) _ rfl
      dsimp only
      have : 4 - (i + 1) = n := by omega
      rw [this]
      exact hM
    · have hm := frees_mem (pk_mem s fl c f 0 (40 + i) taken h0)
      have hul := hu.1
      rw [if_neg h0] at hM ⊢
      have d := d_is s fl (40 + (i : Int)) 1 4 (by decide) (by decide)
      rw [bif_dec, if_neg (by omega), inR (by omega), cond_true, d.1]
      simp only [Option.bind_some]
      rw [decide_eq_true (by simp [limit]; omega), cond_true, wr (x := 1 + dv s fl (40 + (i : Int)) 1 4) (by omega), Int.tmod_eq_emod_of_nonneg hm.1, Int.tdiv_eq_ediv_of_nonneg hm.1, wr (x := pk s fl c f 0 (40 + i) taken / 24) (by omega)]
      refine ih (i + 1, used.set (pk s fl c f 0 (40 + i) taken).toNat true, l ++ [(1 + dv s fl (40 + (i : Int)) 1 4, 1, pk s fl c f 0 (40 + i) taken % 24, pk s fl c f 0 (40 + i) taken / 24)], taken ++ [pk s fl c f 0 (40 + i) taken]) ⟨by dsimp only; omega, hu.add hm.1, by dsimp only; simp; omega, ?_⟩ (by dsimp only; omega) _ rfl
      dsimp only
      have : 4 - (i + 1) = n := by omega
      rw [this]
      exact hM
  · have : 4 - i = 0 := by omega
    rw [this] at hM
    rw [if_neg q]
    unfold its at hM
    subst hM
    rw [wares_r s fl b c es l (by omega)]
    exact OK.ret rfl
theorem far_r (s fl : Int) (h1 : 1 ≤ fl) (h2 : fl ≤ 10000) (hD : Field.rd (dist s fl) (far s fl) ≤ 100000) :
    f23.L8 (s, fl, upc s fl, 0, cellsU s fl, dist s fl, ()) = some (floor s fl) := by
  have hfl := (dist_is s fl).len
  have hu := upc_gc s fl
  refine OK.eq ?_
  unfold f23.L8
  refine OK.loop (fun j : Nat => (s, fl, farOf (dist s fl) (upc s fl) j, (j : Int), cellsU s fl, dist s fl, ())) (fun j => j ≤ 384) (fun j => 384 - j) (fun rec i hi ih => ?_) 0 rfl (Nat.zero_le _) (by decide)
  dsimp only at hi ih ⊢
  have hl := cellsU_len s fl
  have hfar : GC (farOf (dist s fl) (upc s fl) i) := by
    rcases (farOf_is (dist s fl) (upc s fl) i hi).1 with e | ⟨k, hk, e, _⟩
    · rw [e]; exact hu
    · rw [e]; exact ⟨by omega, by omega⟩
  unfold GC at hfar
  rw [bif_dec]
  by_cases c4 : (i : Int) < 384
  · have e : farOf (dist s fl) (upc s fl) (i + 1) = if Field.rd (dist s fl) i > Field.rd (dist s fl) (farOf (dist s fl) (upc s fl) i) then (i : Int) else farOf (dist s fl) (upc s fl) i := by unfold farOf; rw [List.range_succ, List.foldl_append]; rfl
    have go := ih (i + 1) (by omega) (by omega)
    rw [e] at go
    rw [if_pos c4, inR (i := (i : Int)) (n := (dist s fl).length) (by omega), inR (i := farOf (dist s fl) (upc s fl) i) (n := (dist s fl).length) (by omega), cond_true, cond_true, wr (by omega)]
    refine OK.bif (fun h => ?_) (fun h => ?_)
    · have h' : Field.rd (dist s fl) (i : Int) > Field.rd (dist s fl) (farOf (dist s fl) (upc s fl) i) := of_decide_eq_true h
      rw [if_pos h'] at go
      exact go _ rfl
    · have h' : ¬ Field.rd (dist s fl) (i : Int) > Field.rd (dist s fl) (farOf (dist s fl) (upc s fl) i) := of_decide_eq_false h
      rw [if_neg h'] at go
      exact go _ rfl
  · have : i = 384 := by omega
    subst this
    have ef : farOf (dist s fl) (upc s fl) 384 = far s fl := rfl
    rw [ef] at hfar ⊢
    have d := d_is s fl 6 0 2 (by decide) (by decide)
    have hfd := far_dist s fl
    rw [if_neg c4, inR (i := far s fl) (n := (cellsU s fl).length) (by omega), cond_true, d.1]
    simp only [Option.bind_some]
    have eD : (cellsU s fl).set (far s fl).toNat 4 = cellsD s fl := rfl
    rw [eD, shop_r s fl (far s fl) (cellsD s fl) (dist s fl) (cellsD_len s fl) hfl ⟨by omega, by omega⟩ ⟨by omega, hD⟩]
    have eS : (bif dv s fl 6 0 2 == 0 then some (Sum.inl (α := Int × Int × Bool × List Int × List Int × Unit) (β := Res) (s, fl, ((List.range 384).find? (shopIs (cellsD s fl) (dist s fl) (far s fl))).isSome, (match (List.range 384).find? (shopIs (cellsD s fl) (dist s fl) (far s fl)) with | some i => (cellsD s fl).set i 5 | none => cellsD s fl), dist s fl, ())) else some (Sum.inl (s, fl, false, cellsD s fl, dist s fl, ()))) = some (Sum.inl (s, fl, (shopAt s fl).isSome, cells s fl, dist s fl, ())) := by
      unfold cells
      have e0 : shopAt s fl = if dv s fl 6 0 2 = 0 then (List.range 384).find? (shopIs (cellsD s fl) (dist s fl) (far s fl)) else none := rfl
      by_cases z : dv s fl 6 0 2 = 0
      · have : (dv s fl 6 0 2 == 0) = true := beq_iff_eq.2 z
        rw [this, cond_true, e0, if_pos z]
        rfl
      · have : (dv s fl 6 0 2 == 0) = false := beq_eq_false_iff_ne.2 z
        rw [this, cond_false, e0, if_neg z]
        rfl
    rw [eS]
    simp only [Option.bind_some, Sum.elim_inl]
    rw [ents_r s fl _ (cells s fl) (dist s fl) (cells_len s fl) hfl h1 h2]
    simp only [Option.bind_some, Sum.elim_inl]
    rw [items_r s fl _ (cells s fl) (dist s fl) _ (cells_len s fl) hfl]
    exact OK.ret rfl
theorem halls_r (s fl : Int) (t : Tail) (ht : ∀ j : Nat, j < 6 → mxs t j = mx s fl j ∧ mys t j = my s fl j) (h1 : 1 ≤ fl) (h2 : fl ≤ 10000) (hD : Field.rd (dist s fl) (far s fl) ≤ 100000) :
    f23.L9 (s, fl, 1, rooms s fl, t) = some (floor s fl) := by
  refine OK.eq ?_
  unfold f23.L9
  refine OK.loop (fun j : Nat => (s, fl, (j : Int) + 1, halls s fl j, t)) (fun j => j ≤ 5) (fun j => 5 - j) (fun rec i hi ih => ?_) 0 rfl (Nat.zero_le _) (by decide)
  dsimp only at hi ih ⊢
  obtain ⟨D, hh, _⟩ := halls_hi s fl i
  have hl := hh.len
  rw [bif_dec]
  by_cases q : (i : Int) + 1 < 6
  · have e : Int.toNat (IntKind.wrap .i64 ((i : Int) + 1 - 1)) = i := by rw [wr (by omega)]; omega
    have ir : inRange (IntKind.wrap .i64 ((i : Int) + 1 - 1)) 6 = true := inR (by rw [wr (by omega)]; omega)
    have b0 := mid_b s fl i
    have b1 := mid_b s fl ((i : Int) + 1)
    have e0 := ht i (by omega)
    have e1 := ht (i + 1) (by omega)
    rw [show ((i + 1 : Nat) : Int) = (i : Int) + 1 by omega] at e1
    have ex : [t.1, t.2.1, t.2.2.1, t.2.2.2.1, t.2.2.2.2.1, t.2.2.2.2.2.1].getD i 0 = mx s fl i := e0.1
    have ey : [t.2.2.2.2.2.2.1, t.2.2.2.2.2.2.2.1, t.2.2.2.2.2.2.2.2.1, t.2.2.2.2.2.2.2.2.2.1, t.2.2.2.2.2.2.2.2.2.2.1, t.2.2.2.2.2.2.2.2.2.2.2.1].getD i 0 = my s fl i := e0.2
    have d := d_is s fl ((i : Int) + 1) 4 2 (by decide) (by decide)
    rw [if_pos q, ir, cond_true, cond_true, e, ex, ey, dig_r _ _ false _ hl (by omega) (by omega), d.1]
    simp only [Option.bind_some]
    have ec : ((i : Int) + 1) = ((i + 1 : Nat) : Int) := by omega
    have go := ih (i + 1) (by omega) (by omega)
    refine way_r rec _ s fl (i + 1) (by omega) _ _ _ _ _ t (by rw [dg_len]; exact hl) (by unfold GX; omega) (by unfold GY; omega) (by rw [e1.1]; unfold GX; omega) (by rw [e1.2]; unfold GY; omega) ?_
    refine go _ ?_
    have eh : halls s fl (i + 1) = hallTo s fl ((i : Int) + 1) (halls s fl i) := by unfold halls; rw [List.range_succ, List.foldl_append]; rfl
    rw [eh, e1.1, e1.2]
    unfold hallTo
    have em : (i : Int) + 1 - 1 = i := by omega
    rw [em]
    rfl
  · have : i = 5 := by omega
    subst this
    have b0 := mid_b s fl 0
    have e0 := ht 0 (by decide)
    have ex : t.1 = mx s fl 0 := e0.1
    have ey : t.2.2.2.2.2.2.1 = my s fl 0 := e0.2
    have e : IntKind.wrap .i64 (IntKind.wrap .i64 (t.2.2.2.2.2.2.1 * 24) + t.1) = upc s fl := by rw [ex, ey, wr (x := my s fl 0 * 24) (by omega), wr (by omega)]; rfl
    have hu := upc_gc s fl
    unfold GC at hu
    rw [if_neg q, e, inR (by omega), cond_true]
    have eU : (halls s fl 5).set (upc s fl).toNat 3 = cellsU s fl := rfl
    rw [eU, (fld_is (cellsU s fl) (cellsU_cb s fl) (upc s fl)).1]
    simp only [Option.bind_some]
    have eD : fld (cellsU s fl) (upc s fl) = dist s fl := rfl
    rw [eD, far_r s fl h1 h2 hD]
    exact OK.ret rfl
theorem far_lt (s fl : Int) : Field.rd (dist s fl) (far s fl) ≤ 100000 := by
  have := field_lt (dist_is s fl) (far s fl) (far_gc s fl)
  omega
/-- The document's floor. -/
theorem rmake_eq (s fl : Int) (h1 : 1 ≤ fl) (h2 : fl ≤ 10000) : f23 s fl = some (floor s fl) := by
  refine OK.eq ?_
  unfold f23 f23.L10
  refine OK.loop (fun j : Nat × Tail => (s, fl, (j.1 : Int), (List.range j.1).foldl (fun c (i : Nat) => roomOf s fl i c) (List.replicate 384 0), j.2)) (fun j => j.1 ≤ 6 ∧ ∀ k : Nat, k < j.1 → mxs j.2 k = mx s fl k ∧ mys j.2 k = my s fl k) (fun j => 6 - j.1) (fun rec j hj ih => ?_) (0, (0, 0, 0, 0, 0, 0, 0, 0, 0, 0, 0, 0, ())) rfl ⟨by dsimp only; decide, fun k hk => absurd hk (Nat.not_lt_zero k)⟩ (by dsimp only; decide)
  obtain ⟨i, t⟩ := j
  obtain ⟨hi, ht⟩ := hj
  dsimp only at hi ht ih ⊢
  rw [bif_dec]
  by_cases q : (i : Int) < 6
  · have b := room_b s fl i
    have d0 := d_is s fl i 0 5 (by decide) (by decide)
    have d1 := d_is s fl i 1 4 (by decide) (by decide)
    have e0 : 3 + dv s fl i 0 5 = rw' s fl i := rfl
    have e1 : 2 + dv s fl i 1 4 = rh' s fl i := rfl
    have d2 := d_is s fl i 2 (23 - rw' s fl i) (by omega) (by omega)
    have d3 := d_is s fl i 3 (15 - rh' s fl i) (by omega) (by omega)
    have e2 : 1 + dv s fl i 2 (23 - rw' s fl i) = rx' s fl i := rfl
    have e3 : 1 + dv s fl i 3 (15 - rh' s fl i) = ry' s fl i := rfl
    rw [if_pos q, d0.1, d1.1]
    simp only [Option.bind_some]
    rw [e0, e1, wr (x := rw' s fl i) (by omega), wr (x := rh' s fl i) (by omega), wr (x := 23 - rw' s fl i) (by omega), wr (x := 15 - rh' s fl i) (by omega), d2.1, d3.1]
    simp only [Option.bind_some]
    rw [e2, e3, wr (x := rx' s fl i) (by omega), wr (x := ry' s fl i) (by omega)]
    refine room_r rec _ s fl _ _ _ _ i (by omega) _ t (rooms_hi' s fl i).len (by omega) (by omega) (by omega) (by omega) (by omega) (by omega) fun t' hx hy => ?_
    refine ih (i + 1, t') ⟨by dsimp only; omega, fun k hk => ?_⟩ (by dsimp only; omega) _ ?_
    · dsimp only at hk ⊢
      rw [hx k (by omega), hy k (by omega)]
      by_cases e : k = i
      · subst e
        rw [if_pos rfl, if_pos rfl]
        exact ⟨rfl, rfl⟩
      · rw [if_neg e, if_neg e]
        exact ht k (by omega)
    · dsimp only
      rw [List.range_succ, List.foldl_append]
      rfl
  · have : i = 6 := by omega
    subst this
    rw [if_neg q]
    have := halls_r s fl t ht h1 h2 (far_lt s fl)
    show OK (f23.L9 (s, fl, 1, rooms s fl, t)) _
    rw [this]
    exact OK.ret rfl
end Go.Proofs.Ytdbfecfcoephoaa.Fl

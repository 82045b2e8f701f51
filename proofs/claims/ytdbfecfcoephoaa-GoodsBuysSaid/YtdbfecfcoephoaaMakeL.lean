/- The document's floors: all cells that can be walked on are linked (own work). -/
import Derived.Test.YtdbfecfcoephoaaLink
namespace Go.Proofs.Ytdbfecfcoephoaa.GenL
open Go Go.Proofs.Ytdbfecfcoephoaa.Mx Go.Proofs.Ytdbfecfcoephoaa.Pc Go.Proofs.Ytdbfecfcoephoaa.Run Go.Proofs.Ytdbfecfcoephoaa.Field Go.Proofs.Ytdbfecfcoephoaa.Gen
set_option linter.unusedVariables false
set_option linter.unusedSimpArgs false
structure FL (c : List Int) : Prop extends F c where
  lt : ∀ i, c.getD i 0 < 6
theorem FL.set {c : List Int} (h : FL c) (i : Nat) (v : Int) (hv : 0 ≤ v ∧ v < 6) : FL (c.set i v) := ⟨h.toF.set i v (by omega), fun j => by
  rw [getD_set]
  split
  · exact hv.2
  · exact h.lt j⟩
theorem dig_wk (x y : Int) (door : Bool) (c : List Int) (hc : FL c) (hx : GX x) (hy : GY y) : OK (f40 x y door c) fun r => FL r.2.1 ∧ ∀ n, GC n → (Wk r.2.1 n ↔ n = y * 24 + x ∨ Wk c n) := by
  unfold GX at hx
  unfold GY at hy
  unfold f40
  have e : IntKind.wrap .i64 (IntKind.wrap .i64 (y * 24) + x) = y * 24 + x := by rw [wr (x := y * 24) (by omega), wr (by omega)]
  have hl := hc.len
  have hk : GC (y * 24 + x) := ⟨by omega, by omega⟩
  have h1 := hc.set (y * 24 + x).toNat 1 (by decide)
  have h2 := h1.set (y * 24 + x).toNat 2 (by decide)
  have w1 := fun n hn => wk_set hl hk (show 1 ≤ (1 : Int) ∧ (1 : Int) ≤ 5 by decide) n hn
  have w2 := fun n hn => wk_set h1.len hk (show 1 ≤ (2 : Int) ∧ (2 : Int) ≤ 5 by decide) n hn
  rw [e, inR (by omega), cond_true, cond_true, inR (n := (c.set (y * 24 + x).toNat 1).length) (by rw [List.length_set]; omega), cond_true]
  cases q : (c.getD (y * 24 + x).toNat 0 != 0) with
  | true =>
    refine OK.ret ⟨hc, fun n hn => ⟨.inr, fun h => h.elim (fun e => ?_) id⟩⟩
    subst e
    have a1 := bne_iff_ne.1 q
    have a2 := hc.val (y * 24 + x).toNat
    have a3 := hc.lt (y * 24 + x).toNat
    show walkable (c.getD (y * 24 + x).toNat 0) = true
    unfold walkable
    simp only [decide_eq_true_eq]
    omega
  | false =>
    cases door with
    | true => exact OK.ret ⟨h1, w1⟩
    | false => exact OK.ret ⟨h2, fun n hn => by rw [w2 n hn, w1 n hn]; exact ⟨fun h => h.elim .inl id, .inr⟩⟩
theorem row_wk (k0 : Int × Int × Int × Int × Int × Int × Int × Int × List Int × Tail → Option Res) (Q : Res → Prop) (s fl i w h x y b : Int) (c : List Int) (t : Tail) (hc : FL c) (hx : 0 ≤ x) (hw : 0 ≤ w) (hxw : x + w ≤ 24) (hb : 0 ≤ b ∧ b < 16)
    (k : ∀ c', FL c' → (∀ n, GC n → (Wk c' n ↔ Wk c n ∨ (b * 24 + x ≤ n ∧ n < b * 24 + x + w))) → OK (k0 (s, fl, i, w, h, x, y, b + 1, c', t)) Q) : OK (f23.L1 k0 (s, fl, i, w, h, x, y, b, x, c, t)) Q := by
  unfold f23.L1
  refine OK.loop (fun j : Nat × List Int => (s, fl, i, w, h, x, y, b, x + (j.1 : Int), j.2, t)) (fun j => (j.1 : Int) ≤ w ∧ FL j.2 ∧ ∀ n, GC n → (Wk j.2 n ↔ Wk c n ∨ (b * 24 + x ≤ n ∧ n < b * 24 + x + j.1))) (fun j => w.toNat - j.1) (fun rec j hj ih => ?_) (0, c) (by simp) ⟨by dsimp only; omega, hc, fun n hn => ⟨.inl, fun h => h.elim id (fun h => by dsimp only at h; omega)⟩⟩ (by dsimp only; omega)
  obtain ⟨j, c1⟩ := j
  obtain ⟨hj, hc1, hwk⟩ := hj
  dsimp only at hj hc1 hwk ih ⊢
  have hl := hc1.len
  rw [wr (x := x + w) (by omega), bif_dec]
  by_cases q : x + (j : Int) < x + w
  · have e : IntKind.wrap .i64 (IntKind.wrap .i64 (b * 24) + (x + (j : Int))) = b * 24 + (x + j) := by rw [wr (x := b * 24) (by omega), wr (by omega)]
    rw [if_pos q, e, inR (by omega), cond_true, wr (by omega)]
    refine ih (j + 1, c1.set (b * 24 + (x + j)).toNat 1) ⟨by dsimp only; omega, hc1.set _ _ (by decide), fun n hn => ?_⟩ (by dsimp only; omega) _ (by
      have : x + (j : Int) + 1 = x + ((j + 1 : Nat) : Int) := by omega
      rw [this])
    dsimp only
    rw [wk_set hl ⟨by omega, by omega⟩ (by decide) n hn, hwk n hn]
    constructor
    · rintro (h | h | h)
      · exact .inr (by omega)
      · exact .inl h
      · exact .inr (by omega)
    · rintro (h | h)
      · exact .inr (.inl h)
      · by_cases e : n = b * 24 + (x + j)
        · exact .inl e
        · exact .inr (.inr (by omega))
  · rw [if_neg q, wr (by omega)]
    refine k c1 hc1 fun n hn => ?_
    rw [hwk n hn]
    constructor
    · rintro (h | h)
      · exact .inl h
      · exact .inr (by omega)
    · rintro (h | h)
      · exact .inl h
      · exact .inr (by omega)
def mxs (t : Tail) (j : Nat) : Int := [t.1, t.2.1, t.2.2.1, t.2.2.2.1, t.2.2.2.2.1, t.2.2.2.2.2.1].getD j 0
def mys (t : Tail) (j : Nat) : Int := [t.2.2.2.2.2.2.1, t.2.2.2.2.2.2.2.1, t.2.2.2.2.2.2.2.2.1, t.2.2.2.2.2.2.2.2.2.1, t.2.2.2.2.2.2.2.2.2.2.1, t.2.2.2.2.2.2.2.2.2.2.2.1].getD j 0
def mid (t : Tail) (j : Nat) : Int := mys t j * 24 + mxs t j
theorem room_wk (k0 : Int × Int × Int × List Int × Tail → Option Res) (Q : Res → Prop) (s fl w h x y : Int) (i : Nat) (hi : i < 6) (c : List Int) (t : Tail) (hc : FL c) (ht : Mids t) (hx : 0 ≤ x) (hw : 1 ≤ w) (hxw : x + w ≤ 24) (hy : 0 ≤ y) (hh : 1 ≤ h) (hyh : y + h ≤ 16)
    (k : ∀ c' t', FL c' → Mids t' → (∀ n, GC n → (Wk c' n ↔ Wk c n ∨ (x ≤ n % 24 ∧ n % 24 < x + w ∧ y ≤ n / 24 ∧ n / 24 < y + h))) → (∀ j, j < 6 → mid t' j = if j = i then (y + h / 2) * 24 + (x + w / 2) else mid t j) → OK (k0 (s, fl, ((i + 1 : Nat) : Int), c', t')) Q) : OK (f23.L2 k0 (s, fl, (i : Int), w, h, x, y, y, c, t)) Q := by
  unfold f23.L2
  refine OK.loop (fun j : Nat × List Int => (s, fl, (i : Int), w, h, x, y, y + (j.1 : Int), j.2, t)) (fun j => (j.1 : Int) ≤ h ∧ FL j.2 ∧ ∀ n, GC n → (Wk j.2 n ↔ Wk c n ∨ (x ≤ n % 24 ∧ n % 24 < x + w ∧ y ≤ n / 24 ∧ n / 24 < y + j.1))) (fun j => h.toNat - j.1) (fun rec j hj ih => ?_) (0, c) (by simp) ⟨by dsimp only; omega, hc, fun n hn => ⟨.inl, fun h => h.elim id (fun h => by dsimp only at h; omega)⟩⟩ (by dsimp only; omega)
  obtain ⟨j, c1⟩ := j
  obtain ⟨hj, hc1, hwk⟩ := hj
  dsimp only at hj hc1 hwk ih ⊢
  rw [wr (x := y + h) (by omega), bif_dec]
  by_cases q : y + (j : Int) < y + h
  · rw [if_pos q]
    refine row_wk rec Q s fl (i : Int) w h x y (y + j) c1 t hc1 hx (by omega) hxw (by omega) fun c' hc' hw' => ?_
    refine ih (j + 1, c') ⟨by dsimp only; omega, hc', fun n hn => ?_⟩ (by dsimp only; omega) _ (by
      have : y + (j : Int) + 1 = y + ((j + 1 : Nat) : Int) := by omega
      rw [this])
    dsimp only
    rw [hw' n hn, hwk n hn]
    unfold GC at hn
    constructor
    · rintro ((h | h) | h)
      · exact .inl h
      · exact .inr (by omega)
      · exact .inr (by omega)
    · rintro (h | h)
      · exact .inl (.inl h)
      · by_cases e : n / 24 < y + j
        · exact .inl (.inr (by omega))
        · exact .inr (by omega)
  · have wx : IntKind.wrap .i64 (x + IntKind.wrap .i64 (Int.tdiv w 2)) = x + w / 2 := by
      rw [Int.tdiv_eq_ediv_of_nonneg (by omega), wr (x := w / 2) (by omega), wr (by omega)]
    have wy : IntKind.wrap .i64 (y + IntKind.wrap .i64 (Int.tdiv h 2)) = y + h / 2 := by
      rw [Int.tdiv_eq_ediv_of_nonneg (by omega), wr (x := h / 2) (by omega), wr (by omega)]
    have wi : IntKind.wrap .i64 ((i : Int) + 1) = ((i + 1 : Nat) : Int) := by rw [wr (by omega)]; omega
    have gx : GX (x + w / 2) := by unfold GX; omega
    have gy : GY (y + h / 2) := by unfold GY; omega
    rw [if_neg q, inR (by omega), cond_true, cond_true, wx, wy, wi, Int.toNat_natCast]
    refine k c1 _ hc1 ⟨GX.ite gx ht.a0, GX.ite gx ht.a1, GX.ite gx ht.a2, GX.ite gx ht.a3, GX.ite gx ht.a4, GX.ite gx ht.a5, GY.ite gy ht.b0, GY.ite gy ht.b1, GY.ite gy ht.b2, GY.ite gy ht.b3, GY.ite gy ht.b4, GY.ite gy ht.b5⟩ (fun n hn => ?_) (fun j hj => ?_)
    · rw [hwk n hn]
      constructor
      · rintro (h | h)
        · exact .inl h
        · exact .inr (by omega)
      · rintro (h | h)
        · exact .inl h
        · exact .inr (by omega)
    · have key : ∀ p : Nat, ∀ a b c d : Int, (if i = p then a else b) * 24 + (if i = p then c else d) = if p = i then a * 24 + c else b * 24 + d := fun p a b c d => by
        by_cases e : i = p
        · rw [if_pos e, if_pos e, if_pos e.symm]
        · rw [if_neg e, if_neg e, if_neg (fun x => e x.symm)]
      match j, hj with
      | 0, _ => exact key 0 _ _ _ _
      | 1, _ => exact key 1 _ _ _ _
      | 2, _ => exact key 2 _ _ _ _
      | 3, _ => exact key 3 _ _ _ _
      | 4, _ => exact key 4 _ _ _ _
      | 5, _ => exact key 5 _ _ _ _
end Go.Proofs.Ytdbfecfcoephoaa.GenL

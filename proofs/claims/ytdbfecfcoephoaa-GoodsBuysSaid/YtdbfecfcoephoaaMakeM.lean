/- The document's floors: halls, and the whole (own work). -/
import Derived.Test.YtdbfecfcoephoaaMakeL
namespace Go.Proofs.Ytdbfecfcoephoaa.GenL
open Go Go.Proofs.Ytdbfecfcoephoaa.Mx Go.Proofs.Ytdbfecfcoephoaa.Pc Go.Proofs.Ytdbfecfcoephoaa.Run Go.Proofs.Ytdbfecfcoephoaa.Field Go.Proofs.Ytdbfecfcoephoaa.Gen
set_option linter.unusedVariables false
set_option linter.unusedSimpArgs false
theorem way_wk (k0 : Int × Int × Int × List Int × Tail → Option Res) (Q : Res → Prop) (s fl : Int) (i : Nat) (hi : i < 6) (S x y : Int) (door first : Bool) (c0 : List Int) (t : Tail) (hc : FL c0) (ht : Mids t) (hx : GX x) (hy : GY y) (hS : Link c0 S (y * 24 + x))
    (k : ∀ c', FL c' → (∀ n, GC n → Wk c0 n → Wk c' n) → (∀ n, GC n → Wk c' n → Wk c0 n ∨ Link c' S n) → Link c' S (mid t i) → OK (k0 (s, fl, ((i + 1 : Nat) : Int), c', t)) Q) : OK (f23.L3 k0 (s, fl, (i : Int), x, y, door, first, c0, t)) Q := by
  have hX := ht.x i hi
  have hY := ht.y i hi
  have hmid : mid t i = [t.2.2.2.2.2.2.1, t.2.2.2.2.2.2.2.1, t.2.2.2.2.2.2.2.2.1, t.2.2.2.2.2.2.2.2.2.1, t.2.2.2.2.2.2.2.2.2.2.1, t.2.2.2.2.2.2.2.2.2.2.2.1].getD i 0 * 24 + [t.1, t.2.1, t.2.2.1, t.2.2.2.1, t.2.2.2.2.1, t.2.2.2.2.2.1].getD i 0 := rfl
  obtain ⟨X, eX⟩ : ∃ X, X = [t.1, t.2.1, t.2.2.1, t.2.2.2.1, t.2.2.2.2.1, t.2.2.2.2.2.1].getD i 0 := ⟨_, rfl⟩
  obtain ⟨Y, eY⟩ : ∃ Y, Y = [t.2.2.2.2.2.2.1, t.2.2.2.2.2.2.2.1, t.2.2.2.2.2.2.2.2.1, t.2.2.2.2.2.2.2.2.2.1, t.2.2.2.2.2.2.2.2.2.2.1, t.2.2.2.2.2.2.2.2.2.2.2.1].getD i 0 := ⟨_, rfl⟩
  rw [← eX] at hX hmid
  rw [← eY] at hY hmid
  unfold f23.L3
  refine OK.loop (fun j : Int × Int × Bool × List Int => (s, fl, (i : Int), j.1, j.2.1, j.2.2.1, first, j.2.2.2, t)) (fun j => GX j.1 ∧ GY j.2.1 ∧ FL j.2.2.2 ∧ Link j.2.2.2 S (j.2.1 * 24 + j.1) ∧ (∀ n, GC n → Wk c0 n → Wk j.2.2.2 n) ∧ (∀ n, GC n → Wk j.2.2.2 n → Wk c0 n ∨ Link j.2.2.2 S n)) (fun j => (j.1 - X).natAbs + (j.2.1 - Y).natAbs) (fun rec j hj ih => ?_) (x, y, door, c0) rfl ⟨hx, hy, hc, hS, fun _ _ h => h, fun _ _ h => .inl h⟩ (by dsimp only; unfold GX at *; unfold GY at *; omega)
  obtain ⟨x, y, door, c⟩ := j
  obtain ⟨hx, hy, hc, hS, hm, ho⟩ := hj
  dsimp only at hx hy hc hS hm ho ih ⊢
  have wi : IntKind.wrap .i64 ((i : Int) + 1) = ((i + 1 : Nat) : Int) := by rw [wr (by omega)]; omega
  have ir : inRange (i : Int) 6 = true := inR (by omega)
  simp only [Int.toNat_natCast, ← eX, ← eY, ir, cond_true, wi]
  unfold GX at hx hX
  unfold GY at hy hY
  by_cases both : x = X ∧ y = Y
  · have q1 : (x != X) = false := by simp [both.1]
    have q2 : (y != Y) = false := by simp [both.2]
    rw [q1, q2, cond_false, cond_false]
    have e : y * 24 + x = mid t i := by rw [hmid, both.1, both.2]
    rw [e] at hS
    exact OK.callR (R := fun z => ∃ q, z = Sum.inr q ∧ Q q) (OK.callR (k c hc hm ho hS) fun q hq => OK.ret ⟨q, rfl, hq⟩) (fun z ⟨q, e, hq⟩ => by subst e; exact OK.ret hq)
  · refine OK.callR (R := fun z => z = Sum.inl (s, fl, (i : Int), x, y, door, first, c, t)) ?_ ?_
    · by_cases h1 : x = X
      · have q1 : (x != X) = false := by simp [h1]
        have q2 : (y != Y) = true := by simp; exact fun e => both ⟨h1, e⟩
        rw [q1, q2, cond_false, cond_true]
        exact OK.ret rfl
      · have q1 : (x != X) = true := by simpa using h1
        rw [q1, cond_true]
        exact OK.ret rfl
    · intro z e
      subst e
      simp only [Sum.elim_inl, Int.toNat_natCast, ← eX, ← eY, ir, cond_true]
      refine OK.callR (R := fun z => ∃ x' y', z = Sum.inl (s, fl, (i : Int), x', y', door, first, c, t) ∧ GX x' ∧ GY y' ∧ (x' - X).natAbs + (y' - Y).natAbs < (x - X).natAbs + (y - Y).natAbs ∧ adj (y * 24 + x) (y' * 24 + x')) ?_ ?_
      · have tx : x ≠ X → GX (if x < X then x + 1 else x - 1) ∧ ((if x < X then x + 1 else x - 1) - X).natAbs + (y - Y).natAbs < (x - X).natAbs + (y - Y).natAbs ∧ adj (y * 24 + x) (y * 24 + (if x < X then x + 1 else x - 1)) := fun h => by
          unfold GX
          split
          · refine ⟨by omega, by omega, ?_⟩
            have := adj_x (m := y * 24 + x) (by omega)
            rwa [show y * 24 + x + 1 = y * 24 + (x + 1) by omega] at this
          · refine ⟨by omega, by omega, ?_⟩
            have := adj_x (m := y * 24 + (x - 1)) (by omega)
            rw [show y * 24 + (x - 1) + 1 = y * 24 + x by omega] at this
            exact adj_sym _ _ ⟨by omega, by omega⟩ ⟨by omega, by omega⟩ this
        have ty : y ≠ Y → GY (if y < Y then y + 1 else y - 1) ∧ (x - X).natAbs + ((if y < Y then y + 1 else y - 1) - Y).natAbs < (x - X).natAbs + (y - Y).natAbs ∧ adj (y * 24 + x) ((if y < Y then y + 1 else y - 1) * 24 + x) := fun h => by
          unfold GY
          split
          · refine ⟨by omega, by omega, ?_⟩
            have := adj_y (m := y * 24 + x) (by omega)
            rwa [show y * 24 + x + 24 = (y + 1) * 24 + x by omega] at this
          · refine ⟨by omega, by omega, ?_⟩
            have := adj_y (m := (y - 1) * 24 + x) (by omega)
            rw [show (y - 1) * 24 + x + 24 = y * 24 + x by omega] at this
            exact adj_sym _ _ ⟨by omega, by omega⟩ ⟨by omega, by omega⟩ this
        have gx : GX x := hx
        have gy : GY y := hy
        rw [toward_eq x X (by omega), toward_eq y Y (by omega)]
        simp only [Option.bind_some]
        cases first with
        | true =>
          by_cases h1 : x = X
          · have q1 : (x != X) = false := by simp [h1]
            have h2 : y ≠ Y := fun e => both ⟨h1, e⟩
            rw [q1]
            exact OK.ret ⟨_, _, rfl, gx, (ty h2).1, (ty h2).2⟩
          · have q1 : (x != X) = true := by simpa using h1
            rw [q1]
            exact OK.ret ⟨_, _, rfl, (tx h1).1, gy, (tx h1).2⟩
        | false =>
          by_cases h2 : y = Y
          · have q2 : (y == Y) = true := by simp [h2]
            have h1 : x ≠ X := fun e => both ⟨e, h2⟩
            rw [q2]
            exact OK.ret ⟨_, _, rfl, (tx h1).1, gy, (tx h1).2⟩
          · have q2 : (y == Y) = false := by simpa using h2
            rw [q2]
            exact OK.ret ⟨_, _, rfl, gx, (ty h2).1, (ty h2).2⟩
      · rintro z ⟨x', y', e, g1, g2, g3, g4⟩
        subst e
        simp only [Sum.elim_inl]
        refine OK.callR (dig_wk x' y' door c hc g1 g2) fun r ⟨hr, hw⟩ => ?_
        have gc : GC (y' * 24 + x') := by unfold GX at g1; unfold GY at g2; exact ⟨by omega, by omega⟩
        have mono : ∀ n, GC n → Wk c n → Wk r.2.1 n := fun n hn h => (hw n hn).2 (.inr h)
        have hl : Link r.2.1 S (y' * 24 + x') := .step (hS.mono mono) g4 gc ((hw _ gc).2 (.inl rfl))
        refine ih (x', y', r.1, r.2.1) ⟨g1, g2, hr, hl, fun n hn h => mono n hn (hm n hn h), fun n hn h => ?_⟩ g3 _ rfl
        rcases (hw n hn).1 h with e | h
        · subst e; exact .inr hl
        · rcases ho n hn h with h | h
          · exact .inl h
          · exact .inr (h.mono mono)
/-- All is linked to u. -/
structure GL (u : Int) (c : List Int) : Prop extends G u c where
  all : ∀ n, GC n → Wk c n → Link c u n
theorem GL.set {u : Int} {c : List Int} (h : GL u c) (hu : GC u) {k : Int} (hk : GC k) (hw : Wk c k) (v : Int) (hv : 1 ≤ v ∧ v ≤ 5) : GL u (c.set k.toNat v) := ⟨h.toG.set hu _ v hv, fun n hn hn' => by
  have w := fun n hn => wk_set h.len hk hv n hn
  have : Wk c n := by
    rcases (w n hn).1 hn' with e | e
    · subst e; exact hw
    · exact e
  exact (h.all n hn this).mono fun m hm hm' => (w m hm).2 (.inr hm')⟩
theorem shop_wk (s fl far u : Int) (c f : List Int) (hc : GL u c) (hu : GC u) (hf : f.length = 384) (hfar : GC far) : OK (f23.L4 (s, fl, far, false, 0, c, f, ())) fun z => ∃ b c', z = Sum.inl (s, fl, b, c', f, ()) ∧ GL u c' := by
  unfold f23.L4
  refine OK.loop (fun j : Nat × Bool × List Int => (s, fl, far, j.2.1, (j.1 : Int), j.2.2, f, ())) (fun j => j.1 ≤ 384 ∧ GL u j.2.2) (fun j => 384 - j.1) (fun rec j hj ih => ?_) (0, false, c) rfl ⟨Nat.zero_le _, hc⟩ (by dsimp only; decide)
  obtain ⟨i, b, c⟩ := j
  obtain ⟨hi, hc⟩ := hj
  dsimp only at hi hc ih ⊢
  have hl := hc.len
  unfold GC at hfar
  by_cases c4 : i < 384
  · have c4' : (i : Int) < 384 := by omega
    have wj : IntKind.wrap .i64 ((i : Int) + 1) = ((i + 1 : Nat) : Int) := by rw [wr (by omega)]; omega
    rw [bif_dec, if_pos c4', inR (i := (i : Int)) (n := c.length) (by omega), inR (i := (i : Int)) (n := f.length) (by omega), inR (i := far) (n := f.length) (by omega), wj]
    simp only [cond_true]
    cases b with
    | true => exact OK.ret ⟨true, c, rfl, hc⟩
    | false =>
      rw [Bool.not_false, cond_true]
      have skip := ih (i + 1, false, c) ⟨by dsimp only; omega, hc⟩ (by dsimp only; omega) _ rfl
      refine OK.bif (fun h1 => ?_) (fun _ => skip)
      refine OK.bif (fun _ => ?_) (fun _ => skip)
      have e1 : Field.rd c (i : Int) = 1 := beq_iff_eq.1 h1
      exact ih (i + 1, true, c.set (Int.toNat (i : Int)) 5) ⟨by dsimp only; omega, hc.set hu ⟨by omega, by omega⟩ (by unfold Wk; rw [e1]; decide) 5 (by decide)⟩ (by dsimp only; omega) _ rfl
  · have c4' : ¬ (i : Int) < 384 := by omega
    rw [bif_dec, if_neg c4']
    exact OK.ret ⟨b, c, rfl, hc⟩
theorem far_wk (s fl u : Int) (c f : List Int) (hc : GL u c) (hu : GC u) (hf : IsField (opnC c []) (IsT c [u]) f) (h1 : 0 ≤ fl) (h2 : fl ≤ 10000) :
    OK (f23.L8 (s, fl, u, 0, c, f, ())) fun z => GL u z.1 := by
  have hfl := hf.len
  have hw : Wk c u := hc.walk
  unfold f23.L8
  refine OK.loop (fun j : Nat × Int => (s, fl, j.2, (j.1 : Int), c, f, ())) (fun j => j.1 ≤ 384 ∧ GC j.2 ∧ 0 ≤ Field.rd f j.2) (fun j => 384 - j.1) (fun rec j hj ih => ?_) (0, u) rfl ⟨Nat.zero_le _, hu, Int.le_of_eq ((hf.zero u hu).2 ⟨by simp, hw⟩).symm⟩ (by dsimp only; decide)
  obtain ⟨i, far⟩ := j
  obtain ⟨hi, hfar, hpos⟩ := hj
  dsimp only at hi hfar hpos ih ⊢
  have hl := hc.len
  have hfar' := hfar
  unfold GC at hfar'
  rw [bif_dec]
  by_cases c4 : (i : Int) < 384
  · rw [if_pos c4, inR (i := (i : Int)) (n := f.length) (by omega), inR (i := far) (n := f.length) (by omega), cond_true, cond_true, wr (by omega)]
    refine OK.bif (fun h => ?_) (fun _ => ?_)
    · have h' : Field.rd f (i : Int) > Field.rd f far := of_decide_eq_true h
      exact ih (i + 1, (i : Int)) ⟨by dsimp only; omega, by dsimp only; exact ⟨by omega, by omega⟩, by dsimp only; omega⟩ (by dsimp only; omega) _ rfl
    · exact ih (i + 1, far) ⟨by dsimp only; omega, hfar, hpos⟩ (by dsimp only; omega) _ rfl
  · rw [if_neg c4, inR (i := far) (n := c.length) (by omega), cond_true]
    have hwf : Wk c far := by
      by_cases h0 : Field.rd f far = 0
      · exact ((hf.zero far hfar).1 h0).2
      · exact ((hf.up far hfar (by omega)).1).1
    have hG := hc.set hu hfar hwf 4 (by decide)
    refine OK.callR (R := fun z => ∃ b c', z = Sum.inl (s, fl, b, c', f, ()) ∧ GL u c') ?_ ?_
    · refine OK.callR (d_ok s fl 6 0 2 (by decide) (by decide)) fun y0 _ => ?_
      refine OK.bif (fun _ => shop_wk s fl far u _ f hG hu hfl hfar) (fun _ => OK.ret ⟨false, _, rfl, hG⟩)
    · rintro z ⟨b, c', e, hc'⟩
      subst e
      simp only [Sum.elim_inl]
      refine OK.callR (ents_ok s fl b c' f _ hc'.len hfl List.length_replicate h1 h2) fun z ⟨es, e⟩ => ?_
      subst e
      simp only [Sum.elim_inl]
      exact (items_ok s fl b c' f _ es hc'.len hfl List.length_replicate).mono fun z e => by rw [e]; exact hc'
theorem halls_wk (s fl : Int) (c : List Int) (t : Tail) (hc : FL c) (ht : Mids t) (hM : ∀ j, j < 6 → Wk c (mid t j)) (hA : ∀ n, GC n → Wk c n → ∃ j, j < 6 ∧ Link c (mid t j) n) (h1 : 0 ≤ fl) (h2 : fl ≤ 10000) :
    OK (f23.L9 (s, fl, 1, c, t)) fun z => ∃ u, GC u ∧ GL u z.1 := by
  have gm : ∀ j, j < 6 → GC (mid t j) := fun j hj => by
    have a := ht.x j hj
    have b := ht.y j hj
    have ea : mxs t j = [t.1, t.2.1, t.2.2.1, t.2.2.2.1, t.2.2.2.2.1, t.2.2.2.2.2.1].getD j 0 := rfl
    have eb : mys t j = [t.2.2.2.2.2.2.1, t.2.2.2.2.2.2.2.1, t.2.2.2.2.2.2.2.2.1, t.2.2.2.2.2.2.2.2.2.1, t.2.2.2.2.2.2.2.2.2.2.1, t.2.2.2.2.2.2.2.2.2.2.2.1].getD j 0 := rfl
    rw [← ea] at a
    rw [← eb] at b
    unfold GX at a
    unfold GY at b
    unfold mid
    exact ⟨by omega, by omega⟩
  unfold f23.L9
  refine OK.loop (fun j : Nat × List Int => (s, fl, (j.1 : Int), j.2, t)) (fun j => 1 ≤ j.1 ∧ j.1 ≤ 6 ∧ FL j.2 ∧ (∀ k, k < 6 → Wk j.2 (mid t k)) ∧ (∀ n, GC n → Wk j.2 n → ∃ k, k < 6 ∧ Link j.2 (mid t k) n) ∧ (∀ k, k < j.1 → Link j.2 (mid t 0) (mid t k))) (fun j => 6 - j.1) (fun rec j hj ih => ?_) (1, c) rfl ⟨Nat.le_refl _, by dsimp only; decide, hc, hM, hA, fun k hk => by
    have : k = 0 := by dsimp only at hk; omega
    subst this
    exact .refl (gm 0 (by decide)) (hM 0 (by decide))⟩ (by dsimp only; decide)
  obtain ⟨i, c⟩ := j
  obtain ⟨hi0, hi, hc, hM, hA, hB⟩ := hj
  dsimp only at hi0 hi hc hM hA hB ih ⊢
  have hl := hc.len
  rw [bif_dec]
  by_cases q : (i : Int) < 6
  · have e : Int.toNat (IntKind.wrap .i64 ((i : Int) - 1)) = i - 1 := by rw [wr (by omega)]; omega
    have ir : inRange (IntKind.wrap .i64 ((i : Int) - 1)) 6 = true := inR (by rw [wr (by omega)]; omega)
    have gx := ht.x (i - 1) (by omega)
    have gy := ht.y (i - 1) (by omega)
    rw [if_pos q, ir, cond_true, cond_true, e]
    refine OK.callR (dig_wk _ _ false c hc gx gy) fun r ⟨hr, hw⟩ => ?_
    refine OK.callR (d_ok s fl _ 4 2 (by decide) (by decide)) fun y1 _ => ?_
    have same : ∀ n, GC n → (Wk r.2.1 n ↔ Wk c n) := fun n hn => (hw n hn).trans ⟨fun h => h.elim (fun e => by rw [e]; exact hM (i - 1) (by omega)) id, .inr⟩
    have mono : ∀ n, GC n → Wk c n → Wk r.2.1 n := fun n hn h => (same n hn).2 h
    refine way_wk rec _ s fl i (by omega) (mid t (i - 1)) _ _ _ _ r.2.1 t hr ht gx gy (.refl (gm (i - 1) (by omega)) (mono _ (gm (i - 1) (by omega)) (hM (i - 1) (by omega)))) fun c' hc' m1 m2 m3 => ?_
    have mono' : ∀ n, GC n → Wk c n → Wk c' n := fun n hn h => m1 n hn (mono n hn h)
    refine ih (i + 1, c') ⟨by dsimp only; omega, by dsimp only; omega, hc', fun k hk => mono' _ (gm k hk) (hM k hk), fun n hn h => ?_, fun k hk => ?_⟩ (by dsimp only; omega) _ rfl
    · rcases m2 n hn h with h | h
      · obtain ⟨k, hk, hl⟩ := hA n hn ((same n hn).1 h)
        exact ⟨k, hk, hl.mono mono'⟩
      · exact ⟨i - 1, by omega, h⟩
    · dsimp only at hk ⊢
      by_cases e : k = i
      · subst e
        exact ((hB (k - 1) (by omega)).mono mono').trans m3
      · exact (hB k (by omega)).mono mono'
  · have gx := ht.a0
    have gy := ht.b0
    unfold GX at gx
    unfold GY at gy
    have e : IntKind.wrap .i64 (IntKind.wrap .i64 (t.2.2.2.2.2.2.1 * 24) + t.1) = mid t 0 := by rw [wr (x := t.2.2.2.2.2.2.1 * 24) (by omega), wr (by omega)]; rfl
    rw [if_neg q, e]
    have hu := gm 0 (by decide)
    have hwu := hM 0 (by decide)
    have hall : ∀ n, GC n → Wk c n → Link c (mid t 0) n := fun n hn h => by
      obtain ⟨k, hk, hl⟩ := hA n hn h
      exact (hB k (by omega)).trans hl
    generalize mid t 0 = u at *
    have hu' := hu
    unfold GC at hu'
    rw [inR (by omega), cond_true]
    have hG0 : GL u c := ⟨⟨hc.toF, hwu⟩, hall⟩
    have hG := hG0.set hu hu hwu 3 (by decide)
    refine OK.callR (rfield_is _ hG.cb [] [u] (by simp)) fun y hy => ?_
    exact (far_wk s fl u _ y.1 hG hu hy h1 h2).mono fun z hz => ⟨u, hu, hz⟩
/-- Any floor comes out, and all its cells that can be walked on are linked. -/
theorem make_wk (s fl : Int) (h1 : 0 ≤ fl) (h2 : fl ≤ 10000) : OK (f23 s fl) fun z => ∃ u, GC u ∧ GL u z.1 := by
  unfold f23 f23.L10
  have z0 : Mids (0, 0, 0, 0, 0, 0, 0, 0, 0, 0, 0, 0, ()) := by
    have gx : GX 0 := ⟨by decide, by decide⟩
    have gy : GY 0 := ⟨by decide, by decide⟩
    exact ⟨gx, gx, gx, gx, gx, gx, gy, gy, gy, gy, gy, gy⟩
  have gd : ∀ i, (List.replicate 384 (0 : Int)).getD i 0 = 0 := fun i => by
    rw [List.getD_eq_getElem?_getD, List.getElem?_replicate]
    split <;> rfl
  refine OK.loop (fun j : Nat × List Int × Tail => (s, fl, (j.1 : Int), j.2.1, j.2.2)) (fun j => j.1 ≤ 6 ∧ FL j.2.1 ∧ Mids j.2.2 ∧ (∀ k, k < j.1 → GC (mid j.2.2 k) ∧ Wk j.2.1 (mid j.2.2 k)) ∧ (∀ n, GC n → Wk j.2.1 n → ∃ k, k < j.1 ∧ Link j.2.1 (mid j.2.2 k) n)) (fun j => 6 - j.1) (fun rec j hj ih => ?_) (0, List.replicate 384 0, (0, 0, 0, 0, 0, 0, 0, 0, 0, 0, 0, 0, ())) rfl ⟨by dsimp only; decide, ⟨⟨List.length_replicate, fun i => ?_⟩, fun i => ?_⟩, z0, fun k hk => absurd hk (Nat.not_lt_zero k), fun n hn h => ?_⟩ (by dsimp only; decide)
  · obtain ⟨i, c, t⟩ := j
    obtain ⟨hi, hc, ht, hM, hA⟩ := hj
    dsimp only at hi hc ht hM hA ih ⊢
    rw [bif_dec]
    by_cases q : (i : Int) < 6
    · rw [if_pos q]
      refine OK.callR (d_ok s fl _ 0 5 (by decide) (by decide)) fun y0 hy0 => ?_
      refine OK.callR (d_ok s fl _ 1 4 (by decide) (by decide)) fun y1 hy1 => ?_
      have w0 : IntKind.wrap .i64 (3 + y0.1) = 3 + y0.1 := wr (by omega)
      have w1 : IntKind.wrap .i64 (2 + y1.1) = 2 + y1.1 := wr (by omega)
      have w2 : IntKind.wrap .i64 (23 - (3 + y0.1)) = 23 - (3 + y0.1) := wr (by omega)
      have w3 : IntKind.wrap .i64 (15 - (2 + y1.1)) = 15 - (2 + y1.1) := wr (by omega)
      rw [w0, w1, w2, w3]
      refine OK.callR (d_ok s fl _ 2 _ (by omega) (by omega)) fun y2 hy2 => ?_
      refine OK.callR (d_ok s fl _ 3 _ (by omega) (by omega)) fun y3 hy3 => ?_
      rw [wr (x := 1 + y2.1) (by omega), wr (x := 1 + y3.1) (by omega)]
      refine room_wk rec _ s fl _ _ _ _ i (by omega) c t hc ht (by omega) (by omega) (by omega) (by omega) (by omega) (by omega) fun c' t' hc' ht' hw ht2 => ?_
      have mono : ∀ n, GC n → Wk c n → Wk c' n := fun n hn h => (hw n hn).2 (.inl h)
      have old : ∀ k, k < i → mid t' k = mid t k := fun k hk => by rw [ht2 k (by omega), if_neg (by omega)]
      have new : mid t' i = (1 + y3.1 + (2 + y1.1) / 2) * 24 + (1 + y2.1 + (3 + y0.1) / 2) := by rw [ht2 i (by omega), if_pos rfl]
      have bx : 0 ≤ 1 + y2.1 ∧ 1 + y2.1 + (3 + y0.1) ≤ 24 ∧ 1 ≤ 3 + y0.1 := by omega
      have bY : 0 ≤ 1 + y3.1 ∧ 1 + y3.1 + (2 + y1.1) ≤ 16 ∧ 1 ≤ 2 + y1.1 := by omega
      generalize 3 + y0.1 = w at *
      generalize 2 + y1.1 = h at *
      generalize 1 + y2.1 = x at *
      generalize 1 + y3.1 = y at *
      have rect : ∀ a b, x ≤ a → a < x + w → y ≤ b → b < y + h → Wk c' (b * 24 + a) := fun a b a1 a2 b1 b2 => (hw _ ⟨by omega, by omega⟩).2 (.inr ⟨by omega, by omega, by omega, by omega⟩)
      refine ih (i + 1, c', t') ⟨by dsimp only; omega, hc', ht', fun k hk => ?_, fun n hn hn' => ?_⟩ (by dsimp only; omega) _ rfl
      · dsimp only at hk ⊢
        by_cases e : k = i
        · subst e
          rw [new]
          exact ⟨⟨by omega, by omega⟩, rect _ _ (by omega) (by omega) (by omega) (by omega)⟩
        · rw [old k (by omega)]
          exact ⟨(hM k (by omega)).1, mono _ (hM k (by omega)).1 (hM k (by omega)).2⟩
      · dsimp only at hn' ⊢
        rcases (hw n hn).1 hn' with g | g
        · obtain ⟨k, hk, hl⟩ := hA n hn g
          exact ⟨k, by omega, by rw [old k hk]; exact hl.mono mono⟩
        · have := rect_link (c := c') (x := x) (y := y) (w := w) (h := h) (by omega) (by omega) (by omega) (by omega) rect _ (x + w / 2) (y + h / 2) (n % 24) (n / 24) (by omega) (by omega) (by omega) (by omega) g.1 g.2.1 g.2.2.1 g.2.2.2 rfl
          have en : n / 24 * 24 + n % 24 = n := by omega
          rw [en] at this
          exact ⟨i, by omega, by rw [new]; exact this⟩
    · rw [if_neg q]
      have e : i = 6 := by omega
      subst e
      exact halls_wk s fl c t hc ht (fun j hj => (hM j hj).2) hA h1 h2
  · rw [gd]; decide
  · rw [gd]; decide
  · exfalso
    have : Field.rd (List.replicate 384 (0 : Int)) n = 0 := gd _
    unfold Wk at h
    dsimp only at h
    rw [this] at h
    exact absurd h (by decide)
end Go.Proofs.Ytdbfecfcoephoaa.GenL

/- The document's field is a field (own work; the invariants are those of wip/grid/XFieldRef). -/
import Derived.Test.YtdbfecfcoephoaaField
namespace Go.Proofs.Ytdbfecfcoephoaa.Field
open Go Go.Proofs.Ytdbfecfcoephoaa.Mx Go.Proofs.Ytdbfecfcoephoaa.Pc Go.Proofs.Ytdbfecfcoephoaa.Run
set_option linter.unusedVariables false
set_option linter.unusedSimpArgs false
def InG (x y : Int) : Prop := 0 ≤ x ∧ x < 24 ∧ 0 ≤ y ∧ y < 16
def cel (x y : Int) : Int := y * 24 + x
theorem rwalk_eq (v : Int) : f24 v = some (walkable v, ()) := walk_eq v
theorem in_eq (x y : Int) : f57 x y = some (decide (0 ≤ x ∧ x < 24 ∧ 0 ≤ y ∧ y < 16), ()) := by
  unfold f57
  simp only [bif_dec]
  by_cases a : x ≥ 0
  · by_cases b : x < 24
    · by_cases c : y ≥ 0
      · rw [if_pos a, if_pos b, if_pos c]
        have : decide (y < 16) = decide (0 ≤ x ∧ x < 24 ∧ 0 ≤ y ∧ y < 16) := decide_eq_decide.2 ⟨fun h => ⟨a, b, c, h⟩, fun h => h.2.2.2⟩
        rw [this]
      · rw [if_pos a, if_pos b, if_neg c, decide_eq_false (by omega)]
    · rw [if_pos a, if_neg b, decide_eq_false (by omega)]
  · rw [if_neg a, decide_eq_false (by omega)]
theorem at_eq (c : List Int) (hc : CB c) (x y : Int) : f36 c x y = some (open Classical in if InG x y then rd c (cel x y) else 0, ()) := by
  unfold f36
  rw [in_eq]
  simp only [Option.bind_some]
  by_cases h : InG x y
  · have h' := h
    unfold InG at h'
    have hv := hc (cel x y).toNat
    have e : IntKind.wrap .i64 (IntKind.wrap .i64 (y * 24) + x) = cel x y := by
      rw [wr (x := y * 24) (by omega), wr (by omega)]; rfl
    rw [decide_eq_true h', e, if_pos h]
    simp only [Bool.not_true, cond_false, bif_dec]
    have hp : 0 ≤ cel x y := by unfold cel; omega
    by_cases c1 : cel x y ≥ (c.length : Int)
    · rw [if_pos c1]
      have : rd c (cel x y) = 0 := by
        unfold rd
        rw [List.getD_eq_getElem?_getD, List.getElem?_eq_none (by omega)]; rfl
      rw [this]
    · rw [if_neg c1, inR (by omega), cond_true]
      have hv' : 0 ≤ c.getD (cel x y).toNat 0 ∧ c.getD (cel x y).toNat 0 < 256 := hv
      rw [wr (by omega)]
      rfl
  · rw [decide_eq_false (show ¬ (0 ≤ x ∧ x < 24 ∧ 0 ≤ y ∧ y < 16) from h), if_neg h]
    rfl
def ddx (j : Nat) : Int := match j with | 0 => 0 | 1 => 1 | 2 => 0 | _ => -1
def ddy (j : Nat) : Int := match j with | 0 => -1 | 1 => 0 | 2 => 1 | _ => 0
theorem dir_place (m : Int) (hm : GC m) (j : Nat) (hj : j < 4) : (InG (m % 24 + ddx j) (m / 24 + ddy j) ∧ cel (m % 24 + ddx j) (m / 24 + ddy j) = nbr m j) ∨ (¬ InG (m % 24 + ddx j) (m / 24 + ddy j) ∧ nbr m j = -1) := by
  unfold GC at hm
  unfold InG cel
  match j, hj with
  | 0, _ => unfold ddx ddy nbr; simp only; split <;> omega
  | 1, _ => unfold ddx ddy nbr; simp only; split <;> omega
  | 2, _ => unfold ddx ddy nbr; simp only; split <;> omega
  | 3, _ => unfold ddx ddy nbr; simp only; split <;> omega
section
variable (opn : Int → Prop) (T : Int → Prop)
structure Qv (f row : List Int) : Prop where
  base : Base opn T f
  rowG : ∀ n ∈ row, GC n
  mem : ∀ n, GC n → (0 ≤ rd f n ↔ n ∈ row)
  sorted : ∀ (p q : Nat) (hp : p < row.length) (hq : q < row.length), p ≤ q → rd f row[p] ≤ rd f row[q]
  cnt : row.length + un f = 384
def DoneR (f : List Int) (m : Int) (d : Nat) : Prop := GC (nbr m d) → opn (nbr m d) → 0 ≤ rd f (nbr m d) ∧ rd f (nbr m d) ≤ rd f m + 1
variable {opn T}
theorem qv_set {f row : List Int} (h : Qv opn T f row) {m v : Int} (hm : GC m) (h0 : 0 ≤ rd f m) (hb : ∀ x ∈ row, rd f x ≤ rd f m + 1) (hv : GC v) (ha : adj m v) (ho : opn v) (hu : rd f v < 0) :
    Qv opn T (f.set v.toNat (rd f m + 1)) (row ++ [v]) ∧ (∀ x d, GC x → 0 ≤ rd f x → DoneR opn f x d → DoneR opn (f.set v.toNat (rd f m + 1)) x d) ∧ rd (f.set v.toNat (rd f m + 1)) m = rd f m ∧ (∀ x ∈ row ++ [v], rd (f.set v.toNat (rd f m + 1)) x ≤ rd f m + 1) := by
  have hl := h.base.len
  have hset := fun x (hx : GC x) => rd_set f hl v x (rd f m + 1) hv hx
  have hne : ∀ x, GC x → 0 ≤ rd f x → x ≠ v := fun x hx hp e => by rw [← e] at hu; omega
  have hsame : ∀ x, GC x → 0 ≤ rd f x → rd (f.set v.toNat (rd f m + 1)) x = rd f x := fun x hx hp => by rw [hset x hx, if_neg (hne x hx hp)]
  have hnew : rd (f.set v.toNat (rd f m + 1)) v = rd f m + 1 := by rw [hset v hv, if_pos rfl]
  have hrow : ∀ x ∈ row, rd (f.set v.toNat (rd f m + 1)) x = rd f x := fun x hx => hsame x (h.rowG x hx) ((h.mem x (h.rowG x hx)).2 hx)
  have hun := un_set f hl v (rd f m + 1) hv hu (by omega)
  refine ⟨⟨base_set h.base hm hv ha ho hu (by omega) (by omega), ?_, ?_, ?_, ?_⟩, ?_, hsame m hm h0, ?_⟩
  · intro n hn
    rcases List.mem_append.1 hn with x | x
    · exact h.rowG n x
    · rw [List.mem_singleton.1 x]; exact hv
  · intro n hn
    rw [hset n hn, List.mem_append, List.mem_singleton]
    by_cases e : n = v
    · rw [if_pos e]
      exact ⟨fun _ => .inr e, fun _ => by omega⟩
    · rw [if_neg e, h.mem n hn]
      exact ⟨.inl, fun x => x.resolve_right e⟩
  · intro p q hp hq hpq
    rw [List.length_append] at hp hq
    simp only [List.length_cons, List.length_nil] at hp hq
    rw [List.getElem_append, List.getElem_append]
    by_cases q1 : q < row.length
    · have p1 : p < row.length := by omega
      rw [dif_pos p1, dif_pos q1, hrow _ (List.getElem_mem p1), hrow _ (List.getElem_mem q1)]
      exact h.sorted p q p1 q1 hpq
    · rw [dif_neg q1]
      simp only [List.getElem_singleton]
      rw [hnew]
      by_cases p1 : p < row.length
      · rw [dif_pos p1, hrow _ (List.getElem_mem p1)]
        exact hb _ (List.getElem_mem p1)
      · rw [dif_neg p1]
        exact Int.le_of_eq hnew
  · rw [List.length_append]
    simp only [List.length_cons, List.length_nil]
    have := h.cnt
    omega
  · intro x d hx hp hd hg hop
    obtain ⟨d1, d2⟩ := hd hg hop
    rw [hsame _ hg d1, hsame x hx hp]
    exact ⟨d1, d2⟩
  · intro x hx
    rcases List.mem_append.1 hx with y | y
    · rw [hrow x y]; exact hb x y
    · rw [List.mem_singleton.1 y, hnew]
      exact Int.le_refl _
end


/-- One cell: its four directions. -/
theorem cell_run (c : List Int) (hc : CB c) (b : List Bool) (T : Int → Prop) (m : Int) (hm : GC m) (a : Nat) (ha : a ≤ 1000) (k0 : List Int × List Bool × Int × List Int × List Int × Unit → Option (List Int × Unit)) (Q : List Int × Unit → Prop)
    (f0 row0 : List Int) (hQ0 : Qv (opnC c b) T f0 row0) (h00 : 0 ≤ rd f0 m) (hm0 : rd f0 m < 100000) (hb0 : ∀ x ∈ row0, rd f0 x ≤ rd f0 m + 1)
    (k : ∀ f row, Qv (opnC c b) T f row → rd f m = rd f0 m → (∀ x ∈ row, rd f x ≤ rd f0 m + 1) → (∀ d, d < 4 → DoneR (opnC c b) f m d) → (∀ x d, GC x → 0 ≤ rd f0 x → DoneR (opnC c b) f0 x d → DoneR (opnC c b) f x d) → (∃ more, row = row0 ++ more) →
      OK (k0 (c, b, ((a + 1 : Nat) : Int), f, row, ())) Q) :
    OK (f42.L1 k0 (c, b, (a : Int), m, 0, f0, row0, ())) Q := by
  unfold f42.L1
  refine OK.loop (fun j : Nat × List Int × List Int => (c, b, (a : Int), m, (j.1 : Int), j.2.1, j.2.2, ()))
    (fun j => j.1 ≤ 4 ∧ Qv (opnC c b) T j.2.1 j.2.2 ∧ rd j.2.1 m = rd f0 m ∧ (∀ x ∈ j.2.2, rd j.2.1 x ≤ rd f0 m + 1) ∧ (∀ d, d < j.1 → DoneR (opnC c b) j.2.1 m d) ∧ (∀ x d, GC x → 0 ≤ rd f0 x → DoneR (opnC c b) f0 x d → DoneR (opnC c b) j.2.1 x d) ∧ (∀ x, GC x → 0 ≤ rd f0 x → rd j.2.1 x = rd f0 x) ∧ ∃ more, j.2.2 = row0 ++ more)
    (fun j => 4 - j.1) (fun rec j hj ih => ?_) (0, f0, row0) rfl ⟨Nat.zero_le _, hQ0, rfl, hb0, fun d hd => absurd hd (Nat.not_lt_zero d), fun _ _ _ _ h => h, fun _ _ _ => rfl, [], by simp⟩ (by dsimp only; decide)
  obtain ⟨j, f, row⟩ := j
  obtain ⟨hj, hQ, hfm, hb, hD, hP, hS, ⟨more, hmore⟩⟩ := hj
  dsimp only at hj hQ hfm hb hD hP hS hmore ih ⊢
  have hl := hQ.base.len
  have hcnt : row.length ≤ 384 := by have := hQ.cnt; omega
  by_cases c4 : j < 4
  · have c4' : (j : Int) < 4 := by omega
    rw [bif_dec, if_pos c4']
    refine OK.callR (R := fun y => y = Sum.inl (c, b, (a : Int), m, (j : Int), m % 24 + ddx j, m / 24 + ddy j, f, row, ())) ?_ ?_
    · have hm' := hm
      unfold GC at hm'
      rw [Int.tmod_eq_emod_of_nonneg hm.1, Int.tdiv_eq_ediv_of_nonneg hm.1, wr (x := m / 24) (by omega), wr (x := m / 24 - 1) (by omega), wr (x := m / 24 + 1) (by omega), wr (x := m % 24 + 1) (by omega), wr (x := m % 24 - 1) (by omega)]
      match j, c4 with
      | 0, _ => exact OK.ret (by unfold ddx ddy; simp only [Int.add_zero]; rfl)
      | 1, _ => exact OK.ret (by unfold ddx ddy; simp only [Int.add_zero])
      | 2, _ => exact OK.ret (by unfold ddx ddy; simp only [Int.add_zero])
      | 3, _ => exact OK.ret (by unfold ddx ddy; simp only [Int.add_zero]; rfl)
    · intro y e
      subst e
      simp only [Sum.elim_inl]
      rw [in_eq]
      simp only [Option.bind_some]
      have wj : IntKind.wrap .i64 ((j : Int) + 1) = ((j + 1 : Nat) : Int) := by rw [wr (by omega)]; omega
      have skip : DoneR (opnC c b) f m j → OK (rec (c, b, (a : Int), m, IntKind.wrap .i64 ((j : Int) + 1), f, row, ())) Q := fun hd =>
        ih (j + 1, f, row) ⟨by dsimp only; omega, hQ, hfm, hb, fun d hdj => by
          rcases (by dsimp only at hdj; omega : d < j ∨ d = j) with h | h
          · exact hD d h
          · subst h; exact hd, hP, hS, more, hmore⟩ (by dsimp only; omega) _ (by dsimp only; rw [wj])
      rcases dir_place m hm j c4 with ⟨hin, hcel⟩ | ⟨hout, hn⟩
      · have hin' := hin
        unfold InG at hin'
        have hg : GC (nbr m j) := by rw [← hcel]; unfold GC cel; omega
        have e : IntKind.wrap .i64 (IntKind.wrap .i64 ((m / 24 + ddy j) * 24) + (m % 24 + ddx j)) = nbr m j := by
          rw [wr (x := (m / 24 + ddy j) * 24) (by omega), wr (by omega)]; exact hcel
        rw [decide_eq_true hin', cond_true, e, at_eq c hc, if_pos hin, hcel]
        simp only [Option.bind_some]
        rw [rwalk_eq]
        simp only [Option.bind_some]
        generalize hv : nbr m j = v at hg ⊢
        have hg' := hg
        unfold GC at hg'
        have hm' := hm
        unfold GC at hm'
        rw [inR (i := v) (n := f.length) (by omega), cond_true, bif_dec]
        by_cases h1 : f.getD v.toNat 0 < 0
        · rw [if_pos h1]
          cases h2 : walkable (rd c v) with
          | true =>
            rw [cond_true, bif_dec]
            have wv : IntKind.wrap .i64 (f.getD m.toNat 0 + 1) = rd f0 m + 1 := by
              have : f.getD m.toNat 0 = rd f0 m := hfm
              rw [this, wr (by omega)]
            have set : opnC c b v → OK (rec (c, b, (a : Int), m, IntKind.wrap .i64 ((j : Int) + 1), f.set v.toNat (IntKind.wrap .i64 (f.getD m.toNat 0 + 1)), row ++ [v], ())) Q := by
              intro ho
              obtain ⟨a1, a2, a3, a4⟩ := qv_set hQ hm (by omega) (by rw [hfm]; exact hb) hg ⟨j, c4, hv⟩ ho h1
              rw [hfm] at a1 a2 a3 a4
              refine ih (j + 1, f.set v.toNat (rd f0 m + 1), row ++ [v]) ⟨by dsimp only; omega, a1, a3, a4, fun d hdj => ?_, fun x d hx hp hd => ?_, fun x hx hp => ?_, more ++ [v], ?_⟩ (by dsimp only; omega) _ (by dsimp only; rw [wj, wv])
              · rcases (by dsimp only at hdj; omega : d < j ∨ d = j) with h | h
                · exact a2 m d hm (by omega) (hD d h)
                · subst h
                  intro _ _
                  dsimp only
                  rw [hv, a3, rd_set f hl v v (rd f0 m + 1) hg hg, if_pos rfl]
                  omega
              · exact a2 x d hx (by rw [hS x hx hp]; exact hp) (hP x d hx hp hd)
              · dsimp only
                rw [rd_set f hl v x (rd f0 m + 1) hg hx, if_neg (fun e => by
                  have h1' : rd f v < 0 := h1
                  have h2' := hS x hx hp
                  have h3' := hp
                  rw [e] at h2' h3'; omega)]
                exact hS x hx hp
              · dsimp only; rw [hmore, List.append_assoc]
            by_cases h3 : v ≥ (b.length : Int)
            · rw [if_pos h3, inR (i := m) (n := f.length) (by omega), cond_true, cond_true, decide_eq_true (by simp [limit]; omega), cond_true]
              exact set ⟨h2, fun x => by have := x.1; omega⟩
            · rw [if_neg h3, inR (i := v) (n := b.length) (by omega), cond_true]
              cases h4 : b.getD v.toNat false with
              | true =>
                rw [Bool.not_true, cond_false]
                exact skip (fun _ ho => by rw [hv] at ho; exact absurd ⟨by omega, h4⟩ ho.2)
              | false =>
                rw [Bool.not_false, cond_true, inR (i := m) (n := f.length) (by omega), cond_true, cond_true, decide_eq_true (by simp [limit]; omega), cond_true]
                exact set ⟨h2, fun x => by rw [h4] at x; exact absurd x.2 (by decide)⟩
          | false =>
            rw [cond_false]
            exact skip (fun _ ho => by rw [hv] at ho; exact absurd ho.1 (by rw [h2]; decide))
        · rw [if_neg h1]
          have h1' : ¬ rd f v < 0 := h1
          refine skip (fun _ _ => ?_)
          rw [hv, hfm]
          exact ⟨by omega, hb v ((hQ.mem v hg).1 (by omega))⟩
      · rw [decide_eq_false (show ¬ (0 ≤ m % 24 + ddx j ∧ m % 24 + ddx j < 24 ∧ 0 ≤ m / 24 + ddy j ∧ m / 24 + ddy j < 16) from hout), cond_false]
        exact skip (fun hg _ => by unfold GC at hg; omega)
  · have c4' : ¬ (j : Int) < 4 := by omega
    rw [bif_dec, if_neg c4', wr (by omega)]
    exact k f row hQ hfm hb (fun d hd => hD d (by omega)) hP ⟨more, hmore⟩
theorem queue_run (c : List Int) (hc : CB c) (b : List Bool) (T : Int → Prop) (f0 row0 : List Int) (hQ0 : Qv (opnC c b) T f0 row0) (hz : ∀ n, GC n → rd f0 n ≤ 0) :
    OK (f42.L2 (c, b, 0, f0, row0, ())) fun y => IsField (opnC c b) T y.1 := by
  unfold f42.L2
  refine OK.loop (fun j : Nat × List Int × List Int => (c, b, (j.1 : Int), j.2.1, j.2.2, ()))
    (fun j => Qv (opnC c b) T j.2.1 j.2.2 ∧ j.1 ≤ j.2.2.length ∧ (∀ n, GC n → rd j.2.1 n ≤ j.1 + 1) ∧ (∀ (hi : j.1 < j.2.2.length), ∀ x ∈ j.2.2, rd j.2.1 x ≤ rd j.2.1 (j.2.2[j.1]) + 1) ∧ (∀ x ∈ j.2.2.take j.1, ∀ q, q < 4 → DoneR (opnC c b) j.2.1 x q))
    (fun j => 384 - j.1) (fun rec j hj ih => ?_) (0, f0, row0) rfl ⟨hQ0, Nat.zero_le _, fun n hn => by have := hz n hn; dsimp only; omega, fun hi x hx => ?_, fun x hx => by simp at hx⟩ (by dsimp only; decide)
  · obtain ⟨i, f, row⟩ := j
    obtain ⟨hQ, hir, hhi, hb, hD⟩ := hj
    dsimp only at hQ hir hhi hb hD ih ⊢
    have hcn := hQ.cnt
    by_cases hlt : i < row.length
    · have hlt' : (i : Int) < (row.length : Int) := by omega
      have hrd : row.getD i 0 = row[i] := by simp [List.getD_eq_getElem?_getD, hlt]
      have hmem : row[i] ∈ row := List.getElem_mem hlt
      have hm := hQ.rowG _ hmem
      have h0 := (hQ.mem _ hm).2 hmem
      have h1 := hhi _ hm
      rw [bif_dec, if_pos hlt', inR (by omega), cond_true, Int.toNat_natCast, hrd]
      refine cell_run c hc b T row[i] hm i (by omega) rec _ f row hQ h0 (by omega) (hb hlt) ?_
      intro f' row' r2 r3 r4 r5 r6 ⟨more, r8⟩
      have hlen : row.length ≤ row'.length := by rw [r8, List.length_append]; omega
      have hcn' := r2.cnt
      refine ih (i + 1, f', row') ⟨r2, by dsimp only; omega, fun n hn => ?_, fun hi1 x hx => ?_, fun x hx q hq => ?_⟩ (by dsimp only; omega) _ rfl
      · dsimp only
        by_cases hp : 0 ≤ rd f' n
        · have := r4 n ((r2.mem n hn).1 hp)
          omega
        · omega
      · dsimp only at hi1 hx ⊢
        have hs := r2.sorted i (i + 1) (by omega) hi1 (by omega)
        have he : row'[i]'(by omega) = row[i] := by
          simp only [r8]
          rw [List.getElem_append_left hlt]
        rw [he, r3] at hs
        have := r4 x hx
        omega
      · dsimp only at hx ⊢
        have ht : row'.take (i + 1) = row.take (i + 1) := by
          rw [r8, List.take_append_of_le_length (by omega)]
        rw [ht, List.take_succ_eq_append_getElem hlt] at hx
        rcases List.mem_append.1 hx with y | y
        · have hy := List.mem_of_mem_take y
          exact r6 x q (hQ.rowG x hy) ((hQ.mem x (hQ.rowG x hy)).2 hy) (hD x y q hq)
        · rw [List.mem_singleton.1 y]
          exact r5 q hq
    · have hlt' : ¬ (i : Int) < (row.length : Int) := by omega
      rw [bif_dec, if_neg hlt']
      have e : i = row.length := by omega
      subst e
      rw [List.take_length] at hD
      refine OK.ret ⟨hQ.base, ?_⟩
      intro m n hm hn h1 ⟨q, hq, e⟩ h3
      have := hD m ((hQ.mem m hm).1 h1) q hq (by rw [e]; exact hn) (by rw [e]; exact h3)
      rw [e] at this
      exact this
  · dsimp only at hi hx ⊢
    have a1 := hz x (hQ0.rowG x hx)
    have a2 := (hQ0.mem _ (hQ0.rowG _ (List.getElem_mem hi))).2 (List.getElem_mem hi)
    omega

theorem collect_run (c : List Int) (hc : CB c) (b : List Bool) (T : Int → Prop) (f : List Int) (hB : Base (opnC c b) T f) (hv : ∀ n, GC n → rd f n = -1 ∨ rd f n = 0) :
    OK (f42.L3 (c, b, 0, f, [], ())) fun y => IsField (opnC c b) T y.1 := by
  have hl := hB.len
  unfold f42.L3
  refine OK.loop (fun j : Nat × List Int => (c, b, (j.1 : Int), f, j.2, ()))
    (fun j => j.1 ≤ 384 ∧ (∀ n ∈ j.2, GC n) ∧ (∀ n, GC n → (n ∈ j.2 ↔ rd f n = 0 ∧ n < j.1)) ∧ j.2.length + (f.drop j.1).countP (fun v => decide (0 ≤ v)) + un f = 384)
    (fun j => 384 - j.1) (fun rec j hj ih => ?_) (0, []) rfl ⟨Nat.zero_le _, fun n hn => (by cases hn), fun n hn => ⟨fun h => (by cases h), fun h => (by have := h.2; unfold GC at hn; dsimp only at this; omega)⟩, ?_⟩ (by dsimp only; decide)
  · obtain ⟨i, row⟩ := j
    obtain ⟨hi, hrG, hr, hcnt⟩ := hj
    dsimp only at hi hrG hr hcnt ih ⊢
    by_cases c4 : i < 384
    · have c4' : (i : Int) < 384 := by omega
      have hlt : i < f.length := by omega
      have hg : GC (i : Int) := ⟨by omega, by omega⟩
      have hfi : f[i] = rd f (i : Int) := by unfold rd; simp [hlt]
      have hgd : f.getD i 0 = rd f (i : Int) := by unfold rd; rw [Int.toNat_natCast]
      have hd := List.drop_eq_getElem_cons hlt
      have wj : IntKind.wrap .i64 ((i : Int) + 1) = ((i + 1 : Nat) : Int) := by rw [wr (by omega)]; omega
      rw [bif_dec, if_pos c4', inR (by omega), cond_true, Int.toNat_natCast, hgd, wj]
      rw [hd, List.countP_cons, hfi] at hcnt
      by_cases h0 : rd f (i : Int) = 0
      · have q : (rd f (i : Int) == 0) = true := by simpa using h0
        rw [q, cond_true, decide_eq_true (by simp [limit]; omega), cond_true]
        rw [h0] at hcnt
        refine ih (i + 1, row ++ [(i : Int)]) ⟨by dsimp only; omega, fun n hn => ?_, fun n hn => ?_, ?_⟩ (by dsimp only; omega) _ rfl
        · rcases List.mem_append.1 hn with x | x
          · exact hrG n x
          · rw [List.mem_singleton.1 x]; exact hg
        · dsimp only
          rw [List.mem_append, List.mem_singleton, hr n hn]
          constructor
          · rintro (⟨x, y⟩ | x)
            · exact ⟨x, by omega⟩
            · subst x; exact ⟨h0, by omega⟩
          · rintro ⟨x, y⟩
            rcases (by omega : n < i ∨ n = i) with z | z
            · exact .inl ⟨x, z⟩
            · exact .inr z
        · dsimp only
          rw [List.length_append]
          simp at hcnt ⊢
          omega
      · have q : (rd f (i : Int) == 0) = false := by simpa using h0
        rw [q, cond_false]
        have h1 : rd f (i : Int) = -1 := by rcases hv _ hg with x | x <;> omega
        rw [h1] at hcnt
        refine ih (i + 1, row) ⟨by dsimp only; omega, hrG, fun n hn => ?_, ?_⟩ (by dsimp only; omega) _ rfl
        · dsimp only
          rw [hr n hn]
          constructor
          · rintro ⟨x, y⟩
            exact ⟨x, by omega⟩
          · rintro ⟨x, y⟩
            refine ⟨x, ?_⟩
            rcases (by omega : n < i ∨ n = i) with z | z
            · exact z
            · subst z; omega
        · dsimp only
          simp at hcnt ⊢
          omega
    · have c4' : ¬ (i : Int) < 384 := by omega
      rw [bif_dec, if_neg c4']
      have e : i = 384 := by omega
      subst e
      rw [List.drop_of_length_le (by omega)] at hcnt
      simp only [List.countP_nil, Nat.add_zero] at hcnt
      have hz : ∀ x ∈ row, rd f x = 0 := fun x hx => ((hr x (hrG x hx)).1 hx).1
      refine queue_run c hc b T f row ⟨hB, hrG, fun n hn => ?_, fun p q hp hq hpq => ?_, hcnt⟩ (fun n hn => by rcases hv n hn with h | h <;> omega)
      · rw [hr n hn]
        constructor
        · intro h
          exact ⟨by rcases hv n hn with x | x <;> omega, by unfold GC at hn; omega⟩
        · intro h
          omega
      · rw [hz _ (List.getElem_mem hp), hz _ (List.getElem_mem hq)]
        exact Int.le_refl _
  · dsimp only
    have := List.length_eq_countP_add_countP (fun v : Int => decide (v < 0)) (l := f)
    unfold un
    simp at this ⊢
    omega
theorem rtargets_run (c : List Int) (hc : CB c) (b : List Bool) (ts : List Int) (ht : ts.length ≤ 1000000) (f0 : List Int) (hl : f0.length = 384) (hv0 : ∀ n, GC n → rd f0 n = -1) :
    OK (f42.L4 (c, b, ts, 0, f0, ())) fun y => IsField (opnC c b) (IsT c ts) y.1 := by
  unfold f42.L4
  refine OK.loop (fun j : Nat × List Int => (c, b, ts, (j.1 : Int), j.2, ()))
    (fun j => j.1 ≤ ts.length ∧ j.2.length = 384 ∧ (∀ n, GC n → rd j.2 n = -1 ∨ rd j.2 n = 0) ∧ (∀ n, GC n → (rd j.2 n = 0 ↔ IsT c (ts.take j.1) n)))
    (fun j => ts.length - j.1) (fun rec j hj ih => ?_) (0, f0) rfl ⟨Nat.zero_le _, hl, fun n hn => .inl (hv0 n hn), fun n hn => ⟨fun e => (by have := hv0 n hn; dsimp only at e; omega), fun e => (by cases e.1)⟩⟩ (by dsimp only; omega)
  obtain ⟨i, f⟩ := j
  obtain ⟨hi, hl, hv, hz⟩ := hj
  dsimp only at hi hl hv hz ih ⊢
  by_cases c0 : i < ts.length
  · have c0' : (i : Int) < (ts.length : Int) := by omega
    have hrd : ts.getD i 0 = ts[i] := by simp [List.getD_eq_getElem?_getD, c0]
    have hmem : ∀ n, n ∈ ts.take (i + 1) ↔ n ∈ ts.take i ∨ n = ts[i] := fun n => by rw [List.take_succ_eq_append_getElem c0, List.mem_append, List.mem_singleton]
    have wj : IntKind.wrap .i64 ((i : Int) + 1) = ((i + 1 : Nat) : Int) := by rw [wr (by omega)]; omega
    rw [bif_dec, if_pos c0', inR (by omega), cond_true, Int.toNat_natCast, hrd, wj]
    generalize ts[i] = t at *
    have skip : (∀ n, GC n → IsT c (ts.take (i + 1)) n → IsT c (ts.take i) n) → OK (rec (c, b, ts, ((i + 1 : Nat) : Int), f, ())) fun y => IsField (opnC c b) (IsT c ts) y.1 := fun h => by
      refine ih (i + 1, f) ⟨by dsimp only; omega, hl, hv, fun n hn => ?_⟩ (by dsimp only; omega) _ rfl
      dsimp only
      rw [hz n hn]
      exact ⟨fun x => ⟨(hmem n).2 (.inl x.1), x.2⟩, h n hn⟩
    rw [bif_dec]
    by_cases h1 : t ≥ 0
    · rw [if_pos h1, bif_dec]
      by_cases h2 : t < 384
      · have hg : GC t := ⟨h1, h2⟩
        have hin : InG (t % 24) (t / 24) := by unfold InG; omega
        have hcl : cel (t % 24) (t / 24) = t := by unfold cel; omega
        rw [if_pos h2, Int.tmod_eq_emod_of_nonneg h1, Int.tdiv_eq_ediv_of_nonneg h1, wr (x := t / 24) (by omega), at_eq c hc, if_pos hin, hcl]
        simp only [Option.bind_some]
        rw [rwalk_eq]
        simp only [Option.bind_some]
        cases h4 : walkable (rd c t) with
        | true =>
          have hset := fun x (hx : GC x) => rd_set f hl t x 0 hg hx
          rw [cond_true, inR (by omega), cond_true]
          refine ih (i + 1, f.set t.toNat 0) ⟨by dsimp only; omega, by simpa using hl, fun n hn => ?_, fun n hn => ?_⟩ (by dsimp only; omega) _ rfl
          · dsimp only
            rw [hset n hn]
            split
            · exact .inr rfl
            · exact hv n hn
          · dsimp only
            rw [hset n hn]
            by_cases e : n = t
            · rw [if_pos e]
              exact ⟨fun _ => ⟨(hmem n).2 (.inr e), by rw [e]; exact h4⟩, fun _ => rfl⟩
            · rw [if_neg e, hz n hn]
              exact ⟨fun x => ⟨(hmem n).2 (.inl x.1), x.2⟩, fun x => ⟨((hmem n).1 x.1).resolve_right e, x.2⟩⟩
        | false =>
          rw [cond_false]
          exact skip (fun n hn x => ⟨((hmem n).1 x.1).resolve_right (fun e => by have := x.2; rw [e, h4] at this; cases this), x.2⟩)
      · rw [if_neg h2]
        exact skip (fun n hn x => ⟨((hmem n).1 x.1).resolve_right (fun e => by unfold GC at hn; omega), x.2⟩)
    · rw [if_neg h1]
      exact skip (fun n hn x => ⟨((hmem n).1 x.1).resolve_right (fun e => by unfold GC at hn; omega), x.2⟩)
  · have c0' : ¬ (i : Int) < (ts.length : Int) := by omega
    rw [bif_dec, if_neg c0']
    have e : i = ts.length := by omega
    subst e
    rw [List.take_length] at hz
    exact collect_run c hc b (IsT c ts) f ⟨hl, fun n hn => by rcases hv n hn with h | h <;> omega, hz, fun n hn hp => by rcases hv n hn with h | h <;> omega⟩ hv
/-- The document's field is a field. -/
theorem rfield_is (c : List Int) (hc : CB c) (b : List Bool) (ts : List Int) (ht : ts.length ≤ 1000000) : OK (f42 c b ts) fun y => IsField (opnC c b) (IsT c ts) y.1 := by
  unfold f42 f42.L5
  refine OK.loop (fun j : Nat × List Int => (c, b, ts, (j.1 : Int), j.2, ()))
    (fun j => j.1 ≤ 384 ∧ j.2.length = 384 ∧ (∀ n, 0 ≤ n → n < (j.1 : Int) → rd j.2 n = -1)) (fun j => 384 - j.1) (fun rec j hj ih => ?_) (0, List.replicate 384 0) rfl ⟨Nat.zero_le _, List.length_replicate, fun n h0 h1 => by dsimp only at h1; omega⟩ (by dsimp only; decide)
  obtain ⟨i, f⟩ := j
  obtain ⟨hi, hl, hv⟩ := hj
  dsimp only at hi hl hv ih ⊢
  by_cases c4 : i < 384
  · have c4' : (i : Int) < 384 := by omega
    have wj : IntKind.wrap .i64 ((i : Int) + 1) = ((i + 1 : Nat) : Int) := by rw [wr (by omega)]; omega
    rw [bif_dec, if_pos c4', inR (by omega), cond_true, wj]
    refine ih (i + 1, f.set (Int.toNat (i : Int)) (-1)) ⟨by dsimp only; omega, by simpa using hl, fun n h0 h1 => ?_⟩ (by dsimp only; omega) _ rfl
    dsimp only at h1 ⊢
    rw [rd_set f hl (i : Int) n (-1) ⟨by omega, by omega⟩ ⟨by omega, by omega⟩]
    by_cases e : n = (i : Int)
    · rw [if_pos e]
    · rw [if_neg e]
      exact hv n h0 (by omega)
  · have c4' : ¬ (i : Int) < 384 := by omega
    rw [bif_dec, if_neg c4']
    exact rtargets_run c hc b ts ht f hl (fun n hn => hv n hn.1 (by have := hn.2; omega))
end Go.Proofs.Ytdbfecfcoephoaa.Field

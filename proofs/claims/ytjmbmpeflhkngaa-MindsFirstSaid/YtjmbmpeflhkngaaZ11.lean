/- The document's field is a field (own work; the invariants are those of wip/grid/XFieldRef). -/
import Derived.Test.YtjmbmpeflhkngaaZ10
namespace Go.Proofs.Ytjmbmpeflhkngaa.Field
open Go Go.Proofs.Ytjmbmpeflhkngaa.Mx Go.Proofs.Ytjmbmpeflhkngaa.Pc Go.Proofs.Ytjmbmpeflhkngaa.Run
set_option linter.unusedVariables false
set_option linter.unusedSimpArgs false
def InG (x y : Int) : Prop := 0 ≤ x ∧ x < 24 ∧ 0 ≤ y ∧ y < 16
def cel (x y : Int) : Int := y * 24 + x
theorem rwalk_eq (v : Int) : f18 v = some (walkable v, ()) := walk_eq v
theorem in_eq (x y : Int) : f37 x y = some (decide (0 ≤ x ∧ x < 24 ∧ 0 ≤ y ∧ y < 16), ()) := by
  unfold f37
  simp only [bif_dec]
  by_cases a : x ≥ 0
  · by_cases b : x < 24
    · by_cases c : y ≥ 0
      · rw [if_pos a, if_pos b, if_pos c]
        have : decide (y < 16) = decide (0 ≤ x ∧ x < 24 ∧ 0 ≤ y ∧ y < 16) := decide_eq_decide.2 ⟨fun h => ⟨a, b, c, h⟩, fun h => h.2.2.2⟩
        rw [this]
      · rw [if_pos a, if_pos b, if_neg c, decide_eq_false (by omega)]
    · rw [if_pos a, if_neg b, decide_eq_false (by omega)]
  · rw [if_neg a, decide_eq_false (by omega)]
theorem at_eq (c : List Int) (hc : CB c) (x y : Int) : f19 c x y = some (open Classical in if InG x y then rd c (cel x y) else 0, ()) := by
  unfold f19
  rw [in_eq]
  simp only [Option.bind_some]
  by_cases h : InG x y
  · have h' := h
    unfold InG at h'
    have hv := hc (cel x y).toNat
    have e : IntKind.wrap .i64 (IntKind.wrap .i64 (y * 24) + x) = cel x y := by
      rw [wr (x := y * 24) (by omega), wr (by omega)]; rfl
    rw [decide_eq_true h', e, if_pos h]
    simp only [Bool.not_true, cond_false, bif_dec]
    have hp : 0 ≤ cel x y := by unfold cel; omega
    by_cases c1 : cel x y ≥ (c.length : Int)
    · rw [if_pos c1]
      have : rd c (cel x y) = 0 := by
        unfold rd
        rw [List.getD_eq_getElem?_getD, List.getElem?_eq_none (by omega)]; rfl
      rw [this]
    · rw [if_neg c1, inR (by omega), cond_true]
      have hv' : 0 ≤ c.getD (cel x y).toNat 0 ∧ c.getD (cel x y).toNat 0 < 256 := hv
      rw [wr (by omega)]
      rfl
  · rw [decide_eq_false (show ¬ (0 ≤ x ∧ x < 24 ∧ 0 ≤ y ∧ y < 16) from h), if_neg h]
    rfl
def ddx (j : Nat) : Int := match j with | 0 => 0 | 1 => 1 | 2 => 0 | _ => -1
def ddy (j : Nat) : Int := match j with | 0 => -1 | 1 => 0 | 2 => 1 | _ => 0
theorem dir_place (m : Int) (hm : GC m) (j : Nat) (hj : j < 4) : (InG (m % 24 + ddx j) (m / 24 + ddy j) ∧ cel (m % 24 + ddx j) (m / 24 + ddy j) = nbr m j) ∨ (¬ InG (m % 24 + ddx j) (m / 24 + ddy j) ∧ nbr m j = -1) := by
  unfold GC at hm
  unfold InG cel
  match j, hj with
  | 0, _ => unfold ddx ddy nbr; simp only; split <;> omega
  | 1, _ => unfold ddx ddy nbr; simp only; split <;> omega
  | 2, _ => unfold ddx ddy nbr; simp only; split <;> omega
  | 3, _ => unfold ddx ddy nbr; simp only; split <;> omega
section
variable (opn : Int → Prop) (T : Int → Prop)
structure Qv (f row : List Int) : Prop where
  base : Base opn T f
  rowG : ∀ n ∈ row, GC n
  mem : ∀ n, GC n → (0 ≤ rd f n ↔ n ∈ row)
  sorted : ∀ (p q : Nat) (hp : p < row.length) (hq : q < row.length), p ≤ q → rd f row[p] ≤ rd f row[q]
  cnt : row.length + un f = 384
def DoneR (f : List Int) (m : Int) (d : Nat) : Prop := GC (nbr m d) → opn (nbr m d) → 0 ≤ rd f (nbr m d) ∧ rd f (nbr m d) ≤ rd f m + 1
variable {opn T}
theorem qv_set {f row : List Int} (h : Qv opn T f row) {m v : Int} (hm : GC m) (h0 : 0 ≤ rd f m) (hb : ∀ x ∈ row, rd f x ≤ rd f m + 1) (hv : GC v) (ha : adj m v) (ho : opn v) (hu : rd f v < 0) :
    Qv opn T (f.set v.toNat (rd f m + 1)) (row ++ [v]) ∧ (∀ x d, GC x → 0 ≤ rd f x → DoneR opn f x d → DoneR opn (f.set v.toNat (rd f m + 1)) x d) ∧ rd (f.set v.toNat (rd f m + 1)) m = rd f m ∧ (∀ x ∈ row ++ [v], rd (f.set v.toNat (rd f m + 1)) x ≤ rd f m + 1) := by
  have hl := h.base.len
  have hset := fun x (hx : GC x) => rd_set f hl v x (rd f m + 1) hv hx
  have hne : ∀ x, GC x → 0 ≤ rd f x → x ≠ v := fun x hx hp e => by rw [← e] at hu; omega
  have hsame : ∀ x, GC x → 0 ≤ rd f x → rd (f.set v.toNat (rd f m + 1)) x = rd f x := fun x hx hp => by rw [hset x hx, if_neg (hne x hx hp)]
  have hnew : rd (f.set v.toNat (rd f m + 1)) v = rd f m + 1 := by rw [hset v hv, if_pos rfl]
  have hrow : ∀ x ∈ row, rd (f.set v.toNat (rd f m + 1)) x = rd f x := fun x hx => hsame x (h.rowG x hx) ((h.mem x (h.rowG x hx)).2 hx)
  have hun := un_set f hl v (rd f m + 1) hv hu (by omega)
  refine ⟨⟨base_set h.base hm hv ha ho hu (by omega) (by omega), ?_, ?_, ?_, ?_⟩, ?_, hsame m hm h0, ?_⟩
  · intro n hn
    rcases List.mem_append.1 hn with x | x
    · exact h.rowG n x
    · rw [List.mem_singleton.1 x]; exact hv
  · intro n hn
    rw [hset n hn, List.mem_append, List.mem_singleton]
    by_cases e : n = v
    · rw [if_pos e]
      exact ⟨fun _ => .inr e, fun _ => by omega⟩
    · rw [if_neg e, h.mem n hn]
      exact ⟨.inl, fun x => x.resolve_right e⟩
  · intro p q hp hq hpq
    rw [List.length_append] at hp hq
    simp only [List.length_cons, List.length_nil] at hp hq
    rw [List.getElem_append, List.getElem_append]
    by_cases q1 : q < row.length
    · have p1 : p < row.length := by omega
      rw [dif_pos p1, dif_pos q1, hrow _ (List.getElem_mem p1), hrow _ (List.getElem_mem q1)]
      exact h.sorted p q p1 q1 hpq
    · rw [dif_neg q1]
      simp only [List.getElem_singleton]
      rw [hnew]
      by_cases p1 : p < row.length
      · rw [dif_pos p1, hrow _ (List.getElem_mem p1)]
        exact hb _ (List.getElem_mem p1)
      · rw [dif_neg p1]
        exact Int.le_of_eq hnew
  · rw [List.length_append]
    simp only [List.length_cons, List.length_nil]
    have := h.cnt
    omega
  · intro x d hx hp hd hg hop
    obtain ⟨d1, d2⟩ := hd hg hop
    rw [hsame _ hg d1, hsame x hx hp]
    exact ⟨d1, d2⟩
  · intro x hx
    rcases List.mem_append.1 hx with y | y
    · rw [hrow x y]; exact hb x y
    · rw [List.mem_singleton.1 y, hnew]
      exact Int.le_refl _
end


/-- One cell: its four directions. -/
theorem cell_run (c : List Int) (hc : CB c) (b : List Bool) (T : Int → Prop) (m : Int) (hm : GC m) (a : Nat) (ha : a ≤ 1000) (k0 : List Int × List Bool × Int × List Int × List Int × Unit → Option (List Int × Unit)) (Q : List Int × Unit → Prop)
    (f0 row0 : List Int) (hQ0 : Qv (opnC c b) T f0 row0) (h00 : 0 ≤ rd f0 m) (hm0 : rd f0 m < 100000) (hb0 : ∀ x ∈ row0, rd f0 x ≤ rd f0 m + 1)
    (k : ∀ f row, Qv (opnC c b) T f row → rd f m = rd f0 m → (∀ x ∈ row, rd f x ≤ rd f0 m + 1) → (∀ d, d < 4 → DoneR (opnC c b) f m d) → (∀ x d, GC x → 0 ≤ rd f0 x → DoneR (opnC c b) f0 x d → DoneR (opnC c b) f x d) → (∃ more, row = row0 ++ more) →
      OK (k0 (c, b, ((a + 1 : Nat) : Int), f, row, ())) Q) :
    OK (f27.L1 k0 (c, b, (a : Int), m, 0, f0, row0, ())) Q := by
  unfold f27.L1
  refine OK.loop (fun j : Nat × List Int × List Int => (c, b, (a : Int), m, (j.1 : Int), j.2.1, j.2.2, ()))
    (fun j => j.1 ≤ 4 ∧ Qv (opnC c b) T j.2.1 j.2.2 ∧ rd j.2.1 m = rd f0 m ∧ (∀ x ∈ j.2.2, rd j.2.1 x ≤ rd f0 m + 1) ∧ (∀ d, d < j.1 → DoneR (opnC c b) j.2.1 m d) ∧ (∀ x d, GC x → 0 ≤ rd f0 x → DoneR (opnC c b) f0 x d → DoneR (opnC c b) j.2.1 x d) ∧ (∀ x, GC x → 0 ≤ rd f0 x → rd j.2.1 x = rd f0 x) ∧ ∃ more, j.2.2 = row0 ++ more)
    (fun j => 4 - j.1) (fun rec j hj ih => ?_) (0, f0, row0) rfl ⟨Nat.zero_le _, hQ0, rfl, hb0, fun d hd => absurd hd (Nat.not_lt_zero d), fun _ _ _ _ h => h, fun _ _ _ => rfl, [], by simp⟩ (by dsimp only; decide)
  obtain ⟨j, f, row⟩ := j
  obtain ⟨hj, hQ, hfm, hb, hD, hP, hS, ⟨more, hmore⟩⟩ := hj
  dsimp only at hj hQ hfm hb hD hP hS hmore ih ⊢
  have hl := hQ.base.len
  have hcnt : row.length ≤ 384 := by have := hQ.cnt; omega
  by_cases c4 : j < 4
  · have c4' : (j : Int) < 4 := by omega
    rw [bif_dec, if_pos c4']
    refine OK.callR (R := fun y => y = Sum.inl (c, b, (a : Int), m, (j : Int), m % 24 + ddx j, m / 24 + ddy j, f, row, ())) ?_ ?_
    · have hm' := hm
      unfold GC at hm'
      rw [Int.tmod_eq_emod_of_nonneg hm.1, Int.tdiv_eq_ediv_of_nonneg hm.1, wr (x := m / 24) (by omega), wr (x := m / 24 - 1) (by omega), wr (x := m / 24 + 1) (by omega), wr (x := m % 24 + 1) (by omega), wr (x := m % 24 - 1) (by omega)]
      match j, c4 with
      | 0, _ => exact OK.ret (by unfold ddx ddy; simp only [Int.add_zero]; rfl)
      | 1, _ => exact OK.ret (by unfold ddx ddy; simp only [Int.add_zero])
      | 2, _ => exact OK.ret (by unfold ddx ddy; simp only [Int.add_zero])
      | 3, _ => exact OK.ret (by unfold ddx ddy; simp only [Int.add_zero]; rfl)
    · intro y e
      subst e
      simp only [Sum.elim_inl]
      rw [in_eq]
      simp only [Option.bind_some]
      have wj : IntKind.wrap .i64 ((j : Int) + 1) = ((j + 1 : Nat) : Int) := by rw [wr (by omega)]; omega
      have skip : DoneR (opnC c b) f m j → OK (rec (c, b, (a : Int), m, IntKind.wrap .i64 ((j : Int) + 1), f, row, ())) Q := fun hd =>
        ih (j + 1, f, row) ⟨by dsimp only; omega, hQ, hfm, hb, fun d hdj => by
          rcases (by dsimp only at hdj; omega : d < j ∨ d = j) with h | h
          · exact hD d h
          · subst h; exact hd, hP, hS, more, hmore⟩ (by dsimp only; omega) _ (by dsimp only; rw [wj])
      rcases dir_place m hm j c4 with ⟨hin, hcel⟩ | ⟨hout, hn⟩
      · have hin' := hin
        unfold InG at hin'
        have hg : GC (nbr m j) := by rw [← hcel]; unfold GC cel; omega
        have e : IntKind.wrap .i64 (IntKind.wrap .i64 ((m / 24 + ddy j) * 24) + (m % 24 + ddx j)) = nbr m j := by
          rw [wr (x := (m / 24 + ddy j) * 24) (by omega), wr (by omega)]; exact hcel
        rw [decide_eq_true hin', cond_true, e, at_eq c hc, if_pos hin, hcel]
        simp only [Option.bind_some]
        rw [rwalk_eq]
        simp only [Option.bind_some]
        generalize hv : nbr m j = v at hg ⊢
        have hg' := hg
        unfold GC at hg'
        have hm' := hm
        unfold GC at hm'
        rw [inR (i := v) (n := f.length) (by omega), cond_true, bif_dec]
        by_cases h1 : f.getD v.toNat 0 < 0
        · rw [if_pos h1]
          cases h2 : walkable (rd c v) with
          | true =>
            rw [cond_true, bif_dec]
            have wv : IntKind.wrap .i64 (f.getD m.toNat 0 + 1) = rd f0 m + 1 := by
              have : f.getD m.toNat 0 = rd f0 m := hfm
              rw [this, wr (by omega)]
            have set : opnC c b v → OK (rec (c, b, (a : Int), m, IntKind.wrap .i64 ((j : Int) + 1), f.set v.toNat (IntKind.wrap .i64 (f.getD m.toNat 0 + 1)), row ++ [v], ())) Q := by
              intro ho
              obtain ⟨a1, a2, a3, a4⟩ := qv_set hQ hm (by omega) (by rw [hfm]; exact hb) hg ⟨j, c4, hv⟩ ho h1
              rw [hfm] at a1 a2 a3 a4
              refine ih (j + 1, f.set v.toNat (rd f0 m + 1), row ++ [v]) ⟨by dsimp only; omega, a1, a3, a4, fun d hdj => ?_, fun x d hx hp hd => ?_, fun x hx hp => ?_, more ++ [v], ?_⟩ (by dsimp only; omega) _ (by dsimp only; rw [wj, wv])
              · rcases (by dsimp only at hdj; omega : d < j ∨ d = j) with h | h
                · exact a2 m d hm (by omega) (hD d h)
                · subst h
                  intro _ _
                  dsimp only
                  rw [hv, a3, rd_set f hl v v (rd f0 m + 1) hg hg, if_pos rfl]
                  omega
              · exact a2 x d hx (by rw [hS x hx hp]; exact hp) (hP x d hx hp hd)
              · dsimp only
                rw [rd_set f hl v x (rd f0 m + 1) hg hx, if_neg (fun e => by
                  have h1' : rd f v < 0 := h1
                  have h2' := hS x hx hp
                  have h3' := hp
                  rw [e] at h2' h3'; omega)]
                exact hS x hx hp
              · dsimp only; rw [hmore, List.append_assoc]
            by_cases h3 : v ≥ (b.length : Int)
            · rw [if_pos h3, inR (i := m) (n := f.length) (by omega), cond_true, cond_true, decide_eq_true (by simp [limit]; omega), cond_true]
              exact set ⟨h2, fun x => by have := x.1; omega⟩
            · rw [if_neg h3, inR (i := v) (n := b.length) (by omega), cond_true]
              cases h4 : b.getD v.toNat false with
              | true =>
                rw [Bool.not_true, cond_false]
                exact skip (fun _ ho => by rw [hv] at ho; exact absurd ⟨by omega, h4⟩ ho.2)
              | false =>
                rw [Bool.not_false, cond_true, inR (i := m) (n := f.length) (by omega), cond_true, cond_true, decide_eq_true (by simp [limit]; omega), cond_true]
                exact set ⟨h2, fun x => by rw [h4] at x; exact absurd x.2 (by decide)⟩
          | false =>
            rw [cond_false]
            exact skip (fun _ ho => by rw [hv] at ho; exact absurd ho.1 (by rw [h2]; decide))
        · rw [if_neg h1]
          have h1' : ¬ rd f v < 0 := h1
          refine skip (fun _ _ => ?_)
          rw [hv, hfm]
          exact ⟨by omega, hb v ((hQ.mem v hg).1 (by omega))⟩
      · rw [decide_eq_false (show ¬ (0 ≤ m % 24 + ddx j ∧ m % 24 + ddx j < 24 ∧ 0 ≤ m / 24 + ddy j ∧ m / 24 + ddy j < 16) from hout), cond_false]
        exact skip (fun hg _ => by unfold GC at hg; omega)
  · have c4' : ¬ (j : Int) < 4 := by omega
    rw [bif_dec, if_neg c4', wr (by omega)]
    exact k f row hQ hfm hb (fun d hd => hD d (by omega)) hP ⟨more, hmore⟩
theorem queue_run (c : List Int) (hc : CB c) (b : List Bool) (T : Int → Prop) (f0 row0 : List Int) (hQ0 : Qv (opnC c b) T f0 row0) (hz : ∀ n, GC n → rd f0 n ≤ 0) :
    OK (f27.L2 (c, b, 0, f0, row0, ())) fun y => IsField (opnC c b) T y.1 := by
  unfold f27.L2
  refine OK.loop (fun j : Nat × List Int × List Int => (c, b, (j.1 : Int), j.2.1, j.2.2, ()))
    (fun j => Qv (opnC c b) T j.2.1 j.2.2 ∧ j.1 ≤ j.2.2.length ∧ (∀ n, GC n → rd j.2.1 n ≤ j.1 + 1) ∧ (∀ (hi : j.1 < j.2.2.length), ∀ x ∈ j.2.2, rd j.2.1 x ≤ rd j.2.1 (j.2.2[j.1]) + 1) ∧ (∀ x ∈ j.2.2.take j.1, ∀ q, q < 4 → DoneR (opnC c b) j.2.1 x q))
    (fun j => 384 - j.1) (fun rec j hj ih => ?_) (0, f0, row0) rfl ⟨hQ0, Nat.zero_le _, fun n hn => by have := hz n hn; dsimp only; omega, fun hi x hx => ?_, fun x hx => by simp at hx⟩ (by dsimp only; decide)
  · obtain ⟨i, f, row⟩ := j
    obtain ⟨hQ, hir, hhi, hb, hD⟩ := hj
    dsimp only at hQ hir hhi hb hD ih ⊢
    have hcn := hQ.cnt
    by_cases hlt : i < row.length
    · have hlt' : (i : Int) < (row.length : Int) := by omega
      have hrd : row.getD i 0 = row[i] := by simp [List.getD_eq_getElem?_getD, hlt]
      have hmem : row[i] ∈ row := List.getElem_mem hlt
      have hm := hQ.rowG _ hmem
      have h0 := (hQ.mem _ hm).2 hmem
      have h1 := hhi _ hm
      rw [bif_dec, if_pos hlt', inR (by omega), cond_true, Int.toNat_natCast, hrd]
      refine cell_run c hc b T row[i] hm i (by omega) rec _ f row hQ h0 (by omega) (hb hlt) ?_
      intro f' row' r2 r3 r4 r5 r6 ⟨more, r8⟩
      have hlen : row.length ≤ row'.length := by rw [r8, List.length_append]; omega
      have hcn' := r2.cnt
      refine ih (i + 1, f', row') ⟨r2, by dsimp only; omega, fun n hn => ?_, fun hi1 x hx => ?_, fun x hx q hq => ?_⟩ (by dsimp only; omega) _ rfl
      · dsimp only
        by_cases hp : 0 ≤ rd f' n
        · have := r4 n ((r2.mem n hn).1 hp)
          omega
        · omega
      · dsimp only at hi1 hx ⊢
        have hs := r2.sorted i (i + 1) (by omega) hi1 (by omega)
        have he : row'[i]'(by omega) = row[i] := by
          simp only [r8]
          rw [List.getElem_append_left hlt]
        rw [he, r3] at hs
        have := r4 x hx
        omega
      · dsimp only at hx ⊢
        have ht : row'.take (i + 1) = row.take (i + 1) := by
          rw [r8, List.take_append_of_le_length (by omega)]
        rw [ht, List.take_succ_eq_append_getElem hlt] at hx
        rcases List.mem_append.1 hx with y | y
        · have hy := List.mem_of_mem_take y
          exact r6 x q (hQ.rowG x hy) ((hQ.mem x (hQ.rowG x hy)).2 hy) (hD x y q hq)
        · rw [List.mem_singleton.1 y]
          exact r5 q hq
    · have hlt' : ¬ (i : Int) < (row.length : Int) := by omega
      rw [bif_dec, if_neg hlt']
      have e : i = row.length := by omega
      subst e
      rw [List.take_length] at hD
      refine OK.ret ⟨hQ.base, ?_⟩
      intro m n hm hn h1 ⟨q, hq, e⟩ h3
      have := hD m ((hQ.mem m hm).1 h1) q hq (by rw [e]; exact hn) (by rw [e]; exact h3)
      rw [e] at this
      exact this
  · dsimp only at hi hx ⊢
    have a1 := hz x (hQ0.rowG x hx)
    have a2 := (hQ0.mem _ (hQ0.rowG _ (List.getElem_mem hi))).2 (List.getElem_mem hi)
    omega

theorem collect_run (c : List Int) (hc : CB c) (b : List Bool) (T : Int → Prop) (f : List Int) (hB : Base (opnC c b) T f) (hv : ∀ n, GC n → rd f n = -1 ∨ rd f n = 0) :
    OK (f27.L3 (c, b, 0, f, [], ())) fun y => IsField (opnC c b) T y.1 := by
  have hl := hB.len
  unfold f27.L3
  refine OK.loop (fun j : Nat × List Int => (c, b, (j.1 : Int), f, j.2, ()))
    (fun j => j.1 ≤ 384 ∧ (∀ n ∈ j.2, GC n) ∧ (∀ n, GC n → (n ∈ j.2 ↔ rd f n = 0 ∧ n < j.1)) ∧ j.2.length + (f.drop j.1).countP (fun v => decide (0 ≤ v)) + un f = 384)
    (fun j => 384 - j.1) (fun rec j hj ih => ?_) (0, []) rfl ⟨Nat.zero_le _, fun n hn => (by cases hn), fun n hn => ⟨fun h => (by cases h), fun h => (by have := h.2; unfold GC at hn; dsimp only at this; omega)⟩, ?_⟩ (by dsimp only; decide)
  · obtain ⟨i, row⟩ := j
    obtain ⟨hi, hrG, hr, hcnt⟩ := hj
    dsimp only at hi hrG hr hcnt ih ⊢
    by_cases c4 : i < 384
    · have c4' : (i : Int) < 384 := by omega
      have hlt : i < f.length := by omega
      have hg : GC (i : Int) := ⟨by omega, by omega⟩
      have hfi : f[i] = rd f (i : Int) := by unfold rd; simp [hlt]
      have hgd : f.getD i 0 = rd f (i : Int) := by unfold rd; rw [Int.toNat_natCast]
      have hd := List.drop_eq_getElem_cons hlt
      have wj : IntKind.wrap .i64 ((i : Int) + 1) = ((i + 1 : Nat) : Int) := by rw [wr (by omega)]; omega
      rw [bif_dec, if_pos c4', inR (by omega), cond_true, Int.toNat_natCast, hgd, wj]
      rw [hd, List.countP_cons, hfi] at hcnt
      by_cases h0 : rd f (i : Int) = 0
      · have q : (rd f (i : Int) == 0) = true := by simpa using h0
        rw [q, cond_true, decide_eq_true (by simp [limit]; omega), cond_true]
        rw [h0] at hcnt
        refine ih (i + 1, row ++ [(i : Int)]) ⟨by dsimp only; omega, fun n hn => ?_, fun n hn => ?_, ?_⟩ (by dsimp only; omega) _ rfl
        · rcases List.mem_append.1 hn with x | x
          · exact hrG n x
          · rw [List.mem_singleton.1 x]; exact hg
        · dsimp only
          rw [List.mem_append, List.mem_singleton, hr n hn]
          constructor
          · rintro (⟨x, y⟩ | x)
            · exact ⟨x, by omega⟩
            · subst x; exact ⟨h0, by omega⟩
          · rintro ⟨x, y⟩
            rcases (by omega : n < i ∨ n = i) with z | z
            · exact .inl ⟨x, z⟩
            · exact .inr z
        · dsimp only
          rw [List.length_append]
          simp at hcnt ⊢
          omega
      · have q : (rd f (i : Int) == 0) = false := by simpa using h0
        rw [q, cond_false]
        have h1 : rd f (i : Int) = -1 := by rcases hv _ hg with x | x <;> omega
        rw [h1] at hcnt
        refine ih (i + 1, row) ⟨by dsimp only; omega, hrG, fun n hn => ?_, ?_⟩ (by dsimp only; omega) _ rfl
        · dsimp only
          rw [hr n hn]
          constructor
          · rintro ⟨x, y⟩
            exact ⟨x, by omega⟩
          · rintro ⟨x, y⟩
            refine ⟨x, ?_⟩
            rcases (by omega : n < i ∨ n = i) with z | z
            · exact z
            · subst z; omega
        · dsimp only
          simp at hcnt ⊢
          omega
    · have c4' : ¬ (i : Int) < 384 := by omega
      rw [bif_dec, if_neg c4']
      have e : i = 384 := by omega
      subst e
      rw [List.drop_of_length_le (by omega)] at hcnt
      simp only [List.countP_nil, Nat.add_zero] at hcnt
      have hz : ∀ x ∈ row, rd f x = 0 := fun x hx => ((hr x (hrG x hx)).1 hx).1
      refine queue_run c hc b T f row ⟨hB, hrG, fun n hn => ?_, fun p q hp hq hpq => ?_, hcnt⟩ (fun n hn => by rcases hv n hn with h | h <;> omega)
      · rw [hr n hn]
        constructor
        · intro h
          exact ⟨by rcases hv n hn with x | x <;> omega, by unfold GC at hn; omega⟩
        · intro h
          omega
      · rw [hz _ (List.getElem_mem hp), hz _ (List.getElem_mem hq)]
        exact Int.le_refl _
  · dsimp only
    have := List.length_eq_countP_add_countP (fun v : Int => decide (v < 0)) (l := f)
    unfold un
    simp at this ⊢
    omega
theorem rtargets_run (c : List Int) (hc : CB c) (b : List Bool) (ts : List Int) (ht : ts.length ≤ 1000000) (f0 : List Int) (hl : f0.length = 384) (hv0 : ∀ n, GC n → rd f0 n = -1) :
    OK (f27.L4 (c, b, ts, 0, f0, ())) fun y => IsField (opnC c b) (IsT c ts) y.1 := by
  unfold f27.L4
  refine OK.loop (fun j : Nat × List Int => (c, b, ts, (j.1 : Int), j.2, ()))
    (fun j => j.1 ≤ ts.length ∧ j.2.length = 384 ∧ (∀ n, GC n → rd j.2 n = -1 ∨ rd j.2 n = 0) ∧ (∀ n, GC n → (rd j.2 n = 0 ↔ IsT c (ts.take j.1) n)))
    (fun j => ts.length - j.1) (fun rec j hj ih => ?_) (0, f0) rfl ⟨Nat.zero_le _, hl, fun n hn => .inl (hv0 n hn), fun n hn => ⟨fun e => (by have := hv0 n hn; dsimp only at e; omega), fun e => (by cases e.1)⟩⟩ (by dsimp only; omega)
  obtain ⟨i, f⟩ := j
  obtain ⟨hi, hl, hv, hz⟩ := hj
  dsimp only at hi hl hv hz ih ⊢
  by_cases c0 : i < ts.length
  · have c0' : (i : Int) < (ts.length : Int) := by omega
    have hrd : ts.getD i 0 = ts[i] := by simp [List.getD_eq_getElem?_getD, c0]
    have hmem : ∀ n, n ∈ ts.take (i + 1) ↔ n ∈ ts.take i ∨ n = ts[i] := fun n => by rw [List.take_succ_eq_append_getElem c0, List.mem_append, List.mem_singleton]
    have wj : IntKind.wrap .i64 ((i : Int) + 1) = ((i + 1 : Nat) : Int) := by rw [wr (by omega)]; omega
    rw [bif_dec, if_pos c0', inR (by omega), cond_true, Int.toNat_natCast, hrd, wj]
    generalize ts[i] = t at *
    have skip : (∀ n, GC n → IsT c (ts.take (i + 1)) n → IsT c (ts.take i) n) → OK (rec (c, b, ts, ((i + 1 : Nat) : Int), f, ())) fun y => IsField (opnC c b) (IsT c ts) y.1 := fun h => by
      refine ih (i + 1, f) ⟨by dsimp only; omega, hl, hv, fun n hn => ?_⟩ (by dsimp only; omega) _ rfl
      dsimp only
      rw [hz n hn]
      exact ⟨fun x => ⟨(hmem n).2 (.inl x.1), x.2⟩, h n hn⟩
    rw [bif_dec]
    by_cases h1 : t ≥ 0
    · rw [if_pos h1, bif_dec]
      by_cases h2 : t < 384
      · have hg : GC t := ⟨h1, h2⟩
        have hin : InG (t % 24) (t / 24) := by unfold InG; omega
        have hcl : cel (t % 24) (t / 24) = t := by unfold cel; omega
        rw [if_pos h2, Int.tmod_eq_emod_of_nonneg h1, Int.tdiv_eq_ediv_of_nonneg h1, wr (x := t / 24) (by omega), at_eq c hc, if_pos hin, hcl]
        simp only [Option.bind_some]
        rw [rwalk_eq]
        simp only [Option.bind_some]
        cases h4 : walkable (rd c t) with
        | true =>
          have hset := fun x (hx : GC x) => rd_set f hl t x 0 hg hx
          rw [cond_true, inR (by omega), cond_true]
          refine ih (i + 1, f.set t.toNat 0) ⟨by dsimp only; omega, by simpa using hl, fun n hn => ?_, fun n hn => ?_⟩ (by dsimp only; omega) _ rfl
          · dsimp only
            rw [hset n hn]
            split
            · exact .inr rfl
            · exact hv n hn
          · dsimp only
            rw [hset n hn]
            by_cases e : n = t
            · rw [if_pos e]
              exact ⟨fun _ => ⟨(hmem n).2 (.inr e), by rw [e]; exact h4⟩, fun _ => rfl⟩
            · rw [if_neg e, hz n hn]
              exact ⟨fun x => ⟨(hmem n).2 (.inl x.1), x.2⟩, fun x => ⟨((hmem n).1 x.1).resolve_right e, x.2⟩⟩
        | false =>
          rw [cond_false]
          exact skip (fun n hn x => ⟨((hmem n).1 x.1).resolve_right (fun e => by have := x.2; rw [e, h4] at this; cases this), x.2⟩)
      · rw [if_neg h2]
        exact skip (fun n hn x => ⟨((hmem n).1 x.1).resolve_right (fun e => by unfold GC at hn; omega), x.2⟩)
    · rw [if_neg h1]
      exact skip (fun n hn x => ⟨((hmem n).1 x.1).resolve_right (fun e => by unfold GC at hn; omega), x.2⟩)
  · have c0' : ¬ (i : Int) < (ts.length : Int) := by omega
    rw [bif_dec, if_neg c0']
    have e : i = ts.length := by omega
    subst e
    rw [List.take_length] at hz
    exact collect_run c hc b (IsT c ts) f ⟨hl, fun n hn => by rcases hv n hn with h | h <;> omega, hz, fun n hn hp => by rcases hv n hn with h | h <;> omega⟩ hv
/-- The document's field is a field. -/
theorem rfield_is (c : List Int) (hc : CB c) (b : List Bool) (ts : List Int) (ht : ts.length ≤ 1000000) : OK (f27 c b ts) fun y => IsField (opnC c b) (IsT c ts) y.1 := by
  unfold f27 f27.L5
  refine OK.loop (fun j : Nat × List Int => (c, b, ts, (j.1 : Int), j.2, ()))
    (fun j => j.1 ≤ 384 ∧ j.2.length = 384 ∧ (∀ n, 0 ≤ n → n < (j.1 : Int) → rd j.2 n = -1)) (fun j => 384 - j.1) (fun rec j hj ih => ?_) (0, List.replicate 384 0) rfl ⟨Nat.zero_le _, List.length_replicate, fun n h0 h1 => by dsimp only at h1; omega⟩ (by dsimp only; decide)
  obtain ⟨i, f⟩ := j
  obtain ⟨hi, hl, hv⟩ := hj
  dsimp only at hi hl hv ih ⊢
  by_cases c4 : i < 384
  · have c4' : (i : Int) < 384 := by omega
    have wj : IntKind.wrap .i64 ((i : Int) + 1) = ((i + 1 : Nat) : Int) := by rw [wr (by omega)]; omega
    rw [bif_dec, if_pos c4', inR (by omega), cond_true, wj]
    refine ih (i + 1, f.set (Int.toNat (i : Int)) (-1)) ⟨by dsimp only; omega, by simpa using hl, fun n h0 h1 => ?_⟩ (by dsimp only; omega) _ rfl
    dsimp only at h1 ⊢
    rw [rd_set f hl (i : Int) n (-1) ⟨by omega, by omega⟩ ⟨by omega, by omega⟩]
    by_cases e : n = (i : Int)
    · rw [if_pos e]
    · rw [if_neg e]
      exact hv n h0 (by omega)
  · have c4' : ¬ (i : Int) < 384 := by omega
    rw [bif_dec, if_neg c4']
    exact rtargets_run c hc b ts ht f hl (fun n hn => hv n hn.1 (by have := hn.2; omega))
end Go.Proofs.Ytjmbmpeflhkngaa.Field
/- The document's floors: the dice, a cell that is dug, a cell that is picked (own work). -/
namespace Go.Proofs.Ytjmbmpeflhkngaa.Gen
open Go Go.Proofs.Ytjmbmpeflhkngaa.Mx Go.Proofs.Ytjmbmpeflhkngaa.Pc Go.Proofs.Ytjmbmpeflhkngaa.Run Go.Proofs.Ytjmbmpeflhkngaa.Field
set_option linter.unusedVariables false
set_option linter.unusedSimpArgs false
theorem u64_range (n : Int) : 0 ≤ IntKind.u64.wrap n ∧ IntKind.u64.wrap n < 18446744073709551616 := by
  have : IntKind.u64.wrap n = n % 18446744073709551616 := by simp [IntKind.wrap, IntKind.bits, IntKind.signed]
  omega
theorem u64_of {n : Int} (h : 0 ≤ n ∧ n < 18446744073709551616) : IntKind.u64.wrap n = n := by
  have : IntKind.u64.wrap n = n % 18446744073709551616 := by simp [IntKind.wrap, IntKind.bits, IntKind.signed]
  omega
theorem m_ok (a : Int) : ∃ v, f51 a = some (v, ()) ∧ 0 ≤ v ∧ v < 18446744073709551616 := ⟨_, rfl, u64_range _⟩
theorem mix_ok (s : Int) (l : List Int) (hl : l.length ≤ 1000000) : OK (f45 s l) fun y => 0 ≤ y.1 ∧ y.1 < 18446744073709551616 := by
  unfold f45 f45.L1
  obtain ⟨v, e, hv⟩ := m_ok (IntKind.u64.wrap (IntKind.u64.wrap s + 11400714819323198485))
  rw [e]
  simp only [Option.bind_some]
  refine OK.loop (fun j : Nat × Int => (l, j.2, (j.1 : Int), ())) (fun j => j.1 ≤ l.length ∧ 0 ≤ j.2 ∧ j.2 < 18446744073709551616) (fun j => l.length - j.1) (fun rec j hj ih => ?_) (0, v) rfl ⟨Nat.zero_le _, hv⟩ (by dsimp only; omega)
  obtain ⟨i, x⟩ := j
  obtain ⟨hi, hx⟩ := hj
  dsimp only at hi hx ih ⊢
  by_cases c : i < l.length
  · have c' : (i : Int) < (l.length : Int) := by omega
    have wj : IntKind.wrap .i64 ((i : Int) + 1) = ((i + 1 : Nat) : Int) := by rw [wr (by omega)]; omega
    rw [bif_dec, if_pos c', inR (by omega), cond_true, wj]
    generalize IntKind.u64.wrap (_ + 11400714819323198485) = q
    obtain ⟨v, e, hv⟩ := m_ok q
    rw [e]
    exact ih (i + 1, v) ⟨by dsimp only; omega, hv⟩ (by dsimp only; omega) _ rfl
  · have c' : ¬ (i : Int) < (l.length : Int) := by omega
    rw [bif_dec, if_neg c']
    exact OK.ret hx
theorem die_ok (n s : Int) (l : List Int) (hl : l.length ≤ 1000000) (h1 : 1 ≤ n) (h2 : n ≤ 1000000000) : OK (f35 n s l) fun y => 0 ≤ y.1 ∧ y.1 < n := by
  unfold f35
  have wn : IntKind.u64.wrap n = n := u64_of (by omega)
  rw [bif_dec, if_neg (by omega)]
  refine OK.callR (mix_ok s l hl) fun y hy => ?_
  rw [wn, bif_dec, if_neg (by omega)]
  have := Int.tmod_lt_of_pos y.1 (show 0 < n by omega)
  have := Int.tmod_nonneg n hy.1
  refine OK.ret ?_
  dsimp only
  rw [wr (by omega)]
  omega
theorem d_ok (s fl a b n : Int) (h1 : 1 ≤ n) (h2 : n ≤ 1000000000) : OK (f46 s fl a b n) fun y => 0 ≤ y.1 ∧ y.1 < n := by
  unfold f46
  exact OK.callR (die_ok n s [fl, a, b] (by simp) h1 h2) fun y hy => OK.ret hy
/-- A floor's cells while it is dug. -/
structure F (c : List Int) : Prop where
  len : c.length = 384
  val : ∀ i, 0 ≤ c.getD i 0 ∧ c.getD i 0 < 7
theorem F.cb {c : List Int} (h : F c) : CB c := fun i => by have := h.val i; omega
theorem F.set {c : List Int} (h : F c) (i : Nat) (v : Int) (hv : 0 ≤ v ∧ v < 7) : F (c.set i v) := ⟨by rw [List.length_set]; exact h.len, fun j => by
  rw [getD_set]
  split
  · exact hv
  · exact h.val j⟩
theorem dig_ok (x y : Int) (door : Bool) (c : List Int) (hc : F c) (hx : 0 ≤ x ∧ x < 24) (hy : 0 ≤ y ∧ y < 16) : OK (f47 x y door c) fun r => F r.2.1 := by
  unfold f47
  have e : IntKind.wrap .i64 (IntKind.wrap .i64 (y * 24) + x) = y * 24 + x := by rw [wr (x := y * 24) (by omega), wr (by omega)]
  have hl := hc.len
  have h1 := hc.set (y * 24 + x).toNat 1 (by decide)
  have h2 := h1.set (y * 24 + x).toNat 2 (by decide)
  rw [e, inR (by omega), cond_true, cond_true, inR (n := (c.set (y * 24 + x).toNat 1).length) (by rw [List.length_set]; omega), cond_true]
  cases (c.getD (y * 24 + x).toNat 0 != 0) with
  | true => exact OK.ret hc
  | false =>
    cases door with
    | true => exact OK.ret h1
    | false => exact OK.ret h2
theorem toward_eq (a b : Int) (ha : -1000 ≤ a ∧ a ≤ 1000) : f48 a b = some (if a < b then a + 1 else a - 1, ()) := by
  unfold f48
  rw [bif_dec]
  by_cases h : a < b
  · rw [if_pos h, if_pos h, wr (by omega)]
  · rw [if_neg h, if_neg h, wr (by omega)]
theorem pick_ok (c f : List Int) (far : Int) (used : List Bool) (s fl a : Int) (hc : c.length = 384) (hf : f.length = 384) (hu : used.length = 384) : OK (f49 c f far used s fl a) fun y => y.1 = -1 ∨ GC y.1 := by
  unfold f49 f49.L1
  refine OK.loop (fun j : Nat × List Int => (c, f, far, used, s, fl, a, (j.1 : Int), j.2, ())) (fun j => j.1 ≤ 384 ∧ j.2.length ≤ j.1 ∧ ∀ n ∈ j.2, GC n) (fun j => 384 - j.1) (fun rec j hj ih => ?_) (0, []) rfl ⟨Nat.zero_le _, Nat.zero_le _, fun n hn => (by cases hn)⟩ (by dsimp only; decide)
  obtain ⟨i, l⟩ := j
  obtain ⟨hi, hl, hG⟩ := hj
  dsimp only at hi hl hG ih ⊢
  by_cases c4 : i < 384
  · have c4' : (i : Int) < 384 := by omega
    have wj : IntKind.wrap .i64 ((i : Int) + 1) = ((i + 1 : Nat) : Int) := by rw [wr (by omega)]; omega
    rw [bif_dec, if_pos c4', inR (n := c.length) (by omega), inR (n := f.length) (by omega), inR (n := used.length) (by omega), cond_true, cond_true, cond_true, wj]
    have skip := ih (i + 1, l) ⟨by dsimp only; omega, by dsimp only; omega, hG⟩ (by dsimp only; omega) _ rfl
    dsimp only at skip
    refine OK.bif (fun _ => ?_) (fun _ => skip)
    refine OK.bif (fun _ => ?_) (fun _ => skip)
    refine OK.bif (fun _ => ?_) (fun _ => skip)
    rw [decide_eq_true (by simp [limit]; omega), cond_true]
    refine ih (i + 1, l ++ [(i : Int)]) ⟨by dsimp only; omega, by dsimp only; simp; omega, fun n hn => ?_⟩ (by dsimp only; omega) _ rfl
    rcases List.mem_append.1 hn with x | x
    · exact hG n x
    · rw [List.mem_singleton.1 x]; exact ⟨by omega, by omega⟩
  · have c4' : ¬ (i : Int) < 384 := by omega
    rw [bif_dec, if_neg c4']
    by_cases h0 : l.length = 0
    · have q : (((l.length : Nat) : Int) == 0) = true := by rw [h0]; rfl
      rw [q, cond_true]
      exact OK.ret (.inl rfl)
    · have q : (((l.length : Nat) : Int) == 0) = false := by simp; intro e; exact h0 (by rw [e]; rfl)
      rw [q, cond_false]
      refine OK.callR (d_ok s fl a 0 l.length (by omega) (by omega)) fun y hy => ?_
      rw [inR (by omega), cond_true]
      refine OK.ret (.inr ?_)
      dsimp only
      have : l.getD y.1.toNat 0 ∈ l := by
        rw [List.getD_eq_getElem?_getD, List.getElem?_eq_getElem (by omega)]
        exact List.getElem_mem _
      exact hG _ this
end Go.Proofs.Ytjmbmpeflhkngaa.Gen
/- The document's floors: any floor comes out, its cells are cells, and one can be walked on (own work). -/
namespace Go.Proofs.Ytjmbmpeflhkngaa.Gen
open Go Go.Proofs.Ytjmbmpeflhkngaa.Mx Go.Proofs.Ytjmbmpeflhkngaa.Pc Go.Proofs.Ytjmbmpeflhkngaa.Run Go.Proofs.Ytjmbmpeflhkngaa.Field
set_option linter.unusedVariables false
set_option linter.unusedSimpArgs false
abbrev EntT := Int × Int × Int × Int × Int × Int × Int × Int × Int × Int × Int
abbrev Res := List Int × List EntT × List (Int × Int × Int × Int) × Unit
abbrev Tail := Int × Int × Int × Int × Int × Int × Int × Int × Int × Int × Int × Int × Unit
def GX (v : Int) : Prop := 0 ≤ v ∧ v < 24
def GY (v : Int) : Prop := 0 ≤ v ∧ v < 16
structure Mids (t : Tail) : Prop where
  a0 : GX t.1
  a1 : GX t.2.1
  a2 : GX t.2.2.1
  a3 : GX t.2.2.2.1
  a4 : GX t.2.2.2.2.1
  a5 : GX t.2.2.2.2.2.1
  b0 : GY t.2.2.2.2.2.2.1
  b1 : GY t.2.2.2.2.2.2.2.1
  b2 : GY t.2.2.2.2.2.2.2.2.1
  b3 : GY t.2.2.2.2.2.2.2.2.2.1
  b4 : GY t.2.2.2.2.2.2.2.2.2.2.1
  b5 : GY t.2.2.2.2.2.2.2.2.2.2.2.1
theorem GX.ite {c : Prop} [Decidable c] {a b : Int} (h1 : GX a) (h2 : GX b) : GX (if c then a else b) := by split <;> assumption
theorem GY.ite {c : Prop} [Decidable c] {a b : Int} (h1 : GY a) (h2 : GY b) : GY (if c then a else b) := by split <;> assumption
theorem Mids.x {t : Tail} (h : Mids t) (j : Nat) (hj : j < 6) : GX ([t.1, t.2.1, t.2.2.1, t.2.2.2.1, t.2.2.2.2.1, t.2.2.2.2.2.1].getD j 0) := by
  match j, hj with
  | 0, _ => exact h.a0
  | 1, _ => exact h.a1
  | 2, _ => exact h.a2
  | 3, _ => exact h.a3
  | 4, _ => exact h.a4
  | 5, _ => exact h.a5
theorem Mids.y {t : Tail} (h : Mids t) (j : Nat) (hj : j < 6) : GY ([t.2.2.2.2.2.2.1, t.2.2.2.2.2.2.2.1, t.2.2.2.2.2.2.2.2.1, t.2.2.2.2.2.2.2.2.2.1, t.2.2.2.2.2.2.2.2.2.2.1, t.2.2.2.2.2.2.2.2.2.2.2.1].getD j 0) := by
  match j, hj with
  | 0, _ => exact h.b0
  | 1, _ => exact h.b1
  | 2, _ => exact h.b2
  | 3, _ => exact h.b3
  | 4, _ => exact h.b4
  | 5, _ => exact h.b5
theorem row_ok (k0 : Int × Int × Int × Int × Int × Int × Int × Int × List Int × Tail → Option Res) (Q : Res → Prop) (s fl i w h x y b : Int) (c : List Int) (t : Tail) (hc : F c) (hx : 0 ≤ x) (hw : 0 ≤ w) (hxw : x + w ≤ 24) (hb : 0 ≤ b ∧ b < 16)
    (k : ∀ c', F c' → OK (k0 (s, fl, i, w, h, x, y, b + 1, c', t)) Q) : OK (f40.L1 k0 (s, fl, i, w, h, x, y, b, x, c, t)) Q := by
  unfold f40.L1
  refine OK.loop (fun j : Nat × List Int => (s, fl, i, w, h, x, y, b, x + (j.1 : Int), j.2, t)) (fun j => (j.1 : Int) ≤ w ∧ F j.2) (fun j => w.toNat - j.1) (fun rec j hj ih => ?_) (0, c) (by simp) ⟨by dsimp only; omega, hc⟩ (by dsimp only; omega)
  obtain ⟨j, c⟩ := j
  obtain ⟨hj, hc⟩ := hj
  dsimp only at hj hc ih ⊢
  have hl := hc.len
  rw [wr (x := x + w) (by omega), bif_dec]
  by_cases q : x + (j : Int) < x + w
  · have e : IntKind.wrap .i64 (IntKind.wrap .i64 (b * 24) + (x + (j : Int))) = b * 24 + (x + j) := by rw [wr (x := b * 24) (by omega), wr (by omega)]
    rw [if_pos q, e, inR (by omega), cond_true, wr (by omega)]
    exact ih (j + 1, c.set (b * 24 + (x + j)).toNat 1) ⟨by dsimp only; omega, hc.set _ _ (by decide)⟩ (by dsimp only; omega) _ (by
      have : x + (j : Int) + 1 = x + ((j + 1 : Nat) : Int) := by omega
      rw [this])
  · rw [if_neg q, wr (by omega)]
    exact k c hc
theorem room_ok (k0 : Int × Int × Int × List Int × Tail → Option Res) (Q : Res → Prop) (s fl w h x y : Int) (i : Nat) (hi : i < 6) (c : List Int) (t : Tail) (hc : F c) (ht : Mids t) (hx : 0 ≤ x) (hw : 1 ≤ w) (hxw : x + w ≤ 24) (hy : 0 ≤ y) (hh : 1 ≤ h) (hyh : y + h ≤ 16)
    (k : ∀ c' t', F c' → Mids t' → OK (k0 (s, fl, ((i + 1 : Nat) : Int), c', t')) Q) : OK (f40.L2 k0 (s, fl, (i : Int), w, h, x, y, y, c, t)) Q := by
  unfold f40.L2
  refine OK.loop (fun j : Nat × List Int => (s, fl, (i : Int), w, h, x, y, y + (j.1 : Int), j.2, t)) (fun j => (j.1 : Int) ≤ h ∧ F j.2) (fun j => h.toNat - j.1) (fun rec j hj ih => ?_) (0, c) (by simp) ⟨by dsimp only; omega, hc⟩ (by dsimp only; omega)
  obtain ⟨j, c⟩ := j
  obtain ⟨hj, hc⟩ := hj
  dsimp only at hj hc ih ⊢
  rw [wr (x := y + h) (by omega), bif_dec]
  by_cases q : y + (j : Int) < y + h
  · rw [if_pos q]
    refine row_ok rec Q s fl (i : Int) w h x y (y + j) c t hc hx (by omega) hxw (by omega) fun c' hc' => ?_
    exact ih (j + 1, c') ⟨by dsimp only; omega, hc'⟩ (by dsimp only; omega) _ (by
      have : y + (j : Int) + 1 = y + ((j + 1 : Nat) : Int) := by omega
      rw [this])
  · have wx : IntKind.wrap .i64 (x + IntKind.wrap .i64 (Int.tdiv w 2)) = x + w / 2 := by
      rw [Int.tdiv_eq_ediv_of_nonneg (by omega), wr (x := w / 2) (by omega), wr (by omega)]
    have wy : IntKind.wrap .i64 (y + IntKind.wrap .i64 (Int.tdiv h 2)) = y + h / 2 := by
      rw [Int.tdiv_eq_ediv_of_nonneg (by omega), wr (x := h / 2) (by omega), wr (by omega)]
    have wi : IntKind.wrap .i64 ((i : Int) + 1) = ((i + 1 : Nat) : Int) := by rw [wr (by omega)]; omega
    have gx : GX (x + w / 2) := by unfold GX; omega
    have gy : GY (y + h / 2) := by unfold GY; omega
    rw [if_neg q, inR (by omega), cond_true, cond_true, wx, wy, wi]
    exact k c _ hc ⟨GX.ite gx ht.a0, GX.ite gx ht.a1, GX.ite gx ht.a2, GX.ite gx ht.a3, GX.ite gx ht.a4, GX.ite gx ht.a5, GY.ite gy ht.b0, GY.ite gy ht.b1, GY.ite gy ht.b2, GY.ite gy ht.b3, GY.ite gy ht.b4, GY.ite gy ht.b5⟩
theorem way_ok (k0 : Int × Int × Int × List Int × Tail → Option Res) (Q : Res → Prop) (s fl : Int) (i : Nat) (hi : i < 6) (x y : Int) (door first : Bool) (c : List Int) (t : Tail) (hc : F c) (ht : Mids t) (hx : GX x) (hy : GY y)
    (k : ∀ c', F c' → OK (k0 (s, fl, ((i + 1 : Nat) : Int), c', t)) Q) : OK (f40.L3 k0 (s, fl, (i : Int), x, y, door, first, c, t)) Q := by
  have hX := ht.x i hi
  have hY := ht.y i hi
  obtain ⟨X, eX⟩ : ∃ X, X = [t.1, t.2.1, t.2.2.1, t.2.2.2.1, t.2.2.2.2.1, t.2.2.2.2.2.1].getD i 0 := ⟨_, rfl⟩
  obtain ⟨Y, eY⟩ : ∃ Y, Y = [t.2.2.2.2.2.2.1, t.2.2.2.2.2.2.2.1, t.2.2.2.2.2.2.2.2.1, t.2.2.2.2.2.2.2.2.2.1, t.2.2.2.2.2.2.2.2.2.2.1, t.2.2.2.2.2.2.2.2.2.2.2.1].getD i 0 := ⟨_, rfl⟩
  rw [← eX] at hX
  rw [← eY] at hY
  unfold f40.L3
  refine OK.loop (fun j : Int × Int × Bool × List Int => (s, fl, (i : Int), j.1, j.2.1, j.2.2.1, first, j.2.2.2, t)) (fun j => GX j.1 ∧ GY j.2.1 ∧ F j.2.2.2) (fun j => (j.1 - X).natAbs + (j.2.1 - Y).natAbs) (fun rec j hj ih => ?_) (x, y, door, c) rfl ⟨hx, hy, hc⟩ (by dsimp only; unfold GX at *; unfold GY at *; omega)
  obtain ⟨x, y, door, c⟩ := j
  obtain ⟨hx, hy, hc⟩ := hj
  dsimp only at hx hy hc ih ⊢
  have wi : IntKind.wrap .i64 ((i : Int) + 1) = ((i + 1 : Nat) : Int) := by rw [wr (by omega)]; omega
  have ir : inRange (i : Int) 6 = true := inR (by omega)
  simp only [Int.toNat_natCast, ← eX, ← eY, ir, cond_true, wi]
  unfold GX at hx hX
  unfold GY at hy hY
  by_cases both : x = X ∧ y = Y
  · have q1 : (x != X) = false := by simp [both.1]
    have q2 : (y != Y) = false := by simp [both.2]
    rw [q1, q2, cond_false, cond_false]
    exact OK.callR (R := fun z => ∃ q, z = Sum.inr q ∧ Q q) (OK.callR (k c hc) fun q hq => OK.ret ⟨q, rfl, hq⟩) (fun z ⟨q, e, hq⟩ => by subst e; exact OK.ret hq)
  · refine OK.callR (R := fun z => z = Sum.inl (s, fl, (i : Int), x, y, door, first, c, t)) ?_ ?_
    · by_cases h1 : x = X
      · have q1 : (x != X) = false := by simp [h1]
        have q2 : (y != Y) = true := by simp; exact fun e => both ⟨h1, e⟩
        rw [q1, q2, cond_false, cond_true]
        exact OK.ret rfl
      · have q1 : (x != X) = true := by simpa using h1
        rw [q1, cond_true]
        exact OK.ret rfl
    · intro z e
      subst e
      simp only [Sum.elim_inl, Int.toNat_natCast, ← eX, ← eY, ir, cond_true]
      refine OK.callR (R := fun z => ∃ x' y', z = Sum.inl (s, fl, (i : Int), x', y', door, first, c, t) ∧ GX x' ∧ GY y' ∧ (x' - X).natAbs + (y' - Y).natAbs < (x - X).natAbs + (y - Y).natAbs) ?_ ?_
      · have tx : x ≠ X → GX (if x < X then x + 1 else x - 1) ∧ ((if x < X then x + 1 else x - 1) - X).natAbs + (y - Y).natAbs < (x - X).natAbs + (y - Y).natAbs := fun h => by unfold GX; split <;> omega
        have ty : y ≠ Y → GY (if y < Y then y + 1 else y - 1) ∧ (x - X).natAbs + ((if y < Y then y + 1 else y - 1) - Y).natAbs < (x - X).natAbs + (y - Y).natAbs := fun h => by unfold GY; split <;> omega
        have gx : GX x := hx
        have gy : GY y := hy
        rw [toward_eq x X (by omega), toward_eq y Y (by omega)]
        simp only [Option.bind_some]
        cases first with
        | true =>
          by_cases h1 : x = X
          · have q1 : (x != X) = false := by simp [h1]
            have h2 : y ≠ Y := fun e => both ⟨h1, e⟩
            rw [q1]
            exact OK.ret ⟨_, _, rfl, gx, (ty h2).1, (ty h2).2⟩
          · have q1 : (x != X) = true := by simpa using h1
            rw [q1]
            exact OK.ret ⟨_, _, rfl, (tx h1).1, gy, (tx h1).2⟩
        | false =>
          by_cases h2 : y = Y
          · have q2 : (y == Y) = true := by simp [h2]
            have h1 : x ≠ X := fun e => both ⟨e, h2⟩
            rw [q2]
            exact OK.ret ⟨_, _, rfl, (tx h1).1, gy, (tx h1).2⟩
          · have q2 : (y == Y) = false := by simpa using h2
            rw [q2]
            exact OK.ret ⟨_, _, rfl, gx, (ty h2).1, (ty h2).2⟩
      · rintro z ⟨x', y', e, g1, g2, g3⟩
        subst e
        simp only [Sum.elim_inl]
        refine OK.callR (dig_ok x' y' door c hc g1 g2) fun r hr => ?_
        exact ih (x', y', r.1, r.2.1) ⟨g1, g2, hr⟩ g3 _ rfl
structure G (u : Int) (c : List Int) : Prop extends F c where
  walk : walkable (rd c u) = true
theorem G.set {u : Int} {c : List Int} (h : G u c) (hu : GC u) (i : Nat) (v : Int) (hv : 1 ≤ v ∧ v ≤ 5) : G u (c.set i v) := ⟨h.toF.set i v (by omega), by
  have := h.walk
  unfold Field.rd at this ⊢
  rw [getD_set]
  split
  · unfold walkable; simpa using hv
  · exact this⟩
theorem shop_ok (s fl far u : Int) (c f : List Int) (hc : G u c) (hu : GC u) (hf : f.length = 384) (hfar : GC far) : OK (f40.L4 (s, fl, far, false, 0, c, f, ())) fun z => ∃ b c', z = Sum.inl (s, fl, b, c', f, ()) ∧ G u c' := by
  unfold f40.L4
  refine OK.loop (fun j : Nat × Bool × List Int => (s, fl, far, j.2.1, (j.1 : Int), j.2.2, f, ())) (fun j => j.1 ≤ 384 ∧ G u j.2.2) (fun j => 384 - j.1) (fun rec j hj ih => ?_) (0, false, c) rfl ⟨Nat.zero_le _, hc⟩ (by dsimp only; decide)
  obtain ⟨i, b, c⟩ := j
  obtain ⟨hi, hc⟩ := hj
  dsimp only at hi hc ih ⊢
  have hl := hc.len
  unfold GC at hfar
  by_cases c4 : i < 384
  · have c4' : (i : Int) < 384 := by omega
    have wj : IntKind.wrap .i64 ((i : Int) + 1) = ((i + 1 : Nat) : Int) := by rw [wr (by omega)]; omega
    rw [bif_dec, if_pos c4', inR (i := (i : Int)) (n := c.length) (by omega), inR (i := (i : Int)) (n := f.length) (by omega), inR (i := far) (n := f.length) (by omega), wj]
    simp only [cond_true]
    cases b with
    | true => exact OK.ret ⟨true, c, rfl, hc⟩
    | false =>
      rw [Bool.not_false, cond_true]
      have skip := ih (i + 1, false, c) ⟨by dsimp only; omega, hc⟩ (by dsimp only; omega) _ rfl
      refine OK.bif (fun _ => ?_) (fun _ => skip)
      refine OK.bif (fun _ => ?_) (fun _ => skip)
      exact ih (i + 1, true, c.set _ 5) ⟨by dsimp only; omega, hc.set hu _ _ (by decide)⟩ (by dsimp only; omega) _ rfl
  · have c4' : ¬ (i : Int) < 384 := by omega
    rw [bif_dec, if_neg c4']
    exact OK.ret ⟨b, c, rfl, hc⟩
theorem stats_ok (k : Int) : OK (f25 k) fun _ => True := by
  unfold f25
  cases (k == 1) with
  | true => exact OK.ret trivial
  | false =>
  cases (k == 2) with
  | true => exact OK.ret trivial
  | false =>
  cases (k == 3) with
  | true => exact OK.ret trivial
  | false =>
  cases (k == 4) with
  | true => exact OK.ret trivial
  | false => exact OK.ret trivial
theorem ents_ok (s fl : Int) (b : Bool) (c f : List Int) (used : List Bool) (hc : c.length = 384) (hf : f.length = 384) (hu : used.length = 384) (h1 : 0 ≤ fl) (h2 : fl ≤ 10000) :
    OK (f40.L5 (s, fl, b, 0, c, f, used, [], ())) fun z => ∃ es, z = Sum.inl (s, fl, b, c, f, es, ()) := by
  unfold f40.L5
  refine OK.loop (fun j : Nat × List Bool × List EntT => (s, fl, b, (j.1 : Int), c, f, j.2.1, j.2.2, ())) (fun j => (j.1 : Int) ≤ fl + 2 ∧ j.2.1.length = 384 ∧ j.2.2.length ≤ j.1) (fun j => (fl + 2).toNat - j.1) (fun rec j hj ih => ?_) (0, used, []) rfl ⟨by dsimp only; omega, hu, Nat.zero_le _⟩ (by dsimp only; omega)
  obtain ⟨i, used, es⟩ := j
  obtain ⟨hi, hu, he⟩ := hj
  dsimp only at hi hu he ih ⊢
  rw [wr (x := fl + 1) (by omega), bif_dec]
  by_cases q : (i : Int) ≤ fl + 1
  · rw [if_pos q]
    refine OK.callR (pick_ok c f 4 used s fl _ hc hf hu) fun y hy => ?_
    rw [bif_dec]
    rcases hy with hy | hy
    · rw [if_pos (by omega)]
      exact OK.ret ⟨es, rfl⟩
    · unfold GC at hy
      rw [if_neg (by omega), inR (by omega), cond_true]
      refine OK.callR (d_ok s fl _ 1 _ (by rw [minI_eq]; omega) (by rw [minI_eq]; omega)) fun y1 hy1 => ?_
      refine OK.callR (stats_ok _) fun y2 _ => ?_
      rw [decide_eq_true (by simp [limit]; omega), cond_true, wr (x := (i : Int) + 1) (by omega)]
      exact ih (i + 1, used.set _ true, es ++ [_]) ⟨by dsimp only; omega, by dsimp only; rw [List.length_set]; exact hu, by dsimp only; simp; omega⟩ (by dsimp only; omega) _ rfl
  · rw [if_neg q]
    exact OK.ret ⟨es, rfl⟩
theorem wares_ok (s fl : Int) (b : Bool) (c : List Int) (es : List EntT) (its : List (Int × Int × Int × Int)) (hi0 : its.length ≤ 100) :
    OK (f40.L6 (s, fl, b, 0, c, es, its, ())) fun z => ∃ its', z = Sum.inl (c, es, its', ()) := by
  unfold f40.L6
  refine OK.loop (fun j : Nat × List (Int × Int × Int × Int) => (s, fl, b, (j.1 : Int), c, es, j.2, ())) (fun j => j.1 ≤ 3 ∧ j.2.length ≤ 100 + j.1) (fun j => 3 - j.1) (fun rec j hj ih => ?_) (0, its) rfl ⟨Nat.zero_le _, by dsimp only; omega⟩ (by dsimp only; decide)
  obtain ⟨i, its⟩ := j
  obtain ⟨hi, he⟩ := hj
  dsimp only at hi he ih ⊢
  rw [bif_dec]
  by_cases q : (i : Int) < 3
  · rw [if_pos q]
    cases b with
    | false => exact OK.ret ⟨its, rfl⟩
    | true =>
      rw [cond_true]
      refine OK.callR (d_ok s fl _ 1 3 (by decide) (by decide)) fun y1 hy1 => ?_
      rw [decide_eq_true (by simp [limit]; omega), cond_true, wr (x := (i : Int) + 1) (by omega)]
      exact ih (i + 1, its ++ [_]) ⟨by dsimp only; omega, by dsimp only; simp; omega⟩ (by dsimp only; omega) _ rfl
  · rw [if_neg q]
    exact OK.ret ⟨its, rfl⟩
theorem items_ok (s fl : Int) (b : Bool) (c f : List Int) (used : List Bool) (es : List EntT) (hc : c.length = 384) (hf : f.length = 384) (hu : used.length = 384) :
    OK (f40.L7 (s, fl, b, 0, c, f, used, es, [], ())) fun z => z.1 = c := by
  unfold f40.L7
  refine OK.loop (fun j : Nat × List Bool × List (Int × Int × Int × Int) => (s, fl, b, (j.1 : Int), c, f, j.2.1, es, j.2.2, ())) (fun j => j.1 ≤ 4 ∧ j.2.1.length = 384 ∧ j.2.2.length ≤ j.1) (fun j => 4 - j.1) (fun rec j hj ih => ?_) (0, used, []) rfl ⟨by dsimp only; decide, hu, Nat.zero_le _⟩ (by dsimp only; decide)
  obtain ⟨i, used, its⟩ := j
  obtain ⟨hi, hu, he⟩ := hj
  dsimp only at hi hu he ih ⊢
  rw [bif_dec]
  by_cases q : (i : Int) < 4
  · rw [if_pos q, wr (x := (i : Int) + 1) (by omega)]
    refine OK.callR (pick_ok c f 0 used s fl _ hc hf hu) fun y hy => ?_
    rw [bif_dec]
    rcases hy with hy | hy
    · rw [if_pos (by omega)]
      exact ih (i + 1, used, its) ⟨by dsimp only; omega, hu, by dsimp only; omega⟩ (by dsimp only; omega) _ rfl
    · unfold GC at hy
      rw [if_neg (by omega), inR (by omega), cond_true]
      refine OK.callR (d_ok s fl _ 1 4 (by decide) (by decide)) fun y1 hy1 => ?_
      rw [decide_eq_true (by simp [limit]; omega), cond_true]
      exact ih (i + 1, used.set _ true, its ++ [_]) ⟨by dsimp only; omega, by dsimp only; rw [List.length_set]; exact hu, by dsimp only; simp; omega⟩ (by dsimp only; omega) _ rfl
  · rw [if_neg q]
    refine OK.callR (wares_ok s fl b c es its (by omega)) fun z ⟨its', e⟩ => ?_
    subst e
    exact OK.ret rfl
theorem far_ok (s fl u : Int) (c f : List Int) (hc : G u c) (hu : GC u) (hf : f.length = 384) (h1 : 0 ≤ fl) (h2 : fl ≤ 10000) :
    OK (f40.L8 (s, fl, u, 0, c, f, ())) fun z => G u z.1 := by
  unfold f40.L8
  refine OK.loop (fun j : Nat × Int => (s, fl, j.2, (j.1 : Int), c, f, ())) (fun j => j.1 ≤ 384 ∧ GC j.2) (fun j => 384 - j.1) (fun rec j hj ih => ?_) (0, u) rfl ⟨Nat.zero_le _, hu⟩ (by dsimp only; decide)
  obtain ⟨i, far⟩ := j
  obtain ⟨hi, hfar⟩ := hj
  dsimp only at hi hfar ih ⊢
  have hl := hc.len
  have hfar' := hfar
  unfold GC at hfar'
  rw [bif_dec]
  by_cases c4 : (i : Int) < 384
  · rw [if_pos c4, inR (i := (i : Int)) (n := f.length) (by omega), inR (i := far) (n := f.length) (by omega), cond_true, cond_true, wr (by omega)]
    refine OK.bif (fun _ => ?_) (fun _ => ?_)
    · exact ih (i + 1, (i : Int)) ⟨by dsimp only; omega, by dsimp only; exact ⟨by omega, by omega⟩⟩ (by dsimp only; omega) _ rfl
    · exact ih (i + 1, far) ⟨by dsimp only; omega, hfar⟩ (by dsimp only; omega) _ rfl
  · rw [if_neg c4, inR (i := far) (n := c.length) (by omega), cond_true]
    have hG := hc.set hu far.toNat 4 (by decide)
    refine OK.callR (R := fun z => ∃ b c', z = Sum.inl (s, fl, b, c', f, ()) ∧ G u c') ?_ ?_
    · refine OK.callR (d_ok s fl 6 0 2 (by decide) (by decide)) fun y0 _ => ?_
      refine OK.bif (fun _ => shop_ok s fl far u _ f hG hu hf hfar) (fun _ => OK.ret ⟨false, _, rfl, hG⟩)
    · rintro z ⟨b, c', e, hc'⟩
      subst e
      simp only [Sum.elim_inl]
      refine OK.callR (ents_ok s fl b c' f _ hc'.len hf List.length_replicate h1 h2) fun z ⟨es, e⟩ => ?_
      subst e
      simp only [Sum.elim_inl]
      exact (items_ok s fl b c' f _ es hc'.len hf List.length_replicate).mono fun z e => by rw [e]; exact hc'
theorem halls_ok (s fl : Int) (c : List Int) (t : Tail) (hc : F c) (ht : Mids t) (h1 : 0 ≤ fl) (h2 : fl ≤ 10000) :
    OK (f40.L9 (s, fl, 1, c, t)) fun z => ∃ u, GC u ∧ G u z.1 := by
  unfold f40.L9
  refine OK.loop (fun j : Nat × List Int => (s, fl, (j.1 : Int), j.2, t)) (fun j => 1 ≤ j.1 ∧ j.1 ≤ 6 ∧ F j.2) (fun j => 6 - j.1) (fun rec j hj ih => ?_) (1, c) rfl ⟨Nat.le_refl _, by dsimp only; decide, hc⟩ (by dsimp only; decide)
  obtain ⟨i, c⟩ := j
  obtain ⟨hi0, hi, hc⟩ := hj
  dsimp only at hi0 hi hc ih ⊢
  have hl := hc.len
  rw [bif_dec]
  by_cases q : (i : Int) < 6
  · have e : Int.toNat (IntKind.wrap .i64 ((i : Int) - 1)) = i - 1 := by rw [wr (by omega)]; omega
    have ir : inRange (IntKind.wrap .i64 ((i : Int) - 1)) 6 = true := inR (by rw [wr (by omega)]; omega)
    have gx := ht.x (i - 1) (by omega)
    have gy := ht.y (i - 1) (by omega)
    rw [if_pos q, ir, cond_true, cond_true, e]
    refine OK.callR (dig_ok _ _ false c hc gx gy) fun r hr => ?_
    refine OK.callR (d_ok s fl _ 4 2 (by decide) (by decide)) fun y1 _ => ?_
    exact way_ok rec _ s fl i (by omega) _ _ _ _ r.2.1 t hr ht gx gy fun c' hc' => ih (i + 1, c') ⟨by dsimp only; omega, by dsimp only; omega, hc'⟩ (by dsimp only; omega) _ rfl
  · have gx := ht.a0
    have gy := ht.b0
    unfold GX at gx
    unfold GY at gy
    have e : IntKind.wrap .i64 (IntKind.wrap .i64 (t.2.2.2.2.2.2.1 * 24) + t.1) = t.2.2.2.2.2.2.1 * 24 + t.1 := by rw [wr (x := t.2.2.2.2.2.2.1 * 24) (by omega), wr (by omega)]
    rw [if_neg q, e]
    have hu : GC (t.2.2.2.2.2.2.1 * 24 + t.1) := ⟨by omega, by omega⟩
    generalize t.2.2.2.2.2.2.1 * 24 + t.1 = u at hu
    have hu' := hu
    unfold GC at hu'
    rw [inR (by omega), cond_true]
    have hF := hc.set u.toNat 3 (by decide)
    have hG : G u (c.set u.toNat 3) := ⟨hF, by
      unfold Field.rd
      rw [getD_set, if_pos ⟨rfl, by omega⟩]
      decide⟩
    refine OK.callR (rfield_is _ hF.cb [] [u] (by simp)) fun y hy => ?_
    exact (far_ok s fl u _ y.1 hG hu hy.len h1 h2).mono fun z hz => ⟨u, hu, hz⟩
/-- Any floor comes out, and has a cell that can be walked on. -/
theorem make_ok (s fl : Int) (h1 : 0 ≤ fl) (h2 : fl ≤ 10000) : OK (f40 s fl) fun z => ∃ u, GC u ∧ G u z.1 := by
  unfold f40 f40.L10
  have z0 : Mids (0, 0, 0, 0, 0, 0, 0, 0, 0, 0, 0, 0, ()) := by
    have gx : GX 0 := ⟨by decide, by decide⟩
    have gy : GY 0 := ⟨by decide, by decide⟩
    exact ⟨gx, gx, gx, gx, gx, gx, gy, gy, gy, gy, gy, gy⟩
  refine OK.loop (fun j : Nat × List Int × Tail => (s, fl, (j.1 : Int), j.2.1, j.2.2)) (fun j => j.1 ≤ 6 ∧ F j.2.1 ∧ Mids j.2.2) (fun j => 6 - j.1) (fun rec j hj ih => ?_) (0, List.replicate 384 0, (0, 0, 0, 0, 0, 0, 0, 0, 0, 0, 0, 0, ())) rfl ⟨by dsimp only; decide, ⟨List.length_replicate, fun i => ?_⟩, z0⟩ (by dsimp only; decide)
  · obtain ⟨i, c, t⟩ := j
    obtain ⟨hi, hc, ht⟩ := hj
    dsimp only at hi hc ht ih ⊢
    rw [bif_dec]
    by_cases q : (i : Int) < 6
    · rw [if_pos q]
      refine OK.callR (d_ok s fl _ 0 5 (by decide) (by decide)) fun y0 hy0 => ?_
      refine OK.callR (d_ok s fl _ 1 4 (by decide) (by decide)) fun y1 hy1 => ?_
      have w0 : IntKind.wrap .i64 (3 + y0.1) = 3 + y0.1 := wr (by omega)
      have w1 : IntKind.wrap .i64 (2 + y1.1) = 2 + y1.1 := wr (by omega)
      have w2 : IntKind.wrap .i64 (23 - (3 + y0.1)) = 23 - (3 + y0.1) := wr (by omega)
      have w3 : IntKind.wrap .i64 (15 - (2 + y1.1)) = 15 - (2 + y1.1) := wr (by omega)
      rw [w0, w1, w2, w3]
      refine OK.callR (d_ok s fl _ 2 _ (by omega) (by omega)) fun y2 hy2 => ?_
      refine OK.callR (d_ok s fl _ 3 _ (by omega) (by omega)) fun y3 hy3 => ?_
      rw [wr (x := 1 + y2.1) (by omega), wr (x := 1 + y3.1) (by omega)]
      exact room_ok rec _ s fl _ _ _ _ i (by omega) c t hc ht (by omega) (by omega) (by omega) (by omega) (by omega) (by omega) fun c' t' hc' ht' => ih (i + 1, c', t') ⟨by dsimp only; omega, hc', ht'⟩ (by dsimp only; omega) _ rfl
    · rw [if_neg q]
      exact halls_ok s fl c t hc ht h1 h2
  · dsimp only
    rw [List.getD_eq_getElem?_getD, List.getElem?_replicate]
    split <;> decide
end Go.Proofs.Ytjmbmpeflhkngaa.Gen
/- Cells that are linked over cells that can be walked on (own work). -/
namespace Go.Proofs.Ytjmbmpeflhkngaa.GenL
open Go Go.Proofs.Ytjmbmpeflhkngaa.Mx Go.Proofs.Ytjmbmpeflhkngaa.Pc Go.Proofs.Ytjmbmpeflhkngaa.Run Go.Proofs.Ytjmbmpeflhkngaa.Field Go.Proofs.Ytjmbmpeflhkngaa.Gen
set_option linter.unusedVariables false
set_option linter.unusedSimpArgs false
/-- A cell that can be walked on. -/
def Wk (c : List Int) (n : Int) : Prop := walkable (Field.rd c n) = true
inductive Link (c : List Int) (m : Int) : Int → Prop
  | refl : GC m → Wk c m → Link c m m
  | step {n k : Int} : Link c m n → adj n k → GC k → Wk c k → Link c m k
theorem Link.gc {c : List Int} {m n : Int} (h : Link c m n) : GC n := by cases h <;> assumption
theorem Link.wk {c : List Int} {m n : Int} (h : Link c m n) : Wk c n := by cases h <;> assumption
theorem Link.gc0 {c : List Int} {m n : Int} (h : Link c m n) : GC m := by
  induction h with
  | refl a _ => exact a
  | step _ _ _ _ ih => exact ih
theorem Link.wk0 {c : List Int} {m n : Int} (h : Link c m n) : Wk c m := by
  induction h with
  | refl _ a => exact a
  | step _ _ _ _ ih => exact ih
theorem Link.trans {c : List Int} {m n k : Int} (h : Link c m n) (h' : Link c n k) : Link c m k := by
  induction h' with
  | refl _ _ => exact h
  | step _ a b d ih => exact .step ih a b d
theorem Link.symm {c : List Int} {m n : Int} (h : Link c m n) : Link c n m := by
  induction h with
  | refl a b => exact .refl a b
  | step p a b d ih => exact Link.trans (.step (.refl b d) (adj_sym _ _ p.gc b a) p.gc p.wk) ih
theorem Link.mono {c c' : List Int} (hw : ∀ n, GC n → Wk c n → Wk c' n) {m n : Int} (h : Link c m n) : Link c' m n := by
  induction h with
  | refl a b => exact .refl a (hw _ a b)
  | step _ a b d ih => exact .step ih a b (hw _ b d)
theorem adj_x {m : Int} (h : m % 24 ≤ 22) : adj m (m + 1) := ⟨1, by decide, by unfold nbr; simp only; rw [if_pos h]⟩
theorem adj_y {m : Int} (h : m < 360) : adj m (m + 24) := ⟨2, by decide, by unfold nbr; simp only; rw [if_pos h]⟩
/-- All cells of a room are linked. -/
theorem rect_link {c : List Int} {x y w h : Int} (hx : 0 ≤ x) (hxw : x + w ≤ 24) (hy : 0 ≤ y) (hyh : y + h ≤ 16)
    (hw : ∀ a b, x ≤ a → a < x + w → y ≤ b → b < y + h → Wk c (b * 24 + a)) :
    ∀ (k : Nat) (a b a' b' : Int), x ≤ a → a < x + w → y ≤ b → b < y + h → x ≤ a' → a' < x + w → y ≤ b' → b' < y + h → (a - a').natAbs + (b - b').natAbs = k → Link c (b * 24 + a) (b' * 24 + a') := by
  intro k
  induction k with
  | zero =>
    intro a b a' b' h1 h2 h3 h4 h5 h6 h7 h8 e
    have e1 : a' = a := by omega
    have e2 : b' = b := by omega
    subst e1
    subst e2
    exact .refl ⟨by omega, by omega⟩ (hw _ _ h1 h2 h3 h4)
  | succ k ih =>
    intro a b a' b' h1 h2 h3 h4 h5 h6 h7 h8 e
    have g : GC (b' * 24 + a') := ⟨by omega, by omega⟩
    have wk := hw a' b' h5 h6 h7 h8
    by_cases q1 : a < a'
    · have := ih a b (a' - 1) b' h1 h2 h3 h4 (by omega) (by omega) h7 h8 (by omega)
      have ad := adj_x (m := b' * 24 + (a' - 1)) (by omega)
      rw [show b' * 24 + (a' - 1) + 1 = b' * 24 + a' by omega] at ad
      exact .step this ad g wk
    by_cases q2 : a' < a
    · have := ih a b (a' + 1) b' h1 h2 h3 h4 (by omega) (by omega) h7 h8 (by omega)
      have ad := adj_x (m := b' * 24 + a') (by omega)
      rw [show b' * 24 + a' + 1 = b' * 24 + (a' + 1) by omega] at ad
      exact .step this (adj_sym _ _ g ⟨by omega, by omega⟩ ad) g wk
    by_cases q3 : b < b'
    · have := ih a b a' (b' - 1) h1 h2 h3 h4 h5 h6 (by omega) (by omega) (by omega)
      have ad := adj_y (m := (b' - 1) * 24 + a') (by omega)
      rw [show (b' - 1) * 24 + a' + 24 = b' * 24 + a' by omega] at ad
      exact .step this ad g wk
    · have := ih a b a' (b' + 1) h1 h2 h3 h4 h5 h6 (by omega) (by omega) (by omega)
      have ad := adj_y (m := b' * 24 + a') (by omega)
      rw [show b' * 24 + a' + 24 = (b' + 1) * 24 + a' by omega] at ad
      exact .step this (adj_sym _ _ g ⟨by omega, by omega⟩ ad) g wk
/-- Linked cells are reached by the field of either. -/
theorem link_field {c : List Int} {t : Int} {f : List Int} (hf : IsField (opnC c []) (IsT c [t]) f) {n : Int} (h : Link c t n) : 0 ≤ Field.rd f n := by
  induction h with
  | refl a b => exact Int.le_of_eq ((hf.zero t a).2 ⟨by simp, b⟩).symm
  | step p a b d ih => exact (hf.down _ _ p.gc b ih a ⟨d, fun x => absurd x.2 (by simp)⟩).1
/-- What a cell that is set does to the cells that can be walked on. -/
theorem wk_set {c : List Int} (hl : c.length = 384) {k v : Int} (hk : GC k) (hv : 1 ≤ v ∧ v ≤ 5) (n : Int) (hn : GC n) : Wk (c.set k.toNat v) n ↔ (n = k ∨ Wk c n) := by
  unfold Wk
  rw [rd_set c hl k n v hk hn]
  by_cases e : n = k
  · rw [if_pos e]
    exact ⟨fun _ => .inl e, fun _ => by unfold walkable; simpa using hv⟩
  · rw [if_neg e]
    exact ⟨.inr, fun h => h.resolve_left e⟩
end Go.Proofs.Ytjmbmpeflhkngaa.GenL
/- The document's floors: all cells that can be walked on are linked (own work). -/
namespace Go.Proofs.Ytjmbmpeflhkngaa.GenL
open Go Go.Proofs.Ytjmbmpeflhkngaa.Mx Go.Proofs.Ytjmbmpeflhkngaa.Pc Go.Proofs.Ytjmbmpeflhkngaa.Run Go.Proofs.Ytjmbmpeflhkngaa.Field Go.Proofs.Ytjmbmpeflhkngaa.Gen
set_option linter.unusedVariables false
set_option linter.unusedSimpArgs false
structure FL (c : List Int) : Prop extends F c where
  lt : ∀ i, c.getD i 0 < 6
theorem FL.set {c : List Int} (h : FL c) (i : Nat) (v : Int) (hv : 0 ≤ v ∧ v < 6) : FL (c.set i v) := ⟨h.toF.set i v (by omega), fun j => by
  rw [getD_set]
  split
  · exact hv.2
  · exact h.lt j⟩
theorem dig_wk (x y : Int) (door : Bool) (c : List Int) (hc : FL c) (hx : GX x) (hy : GY y) : OK (f47 x y door c) fun r => FL r.2.1 ∧ ∀ n, GC n → (Wk r.2.1 n ↔ n = y * 24 + x ∨ Wk c n) := by
  unfold GX at hx
  unfold GY at hy
  unfold f47
  have e : IntKind.wrap .i64 (IntKind.wrap .i64 (y * 24) + x) = y * 24 + x := by rw [wr (x := y * 24) (by omega), wr (by omega)]
  have hl := hc.len
  have hk : GC (y * 24 + x) := ⟨by omega, by omega⟩
  have h1 := hc.set (y * 24 + x).toNat 1 (by decide)
  have h2 := h1.set (y * 24 + x).toNat 2 (by decide)
  have w1 := fun n hn => wk_set hl hk (show 1 ≤ (1 : Int) ∧ (1 : Int) ≤ 5 by decide) n hn
  have w2 := fun n hn => wk_set h1.len hk (show 1 ≤ (2 : Int) ∧ (2 : Int) ≤ 5 by decide) n hn
  rw [e, inR (by omega), cond_true, cond_true, inR (n := (c.set (y * 24 + x).toNat 1).length) (by rw [List.length_set]; omega), cond_true]
  cases q : (c.getD (y * 24 + x).toNat 0 != 0) with
  | true =>
    refine OK.ret ⟨hc, fun n hn => ⟨.inr, fun h => h.elim (fun e => ?_) id⟩⟩
    subst e
    have a1 := bne_iff_ne.1 q
    have a2 := hc.val (y * 24 + x).toNat
    have a3 := hc.lt (y * 24 + x).toNat
    show walkable (c.getD (y * 24 + x).toNat 0) = true
    unfold walkable
    simp only [decide_eq_true_eq]
    omega
  | false =>
    cases door with
    | true => exact OK.ret ⟨h1, w1⟩
    | false => exact OK.ret ⟨h2, fun n hn => by rw [w2 n hn, w1 n hn]; exact ⟨fun h => h.elim .inl id, .inr⟩⟩
theorem row_wk (k0 : Int × Int × Int × Int × Int × Int × Int × Int × List Int × Tail → Option Res) (Q : Res → Prop) (s fl i w h x y b : Int) (c : List Int) (t : Tail) (hc : FL c) (hx : 0 ≤ x) (hw : 0 ≤ w) (hxw : x + w ≤ 24) (hb : 0 ≤ b ∧ b < 16)
    (k : ∀ c', FL c' → (∀ n, GC n → (Wk c' n ↔ Wk c n ∨ (b * 24 + x ≤ n ∧ n < b * 24 + x + w))) → OK (k0 (s, fl, i, w, h, x, y, b + 1, c', t)) Q) : OK (f40.L1 k0 (s, fl, i, w, h, x, y, b, x, c, t)) Q := by
  unfold f40.L1
  refine OK.loop (fun j : Nat × List Int => (s, fl, i, w, h, x, y, b, x + (j.1 : Int), j.2, t)) (fun j => (j.1 : Int) ≤ w ∧ FL j.2 ∧ ∀ n, GC n → (Wk j.2 n ↔ Wk c n ∨ (b * 24 + x ≤ n ∧ n < b * 24 + x + j.1))) (fun j => w.toNat - j.1) (fun rec j hj ih => ?_) (0, c) (by simp) ⟨by dsimp only; omega, hc, fun n hn => ⟨.inl, fun h => h.elim id (fun h => by dsimp only at h; omega)⟩⟩ (by dsimp only; omega)
  obtain ⟨j, c1⟩ := j
  obtain ⟨hj, hc1, hwk⟩ := hj
  dsimp only at hj hc1 hwk ih ⊢
  have hl := hc1.len
  rw [wr (x := x + w) (by omega), bif_dec]
  by_cases q : x + (j : Int) < x + w
  · have e : IntKind.wrap .i64 (IntKind.wrap .i64 (b * 24) + (x + (j : Int))) = b * 24 + (x + j) := by rw [wr (x := b * 24) (by omega), wr (by omega)]
    rw [if_pos q, e, inR (by omega), cond_true, wr (by omega)]
    refine ih (j + 1, c1.set (b * 24 + (x + j)).toNat 1) ⟨by dsimp only; omega, hc1.set _ _ (by decide), fun n hn => ?_⟩ (by dsimp only; omega) _ (by
      have : x + (j : Int) + 1 = x + ((j + 1 : Nat) : Int) := by omega
      rw [this])
    dsimp only
    rw [wk_set hl ⟨by omega, by omega⟩ (by decide) n hn, hwk n hn]
    constructor
    · rintro (h | h | h)
      · exact .inr (by omega)
      · exact .inl h
      · exact .inr (by omega)
    · rintro (h | h)
      · exact .inr (.inl h)
      · by_cases e : n = b * 24 + (x + j)
        · exact .inl e
        · exact .inr (.inr (by omega))
  · rw [if_neg q, wr (by omega)]
    refine k c1 hc1 fun n hn => ?_
    rw [hwk n hn]
    constructor
    · rintro (h | h)
      · exact .inl h
      · exact .inr (by omega)
    · rintro (h | h)
      · exact .inl h
      · exact .inr (by omega)
def mxs (t : Tail) (j : Nat) : Int := [t.1, t.2.1, t.2.2.1, t.2.2.2.1, t.2.2.2.2.1, t.2.2.2.2.2.1].getD j 0
def mys (t : Tail) (j : Nat) : Int := [t.2.2.2.2.2.2.1, t.2.2.2.2.2.2.2.1, t.2.2.2.2.2.2.2.2.1, t.2.2.2.2.2.2.2.2.2.1, t.2.2.2.2.2.2.2.2.2.2.1, t.2.2.2.2.2.2.2.2.2.2.2.1].getD j 0
def mid (t : Tail) (j : Nat) : Int := mys t j * 24 + mxs t j
theorem room_wk (k0 : Int × Int × Int × List Int × Tail → Option Res) (Q : Res → Prop) (s fl w h x y : Int) (i : Nat) (hi : i < 6) (c : List Int) (t : Tail) (hc : FL c) (ht : Mids t) (hx : 0 ≤ x) (hw : 1 ≤ w) (hxw : x + w ≤ 24) (hy : 0 ≤ y) (hh : 1 ≤ h) (hyh : y + h ≤ 16)
    (k : ∀ c' t', FL c' → Mids t' → (∀ n, GC n → (Wk c' n ↔ Wk c n ∨ (x ≤ n % 24 ∧ n % 24 < x + w ∧ y ≤ n / 24 ∧ n / 24 < y + h))) → (∀ j, j < 6 → mid t' j = if j = i then (y + h / 2) * 24 + (x + w / 2) else mid t j) → OK (k0 (s, fl, ((i + 1 : Nat) : Int), c', t')) Q) : OK (f40.L2 k0 (s, fl, (i : Int), w, h, x, y, y, c, t)) Q := by
  unfold f40.L2
  refine OK.loop (fun j : Nat × List Int => (s, fl, (i : Int), w, h, x, y, y + (j.1 : Int), j.2, t)) (fun j => (j.1 : Int) ≤ h ∧ FL j.2 ∧ ∀ n, GC n → (Wk j.2 n ↔ Wk c n ∨ (x ≤ n % 24 ∧ n % 24 < x + w ∧ y ≤ n / 24 ∧ n / 24 < y + j.1))) (fun j => h.toNat - j.1) (fun rec j hj ih => ?_) (0, c) (by simp) ⟨by dsimp only; omega, hc, fun n hn => ⟨.inl, fun h => h.elim id (fun h => by dsimp only at h; omega)⟩⟩ (by dsimp only; omega)
  obtain ⟨j, c1⟩ := j
  obtain ⟨hj, hc1, hwk⟩ := hj
  dsimp only at hj hc1 hwk ih ⊢
  rw [wr (x := y + h) (by omega), bif_dec]
  by_cases q : y + (j : Int) < y + h
  · rw [if_pos q]
    refine row_wk rec Q s fl (i : Int) w h x y (y + j) c1 t hc1 hx (by omega) hxw (by omega) fun c' hc' hw' => ?_
    refine ih (j + 1, c') ⟨by dsimp only; omega, hc', fun n hn => ?_⟩ (by dsimp only; omega) _ (by
      have : y + (j : Int) + 1 = y + ((j + 1 : Nat) : Int) := by omega
      rw [this])
    dsimp only
    rw [hw' n hn, hwk n hn]
    unfold GC at hn
    constructor
    · rintro ((h | h) | h)
      · exact .inl h
      · exact .inr (by omega)
      · exact .inr (by omega)
    · rintro (h | h)
      · exact .inl (.inl h)
      · by_cases e : n / 24 < y + j
        · exact .inl (.inr (by omega))
        · exact .inr (by omega)
  · have wx : IntKind.wrap .i64 (x + IntKind.wrap .i64 (Int.tdiv w 2)) = x + w / 2 := by
      rw [Int.tdiv_eq_ediv_of_nonneg (by omega), wr (x := w / 2) (by omega), wr (by omega)]
    have wy : IntKind.wrap .i64 (y + IntKind.wrap .i64 (Int.tdiv h 2)) = y + h / 2 := by
      rw [Int.tdiv_eq_ediv_of_nonneg (by omega), wr (x := h / 2) (by omega), wr (by omega)]
    have wi : IntKind.wrap .i64 ((i : Int) + 1) = ((i + 1 : Nat) : Int) := by rw [wr (by omega)]; omega
    have gx : GX (x + w / 2) := by unfold GX; omega
    have gy : GY (y + h / 2) := by unfold GY; omega
    rw [if_neg q, inR (by omega), cond_true, cond_true, wx, wy, wi, Int.toNat_natCast]
    refine k c1 _ hc1 ⟨GX.ite gx ht.a0, GX.ite gx ht.a1, GX.ite gx ht.a2, GX.ite gx ht.a3, GX.ite gx ht.a4, GX.ite gx ht.a5, GY.ite gy ht.b0, GY.ite gy ht.b1, GY.ite gy ht.b2, GY.ite gy ht.b3, GY.ite gy ht.b4, GY.ite gy ht.b5⟩ (fun n hn => ?_) (fun j hj => ?_)
    · rw [hwk n hn]
      constructor
      · rintro (h | h)
        · exact .inl h
        · exact .inr (by omega)
      · rintro (h | h)
        · exact .inl h
        · exact .inr (by omega)
    · have key : ∀ p : Nat, ∀ a b c d : Int, (if i = p then a else b) * 24 + (if i = p then c else d) = if p = i then a * 24 + c else b * 24 + d := fun p a b c d => by
        by_cases e : i = p
        · rw [if_pos e, if_pos e, if_pos e.symm]
        · rw [if_neg e, if_neg e, if_neg (fun x => e x.symm)]
      match j, hj with
      | 0, _ => exact key 0 _ _ _ _
      | 1, _ => exact key 1 _ _ _ _
      | 2, _ => exact key 2 _ _ _ _
      | 3, _ => exact key 3 _ _ _ _
      | 4, _ => exact key 4 _ _ _ _
      | 5, _ => exact key 5 _ _ _ _
end Go.Proofs.Ytjmbmpeflhkngaa.GenL
/- The document's floors: halls, and the whole (own work). -/
namespace Go.Proofs.Ytjmbmpeflhkngaa.GenL
open Go Go.Proofs.Ytjmbmpeflhkngaa.Mx Go.Proofs.Ytjmbmpeflhkngaa.Pc Go.Proofs.Ytjmbmpeflhkngaa.Run Go.Proofs.Ytjmbmpeflhkngaa.Field Go.Proofs.Ytjmbmpeflhkngaa.Gen
set_option linter.unusedVariables false
set_option linter.unusedSimpArgs false
theorem way_wk (k0 : Int × Int × Int × List Int × Tail → Option Res) (Q : Res → Prop) (s fl : Int) (i : Nat) (hi : i < 6) (S x y : Int) (door first : Bool) (c0 : List Int) (t : Tail) (hc : FL c0) (ht : Mids t) (hx : GX x) (hy : GY y) (hS : Link c0 S (y * 24 + x))
    (k : ∀ c', FL c' → (∀ n, GC n → Wk c0 n → Wk c' n) → (∀ n, GC n → Wk c' n → Wk c0 n ∨ Link c' S n) → Link c' S (mid t i) → OK (k0 (s, fl, ((i + 1 : Nat) : Int), c', t)) Q) : OK (f40.L3 k0 (s, fl, (i : Int), x, y, door, first, c0, t)) Q := by
  have hX := ht.x i hi
  have hY := ht.y i hi
  have hmid : mid t i = [t.2.2.2.2.2.2.1, t.2.2.2.2.2.2.2.1, t.2.2.2.2.2.2.2.2.1, t.2.2.2.2.2.2.2.2.2.1, t.2.2.2.2.2.2.2.2.2.2.1, t.2.2.2.2.2.2.2.2.2.2.2.1].getD i 0 * 24 + [t.1, t.2.1, t.2.2.1, t.2.2.2.1, t.2.2.2.2.1, t.2.2.2.2.2.1].getD i 0 := rfl
  obtain ⟨X, eX⟩ : ∃ X, X = [t.1, t.2.1, t.2.2.1, t.2.2.2.1, t.2.2.2.2.1, t.2.2.2.2.2.1].getD i 0 := ⟨_, rfl⟩
  obtain ⟨Y, eY⟩ : ∃ Y, Y = [t.2.2.2.2.2.2.1, t.2.2.2.2.2.2.2.1, t.2.2.2.2.2.2.2.2.1, t.2.2.2.2.2.2.2.2.2.1, t.2.2.2.2.2.2.2.2.2.2.1, t.2.2.2.2.2.2.2.2.2.2.2.1].getD i 0 := ⟨_, rfl⟩
  rw [← eX] at hX hmid
  rw [← eY] at hY hmid
  unfold f40.L3
  refine OK.loop (fun j : Int × Int × Bool × List Int => (s, fl, (i : Int), j.1, j.2.1, j.2.2.1, first, j.2.2.2, t)) (fun j => GX j.1 ∧ GY j.2.1 ∧ FL j.2.2.2 ∧ Link j.2.2.2 S (j.2.1 * 24 + j.1) ∧ (∀ n, GC n → Wk c0 n → Wk j.2.2.2 n) ∧ (∀ n, GC n → Wk j.2.2.2 n → Wk c0 n ∨ Link j.2.2.2 S n)) (fun j => (j.1 - X).natAbs + (j.2.1 - Y).natAbs) (fun rec j hj ih => ?_) (x, y, door, c0) rfl ⟨hx, hy, hc, hS, fun _ _ h => h, fun _ _ h => .inl h⟩ (by dsimp only; unfold GX at *; unfold GY at *; omega)
  obtain ⟨x, y, door, c⟩ := j
  obtain ⟨hx, hy, hc, hS, hm, ho⟩ := hj
  dsimp only at hx hy hc hS hm ho ih ⊢
  have wi : IntKind.wrap .i64 ((i : Int) + 1) = ((i + 1 : Nat) : Int) := by rw [wr (by omega)]; omega
  have ir : inRange (i : Int) 6 = true := inR (by omega)
  simp only [Int.toNat_natCast, ← eX, ← eY, ir, cond_true, wi]
  unfold GX at hx hX
  unfold GY at hy hY
  by_cases both : x = X ∧ y = Y
  · have q1 : (x != X) = false := by simp [both.1]
    have q2 : (y != Y) = false := by simp [both.2]
    rw [q1, q2, cond_false, cond_false]
    have e : y * 24 + x = mid t i := by rw [hmid, both.1, both.2]
    rw [e] at hS
    exact OK.callR (R := fun z => ∃ q, z = Sum.inr q ∧ Q q) (OK.callR (k c hc hm ho hS) fun q hq => OK.ret ⟨q, rfl, hq⟩) (fun z ⟨q, e, hq⟩ => by subst e; exact OK.ret hq)
  · refine OK.callR (R := fun z => z = Sum.inl (s, fl, (i : Int), x, y, door, first, c, t)) ?_ ?_
    · by_cases h1 : x = X
      · have q1 : (x != X) = false := by simp [h1]
        have q2 : (y != Y) = true := by simp; exact fun e => both ⟨h1, e⟩
        rw [q1, q2, cond_false, cond_true]
        exact OK.ret rfl
      · have q1 : (x != X) = true := by simpa using h1
        rw [q1, cond_true]
        exact OK.ret rfl
    · intro z e
      subst e
      simp only [Sum.elim_inl, Int.toNat_natCast, ← eX, ← eY, ir, cond_true]
      refine OK.callR (R := fun z => ∃ x' y', z = Sum.inl (s, fl, (i : Int), x', y', door, first, c, t) ∧ GX x' ∧ GY y' ∧ (x' - X).natAbs + (y' - Y).natAbs < (x - X).natAbs + (y - Y).natAbs ∧ adj (y * 24 + x) (y' * 24 + x')) ?_ ?_
      · have tx : x ≠ X → GX (if x < X then x + 1 else x - 1) ∧ ((if x < X then x + 1 else x - 1) - X).natAbs + (y - Y).natAbs < (x - X).natAbs + (y - Y).natAbs ∧ adj (y * 24 + x) (y * 24 + (if x < X then x + 1 else x - 1)) := fun h => by
          unfold GX
          split
          · refine ⟨by omega, by omega, ?_⟩
            have := adj_x (m := y * 24 + x) (by omega)
            rwa [show y * 24 + x + 1 = y * 24 + (x + 1) by omega] at this
          · refine ⟨by omega, by omega, ?_⟩
            have := adj_x (m := y * 24 + (x - 1)) (by omega)
            rw [show y * 24 + (x - 1) + 1 = y * 24 + x by omega] at this
            exact adj_sym _ _ ⟨by omega, by omega⟩ ⟨by omega, by omega⟩ this
        have ty : y ≠ Y → GY (if y < Y then y + 1 else y - 1) ∧ (x - X).natAbs + ((if y < Y then y + 1 else y - 1) - Y).natAbs < (x - X).natAbs + (y - Y).natAbs ∧ adj (y * 24 + x) ((if y < Y then y + 1 else y - 1) * 24 + x) := fun h => by
          unfold GY
          split
          · refine ⟨by omega, by omega, ?_⟩
            have := adj_y (m := y * 24 + x) (by omega)
            rwa [show y * 24 + x + 24 = (y + 1) * 24 + x by omega] at this
          · refine ⟨by omega, by omega, ?_⟩
            have := adj_y (m := (y - 1) * 24 + x) (by omega)
            rw [show (y - 1) * 24 + x + 24 = y * 24 + x by omega] at this
            exact adj_sym _ _ ⟨by omega, by omega⟩ ⟨by omega, by omega⟩ this
        have gx : GX x := hx
        have gy : GY y := hy
        rw [toward_eq x X (by omega), toward_eq y Y (by omega)]
        simp only [Option.bind_some]
        cases first with
        | true =>
          by_cases h1 : x = X
          · have q1 : (x != X) = false := by simp [h1]
            have h2 : y ≠ Y := fun e => both ⟨h1, e⟩
            rw [q1]
            exact OK.ret ⟨_, _, rfl, gx, (ty h2).1, (ty h2).2⟩
          · have q1 : (x != X) = true := by simpa using h1
            rw [q1]
            exact OK.ret ⟨_, _, rfl, (tx h1).1, gy, (tx h1).2⟩
        | false =>
          by_cases h2 : y = Y
          · have q2 : (y == Y) = true := by simp [h2]
            have h1 : x ≠ X := fun e => both ⟨e, h2⟩
            rw [q2]
            exact OK.ret ⟨_, _, rfl, (tx h1).1, gy, (tx h1).2⟩
          · have q2 : (y == Y) = false := by simpa using h2
            rw [q2]
            exact OK.ret ⟨_, _, rfl, gx, (ty h2).1, (ty h2).2⟩
      · rintro z ⟨x', y', e, g1, g2, g3, g4⟩
        subst e
        simp only [Sum.elim_inl]
        refine OK.callR (dig_wk x' y' door c hc g1 g2) fun r ⟨hr, hw⟩ => ?_
        have gc : GC (y' * 24 + x') := by unfold GX at g1; unfold GY at g2; exact ⟨by omega, by omega⟩
        have mono : ∀ n, GC n → Wk c n → Wk r.2.1 n := fun n hn h => (hw n hn).2 (.inr h)
        have hl : Link r.2.1 S (y' * 24 + x') := .step (hS.mono mono) g4 gc ((hw _ gc).2 (.inl rfl))
        refine ih (x', y', r.1, r.2.1) ⟨g1, g2, hr, hl, fun n hn h => mono n hn (hm n hn h), fun n hn h => ?_⟩ g3 _ rfl
        rcases (hw n hn).1 h with e | h
        · subst e; exact .inr hl
        · rcases ho n hn h with h | h
          · exact .inl h
          · exact .inr (h.mono mono)
/-- All is linked to u. -/
structure GL (u : Int) (c : List Int) : Prop extends G u c where
  all : ∀ n, GC n → Wk c n → Link c u n
theorem GL.set {u : Int} {c : List Int} (h : GL u c) (hu : GC u) {k : Int} (hk : GC k) (hw : Wk c k) (v : Int) (hv : 1 ≤ v ∧ v ≤ 5) : GL u (c.set k.toNat v) := ⟨h.toG.set hu _ v hv, fun n hn hn' => by
  have w := fun n hn => wk_set h.len hk hv n hn
  have : Wk c n := by
    rcases (w n hn).1 hn' with e | e
    · subst e; exact hw
    · exact e
  exact (h.all n hn this).mono fun m hm hm' => (w m hm).2 (.inr hm')⟩
theorem shop_wk (s fl far u : Int) (c f : List Int) (hc : GL u c) (hu : GC u) (hf : f.length = 384) (hfar : GC far) : OK (f40.L4 (s, fl, far, false, 0, c, f, ())) fun z => ∃ b c', z = Sum.inl (s, fl, b, c', f, ()) ∧ GL u c' := by
  unfold f40.L4
  refine OK.loop (fun j : Nat × Bool × List Int => (s, fl, far, j.2.1, (j.1 : Int), j.2.2, f, ())) (fun j => j.1 ≤ 384 ∧ GL u j.2.2) (fun j => 384 - j.1) (fun rec j hj ih => ?_) (0, false, c) rfl ⟨Nat.zero_le _, hc⟩ (by dsimp only; decide)
  obtain ⟨i, b, c⟩ := j
  obtain ⟨hi, hc⟩ := hj
  dsimp only at hi hc ih ⊢
  have hl := hc.len
  unfold GC at hfar
  by_cases c4 : i < 384
  · have c4' : (i : Int) < 384 := by omega
    have wj : IntKind.wrap .i64 ((i : Int) + 1) = ((i + 1 : Nat) : Int) := by rw [wr (by omega)]; omega
    rw [bif_dec, if_pos c4', inR (i := (i : Int)) (n := c.length) (by omega), inR (i := (i : Int)) (n := f.length) (by omega), inR (i := far) (n := f.length) (by omega), wj]
    simp only [cond_true]
    cases b with
    | true => exact OK.ret ⟨true, c, rfl, hc⟩
    | false =>
      rw [Bool.not_false, cond_true]
      have skip := ih (i + 1, false, c) ⟨by dsimp only; omega, hc⟩ (by dsimp only; omega) _ rfl
      refine OK.bif (fun h1 => ?_) (fun _ => skip)
      refine OK.bif (fun _ => ?_) (fun _ => skip)
      have e1 : Field.rd c (i : Int) = 1 := beq_iff_eq.1 h1
      exact ih (i + 1, true, c.set (Int.toNat (i : Int)) 5) ⟨by dsimp only; omega, hc.set hu ⟨by omega, by omega⟩ (by unfold Wk; rw [e1]; decide) 5 (by decide)⟩ (by dsimp only; omega) _ rfl
  · have c4' : ¬ (i : Int) < 384 := by omega
    rw [bif_dec, if_neg c4']
    exact OK.ret ⟨b, c, rfl, hc⟩
theorem far_wk (s fl u : Int) (c f : List Int) (hc : GL u c) (hu : GC u) (hf : IsField (opnC c []) (IsT c [u]) f) (h1 : 0 ≤ fl) (h2 : fl ≤ 10000) :
    OK (f40.L8 (s, fl, u, 0, c, f, ())) fun z => GL u z.1 := by
  have hfl := hf.len
  have hw : Wk c u := hc.walk
  unfold f40.L8
  refine OK.loop (fun j : Nat × Int => (s, fl, j.2, (j.1 : Int), c, f, ())) (fun j => j.1 ≤ 384 ∧ GC j.2 ∧ 0 ≤ Field.rd f j.2) (fun j => 384 - j.1) (fun rec j hj ih => ?_) (0, u) rfl ⟨Nat.zero_le _, hu, Int.le_of_eq ((hf.zero u hu).2 ⟨by simp, hw⟩).symm⟩ (by dsimp only; decide)
  obtain ⟨i, far⟩ := j
  obtain ⟨hi, hfar, hpos⟩ := hj
  dsimp only at hi hfar hpos ih ⊢
  have hl := hc.len
  have hfar' := hfar
  unfold GC at hfar'
  rw [bif_dec]
  by_cases c4 : (i : Int) < 384
  · rw [if_pos c4, inR (i := (i : Int)) (n := f.length) (by omega), inR (i := far) (n := f.length) (by omega), cond_true, cond_true, wr (by omega)]
    refine OK.bif (fun h => ?_) (fun _ => ?_)
    · have h' : Field.rd f (i : Int) > Field.rd f far := of_decide_eq_true h
      exact ih (i + 1, (i : Int)) ⟨by dsimp only; omega, by dsimp only; exact ⟨by omega, by omega⟩, by dsimp only; omega⟩ (by dsimp only; omega) _ rfl
    · exact ih (i + 1, far) ⟨by dsimp only; omega, hfar, hpos⟩ (by dsimp only; omega) _ rfl
  · rw [if_neg c4, inR (i := far) (n := c.length) (by omega), cond_true]
    have hwf : Wk c far := by
      by_cases h0 : Field.rd f far = 0
      · exact ((hf.zero far hfar).1 h0).2
      · exact ((hf.up far hfar (by omega)).1).1
    have hG := hc.set hu hfar hwf 4 (by decide)
    refine OK.callR (R := fun z => ∃ b c', z = Sum.inl (s, fl, b, c', f, ()) ∧ GL u c') ?_ ?_
    · refine OK.callR (d_ok s fl 6 0 2 (by decide) (by decide)) fun y0 _ => ?_
      refine OK.bif (fun _ => shop_wk s fl far u _ f hG hu hfl hfar) (fun _ => OK.ret ⟨false, _, rfl, hG⟩)
    · rintro z ⟨b, c', e, hc'⟩
      subst e
      simp only [Sum.elim_inl]
      refine OK.callR (ents_ok s fl b c' f _ hc'.len hfl List.length_replicate h1 h2) fun z ⟨es, e⟩ => ?_
      subst e
      simp only [Sum.elim_inl]
      exact (items_ok s fl b c' f _ es hc'.len hfl List.length_replicate).mono fun z e => by rw [e]; exact hc'
theorem halls_wk (s fl : Int) (c : List Int) (t : Tail) (hc : FL c) (ht : Mids t) (hM : ∀ j, j < 6 → Wk c (mid t j)) (hA : ∀ n, GC n → Wk c n → ∃ j, j < 6 ∧ Link c (mid t j) n) (h1 : 0 ≤ fl) (h2 : fl ≤ 10000) :
    OK (f40.L9 (s, fl, 1, c, t)) fun z => ∃ u, GC u ∧ GL u z.1 := by
  have gm : ∀ j, j < 6 → GC (mid t j) := fun j hj => by
    have a := ht.x j hj
    have b := ht.y j hj
    have ea : mxs t j = [t.1, t.2.1, t.2.2.1, t.2.2.2.1, t.2.2.2.2.1, t.2.2.2.2.2.1].getD j 0 := rfl
    have eb : mys t j = [t.2.2.2.2.2.2.1, t.2.2.2.2.2.2.2.1, t.2.2.2.2.2.2.2.2.1, t.2.2.2.2.2.2.2.2.2.1, t.2.2.2.2.2.2.2.2.2.2.1, t.2.2.2.2.2.2.2.2.2.2.2.1].getD j 0 := rfl
    rw [← ea] at a
    rw [← eb] at b
    unfold GX at a
    unfold GY at b
    unfold mid
    exact ⟨by omega, by omega⟩
  unfold f40.L9
  refine OK.loop (fun j : Nat × List Int => (s, fl, (j.1 : Int), j.2, t)) (fun j => 1 ≤ j.1 ∧ j.1 ≤ 6 ∧ FL j.2 ∧ (∀ k, k < 6 → Wk j.2 (mid t k)) ∧ (∀ n, GC n → Wk j.2 n → ∃ k, k < 6 ∧ Link j.2 (mid t k) n) ∧ (∀ k, k < j.1 → Link j.2 (mid t 0) (mid t k))) (fun j => 6 - j.1) (fun rec j hj ih => ?_) (1, c) rfl ⟨Nat.le_refl _, by dsimp only; decide, hc, hM, hA, fun k hk => by
    have : k = 0 := by dsimp only at hk; omega
    subst this
    exact .refl (gm 0 (by decide)) (hM 0 (by decide))⟩ (by dsimp only; decide)
  obtain ⟨i, c⟩ := j
  obtain ⟨hi0, hi, hc, hM, hA, hB⟩ := hj
  dsimp only at hi0 hi hc hM hA hB ih ⊢
  have hl := hc.len
  rw [bif_dec]
  by_cases q : (i : Int) < 6
  · have e : Int.toNat (IntKind.wrap .i64 ((i : Int) - 1)) = i - 1 := by rw [wr (by omega)]; omega
    have ir : inRange (IntKind.wrap .i64 ((i : Int) - 1)) 6 = true := inR (by rw [wr (by omega)]; omega)
    have gx := ht.x (i - 1) (by omega)
    have gy := ht.y (i - 1) (by omega)
    rw [if_pos q, ir, cond_true, cond_true, e]
    refine OK.callR (dig_wk _ _ false c hc gx gy) fun r ⟨hr, hw⟩ => ?_
    refine OK.callR (d_ok s fl _ 4 2 (by decide) (by decide)) fun y1 _ => ?_
    have same : ∀ n, GC n → (Wk r.2.1 n ↔ Wk c n) := fun n hn => (hw n hn).trans ⟨fun h => h.elim (fun e => by rw [e]; exact hM (i - 1) (by omega)) id, .inr⟩
    have mono : ∀ n, GC n → Wk c n → Wk r.2.1 n := fun n hn h => (same n hn).2 h
    refine way_wk rec _ s fl i (by omega) (mid t (i - 1)) _ _ _ _ r.2.1 t hr ht gx gy (.refl (gm (i - 1) (by omega)) (mono _ (gm (i - 1) (by omega)) (hM (i - 1) (by omega)))) fun c' hc' m1 m2 m3 => ?_
    have mono' : ∀ n, GC n → Wk c n → Wk c' n := fun n hn h => m1 n hn (mono n hn h)
    refine ih (i + 1, c') ⟨by dsimp only; omega, by dsimp only; omega, hc', fun k hk => mono' _ (gm k hk) (hM k hk), fun n hn h => ?_, fun k hk => ?_⟩ (by dsimp only; omega) _ rfl
    · rcases m2 n hn h with h | h
      · obtain ⟨k, hk, hl⟩ := hA n hn ((same n hn).1 h)
        exact ⟨k, hk, hl.mono mono'⟩
      · exact ⟨i - 1, by omega, h⟩
    · dsimp only at hk ⊢
      by_cases e : k = i
      · subst e
        exact ((hB (k - 1) (by omega)).mono mono').trans m3
      · exact (hB k (by omega)).mono mono'
  · have gx := ht.a0
    have gy := ht.b0
    unfold GX at gx
    unfold GY at gy
    have e : IntKind.wrap .i64 (IntKind.wrap .i64 (t.2.2.2.2.2.2.1 * 24) + t.1) = mid t 0 := by rw [wr (x := t.2.2.2.2.2.2.1 * 24) (by omega), wr (by omega)]; rfl
    rw [if_neg q, e]
    have hu := gm 0 (by decide)
    have hwu := hM 0 (by decide)
    have hall : ∀ n, GC n → Wk c n → Link c (mid t 0) n := fun n hn h => by
      obtain ⟨k, hk, hl⟩ := hA n hn h
      exact (hB k (by omega)).trans hl
    generalize mid t 0 = u at *
    have hu' := hu
    unfold GC at hu'
    rw [inR (by omega), cond_true]
    have hG0 : GL u c := ⟨⟨hc.toF, hwu⟩, hall⟩
    have hG := hG0.set hu hu hwu 3 (by decide)
    refine OK.callR (rfield_is _ hG.cb [] [u] (by simp)) fun y hy => ?_
    exact (far_wk s fl u _ y.1 hG hu hy h1 h2).mono fun z hz => ⟨u, hu, hz⟩
/-- Any floor comes out, and all its cells that can be walked on are linked. -/
theorem make_wk (s fl : Int) (h1 : 0 ≤ fl) (h2 : fl ≤ 10000) : OK (f40 s fl) fun z => ∃ u, GC u ∧ GL u z.1 := by
  unfold f40 f40.L10
  have z0 : Mids (0, 0, 0, 0, 0, 0, 0, 0, 0, 0, 0, 0, ()) := by
    have gx : GX 0 := ⟨by decide, by decide⟩
    have gy : GY 0 := ⟨by decide, by decide⟩
    exact ⟨gx, gx, gx, gx, gx, gx, gy, gy, gy, gy, gy, gy⟩
  have gd : ∀ i, (List.replicate 384 (0 : Int)).getD i 0 = 0 := fun i => by
    rw [List.getD_eq_getElem?_getD, List.getElem?_replicate]
    split <;> rfl
  refine OK.loop (fun j : Nat × List Int × Tail => (s, fl, (j.1 : Int), j.2.1, j.2.2)) (fun j => j.1 ≤ 6 ∧ FL j.2.1 ∧ Mids j.2.2 ∧ (∀ k, k < j.1 → GC (mid j.2.2 k) ∧ Wk j.2.1 (mid j.2.2 k)) ∧ (∀ n, GC n → Wk j.2.1 n → ∃ k, k < j.1 ∧ Link j.2.1 (mid j.2.2 k) n)) (fun j => 6 - j.1) (fun rec j hj ih => ?_) (0, List.replicate 384 0, (0, 0, 0, 0, 0, 0, 0, 0, 0, 0, 0, 0, ())) rfl ⟨by dsimp only; decide, ⟨⟨List.length_replicate, fun i => ?_⟩, fun i => ?_⟩, z0, fun k hk => absurd hk (Nat.not_lt_zero k), fun n hn h => ?_⟩ (by dsimp only; decide)
  · obtain ⟨i, c, t⟩ := j
    obtain ⟨hi, hc, ht, hM, hA⟩ := hj
    dsimp only at hi hc ht hM hA ih ⊢
    rw [bif_dec]
    by_cases q : (i : Int) < 6
    · rw [if_pos q]
      refine OK.callR (d_ok s fl _ 0 5 (by decide) (by decide)) fun y0 hy0 => ?_
      refine OK.callR (d_ok s fl _ 1 4 (by decide) (by decide)) fun y1 hy1 => ?_
      have w0 : IntKind.wrap .i64 (3 + y0.1) = 3 + y0.1 := wr (by omega)
      have w1 : IntKind.wrap .i64 (2 + y1.1) = 2 + y1.1 := wr (by omega)
      have w2 : IntKind.wrap .i64 (23 - (3 + y0.1)) = 23 - (3 + y0.1) := wr (by omega)
      have w3 : IntKind.wrap .i64 (15 - (2 + y1.1)) = 15 - (2 + y1.1) := wr (by omega)
      rw [w0, w1, w2, w3]
      refine OK.callR (d_ok s fl _ 2 _ (by omega) (by omega)) fun y2 hy2 => ?_
      refine OK.callR (d_ok s fl _ 3 _ (by omega) (by omega)) fun y3 hy3 => ?_
      rw [wr (x := 1 + y2.1) (by omega), wr (x := 1 + y3.1) (by omega)]
      refine room_wk rec _ s fl _ _ _ _ i (by omega) c t hc ht (by omega) (by omega) (by omega) (by omega) (by omega) (by omega) fun c' t' hc' ht' hw ht2 => ?_
      have mono : ∀ n, GC n → Wk c n → Wk c' n := fun n hn h => (hw n hn).2 (.inl h)
      have old : ∀ k, k < i → mid t' k = mid t k := fun k hk => by rw [ht2 k (by omega), if_neg (by omega)]
      have new : mid t' i = (1 + y3.1 + (2 + y1.1) / 2) * 24 + (1 + y2.1 + (3 + y0.1) / 2) := by rw [ht2 i (by omega), if_pos rfl]
      have bx : 0 ≤ 1 + y2.1 ∧ 1 + y2.1 + (3 + y0.1) ≤ 24 ∧ 1 ≤ 3 + y0.1 := by omega
      have bY : 0 ≤ 1 + y3.1 ∧ 1 + y3.1 + (2 + y1.1) ≤ 16 ∧ 1 ≤ 2 + y1.1 := by omega
      generalize 3 + y0.1 = w at *
      generalize 2 + y1.1 = h at *
      generalize 1 + y2.1 = x at *
      generalize 1 + y3.1 = y at *
      have rect : ∀ a b, x ≤ a → a < x + w → y ≤ b → b < y + h → Wk c' (b * 24 + a) := fun a b a1 a2 b1 b2 => (hw _ ⟨by omega, by omega⟩).2 (.inr ⟨by omega, by omega, by omega, by omega⟩)
      refine ih (i + 1, c', t') ⟨by dsimp only; omega, hc', ht', fun k hk => ?_, fun n hn hn' => ?_⟩ (by dsimp only; omega) _ rfl
      · dsimp only at hk ⊢
        by_cases e : k = i
        · subst e
          rw [new]
          exact ⟨⟨by omega, by omega⟩, rect _ _ (by omega) (by omega) (by omega) (by omega)⟩
        · rw [old k (by omega)]
          exact ⟨(hM k (by omega)).1, mono _ (hM k (by omega)).1 (hM k (by omega)).2⟩
      · dsimp only at hn' ⊢
        rcases (hw n hn).1 hn' with g | g
        · obtain ⟨k, hk, hl⟩ := hA n hn g
          exact ⟨k, by omega, by rw [old k hk]; exact hl.mono mono⟩
        · have := rect_link (c := c') (x := x) (y := y) (w := w) (h := h) (by omega) (by omega) (by omega) (by omega) rect _ (x + w / 2) (y + h / 2) (n % 24) (n / 24) (by omega) (by omega) (by omega) (by omega) g.1 g.2.1 g.2.2.1 g.2.2.2 rfl
          have en : n / 24 * 24 + n % 24 = n := by omega
          rw [en] at this
          exact ⟨i, by omega, by rw [new]; exact this⟩
    · rw [if_neg q]
      have e : i = 6 := by omega
      subst e
      exact halls_wk s fl c t hc ht (fun j hj => (hM j hj).2) hA h1 h2
  · rw [gd]; decide
  · rw [gd]; decide
  · exfalso
    have : Field.rd (List.replicate 384 (0 : Int)) n = 0 := gd _
    unfold Wk at h
    dsimp only at h
    rw [this] at h
    exact absurd h (by decide)
end Go.Proofs.Ytjmbmpeflhkngaa.GenL
/- A floor in plain words: rooms, halls, stairs, a shop, monsters, items (own work). -/
namespace Go.Proofs.Ytjmbmpeflhkngaa.Fl
open Go Go.Proofs.Ytjmbmpeflhkngaa.Mx Go.Proofs.Ytjmbmpeflhkngaa.Pc Go.Proofs.Ytjmbmpeflhkngaa.Run Go.Proofs.Ytjmbmpeflhkngaa.Field Go.Proofs.Ytjmbmpeflhkngaa.Gen Go.Proofs.Ytjmbmpeflhkngaa.GenL
set_option linter.unusedVariables false
set_option linter.unusedSimpArgs false
noncomputable section
abbrev ItT := Int × Int × Int × Int
/-- A number by chance of a floor. -/
def dv (s fl a b n : Int) : Int := ((f46 s fl a b n).getD (0, ())).1
theorem d_is (s fl a b n : Int) (h1 : 1 ≤ n) (h2 : n ≤ 1000000000) : f46 s fl a b n = some (dv s fl a b n, ()) ∧ 0 ≤ dv s fl a b n ∧ dv s fl a b n < n := by
  obtain ⟨y, e, h⟩ := d_ok s fl a b n h1 h2
  unfold dv
  rw [e]
  exact ⟨rfl, h⟩
section
variable (s fl : Int)
def rw' (i : Int) : Int := 3 + dv s fl i 0 5
def rh' (i : Int) : Int := 2 + dv s fl i 1 4
def rx' (i : Int) : Int := 1 + dv s fl i 2 (23 - rw' s fl i)
def ry' (i : Int) : Int := 1 + dv s fl i 3 (15 - rh' s fl i)
/-- The middle of a room. -/
def mx (i : Int) : Int := rx' s fl i + rw' s fl i / 2
def my (i : Int) : Int := ry' s fl i + rh' s fl i / 2
theorem room_b (i : Int) : 3 ≤ rw' s fl i ∧ rw' s fl i ≤ 7 ∧ 2 ≤ rh' s fl i ∧ rh' s fl i ≤ 5 ∧ 1 ≤ rx' s fl i ∧ rx' s fl i + rw' s fl i ≤ 23 ∧ 1 ≤ ry' s fl i ∧ ry' s fl i + rh' s fl i ≤ 15 := by
  have h0 := (d_is s fl i 0 5 (by decide) (by decide)).2
  have h1 := (d_is s fl i 1 4 (by decide) (by decide)).2
  have e0 : rw' s fl i = 3 + dv s fl i 0 5 := rfl
  have e1 : rh' s fl i = 2 + dv s fl i 1 4 := rfl
  have h2 := (d_is s fl i 2 (23 - rw' s fl i) (by omega) (by omega)).2
  have h3 := (d_is s fl i 3 (15 - rh' s fl i) (by omega) (by omega)).2
  have e2 : rx' s fl i = 1 + dv s fl i 2 (23 - rw' s fl i) := rfl
  have e3 : ry' s fl i = 1 + dv s fl i 3 (15 - rh' s fl i) := rfl
  omega
theorem mid_b (i : Int) : 1 ≤ mx s fl i ∧ mx s fl i ≤ 22 ∧ 1 ≤ my s fl i ∧ my s fl i ≤ 14 := by
  have h := room_b s fl i
  unfold mx my
  omega
end
/-- A rectangle of a grid is made floor. -/
def inRect (x y w h n : Int) : Bool := decide (x ≤ n % 24 ∧ n % 24 < x + w ∧ y ≤ n / 24 ∧ n / 24 < y + h)
def carve (c : List Int) (x y w h : Int) : List Int := (List.range 384).map fun n : Nat => if inRect x y w h n then 1 else c.getD n 0
theorem carve_len (c : List Int) (x y w h : Int) : (carve c x y w h).length = 384 := by simp [carve]
theorem carve_get (c : List Int) (x y w h : Int) (n : Nat) (hn : n < 384) : (carve c x y w h).getD n 0 = if inRect x y w h n then 1 else c.getD n 0 := by
  unfold carve
  rw [List.getD_eq_getElem?_getD, List.getElem?_map, List.getElem?_range hn]
  rfl
theorem list_ext {c d : List Int} (h1 : c.length = 384) (h2 : d.length = 384) (h : ∀ n, n < 384 → c.getD n 0 = d.getD n 0) : c = d := by
  apply List.ext_getElem (by omega)
  intro i a b
  have := h i (by omega)
  rw [List.getD_eq_getElem?_getD, List.getD_eq_getElem?_getD, List.getElem?_eq_getElem a, List.getElem?_eq_getElem b] at this
  exact this
/-- One cell of a hall: it is dug, and the first one is a door. -/
def dg (x y : Int) (d : Bool) (c : List Int) : Bool × List Int := if c.getD (y * 24 + x).toNat 0 ≠ 0 then (d, c) else (true, c.set (y * 24 + x).toNat (if d then 1 else 2))
def tow (a b : Int) : Int := if a < b then a + 1 else a - 1
/-- One step of a hall. -/
def stp (x y X Y : Int) (first : Bool) : Int × Int := if (first = true ∧ x ≠ X) ∨ (first = false ∧ y = Y) then (tow x X, y) else (x, tow y Y)
def hall : Nat → Int → Int → Int → Int → Bool → Bool → List Int → List Int
  | 0, x, y, X, Y, first, d, c => c
  | n + 1, x, y, X, Y, first, d, c => if x = X ∧ y = Y then c else hall n (stp x y X Y first).1 (stp x y X Y first).2 X Y first (dg (stp x y X Y first).1 (stp x y X Y first).2 d c).1 (dg (stp x y X Y first).1 (stp x y X Y first).2 d c).2
def gap (x y X Y : Int) : Nat := (x - X).natAbs + (y - Y).natAbs
theorem stp_gap {x y X Y : Int} (first : Bool) (h : ¬ (x = X ∧ y = Y)) : gap (stp x y X Y first).1 (stp x y X Y first).2 X Y + 1 = gap x y X Y := by
  unfold stp tow gap
  cases first <;> simp only [Bool.false_eq_true, false_and, true_and, false_or, or_false, if_false] <;> (repeat' split) <;> simp only <;> omega
theorem stp_in {x y X Y : Int} (first : Bool) (h : ¬ (x = X ∧ y = Y)) {x0 x1 y0 y1 : Int} (hx : x0 ≤ x ∧ x ≤ x1) (hX : x0 ≤ X ∧ X ≤ x1) (hy : y0 ≤ y ∧ y ≤ y1) (hY : y0 ≤ Y ∧ Y ≤ y1) :
    (x0 ≤ (stp x y X Y first).1 ∧ (stp x y X Y first).1 ≤ x1) ∧ (y0 ≤ (stp x y X Y first).2 ∧ (stp x y X Y first).2 ≤ y1) := by
  unfold stp tow
  cases first <;> simp only [Bool.false_eq_true, false_and, true_and, false_or, or_false, if_false] <;> (repeat' split) <;> simp only <;> omega
section
variable (s fl : Int)
/-- The hall from the room ahead to a room. -/
def hallTo (i : Int) (c : List Int) : List Int :=
  hall (gap (mx s fl (i - 1)) (my s fl (i - 1)) (mx s fl i) (my s fl i)) (mx s fl (i - 1)) (my s fl (i - 1)) (mx s fl i) (my s fl i) (dv s fl i 4 2 == 0) (dg (mx s fl (i - 1)) (my s fl (i - 1)) false c).1 (dg (mx s fl (i - 1)) (my s fl (i - 1)) false c).2
def roomOf (i : Int) (c : List Int) : List Int := carve c (rx' s fl i) (ry' s fl i) (rw' s fl i) (rh' s fl i)
def rooms : List Int := (List.range 6).foldl (fun c (i : Nat) => roomOf s fl i c) (List.replicate 384 0)
def halls (n : Nat) : List Int := (List.range n).foldl (fun c (i : Nat) => hallTo s fl ((i : Int) + 1) c) (rooms s fl)
def upc : Int := my s fl 0 * 24 + mx s fl 0
def cellsU : List Int := (halls s fl 5).set (upc s fl).toNat 3
/-- How far each cell is from the up stair. -/
def fld (c : List Int) (u : Int) : List Int := ((f27 c [] [u]).getD ([], ())).1
theorem fld_is (c : List Int) (hc : CB c) (u : Int) : f27 c [] [u] = some (fld c u, ()) ∧ IsField (opnC c []) (IsT c [u]) (fld c u) := by
  obtain ⟨y, e, h⟩ := rfield_is c hc [] [u] (by simp)
  unfold fld
  rw [e]
  exact ⟨rfl, h⟩
def dist : List Int := fld (cellsU s fl) (upc s fl)
/-- The farthest of the first n cells. -/
def farOf (f : List Int) (u : Int) (n : Nat) : Int := (List.range n).foldl (fun far (i : Nat) => if Field.rd f i > Field.rd f far then i else far) u
def far : Int := farOf (dist s fl) (upc s fl) 384
def cellsD : List Int := (cellsU s fl).set (far s fl).toNat 4
/-- Where the shop is. -/
def shopAt : Option Nat := if dv s fl 6 0 2 = 0 then (List.range 384).find? fun i : Nat => (cellsD s fl).getD i 0 == 1 && (dist s fl).getD i 0 == Field.rd (dist s fl) (far s fl) / 2 else none
def cells : List Int := match shopAt s fl with | some i => (cellsD s fl).set i 5 | none => cellsD s fl
/-- The cells of the floor that are so far away and not taken. -/
def frees (c f : List Int) (far : Int) (taken : List Int) : List Int := ((List.range 384).filter fun i : Nat => c.getD i 0 == 1 && decide (far ≤ f.getD i 0) && !taken.contains (i : Int)).map fun i : Nat => (i : Int)
def entAt (k : Int) (at' : Int) : EntT := match 2 + dv s fl (16 + k) 1 (min (fl + 1) 3) with
  | 2 => (2, 0, 0, at' % 24, at' / 24, 4, 4, 2, 0, 0, 0)
  | 3 => (3, 0, 0, at' % 24, at' / 24, 9, 9, 4, 1, 0, 0)
  | _ => (4, 0, 0, at' % 24, at' / 24, 6, 6, 3, 0, 0, 0)
def mons (c f : List Int) : Nat → Int → List Int → List EntT → List EntT
  | 0, _, _, es => es
  | n + 1, k, taken, es => if frees c f 4 taken = [] then es else mons c f n (k + 1) (taken ++ [(frees c f 4 taken).getD (dv s fl (7 + k) 0 (frees c f 4 taken).length).toNat 0]) (es ++ [entAt s fl k ((frees c f 4 taken).getD (dv s fl (7 + k) 0 (frees c f 4 taken).length).toNat 0)])
def its (c f : List Int) : Nat → Int → List Int → List ItT → List ItT
  | 0, _, _, l => l
  | n + 1, k, taken, l => if frees c f 0 taken = [] then its c f n (k + 1) taken l else its c f n (k + 1) (taken ++ [(frees c f 0 taken).getD (dv s fl (40 + k) 0 (frees c f 0 taken).length).toNat 0])
      (l ++ [(1 + dv s fl (40 + k) 1 4, 1, (frees c f 0 taken).getD (dv s fl (40 + k) 0 (frees c f 0 taken).length).toNat 0 % 24, (frees c f 0 taken).getD (dv s fl (40 + k) 0 (frees c f 0 taken).length).toNat 0 / 24)])
def ware (k : Int) : ItT := (1 + dv s fl (50 + k) 1 3, 4, k, 0)
def wares : List ItT := if (shopAt s fl).isSome then [ware s fl 0, ware s fl 1, ware s fl 2] else []
/-- A floor. -/
def floor : Res := (cells s fl, mons s fl (cells s fl) (dist s fl) (fl + 2).toNat 0 [] [], its s fl (cells s fl) (dist s fl) 4 0 [] [] ++ wares s fl, ())
end
end
end Go.Proofs.Ytjmbmpeflhkngaa.Fl
/- A floor in plain words: what its cells are (own work). -/
namespace Go.Proofs.Ytjmbmpeflhkngaa.Fl
open Go Go.Proofs.Ytjmbmpeflhkngaa.Mx Go.Proofs.Ytjmbmpeflhkngaa.Pc Go.Proofs.Ytjmbmpeflhkngaa.Run Go.Proofs.Ytjmbmpeflhkngaa.Field Go.Proofs.Ytjmbmpeflhkngaa.Gen Go.Proofs.Ytjmbmpeflhkngaa.GenL
set_option linter.unusedVariables false
set_option linter.unusedSimpArgs false
/-- Within the outer walls. -/
def Inn (n : Nat) : Prop := 1 ≤ n % 24 ∧ n % 24 ≤ 22 ∧ 1 ≤ n / 24 ∧ n / 24 ≤ 14
/-- Cells while they are dug: wall, floor, doors; the doors are among D. -/
structure HI (c : List Int) (D : List Nat) : Prop where
  len : c.length = 384
  val : ∀ n, 0 ≤ c.getD n 0 ∧ c.getD n 0 ≤ 2
  inn : ∀ n, c.getD n 0 ≠ 0 → Inn n
  door : ∀ n, c.getD n 0 = 2 → n ∈ D
theorem HI.blank : HI (List.replicate 384 0) [] := by
  have gd : ∀ i, (List.replicate 384 (0 : Int)).getD i 0 = 0 := fun i => by
    rw [List.getD_eq_getElem?_getD, List.getElem?_replicate]
    split <;> rfl
  exact ⟨List.length_replicate, fun n => by rw [gd]; decide, fun n h => absurd (gd n) h, fun n h => by rw [gd] at h; cases h⟩
theorem getD_out {c : List Int} (h : c.length = 384) {n : Nat} (hn : ¬ n < 384) : c.getD n 0 = 0 := by
  rw [List.getD_eq_getElem?_getD, List.getElem?_eq_none (by omega)]; rfl
theorem carve_get' (c : List Int) (hc : c.length = 384) (x y w h : Int) (n : Nat) (hyh : y + h ≤ 16) : (carve c x y w h).getD n 0 = if inRect x y w h n then 1 else c.getD n 0 := by
  by_cases hn : n < 384
  · exact carve_get c x y w h n hn
  · rw [getD_out (carve_len c x y w h) hn, getD_out hc hn]
    have : inRect x y w h n = false := by unfold inRect; simp only [decide_eq_false_iff_not]; omega
    rw [this]; rfl
theorem HI.carve {c : List Int} {D : List Nat} (h : HI c D) {x y w h' : Int} (hx : 1 ≤ x) (hw : x + w ≤ 23) (hy : 1 ≤ y) (hh : y + h' ≤ 15) : HI (carve c x y w h') D := by
  have g := fun n => carve_get' c h.len x y w h' n (by omega)
  refine ⟨carve_len .., fun n => ?_, fun n hn => ?_, fun n hn => ?_⟩
  · rw [g]; split
    · decide
    · exact h.val n
  · rw [g] at hn
    cases e : inRect x y w h' n with
    | true =>
      unfold inRect at e
      have := of_decide_eq_true e
      unfold Inn
      omega
    | false =>
      rw [e] at hn
      exact h.inn n hn
  · rw [g] at hn
    cases e : inRect x y w h' n with
    | true => rw [e] at hn; simp at hn
    | false =>
      rw [e] at hn
      exact h.door n hn
theorem dg_hi {c : List Int} {D : List Nat} (h : HI c D) {x y : Int} (hx : 1 ≤ x ∧ x ≤ 22) (hy : 1 ≤ y ∧ y ≤ 14) (d : Bool) :
    ∃ D', HI (dg x y d c).2 D' ∧ D'.length + (if (dg x y d c).1 then 0 else 1) ≤ D.length + (if d then 0 else 1) := by
  unfold dg
  by_cases e : c.getD (y * 24 + x).toNat 0 ≠ 0
  · rw [if_pos e]
    exact ⟨D, h, Nat.le_refl _⟩
  · rw [if_neg e]
    have hl := h.len
    have inn : Inn (y * 24 + x).toNat := by unfold Inn; omega
    cases d with
    | true =>
      refine ⟨D, ⟨by rw [List.length_set]; exact hl, fun n => ?_, fun n hn => ?_, fun n hn => ?_⟩, Nat.le_refl _⟩
      · simp only [getD_set]
        split
        · simp
        · exact h.val n
      · simp only [getD_set] at hn
        split at hn
        · rename_i q; rw [← q.1]; exact inn
        · exact h.inn n hn
      · simp only [getD_set] at hn
        split at hn
        · simp at hn
        · exact h.door n hn
    | false =>
      refine ⟨(y * 24 + x).toNat :: D, ⟨by rw [List.length_set]; exact hl, fun n => ?_, fun n hn => ?_, fun n hn => ?_⟩, by simp⟩
      · simp only [getD_set]
        split
        · simp
        · exact h.val n
      · simp only [getD_set] at hn
        split at hn
        · rename_i q; rw [← q.1]; exact inn
        · exact h.inn n hn
      · simp only [getD_set] at hn
        split at hn
        · rename_i q; rw [← q.1]; exact List.mem_cons_self
        · exact List.mem_cons_of_mem _ (h.door n hn)
theorem hall_hi : ∀ (n : Nat) {c : List Int} {D : List Nat} {x y X Y : Int} {first d : Bool}, HI c D → (1 ≤ x ∧ x ≤ 22) → (1 ≤ y ∧ y ≤ 14) → (1 ≤ X ∧ X ≤ 22) → (1 ≤ Y ∧ Y ≤ 14) →
    ∃ D', HI (hall n x y X Y first d c) D' ∧ D'.length ≤ D.length + (if d then 0 else 1)
  | 0, c, D, x, y, X, Y, first, d, h, hx, hy, hX, hY => ⟨D, h, by omega⟩
  | n + 1, c, D, x, y, X, Y, first, d, h, hx, hy, hX, hY => by
    unfold hall
    by_cases e : x = X ∧ y = Y
    · rw [if_pos e]
      exact ⟨D, h, by omega⟩
    · rw [if_neg e]
      obtain ⟨g1, g2⟩ := stp_in first e hx hX hy hY
      obtain ⟨D1, h1, l1⟩ := dg_hi h g1 g2 d
      obtain ⟨D2, h2, l2⟩ := hall_hi n (first := first) (d := (dg (stp x y X Y first).1 (stp x y X Y first).2 d c).1) h1 g1 g2 hX hY
      exact ⟨D2, h2, by omega⟩
/-- What was no wall is none. -/
def Keep (c c' : List Int) : Prop := ∀ n, c.getD n 0 ≠ 0 → c'.getD n 0 ≠ 0
theorem Keep.refl (c : List Int) : Keep c c := fun _ h => h
theorem Keep.trans {a b c : List Int} (h : Keep a b) (h' : Keep b c) : Keep a c := fun n x => h' n (h n x)
theorem keep_set (c : List Int) (i : Nat) (v : Int) (hv : v ≠ 0) : Keep c (c.set i v) := fun n h => by
  rw [getD_set]
  split
  · exact hv
  · exact h
theorem dg_keep (x y : Int) (d : Bool) (c : List Int) : Keep c (dg x y d c).2 := by
  unfold dg
  split
  · exact Keep.refl c
  · exact keep_set c _ _ (by split <;> decide)
theorem hall_keep : ∀ (n : Nat) (c : List Int) (x y X Y : Int) (first d : Bool), Keep c (hall n x y X Y first d c)
  | 0, c, x, y, X, Y, first, d => Keep.refl c
  | n + 1, c, x, y, X, Y, first, d => by
    unfold hall
    split
    · exact Keep.refl c
    · exact (dg_keep _ _ d c).trans (hall_keep n _ _ _ _ _ _ _)
theorem carve_keep (c : List Int) (hc : c.length = 384) (x y w h : Int) (hyh : y + h ≤ 16) : Keep c (carve c x y w h) := fun n hn => by
  rw [carve_get' c hc x y w h n hyh]
  split
  · decide
  · exact hn
section
variable (s fl : Int)
theorem roomOf_hi (i : Int) {c : List Int} {D : List Nat} (h : HI c D) : HI (roomOf s fl i c) D := by
  have b := room_b s fl i
  exact h.carve (by omega) (by omega) (by omega) (by omega)
theorem rooms_hi' : ∀ n : Nat, HI ((List.range n).foldl (fun c (i : Nat) => roomOf s fl i c) (List.replicate 384 0)) []
  | 0 => HI.blank
  | n + 1 => by
    rw [List.range_succ, List.foldl_append]
    exact roomOf_hi s fl n (rooms_hi' n)
theorem rooms_hi : HI (rooms s fl) [] := rooms_hi' s fl 6
theorem halls_hi : ∀ n : Nat, ∃ D, HI (halls s fl n) D ∧ D.length ≤ n
  | 0 => ⟨[], rooms_hi s fl, Nat.le_refl _⟩
  | n + 1 => by
    obtain ⟨D, h, hl⟩ := halls_hi n
    have e : halls s fl (n + 1) = hallTo s fl ((n : Int) + 1) (halls s fl n) := by unfold halls; rw [List.range_succ, List.foldl_append]; rfl
    have b1 := mid_b s fl ((n : Int) + 1 - 1)
    have b2 := mid_b s fl ((n : Int) + 1)
    obtain ⟨D1, h1, l1⟩ := dg_hi h (x := mx s fl ((n : Int) + 1 - 1)) (y := my s fl ((n : Int) + 1 - 1)) (by omega) (by omega) false
    obtain ⟨D2, h2, l2⟩ := hall_hi (gap (mx s fl ((n : Int) + 1 - 1)) (my s fl ((n : Int) + 1 - 1)) (mx s fl ((n : Int) + 1)) (my s fl ((n : Int) + 1))) (first := dv s fl ((n : Int) + 1) 4 2 == 0) (d := (dg (mx s fl ((n : Int) + 1 - 1)) (my s fl ((n : Int) + 1 - 1)) false (halls s fl n)).1) h1 (X := mx s fl ((n : Int) + 1)) (Y := my s fl ((n : Int) + 1)) (x := mx s fl ((n : Int) + 1 - 1)) (y := my s fl ((n : Int) + 1 - 1)) (by omega) (by omega) (by omega) (by omega)
    rw [e]
    refine ⟨D2, h2, ?_⟩
    simp only [Bool.false_eq_true, if_false] at l1
    omega
theorem halls_keep : ∀ n : Nat, Keep (rooms s fl) (halls s fl n)
  | 0 => Keep.refl _
  | n + 1 => by
    have e : halls s fl (n + 1) = hallTo s fl ((n : Int) + 1) (halls s fl n) := by unfold halls; rw [List.range_succ, List.foldl_append]; rfl
    rw [e]
    exact (halls_keep n).trans ((dg_keep _ _ _ _).trans (hall_keep _ _ _ _ _ _ _ _))
theorem rooms_first' : ∀ n : Nat, 1 ≤ n → ∀ k : Nat, inRect (rx' s fl 0) (ry' s fl 0) (rw' s fl 0) (rh' s fl 0) k = true → ((List.range n).foldl (fun c (i : Nat) => roomOf s fl i c) (List.replicate 384 0)).getD k 0 ≠ 0
  | 0, h, _, _ => absurd h (by decide)
  | n + 1, _, k, hk => by
    rw [List.range_succ, List.foldl_append]
    have b := room_b s fl n
    have hl := (rooms_hi' s fl n).len
    show (carve ((List.range n).foldl (fun c (i : Nat) => roomOf s fl i c) (List.replicate 384 0)) (rx' s fl n) (ry' s fl n) (rw' s fl n) (rh' s fl n)).getD k 0 ≠ 0
    rw [carve_get' _ hl _ _ _ _ _ (by omega)]
    by_cases e : n = 0
    · subst e
      have hk' : inRect (rx' s fl ((0 : Nat) : Int)) (ry' s fl ((0 : Nat) : Int)) (rw' s fl ((0 : Nat) : Int)) (rh' s fl ((0 : Nat) : Int)) k = true := hk
      rw [if_pos hk']; decide
    · split
      · decide
      · exact rooms_first' n (by omega) k hk
/-- The first room's cells are no walls. -/
theorem halls_first (n : Nat) (k : Nat) (hk : inRect (rx' s fl 0) (ry' s fl 0) (rw' s fl 0) (rh' s fl 0) k = true) : (halls s fl n).getD k 0 ≠ 0 := halls_keep s fl n k (rooms_first' s fl 6 (by decide) k hk)
theorem upc_b : Inn (upc s fl).toNat ∧ 0 ≤ upc s fl ∧ upc s fl < 384 := by
  have b := mid_b s fl 0
  unfold upc Inn
  omega
theorem upc_gc : GC (upc s fl) := ⟨(upc_b s fl).2.1, (upc_b s fl).2.2⟩
theorem cellsU_get (n : Nat) : (cellsU s fl).getD n 0 = if n = (upc s fl).toNat then 3 else (halls s fl 5).getD n 0 := by
  obtain ⟨D, h, _⟩ := halls_hi s fl 5
  have b := upc_b s fl
  have hl := h.len
  unfold cellsU
  rw [getD_set]
  by_cases e : n = (upc s fl).toNat
  · rw [if_pos e, if_pos ⟨e.symm, by omega⟩]
  · rw [if_neg e, if_neg (fun q => e q.1.symm)]
theorem cellsU_len : (cellsU s fl).length = 384 := by
  obtain ⟨D, h, _⟩ := halls_hi s fl 5
  unfold cellsU
  rw [List.length_set]
  exact h.len
theorem cellsU_val (n : Nat) : 0 ≤ (cellsU s fl).getD n 0 ∧ (cellsU s fl).getD n 0 ≤ 3 := by
  obtain ⟨D, h, _⟩ := halls_hi s fl 5
  rw [cellsU_get]
  have := h.val n
  split
  · decide
  · omega
theorem cellsU_cb : CB (cellsU s fl) := fun i => by have := cellsU_val s fl i; omega
theorem cellsU_inn (n : Nat) (h : (cellsU s fl).getD n 0 ≠ 0) : Inn n := by
  obtain ⟨D, hi, _⟩ := halls_hi s fl 5
  rw [cellsU_get] at h
  by_cases e : n = (upc s fl).toNat
  · rw [e]; exact (upc_b s fl).1
  · rw [if_neg e] at h
    exact hi.inn n h
theorem wk_iff {c : List Int} {n : Int} (h : 0 ≤ c.getD n.toNat 0 ∧ c.getD n.toNat 0 ≤ 5) : Wk c n ↔ c.getD n.toNat 0 ≠ 0 := by
  show walkable (c.getD n.toNat 0) = true ↔ _
  unfold walkable
  rw [decide_eq_true_eq]
  omega
theorem dist_is : IsField (opnC (cellsU s fl) []) (IsT (cellsU s fl) [upc s fl]) (dist s fl) := (fld_is (cellsU s fl) (cellsU_cb s fl) (upc s fl)).2
theorem up_wk : Wk (cellsU s fl) (upc s fl) := by
  have v := cellsU_val s fl (upc s fl).toNat
  rw [wk_iff (by omega), cellsU_get, if_pos rfl]; decide
theorem dist_up : Field.rd (dist s fl) (upc s fl) = 0 := ((dist_is s fl).zero _ (upc_gc s fl)).2 ⟨by simp, up_wk s fl⟩
theorem dist_zero (n : Int) (hn : GC n) (h : Field.rd (dist s fl) n = 0) : n = upc s fl := by
  have := (((dist_is s fl).zero n hn).1 h).1
  simpa using this
theorem dist_wk (n : Int) (hn : GC n) (h : 0 ≤ Field.rd (dist s fl) n) : Wk (cellsU s fl) n := by
  by_cases h0 : Field.rd (dist s fl) n = 0
  · rw [dist_zero s fl n hn h0]; exact up_wk s fl
  · exact ((dist_is s fl).up n hn (by omega)).1.1
theorem nodup_le : ∀ (N : Nat) (l : List Nat), l.Nodup → (∀ x ∈ l, x < N) → l.length ≤ N
  | 0, l, _, h => by
    cases l with
    | nil => exact Nat.le_refl _
    | cons a l => exact absurd (h a List.mem_cons_self) (Nat.not_lt_zero a)
  | N + 1, l, hn, h => by
    have h1 : (l.erase N).Nodup := hn.erase N
    have h2 := nodup_le N (l.erase N) h1 fun x hx => by
      have a := h x (List.mem_of_mem_erase hx)
      have b : x ≠ N := fun e => by
        subst e
        exact (hn.not_mem_erase) hx
      omega
    by_cases hm : N ∈ l
    · have := List.length_erase_of_mem hm
      omega
    · have := List.erase_of_not_mem hm
      rw [this] at h2
      omega
theorem field_chain {opn T : Int → Prop} {f : List Int} (h : IsField opn T f) : ∀ (d : Nat) (n : Int), GC n → Field.rd f n = d → ∃ l : List Nat, l.length = d + 1 ∧ l.Nodup ∧ ∀ x ∈ l, x < 384 ∧ Field.rd f x ≤ d
  | 0, n, hn, e => ⟨[n.toNat], rfl, by simp, fun x hx => by
    unfold GC at hn
    have : x = n.toNat := by simpa using hx
    subst this
    rw [show ((n.toNat : Nat) : Int) = n by omega, e]
    exact ⟨by omega, Int.le_refl _⟩⟩
  | d + 1, n, hn, e => by
    obtain ⟨ho, m, hm, ha, hv⟩ := h.up n hn (by omega)
    obtain ⟨l, h1, h2, h3⟩ := field_chain h d m hm (by omega)
    unfold GC at hn
    refine ⟨n.toNat :: l, by simp [h1], List.nodup_cons.2 ⟨fun hx => ?_, h2⟩, fun x hx => ?_⟩
    · have := (h3 _ hx).2
      rw [show ((n.toNat : Nat) : Int) = n by omega, e] at this
      omega
    · rcases List.mem_cons.1 hx with rfl | hx
      · rw [show ((n.toNat : Nat) : Int) = n by omega, e]
        exact ⟨by omega, by omega⟩
      · have := h3 x hx
        omega
/-- No cell is farther than there are cells. -/
theorem field_lt {opn T : Int → Prop} {f : List Int} (h : IsField opn T f) (n : Int) (hn : GC n) : Field.rd f n ≤ 383 := by
  by_cases h0 : 0 ≤ Field.rd f n
  · obtain ⟨l, h1, h2, h3⟩ := field_chain h (Field.rd f n).toNat n hn (by omega)
    have := nodup_le 384 l h2 fun x hx => (h3 x hx).1
    omega
  · omega
/-- What the farthest cell is. -/
theorem farOf_is (f : List Int) (u : Int) : ∀ n : Nat, n ≤ 384 → (farOf f u n = u ∨ ∃ i : Nat, i < n ∧ farOf f u n = i ∧ Field.rd f u < Field.rd f i ∧ ∀ j : Nat, j < i → Field.rd f j < Field.rd f i) ∧ ∀ j : Nat, j < n → Field.rd f j ≤ Field.rd f (farOf f u n)
  | 0, _ => ⟨.inl rfl, fun j hj => absurd hj (Nat.not_lt_zero j)⟩
  | n + 1, hn => by
    obtain ⟨h1, h2⟩ := farOf_is f u n (by omega)
    have e : farOf f u (n + 1) = if Field.rd f n > Field.rd f (farOf f u n) then (n : Int) else farOf f u n := by unfold farOf; rw [List.range_succ, List.foldl_append]; rfl
    rw [e]
    by_cases g : Field.rd f n > Field.rd f (farOf f u n)
    · rw [if_pos g]
      refine ⟨.inr ⟨n, by omega, rfl, ?_, fun j hj => ?_⟩, fun j hj => ?_⟩
      · rcases h1 with q | ⟨i, hi, q, q1, q2⟩
        · rw [q] at g; exact g
        · rw [q] at g; omega
      · have := h2 j hj; omega
      · by_cases ej : j = n
        · subst ej; exact Int.le_refl _
        · have := h2 j (by omega); omega
    · rw [if_neg g]
      refine ⟨h1.imp id fun ⟨i, a, b, c, d⟩ => ⟨i, by omega, b, c, d⟩, fun j hj => ?_⟩
      by_cases ej : j = n
      · subst ej; omega
      · exact h2 j (by omega)
/-- Right of the up stair is the first room's floor, too: one step away. -/
theorem dist_right : ∃ n, GC n ∧ Field.rd (dist s fl) n = 1 := by
  have b := room_b s fl 0
  have eu : upc s fl = (ry' s fl 0 + rh' s fl 0 / 2) * 24 + (rx' s fl 0 + rw' s fl 0 / 2) := rfl
  have ub := upc_b s fl
  refine ⟨upc s fl - 1, ⟨by omega, by omega⟩, ?_⟩
  have ad : adj (upc s fl - 1) (upc s fl) := by
    have := adj_x (m := upc s fl - 1) (by omega)
    rw [show upc s fl - 1 + 1 = upc s fl by omega] at this
    exact this
  have hne : (cellsU s fl).getD (upc s fl - 1).toNat 0 ≠ 0 := by
    rw [cellsU_get, if_neg (by omega)]
    refine halls_first s fl 5 _ ?_
    unfold inRect
    rw [decide_eq_true_eq]
    omega
  have hw : Wk (cellsU s fl) (upc s fl - 1) := by
    have v := cellsU_val s fl (upc s fl - 1).toNat
    rw [wk_iff (by omega)]; exact hne
  have gc : GC (upc s fl - 1) := ⟨by omega, by omega⟩
  have := (dist_is s fl).down (upc s fl) (upc s fl - 1) (upc_gc s fl) gc (by rw [dist_up]; decide) (adj_sym _ _ gc (upc_gc s fl) ad) ⟨hw, fun x => absurd x.2 (by simp)⟩
  rw [dist_up] at this
  by_cases h0 : Field.rd (dist s fl) (upc s fl - 1) = 0
  · have := dist_zero s fl _ gc h0; omega
  · omega
theorem far_is : ∃ i : Nat, i < 384 ∧ far s fl = i ∧ 1 ≤ Field.rd (dist s fl) i ∧ (∀ j : Nat, j < i → Field.rd (dist s fl) j < Field.rd (dist s fl) i) ∧ ∀ j : Nat, j < 384 → Field.rd (dist s fl) j ≤ Field.rd (dist s fl) i := by
  obtain ⟨h1, h2⟩ := farOf_is (dist s fl) (upc s fl) 384 (Nat.le_refl _)
  obtain ⟨n, gn, hn⟩ := dist_right s fl
  have := h2 n.toNat (by unfold GC at gn; omega)
  rw [show ((n.toNat : Nat) : Int) = n by unfold GC at gn; omega, hn] at this
  rcases h1 with q | ⟨i, hi, q, q1, q2⟩
  · rw [q, dist_up] at this; exact absurd this (by decide)
  · have e : far s fl = i := q
    refine ⟨i, hi, q, by rw [q] at this; exact this, q2, fun j hj => ?_⟩
    have := h2 j hj
    rw [q] at this
    exact this
theorem far_gc : GC (far s fl) := by obtain ⟨i, hi, e, _⟩ := far_is s fl; rw [e]; exact ⟨by omega, by omega⟩
theorem far_dist : 1 ≤ Field.rd (dist s fl) (far s fl) := by obtain ⟨i, hi, e, h, _⟩ := far_is s fl; rw [e]; exact h
theorem far_ne : far s fl ≠ upc s fl := fun e => by
  have := far_dist s fl
  rw [e, dist_up] at this
  exact absurd this (by decide)
theorem far_wk : Wk (cellsU s fl) (far s fl) := dist_wk s fl _ (far_gc s fl) (by have := far_dist s fl; omega)
theorem cellsD_len : (cellsD s fl).length = 384 := by unfold cellsD; rw [List.length_set]; exact cellsU_len s fl
theorem cellsD_get (n : Nat) : (cellsD s fl).getD n 0 = if n = (far s fl).toNat then 4 else (cellsU s fl).getD n 0 := by
  have hl := cellsU_len s fl
  have g := far_gc s fl
  unfold GC at g
  unfold cellsD
  rw [getD_set]
  by_cases e : n = (far s fl).toNat
  · rw [if_pos e, if_pos ⟨e.symm, by omega⟩]
  · rw [if_neg e, if_neg (fun q => e q.1.symm)]
theorem shop_is {i : Nat} (h : shopAt s fl = some i) : i < 384 ∧ (cellsD s fl).getD i 0 = 1 := by
  unfold shopAt at h
  split at h
  · have h1 := List.mem_of_find?_eq_some h
    have h2 := List.find?_some h
    simp only [Bool.and_eq_true, beq_iff_eq] at h2
    exact ⟨List.mem_range.1 h1, h2.1⟩
  · cases h
theorem cells_len : (cells s fl).length = 384 := by
  unfold cells
  split
  · rw [List.length_set]; exact cellsD_len s fl
  · exact cellsD_len s fl
theorem cells_get (n : Nat) : (cells s fl).getD n 0 = if shopAt s fl = some n then 5 else (cellsD s fl).getD n 0 := by
  have hl := cellsD_len s fl
  unfold cells
  cases h : shopAt s fl with
  | none => rw [if_neg (by simp)]
  | some i =>
    simp only
    have hi := shop_is s fl h
    rw [getD_set]
    by_cases e : i = n
    · rw [if_pos ⟨e, by omega⟩, if_pos (by rw [e])]
    · rw [if_neg (fun q => e q.1), if_neg (fun q => e (by cases q; rfl))]
/-- All at once. -/
theorem cells_at (n : Nat) : (cells s fl).getD n 0 = if shopAt s fl = some n then 5 else if n = (far s fl).toNat then 4 else if n = (upc s fl).toNat then 3 else (halls s fl 5).getD n 0 := by
  rw [cells_get, cellsD_get, cellsU_get]
theorem cells_zero (n : Nat) : (cells s fl).getD n 0 ≠ 0 ↔ (cellsU s fl).getD n 0 ≠ 0 := by
  rw [cells_get, cellsD_get]
  by_cases h : shopAt s fl = some n
  · rw [if_pos h]
    have := (shop_is s fl h).2
    rw [cellsD_get] at this
    constructor
    · intro _
      split at this
      · simp at this
      · rw [this]; decide
    · intro _; decide
  · rw [if_neg h]
    by_cases e : n = (far s fl).toNat
    · rw [if_pos e]
      constructor
      · intro _
        have v := cellsU_val s fl (far s fl).toNat
        have := (wk_iff (by omega)).1 (far_wk s fl)
        rw [e]; exact this
      · intro _; decide
    · rw [if_neg e]
theorem cells_val (n : Nat) : 0 ≤ (cells s fl).getD n 0 ∧ (cells s fl).getD n 0 ≤ 5 := by
  rw [cells_get, cellsD_get]
  have := cellsU_val s fl n
  split
  · decide
  · split
    · decide
    · omega
theorem cells_cb : CB (cells s fl) := fun i => by have := cells_val s fl i; omega
theorem cells_wk (n : Int) : Wk (cells s fl) n ↔ Wk (cellsU s fl) n := by
  have v := cellsU_val s fl n.toNat
  rw [wk_iff (cells_val s fl _), wk_iff (by omega)]
  exact cells_zero s fl n.toNat
theorem cells_inn (n : Nat) (h : (cells s fl).getD n 0 ≠ 0) : Inn n := cellsU_inn s fl n ((cells_zero s fl n).1 h)
theorem cells_up (n : Nat) : (cells s fl).getD n 0 = 3 ↔ n = (upc s fl).toNat := by
  obtain ⟨D, h, _⟩ := halls_hi s fl 5
  have hv := h.val n
  have g1 := far_gc s fl
  have g2 := upc_gc s fl
  have ne := far_ne s fl
  unfold GC at g1 g2
  rw [cells_at]
  constructor
  · intro e
    split at e
    · simp at e
    · split at e
      · simp at e
      · split at e
        · assumption
        · omega
  · intro e
    rw [if_neg, if_neg (by omega), if_pos e]
    intro q
    have := (shop_is s fl q).2
    rw [cellsD_get, if_neg (by omega), cellsU_get, if_pos e] at this
    simp at this
theorem cells_down (n : Nat) : (cells s fl).getD n 0 = 4 ↔ n = (far s fl).toNat := by
  obtain ⟨D, h, _⟩ := halls_hi s fl 5
  have hv := h.val n
  rw [cells_at]
  constructor
  · intro e
    split at e
    · simp at e
    · split at e
      · assumption
      · split at e
        · simp at e
        · omega
  · intro e
    rw [if_neg, if_pos e]
    intro q
    have := (shop_is s fl q).2
    rw [cellsD_get, if_pos e] at this
    simp at this
theorem cells_shop (n : Nat) : (cells s fl).getD n 0 = 5 ↔ shopAt s fl = some n := by
  obtain ⟨D, h, _⟩ := halls_hi s fl 5
  have hv := h.val n
  rw [cells_at]
  constructor
  · intro e
    split at e
    · assumption
    · split at e
      · simp at e
      · split at e
        · simp at e
        · omega
  · intro e
    rw [if_pos e]
theorem cells_door : ∃ D : List Nat, D.length ≤ 5 ∧ ∀ n, (cells s fl).getD n 0 = 2 → n ∈ D := by
  obtain ⟨D, h, hl⟩ := halls_hi s fl 5
  refine ⟨D, hl, fun n e => h.door n ?_⟩
  rw [cells_at] at e
  split at e
  · simp at e
  · split at e
    · simp at e
    · split at e
      · simp at e
      · exact e
end
end Go.Proofs.Ytjmbmpeflhkngaa.Fl
/- The document's floor is the floor in plain words (own work). -/
namespace Go.Proofs.Ytjmbmpeflhkngaa.Fl
open Go Go.Proofs.Ytjmbmpeflhkngaa.Mx Go.Proofs.Ytjmbmpeflhkngaa.Pc Go.Proofs.Ytjmbmpeflhkngaa.Run Go.Proofs.Ytjmbmpeflhkngaa.Field Go.Proofs.Ytjmbmpeflhkngaa.Gen Go.Proofs.Ytjmbmpeflhkngaa.GenL
set_option linter.unusedVariables false
set_option linter.unusedSimpArgs false
theorem row_r (k0 : Int × Int × Int × Int × Int × Int × Int × Int × List Int × Tail → Option Res) (Q : Res → Prop) (s fl i w h x y b : Int) (c : List Int) (t : Tail) (hc : c.length = 384) (hx : 0 ≤ x) (hw : 0 ≤ w) (hxw : x + w ≤ 24) (hb : 0 ≤ b ∧ b < 16)
    (k : OK (k0 (s, fl, i, w, h, x, y, b + 1, carve c x b w 1, t)) Q) : OK (f40.L1 k0 (s, fl, i, w, h, x, y, b, x, c, t)) Q := by
  unfold f40.L1
  refine OK.loop (fun j : Nat × List Int => (s, fl, i, w, h, x, y, b, x + (j.1 : Int), j.2, t)) (fun j => (j.1 : Int) ≤ w ∧ j.2.length = 384 ∧ ∀ n : Nat, n < 384 → j.2.getD n 0 = if inRect x b j.1 1 n then 1 else c.getD n 0) (fun j => w.toNat - j.1) (fun rec j hj ih => ?_) (0, c) (by simp) ⟨by dsimp only; omega, hc, fun n hn => by
    have : inRect x b ((0 : Nat) : Int) 1 n = false := by unfold inRect; simp only [decide_eq_false_iff_not]; omega
    dsimp only
    rw [this]; rfl⟩ (by dsimp only; omega)
  obtain ⟨j, c1⟩ := j
  obtain ⟨hj, hc1, hg⟩ := hj
  dsimp only at hj hc1 hg ih ⊢
  rw [wr (x := x + w) (by omega), bif_dec]
  by_cases q : x + (j : Int) < x + w
  · have e : IntKind.wrap .i64 (IntKind.wrap .i64 (b * 24) + (x + (j : Int))) = b * 24 + (x + j) := by rw [wr (x := b * 24) (by omega), wr (by omega)]
    rw [if_pos q, e, inR (by omega), cond_true, wr (by omega)]
    refine ih (j + 1, c1.set (b * 24 + (x + j)).toNat 1) ⟨by dsimp only; omega, by dsimp only; rw [List.length_set]; exact hc1, fun n hn => ?_⟩ (by dsimp only; omega) _ (by
      have : x + (j : Int) + 1 = x + ((j + 1 : Nat) : Int) := by omega
      rw [this])
    dsimp only
    rw [getD_set, hg n hn]
    by_cases e1 : (b * 24 + (x + j)).toNat = n
    · have : inRect x b ((j + 1 : Nat) : Int) 1 n = true := by unfold inRect; rw [decide_eq_true_eq]; omega
      rw [if_pos ⟨e1, by omega⟩, this]; rfl
    · rw [if_neg (fun z => e1 z.1)]
      have : inRect x b ((j + 1 : Nat) : Int) 1 n = inRect x b (j : Int) 1 n := by unfold inRect; rw [decide_eq_decide]; omega
      rw [this]
  · rw [if_neg q, wr (by omega)]
    have ej : (j : Int) = w := by omega
    have : c1 = carve c x b w 1 := list_ext hc1 (carve_len ..) fun n hn => by rw [hg n hn, carve_get _ _ _ _ _ n hn, ej]
    rw [this]
    exact k
theorem room_r (k0 : Int × Int × Int × List Int × Tail → Option Res) (Q : Res → Prop) (s fl w h x y : Int) (i : Nat) (hi : i < 6) (c : List Int) (t : Tail) (hc : c.length = 384) (hx : 0 ≤ x) (hw : 1 ≤ w) (hxw : x + w ≤ 24) (hy : 0 ≤ y) (hh : 1 ≤ h) (hyh : y + h ≤ 16)
    (k : ∀ t', (∀ j, j < 6 → mxs t' j = if j = i then x + w / 2 else mxs t j) → (∀ j, j < 6 → mys t' j = if j = i then y + h / 2 else mys t j) → OK (k0 (s, fl, ((i + 1 : Nat) : Int), carve c x y w h, t')) Q) : OK (f40.L2 k0 (s, fl, (i : Int), w, h, x, y, y, c, t)) Q := by
  unfold f40.L2
  refine OK.loop (fun j : Nat × List Int => (s, fl, (i : Int), w, h, x, y, y + (j.1 : Int), j.2, t)) (fun j => (j.1 : Int) ≤ h ∧ j.2.length = 384 ∧ ∀ n : Nat, n < 384 → j.2.getD n 0 = if inRect x y w j.1 n then 1 else c.getD n 0) (fun j => h.toNat - j.1) (fun rec j hj ih => ?_) (0, c) (by simp) ⟨by dsimp only; omega, hc, fun n hn => by
    have : inRect x y w ((0 : Nat) : Int) n = false := by unfold inRect; simp only [decide_eq_false_iff_not]; omega
    dsimp only
    rw [this]; rfl⟩ (by dsimp only; omega)
  obtain ⟨j, c1⟩ := j
  obtain ⟨hj, hc1, hg⟩ := hj
  dsimp only at hj hc1 hg ih ⊢
  rw [wr (x := y + h) (by omega), bif_dec]
  by_cases q : y + (j : Int) < y + h
  · rw [if_pos q]
    refine row_r rec Q s fl (i : Int) w h x y (y + j) c1 t hc1 hx (by omega) hxw (by omega) ?_
    refine ih (j + 1, carve c1 x (y + j) w 1) ⟨by dsimp only; omega, carve_len .., fun n hn => ?_⟩ (by dsimp only; omega) _ (by
      have : y + (j : Int) + 1 = y + ((j + 1 : Nat) : Int) := by omega
      rw [this])
    dsimp only
    rw [carve_get _ _ _ _ _ n hn, hg n hn]
    by_cases e1 : inRect x (y + j) w 1 n = true
    · have e1' := e1
      unfold inRect at e1'
      have e2 := of_decide_eq_true e1'
      have : inRect x y w ((j + 1 : Nat) : Int) n = true := by unfold inRect; rw [decide_eq_true_eq]; omega
      rw [if_pos e1, if_pos this]
    · have e1' := e1
      unfold inRect at e1'
      rw [decide_eq_true_eq] at e1'
      have : inRect x y w ((j + 1 : Nat) : Int) n = inRect x y w (j : Int) n := by unfold inRect; rw [decide_eq_decide]; omega
      rw [if_neg e1, this]
  · have wx : IntKind.wrap .i64 (x + IntKind.wrap .i64 (Int.tdiv w 2)) = x + w / 2 := by
      rw [Int.tdiv_eq_ediv_of_nonneg (by omega), wr (x := w / 2) (by omega), wr (by omega)]
    have wy : IntKind.wrap .i64 (y + IntKind.wrap .i64 (Int.tdiv h 2)) = y + h / 2 := by
      rw [Int.tdiv_eq_ediv_of_nonneg (by omega), wr (x := h / 2) (by omega), wr (by omega)]
    have wi : IntKind.wrap .i64 ((i : Int) + 1) = ((i + 1 : Nat) : Int) := by rw [wr (by omega)]; omega
    have ej : (j : Int) = h := by omega
    have : c1 = carve c x y w h := list_ext hc1 (carve_len ..) fun n hn => by rw [hg n hn, carve_get _ _ _ _ _ n hn, ej]
    rw [if_neg q, inR (by omega), cond_true, cond_true, wx, wy, wi, Int.toNat_natCast, this]
    have key : ∀ p : Nat, ∀ a b : Int, (if i = p then a else b) = if p = i then a else b := fun p a b => by
      by_cases e : i = p
      · rw [if_pos e, if_pos e.symm]
      · rw [if_neg e, if_neg (fun x => e x.symm)]
    refine k _ (fun j hj => ?_) (fun j hj => ?_)
    · match j, hj with
      | 0, _ => exact key 0 _ _
      | 1, _ => exact key 1 _ _
      | 2, _ => exact key 2 _ _
      | 3, _ => exact key 3 _ _
      | 4, _ => exact key 4 _ _
      | 5, _ => exact key 5 _ _
    · match j, hj with
      | 0, _ => exact key 0 _ _
      | 1, _ => exact key 1 _ _
      | 2, _ => exact key 2 _ _
      | 3, _ => exact key 3 _ _
      | 4, _ => exact key 4 _ _
      | 5, _ => exact key 5 _ _
theorem dig_r (x y : Int) (d : Bool) (c : List Int) (hc : c.length = 384) (hx : 0 ≤ x ∧ x < 24) (hy : 0 ≤ y ∧ y < 16) : f47 x y d c = some ((dg x y d c).1, (dg x y d c).2, ()) := by
  unfold f47 dg
  have e : IntKind.wrap .i64 (IntKind.wrap .i64 (y * 24) + x) = y * 24 + x := by rw [wr (x := y * 24) (by omega), wr (by omega)]
  rw [e, inR (by omega), cond_true, cond_true, inR (n := (c.set (y * 24 + x).toNat 1).length) (by rw [List.length_set]; omega), cond_true, List.set_set]
  by_cases q : c.getD (y * 24 + x).toNat 0 ≠ 0
  · have : (c.getD (y * 24 + x).toNat 0 != 0) = true := bne_iff_ne.2 q
    rw [this, if_pos q]; rfl
  · have : (c.getD (y * 24 + x).toNat 0 != 0) = false := by simpa using q
    rw [this, if_neg q]
    cases d <;> rfl
theorem dg_len (x y : Int) (d : Bool) (c : List Int) : (dg x y d c).2.length = c.length := by unfold dg; split <;> simp
theorem hall_zero (x y X Y : Int) (first d : Bool) (c : List Int) (h : x = X ∧ y = Y) : ∀ n, hall n x y X Y first d c = c
  | 0 => rfl
  | n + 1 => by unfold hall; rw [if_pos h]
theorem way_r (k0 : Int × Int × Int × List Int × Tail → Option Res) (Q : Res → Prop) (s fl : Int) (i : Nat) (hi : i < 6) (x y : Int) (door first : Bool) (c : List Int) (t : Tail) (hc : c.length = 384) (hx : GX x) (hy : GY y) (hX : GX (mxs t i)) (hY : GY (mys t i))
    (k : OK (k0 (s, fl, ((i + 1 : Nat) : Int), hall (gap x y (mxs t i) (mys t i)) x y (mxs t i) (mys t i) first door c, t)) Q) : OK (f40.L3 k0 (s, fl, (i : Int), x, y, door, first, c, t)) Q := by
  have eX : mxs t i = [t.1, t.2.1, t.2.2.1, t.2.2.2.1, t.2.2.2.2.1, t.2.2.2.2.2.1].getD i 0 := rfl
  have eY : mys t i = [t.2.2.2.2.2.2.1, t.2.2.2.2.2.2.2.1, t.2.2.2.2.2.2.2.2.1, t.2.2.2.2.2.2.2.2.2.1, t.2.2.2.2.2.2.2.2.2.2.1, t.2.2.2.2.2.2.2.2.2.2.2.1].getD i 0 := rfl
  generalize mxs t i = X at *
  generalize mys t i = Y at *
  generalize hH : hall (gap x y X Y) x y X Y first door c = H at k
  unfold f40.L3
  refine OK.loop (fun j : Int × Int × Bool × List Int => (s, fl, (i : Int), j.1, j.2.1, j.2.2.1, first, j.2.2.2, t)) (fun j => GX j.1 ∧ GY j.2.1 ∧ j.2.2.2.length = 384 ∧ hall (gap j.1 j.2.1 X Y) j.1 j.2.1 X Y first j.2.2.1 j.2.2.2 = H) (fun j => gap j.1 j.2.1 X Y) (fun rec j hj ih => ?_) (x, y, door, c) rfl ⟨hx, hy, hc, hH⟩ (by dsimp only; unfold gap; unfold GX at *; unfold GY at *; omega)
  clear hH hx hy hc
  obtain ⟨x, y, door, c⟩ := j
  obtain ⟨hx, hy, hc, hH⟩ := hj
  dsimp only at hx hy hc hH ih ⊢
  have wi : IntKind.wrap .i64 ((i : Int) + 1) = ((i + 1 : Nat) : Int) := by rw [wr (by omega)]; omega
  have ir : inRange (i : Int) 6 = true := inR (by omega)
  simp only [Int.toNat_natCast, ← eX, ← eY, ir, cond_true, wi]
  have hx' := hx
  have hy' := hy
  unfold GX at hx' hX
  unfold GY at hy' hY
  by_cases both : x = X ∧ y = Y
  · have q1 : (x != X) = false := by simp [both.1]
    have q2 : (y != Y) = false := by simp [both.2]
    rw [q1, q2, cond_false, cond_false]
    rw [hall_zero _ _ _ _ _ _ _ both] at hH
    subst hH
    exact OK.callR (R := fun z => ∃ q, z = Sum.inr q ∧ Q q) (OK.callR k fun q hq => OK.ret ⟨q, rfl, hq⟩) (fun z ⟨q, e, hq⟩ => by subst e; exact OK.ret hq)
  · have hg := stp_gap first both
    have hin := stp_in first both (x0 := 0) (x1 := 23) (y0 := 0) (y1 := 15) (by omega) (by omega) (by omega) (by omega)
    obtain ⟨n, en⟩ : ∃ n, gap x y X Y = n + 1 := ⟨_, hg.symm⟩
    rw [en] at hH
    unfold hall at hH
    rw [if_neg both] at hH
    have en' : gap (stp x y X Y first).1 (stp x y X Y first).2 X Y = n := by omega
    refine OK.callR (R := fun z => z = Sum.inl (s, fl, (i : Int), x, y, door, first, c, t)) ?_ ?_
    · by_cases h1 : x = X
      · have q1 : (x != X) = false := by simp [h1]
        have q2 : (y != Y) = true := by simp; exact fun e => both ⟨h1, e⟩
        rw [q1, q2, cond_false, cond_true]
        exact OK.ret rfl
      · have q1 : (x != X) = true := by simpa using h1
        rw [q1, cond_true]
        exact OK.ret rfl
    · intro z e
      subst e
      simp only [Sum.elim_inl, Int.toNat_natCast, ← eX, ← eY, ir, cond_true]
      refine OK.callR (R := fun z => z = Sum.inl (s, fl, (i : Int), (stp x y X Y first).1, (stp x y X Y first).2, door, first, c, t)) ?_ ?_
      · have gx : GX x := hx
        have gy : GY y := hy
        rw [toward_eq x X (by omega), toward_eq y Y (by omega)]
        simp only [Option.bind_some]
        cases first with
        | true =>
          by_cases h1 : x = X
          · have q1 : (x != X) = false := by simp [h1]
            have es : stp x y X Y true = (x, tow y Y) := if_neg (by simp [h1])
            rw [q1, es]
            exact OK.ret rfl
          · have q1 : (x != X) = true := by simpa using h1
            have es : stp x y X Y true = (tow x X, y) := if_pos (.inl ⟨rfl, h1⟩)
            rw [q1, es]
            exact OK.ret rfl
        | false =>
          by_cases h2 : y = Y
          · have q2 : (y == Y) = true := by simp [h2]
            have es : stp x y X Y false = (tow x X, y) := if_pos (.inr ⟨rfl, h2⟩)
            rw [q2, es]
            exact OK.ret rfl
          · have q2 : (y == Y) = false := by simpa using h2
            have es : stp x y X Y false = (x, tow y Y) := if_neg (by simp [h2])
            rw [q2, es]
            exact OK.ret rfl
      · intro z e
        subst e
        simp only [Sum.elim_inl]
        generalize stp x y X Y first = p at *
        obtain ⟨x', y'⟩ := p
        dsimp only at *
        rw [dig_r x' y' door c hc (by omega) (by omega)]
        simp only [Option.bind_some]
        refine ih (x', y', (dg x' y' door c).1, (dg x' y' door c).2) ⟨by dsimp only; unfold GX; omega, by dsimp only; unfold GY; omega, by dsimp only; rw [dg_len]; exact hc, ?_⟩ (by dsimp only; omega) _ rfl
        dsimp only
        rw [en']
        exact hH
/-- The place of the shop, as it is looked for. -/
def shopIs (c f : List Int) (far : Int) (i : Nat) : Bool := c.getD i 0 == 1 && f.getD i 0 == Field.rd f far / 2
theorem shop_r (s fl far : Int) (c f : List Int) (hc : c.length = 384) (hf : f.length = 384) (hfar : GC far) (h0 : 0 ≤ Field.rd f far ∧ Field.rd f far ≤ 100000) :
    f40.L4 (s, fl, far, false, 0, c, f, ()) = some (Sum.inl (s, fl, ((List.range 384).find? (shopIs c f far)).isSome, (match (List.range 384).find? (shopIs c f far) with | some i => c.set i 5 | none => c), f, ())) := by
  have hfar' := hfar
  unfold GC at hfar'
  have e2 : IntKind.wrap .i64 (Int.tdiv (f.getD far.toNat 0) 2) = Field.rd f far / 2 := by
    have : f.getD far.toNat 0 = Field.rd f far := rfl
    rw [this, Int.tdiv_eq_ediv_of_nonneg h0.1, wr (by omega)]
  have fin1 : ∀ i, i < 384 → shopIs c f far i = true → (∀ j, j < i → shopIs c f far j = false) → (List.range 384).find? (shopIs c f far) = some i := fun i hi h hj => List.find?_range_eq_some.2 ⟨h, List.mem_range.2 hi, fun j q => by rw [hj j q]; rfl⟩
  have fin0 : (∀ j, j < 384 → shopIs c f far j = false) → (List.range 384).find? (shopIs c f far) = none := fun hj => List.find?_range_eq_none.2 fun j q => by rw [hj j q]; rfl
  refine OK.eq ?_
  unfold f40.L4
  refine OK.loop (fun j : Nat × Bool × List Int => (s, fl, far, j.2.1, (j.1 : Int), j.2.2, f, ())) (fun j => j.1 ≤ 384 ∧ j.2.2.length = 384 ∧ ((j.2.1 = false ∧ j.2.2 = c ∧ ∀ k, k < j.1 → shopIs c f far k = false) ∨ (j.2.1 = true ∧ ∃ k, k < 384 ∧ shopIs c f far k = true ∧ (∀ i, i < k → shopIs c f far i = false) ∧ j.2.2 = c.set k 5))) (fun j => 384 - j.1) (fun rec j hj ih => ?_) (0, false, c) rfl ⟨Nat.zero_le _, hc, .inl ⟨rfl, rfl, fun k hk => absurd hk (Nat.not_lt_zero k)⟩⟩ (by dsimp only; decide)
  obtain ⟨i, b, c'⟩ := j
  obtain ⟨hi, hl, hI⟩ := hj
  dsimp only at hi hl hI ih ⊢
  have done : ∀ (b : Bool) (c' : List Int), (b = true ∧ ∃ k, k < 384 ∧ shopIs c f far k = true ∧ (∀ i, i < k → shopIs c f far i = false) ∧ c' = c.set k 5) →
      OK (some (Sum.inl (α := Int × Int × Bool × List Int × List Int × Unit) (β := Res) (s, fl, b, c', f, ()))) fun z => z = Sum.inl (s, fl, ((List.range 384).find? (shopIs c f far)).isSome, (match (List.range 384).find? (shopIs c f far) with | some i => c.set i 5 | none => c), f, ()) := by
    rintro b c' ⟨rfl, k, hk, h1, h2, rfl⟩
    rw [fin1 k hk h1 h2]
    exact OK.ret rfl
  by_cases c4 : i < 384
  · have c4' : (i : Int) < 384 := by omega
    have wj : IntKind.wrap .i64 ((i : Int) + 1) = ((i + 1 : Nat) : Int) := by rw [wr (by omega)]; omega
    rw [bif_dec, if_pos c4', inR (i := (i : Int)) (n := c'.length) (by omega), inR (i := (i : Int)) (n := f.length) (by omega), inR (i := far) (n := f.length) (by omega), wj, e2]
    simp only [cond_true, Int.toNat_natCast]
    rcases hI with ⟨rfl, rfl, hn⟩ | hI
    · rw [Bool.not_false, cond_true]
      have skip : shopIs c' f far i = false → OK (rec (s, fl, far, false, ((i + 1 : Nat) : Int), c', f, ())) _ := fun hp => ih (i + 1, false, c') ⟨by dsimp only; omega, hl, .inl ⟨rfl, rfl, fun k hk => by
        rcases Nat.lt_or_ge k i with q | q
        · exact hn k q
        · have : k = i := by dsimp only at hk; omega
          rw [this]; exact hp⟩⟩ (by dsimp only; omega) _ rfl
      refine OK.bif (fun h1 => ?_) (fun h1 => skip (by unfold shopIs; rw [h1]; rfl))
      refine OK.bif (fun h2 => ?_) (fun h2 => skip (by unfold shopIs; rw [h2, Bool.and_false]))
      exact ih (i + 1, true, c'.set i 5) ⟨by dsimp only; omega, by dsimp only; rw [List.length_set]; exact hl, .inr ⟨rfl, i, c4, by unfold shopIs; rw [h1, h2]; rfl, hn, rfl⟩⟩ (by dsimp only; omega) _ rfl
    · have hb := hI.1
      subst hb
      exact done true c' hI
  · have c4' : ¬ (i : Int) < 384 := by omega
    rw [bif_dec, if_neg c4']
    rcases hI with ⟨rfl, rfl, hn⟩ | hI
    · rw [fin0 fun j hj => hn j (by omega)]
      exact OK.ret rfl
    · exact done b c' hI
theorem getD_map_cast (l : List Nat) (k : Nat) : (l.map fun i : Nat => (i : Int)).getD k 0 = ((l.getD k 0 : Nat) : Int) := by
  simp only [List.getD_eq_getElem?_getD, List.getElem?_map]
  cases l[k]? <;> rfl
/-- Which cell is picked. -/
noncomputable def pk (s fl : Int) (c f : List Int) (far a : Int) (taken : List Int) : Int := (frees c f far taken).getD (dv s fl a 0 (frees c f far taken).length).toNat 0
theorem frees_len (c f : List Int) (far : Int) (taken : List Int) : (frees c f far taken).length ≤ 384 := by
  unfold frees
  rw [List.length_map]
  have := List.length_filter_le (fun i : Nat => c.getD i 0 == 1 && decide (far ≤ f.getD i 0) && !taken.contains (i : Int)) (List.range 384)
  rw [List.length_range] at this
  exact this
theorem frees_mem {c f : List Int} {far : Int} {taken : List Int} {n : Int} (h : n ∈ frees c f far taken) : 0 ≤ n ∧ n < 384 ∧ c.getD n.toNat 0 = 1 ∧ far ≤ f.getD n.toNat 0 ∧ n ∉ taken := by
  unfold frees at h
  obtain ⟨i, hi, rfl⟩ := List.mem_map.1 h
  obtain ⟨h1, h2⟩ := List.mem_filter.1 hi
  have := List.mem_range.1 h1
  simp only [Bool.and_eq_true, beq_iff_eq, decide_eq_true_eq, Bool.not_eq_true', List.contains_eq_mem, decide_eq_false_iff_not] at h2
  rw [Int.toNat_natCast]
  exact ⟨by omega, by omega, h2.1.1, h2.1.2, h2.2⟩
theorem pk_mem (s fl : Int) (c f : List Int) (far a : Int) (taken : List Int) (h : frees c f far taken ≠ []) : pk s fl c f far a taken ∈ frees c f far taken := by
  have h1 : 1 ≤ (frees c f far taken).length := by
    cases e : frees c f far taken with
    | nil => exact absurd e h
    | cons _ _ => simp
  have hl := frees_len c f far taken
  have := (d_is s fl a 0 (frees c f far taken).length (by omega) (by omega)).2
  unfold pk
  rw [List.getD_eq_getElem?_getD, List.getElem?_eq_getElem (by omega)]
  exact List.getElem_mem _
/-- The rows that say which cells are used. -/
def Used (used : List Bool) (taken : List Int) : Prop := used.length = 384 ∧ ∀ i : Nat, i < 384 → used.getD i false = taken.contains (i : Int)
theorem Used.add {used : List Bool} {taken : List Int} (h : Used used taken) {n : Int} (hn : 0 ≤ n) : Used (used.set n.toNat true) (taken ++ [n]) := ⟨by rw [List.length_set]; exact h.1, fun i hi => by
  have hl := h.1
  rw [getD_set]
  have e0 : (taken ++ [n]).contains (i : Int) = (taken.contains (i : Int) || (i : Int) == n) := by
    simp only [List.contains_eq_mem, List.mem_append, List.mem_singleton, Bool.decide_or]
    rfl
  rw [e0, ← h.2 i hi]
  by_cases e : n.toNat = i
  · have : ((i : Int) == n) = true := by rw [beq_iff_eq]; omega
    rw [if_pos ⟨e, by omega⟩, this, Bool.or_true]
  · have : ((i : Int) == n) = false := by rw [beq_eq_false_iff_ne]; omega
    rw [if_neg (fun z => e z.1), this, Bool.or_false]⟩
theorem Used.none : Used (List.replicate 384 false) [] := ⟨List.length_replicate, fun i hi => by
  rw [List.getD_eq_getElem?_getD, List.getElem?_replicate]
  split <;> rfl⟩
theorem pick_r (c f : List Int) (far : Int) (used : List Bool) (taken : List Int) (s fl a : Int) (hc : c.length = 384) (hf : f.length = 384) (hu : Used used taken) :
    f49 c f far used s fl a = some (if frees c f far taken = [] then -1 else pk s fl c f far a taken, ()) := by
  have hul := hu.1
  refine OK.eq ?_
  unfold f49 f49.L1
  refine OK.loop (fun j : Nat × List Int => (c, f, far, used, s, fl, a, (j.1 : Int), j.2, ())) (fun j => j.1 ≤ 384 ∧ j.2 = ((List.range j.1).filter fun i : Nat => c.getD i 0 == 1 && decide (far ≤ f.getD i 0) && !taken.contains (i : Int)).map fun i : Nat => (i : Int)) (fun j => 384 - j.1) (fun rec j hj ih => ?_) (0, []) rfl ⟨Nat.zero_le _, rfl⟩ (by dsimp only; decide)
  obtain ⟨i, l⟩ := j
  obtain ⟨hi, hl⟩ := hj
  dsimp only at hi hl ih ⊢
  by_cases c4 : i < 384
  · have c4' : (i : Int) < 384 := by omega
    have wj : IntKind.wrap .i64 ((i : Int) + 1) = ((i + 1 : Nat) : Int) := by rw [wr (by omega)]; omega
    have hll : l.length ≤ 384 := by
      rw [hl, List.length_map]
      have := List.length_filter_le (fun i : Nat => c.getD i 0 == 1 && decide (far ≤ f.getD i 0) && !taken.contains (i : Int)) (List.range i)
      rw [List.length_range] at this
      omega
    rw [bif_dec, if_pos c4', inR (n := c.length) (by omega), inR (n := f.length) (by omega), inR (n := used.length) (by omega), cond_true, cond_true, cond_true, wj, Int.toNat_natCast, hu.2 i c4]
    have skip : (c.getD i 0 == 1 && decide (far ≤ f.getD i 0) && !taken.contains (i : Int)) = false → OK (rec (c, f, far, used, s, fl, a, ((i + 1 : Nat) : Int), l, ())) _ := fun hp => ih (i + 1, l) ⟨by dsimp only; omega, by
      dsimp only
      rw [List.range_succ, List.filter_append, List.filter_cons, hp]
      simpa using hl⟩ (by dsimp only; omega) _ rfl
    refine OK.bif (fun h1 => ?_) (fun h1 => skip (by rw [h1]; rfl))
    refine OK.bif (fun h2 => ?_) (fun h2 => skip (by
      have : decide (far ≤ f.getD i 0) = false := h2
      rw [this, Bool.and_false]; rfl))
    refine OK.bif (fun h3 => ?_) (fun h3 => skip (by rw [h3, Bool.and_false]))
    rw [decide_eq_true (by simp [limit]; omega), cond_true]
    refine ih (i + 1, l ++ [(i : Int)]) ⟨by dsimp only; omega, ?_⟩ (by dsimp only; omega) _ rfl
    have h2' : decide (far ≤ f.getD i 0) = true := h2
    dsimp only
    rw [List.range_succ, List.filter_append, List.filter_cons, h1, h2', h3, List.map_append, hl]
    rfl
  · have c4' : ¬ (i : Int) < 384 := by omega
    have ei : i = 384 := by omega
    subst ei
    have hl' : l = frees c f far taken := hl
    subst hl'
    rw [bif_dec, if_neg c4']
    have hlen := frees_len c f far taken
    by_cases h0 : frees c f far taken = []
    · rw [if_pos h0, h0]
      exact OK.ret rfl
    · have h1 : 1 ≤ (frees c f far taken).length := by
        cases e : frees c f far taken with
        | nil => exact absurd e h0
        | cons _ _ => simp
      have q : (((frees c f far taken).length : Int) == 0) = false := by rw [beq_eq_false_iff_ne]; omega
      have d := d_is s fl a 0 (frees c f far taken).length (by omega) (by omega)
      rw [if_neg h0, q, cond_false, d.1]
      simp only [Option.bind_some]
      rw [inR d.2, cond_true]
      exact OK.ret rfl
theorem stats_r (s fl k at' : Int) (y : Int × Int × Int × Int × Int × Int × Int × Int × Int × Int × Int × Unit) (h : 1 ≤ fl ∧ fl ≤ 10000) (e : f25 (2 + dv s fl (16 + k) 1 (min (fl + 1) 3)) = some y) :
    (y.1, y.2.1, y.2.2.1, at' % 24, at' / 24, y.2.2.2.2.2.1, y.2.2.2.2.2.2.1, y.2.2.2.2.2.2.2.1, y.2.2.2.2.2.2.2.2.1, y.2.2.2.2.2.2.2.2.2.1, y.2.2.2.2.2.2.2.2.2.2.1) = entAt s fl k at' := by
  have d := (d_is s fl (16 + k) 1 (min (fl + 1) 3) (by omega) (by omega)).2
  unfold entAt
  generalize dv s fl (16 + k) 1 (min (fl + 1) 3) = v at *
  have : v = 0 ∨ v = 1 ∨ v = 2 := by omega
  rcases this with rfl | rfl | rfl <;> (cases e; rfl)
theorem stats_some (v : Int) : ∃ y, f25 v = some y := by
  obtain ⟨y, e, _⟩ := stats_ok v
  exact ⟨y, e⟩
theorem ents_r (s fl : Int) (b : Bool) (c f : List Int) (hc : c.length = 384) (hf : f.length = 384) (h1 : 1 ≤ fl) (h2 : fl ≤ 10000) :
    f40.L5 (s, fl, b, 0, c, f, List.replicate 384 false, [], ()) = some (Sum.inl (s, fl, b, c, f, mons s fl c f (fl + 2).toNat 0 [] [], ())) := by
  refine OK.eq ?_
  unfold f40.L5
  generalize hM : mons s fl c f (fl + 2).toNat 0 [] [] = M
  refine OK.loop (fun j : Nat × List Bool × List EntT × List Int => (s, fl, b, (j.1 : Int), c, f, j.2.1, j.2.2.1, ())) (fun j => (j.1 : Int) ≤ fl + 2 ∧ Used j.2.1 j.2.2.2 ∧ j.2.2.1.length ≤ j.1 ∧ mons s fl c f (fl + 2 - j.1).toNat j.1 j.2.2.2 j.2.2.1 = M) (fun j => (fl + 2).toNat - j.1) (fun rec j hj ih => ?_) (0, List.replicate 384 false, [], []) rfl ⟨by dsimp only; omega, Used.none, Nat.zero_le _, by dsimp only; rw [show fl + 2 - ((0 : Nat) : Int) = fl + 2 by omega]; exact hM⟩ (by dsimp only; omega)
  clear hM
  obtain ⟨i, used, es, taken⟩ := j
  obtain ⟨hi, hu, he, hM⟩ := hj
  dsimp only at hi hu he hM ih ⊢
  rw [wr (x := fl + 1) (by omega), bif_dec]
  by_cases q : (i : Int) ≤ fl + 1
  · obtain ⟨n, en⟩ : ∃ n, (fl + 2 - (i : Int)).toNat = n + 1 := ⟨(fl + 1 - i).toNat, by omega⟩
    rw [en] at hM
    unfold mons at hM
    rw [if_pos q, wr (x := 7 + (i : Int)) (by omega), wr (x := 16 + (i : Int)) (by omega), pick_r c f 4 used taken s fl _ hc hf hu]
    simp only [Option.bind_some]
    by_cases h0 : frees c f 4 taken = []
    · rw [if_pos h0] at hM ⊢
      subst hM
      exact OK.ret rfl
    · have hm := frees_mem (pk_mem s fl c f 4 (7 + i) taken h0)
      have hul := hu.1
      rw [if_neg h0] at hM ⊢
      have d := d_is s fl (16 + (i : Int)) 1 (min (fl + 1) 3) (by omega) (by omega)
      rw [bif_dec, if_neg (by omega), inR (by omega), cond_true, minI_eq, d.1]
      simp only [Option.bind_some]
      rw [wr (x := 2 + dv s fl (16 + (i : Int)) 1 (min (fl + 1) 3)) (by omega)]
      obtain ⟨y, ey⟩ := stats_some (2 + dv s fl (16 + (i : Int)) 1 (min (fl + 1) 3))
      rw [ey]
      simp only [Option.bind_some]
      rw [decide_eq_true (by simp [limit]; omega), cond_true, wr (x := (i : Int) + 1) (by omega), Int.tmod_eq_emod_of_nonneg hm.1, Int.tdiv_eq_ediv_of_nonneg hm.1, wr (by omega)]
      have es' := stats_r s fl i (pk s fl c f 4 (7 + i) taken) y ⟨h1, h2⟩ ey
      rw [es']
      refine ih (i + 1, used.set (pk s fl c f 4 (7 + i) taken).toNat true, es ++ [entAt s fl i (pk s fl c f 4 (7 + i) taken)], taken ++ [pk s fl c f 4 (7 + i) taken]) ⟨by dsimp only; omega, hu.add hm.1, by dsimp only; simp; omega, ?_⟩ (by dsimp only; omega) _ rfl
      dsimp only
      have : (fl + 2 - ((i + 1 : Nat) : Int)).toNat = n := by omega
      rw [this]
      exact hM
  · have : (fl + 2 - (i : Int)).toNat = 0 := by omega
    rw [this] at hM
    rw [if_neg q]
    unfold mons at hM
    subst hM
    exact OK.ret rfl
theorem wares_r (s fl : Int) (b : Bool) (c : List Int) (es : List EntT) (l : List ItT) (hl : l.length ≤ 100) :
    f40.L6 (s, fl, b, 0, c, es, l, ()) = some (Sum.inl (c, es, l ++ (if b then [ware s fl 0, ware s fl 1, ware s fl 2] else []), ())) := by
  refine OK.eq ?_
  unfold f40.L6
  refine OK.loop (fun j : Nat × List ItT => (s, fl, b, (j.1 : Int), c, es, j.2, ())) (fun j => j.1 ≤ 3 ∧ (b = false → j.1 = 0) ∧ j.2 = l ++ [ware s fl 0, ware s fl 1, ware s fl 2].take j.1) (fun j => 3 - j.1) (fun rec j hj ih => ?_) (0, l) rfl ⟨Nat.zero_le _, fun _ => rfl, by simp⟩ (by dsimp only; decide)
  obtain ⟨i, l'⟩ := j
  obtain ⟨hi, hb, he⟩ := hj
  dsimp only at hi hb he ih ⊢
  rw [bif_dec]
  by_cases q : (i : Int) < 3
  · rw [if_pos q]
    cases b with
    | false =>
      have := hb rfl
      subst this
      subst he
      exact OK.ret (by simp)
    | true =>
      have d := d_is s fl (50 + (i : Int)) 1 3 (by decide) (by decide)
      have hl' : l'.length ≤ 103 := by subst he; simp; omega
      rw [cond_true, wr (x := 50 + (i : Int)) (by omega), d.1]
      simp only [Option.bind_some]
      rw [decide_eq_true (by simp [limit]; omega), cond_true, wr (x := (i : Int) + 1) (by omega), wr (x := 1 + dv s fl (50 + (i : Int)) 1 3) (by omega)]
      refine ih (i + 1, l' ++ [ware s fl i]) ⟨by dsimp only; omega, fun h => (by cases h), ?_⟩ (by dsimp only; omega) _ rfl
      dsimp only
      rw [he, List.append_assoc]
      have : i = 0 ∨ i = 1 ∨ i = 2 := by omega
      rcases this with rfl | rfl | rfl <;> rfl
  · have : i = 3 := by omega
    subst this
    rw [if_neg q]
    subst he
    cases b with
    | false => exact absurd (hb rfl) (by decide)
    | true => exact OK.ret rfl
theorem items_r (s fl : Int) (b : Bool) (c f : List Int) (es : List EntT) (hc : c.length = 384) (hf : f.length = 384) :
    f40.L7 (s, fl, b, 0, c, f, List.replicate 384 false, es, [], ()) = some (c, es, its s fl c f 4 0 [] [] ++ (if b then [ware s fl 0, ware s fl 1, ware s fl 2] else []), ()) := by
  refine OK.eq ?_
  unfold f40.L7
  generalize hM : its s fl c f 4 0 [] [] = M
  refine OK.loop (fun j : Nat × List Bool × List ItT × List Int => (s, fl, b, (j.1 : Int), c, f, j.2.1, es, j.2.2.1, ())) (fun j => j.1 ≤ 4 ∧ Used j.2.1 j.2.2.2 ∧ j.2.2.1.length ≤ j.1 ∧ its s fl c f (4 - j.1) j.1 j.2.2.2 j.2.2.1 = M) (fun j => 4 - j.1) (fun rec j hj ih => ?_) (0, List.replicate 384 false, [], []) rfl ⟨by dsimp only; decide, Used.none, Nat.zero_le _, hM⟩ (by dsimp only; decide)
  clear hM
  obtain ⟨i, used, l, taken⟩ := j
  obtain ⟨hi, hu, he, hM⟩ := hj
  dsimp only at hi hu he hM ih ⊢
  rw [bif_dec]
  by_cases q : (i : Int) < 4
  · obtain ⟨n, en⟩ : ∃ n, 4 - i = n + 1 := ⟨3 - i, by omega⟩
    rw [en] at hM
    unfold its at hM
    rw [if_pos q, wr (x := (i : Int) + 1) (by omega), wr (x := 40 + (i : Int)) (by omega), pick_r c f 0 used taken s fl _ hc hf hu]
    simp only [Option.bind_some]
    by_cases h0 : frees c f 0 taken = []
    · rw [if_pos h0] at hM ⊢
      refine ih (i + 1, used, l, taken) ⟨by dsimp only; omega, hu, by dsimp only; omega, ?_⟩ (by dsimp only; omega) _ rfl
      dsimp only
      have : 4 - (i + 1) = n := by omega
      rw [this]
      exact hM
    · have hm := frees_mem (pk_mem s fl c f 0 (40 + i) taken h0)
      have hul := hu.1
      rw [if_neg h0] at hM ⊢
      have d := d_is s fl (40 + (i : Int)) 1 4 (by decide) (by decide)
      rw [bif_dec, if_neg (by omega), inR (by omega), cond_true, d.1]
      simp only [Option.bind_some]
      rw [decide_eq_true (by simp [limit]; omega), cond_true, wr (x := 1 + dv s fl (40 + (i : Int)) 1 4) (by omega), Int.tmod_eq_emod_of_nonneg hm.1, Int.tdiv_eq_ediv_of_nonneg hm.1, wr (x := pk s fl c f 0 (40 + i) taken / 24) (by omega)]
      refine ih (i + 1, used.set (pk s fl c f 0 (40 + i) taken).toNat true, l ++ [(1 + dv s fl (40 + (i : Int)) 1 4, 1, pk s fl c f 0 (40 + i) taken % 24, pk s fl c f 0 (40 + i) taken / 24)], taken ++ [pk s fl c f 0 (40 + i) taken]) ⟨by dsimp only; omega, hu.add hm.1, by dsimp only; simp; omega, ?_⟩ (by dsimp only; omega) _ rfl
      dsimp only
      have : 4 - (i + 1) = n := by omega
      rw [this]
      exact hM
  · have : 4 - i = 0 := by omega
    rw [this] at hM
    rw [if_neg q]
    unfold its at hM
    subst hM
    rw [wares_r s fl b c es l (by omega)]
    exact OK.ret rfl
theorem far_r (s fl : Int) (h1 : 1 ≤ fl) (h2 : fl ≤ 10000) (hD : Field.rd (dist s fl) (far s fl) ≤ 100000) :
    f40.L8 (s, fl, upc s fl, 0, cellsU s fl, dist s fl, ()) = some (floor s fl) := by
  have hfl := (dist_is s fl).len
  have hu := upc_gc s fl
  refine OK.eq ?_
  unfold f40.L8
  refine OK.loop (fun j : Nat => (s, fl, farOf (dist s fl) (upc s fl) j, (j : Int), cellsU s fl, dist s fl, ())) (fun j => j ≤ 384) (fun j => 384 - j) (fun rec i hi ih => ?_) 0 rfl (Nat.zero_le _) (by decide)
  dsimp only at hi ih ⊢
  have hl := cellsU_len s fl
  have hfar : GC (farOf (dist s fl) (upc s fl) i) := by
    rcases (farOf_is (dist s fl) (upc s fl) i hi).1 with e | ⟨k, hk, e, _⟩
    · rw [e]; exact hu
    · rw [e]; exact ⟨by omega, by omega⟩
  unfold GC at hfar
  rw [bif_dec]
  by_cases c4 : (i : Int) < 384
  · have e : farOf (dist s fl) (upc s fl) (i + 1) = if Field.rd (dist s fl) i > Field.rd (dist s fl) (farOf (dist s fl) (upc s fl) i) then (i : Int) else farOf (dist s fl) (upc s fl) i := by unfold farOf; rw [List.range_succ, List.foldl_append]; rfl
    have go := ih (i + 1) (by omega) (by omega)
    rw [e] at go
    rw [if_pos c4, inR (i := (i : Int)) (n := (dist s fl).length) (by omega), inR (i := farOf (dist s fl) (upc s fl) i) (n := (dist s fl).length) (by omega), cond_true, cond_true, wr (by omega)]
    refine OK.bif (fun h => ?_) (fun h => ?_)
    · have h' : Field.rd (dist s fl) (i : Int) > Field.rd (dist s fl) (farOf (dist s fl) (upc s fl) i) := of_decide_eq_true h
      rw [if_pos h'] at go
      exact go _ rfl
    · have h' : ¬ Field.rd (dist s fl) (i : Int) > Field.rd (dist s fl) (farOf (dist s fl) (upc s fl) i) := of_decide_eq_false h
      rw [if_neg h'] at go
      exact go _ rfl
  · have : i = 384 := by omega
    subst this
    have ef : farOf (dist s fl) (upc s fl) 384 = far s fl := rfl
    rw [ef] at hfar ⊢
    have d := d_is s fl 6 0 2 (by decide) (by decide)
    have hfd := far_dist s fl
    rw [if_neg c4, inR (i := far s fl) (n := (cellsU s fl).length) (by omega), cond_true, d.1]
    simp only [Option.bind_some]
    have eD : (cellsU s fl).set (far s fl).toNat 4 = cellsD s fl := rfl
    rw [eD, shop_r s fl (far s fl) (cellsD s fl) (dist s fl) (cellsD_len s fl) hfl ⟨by omega, by omega⟩ ⟨by omega, hD⟩]
    have eS : (bif dv s fl 6 0 2 == 0 then some (Sum.inl (α := Int × Int × Bool × List Int × List Int × Unit) (β := Res) (s, fl, ((List.range 384).find? (shopIs (cellsD s fl) (dist s fl) (far s fl))).isSome, (match (List.range 384).find? (shopIs (cellsD s fl) (dist s fl) (far s fl)) with | some i => (cellsD s fl).set i 5 | none => cellsD s fl), dist s fl, ())) else some (Sum.inl (s, fl, false, cellsD s fl, dist s fl, ()))) = some (Sum.inl (s, fl, (shopAt s fl).isSome, cells s fl, dist s fl, ())) := by
      unfold cells
      have e0 : shopAt s fl = if dv s fl 6 0 2 = 0 then (List.range 384).find? (shopIs (cellsD s fl) (dist s fl) (far s fl)) else none := rfl
      by_cases z : dv s fl 6 0 2 = 0
      · have : (dv s fl 6 0 2 == 0) = true := beq_iff_eq.2 z
        rw [this, cond_true, e0, if_pos z] <;> rfl
      · have : (dv s fl 6 0 2 == 0) = false := beq_eq_false_iff_ne.2 z
        rw [this, cond_false, e0, if_neg z] <;> rfl
    rw [eS]
    simp only [Option.bind_some, Sum.elim_inl]
    rw [ents_r s fl _ (cells s fl) (dist s fl) (cells_len s fl) hfl h1 h2]
    simp only [Option.bind_some, Sum.elim_inl]
    rw [items_r s fl _ (cells s fl) (dist s fl) _ (cells_len s fl) hfl]
    exact OK.ret rfl
theorem halls_r (s fl : Int) (t : Tail) (ht : ∀ j : Nat, j < 6 → mxs t j = mx s fl j ∧ mys t j = my s fl j) (h1 : 1 ≤ fl) (h2 : fl ≤ 10000) (hD : Field.rd (dist s fl) (far s fl) ≤ 100000) :
    f40.L9 (s, fl, 1, rooms s fl, t) = some (floor s fl) := by
  refine OK.eq ?_
  unfold f40.L9
  refine OK.loop (fun j : Nat => (s, fl, (j : Int) + 1, halls s fl j, t)) (fun j => j ≤ 5) (fun j => 5 - j) (fun rec i hi ih => ?_) 0 rfl (Nat.zero_le _) (by decide)
  dsimp only at hi ih ⊢
  obtain ⟨D, hh, _⟩ := halls_hi s fl i
  have hl := hh.len
  rw [bif_dec]
  by_cases q : (i : Int) + 1 < 6
  · have e : Int.toNat (IntKind.wrap .i64 ((i : Int) + 1 - 1)) = i := by rw [wr (by omega)]; omega
    have ir : inRange (IntKind.wrap .i64 ((i : Int) + 1 - 1)) 6 = true := inR (by rw [wr (by omega)]; omega)
    have b0 := mid_b s fl i
    have b1 := mid_b s fl ((i : Int) + 1)
    have e0 := ht i (by omega)
    have e1 := ht (i + 1) (by omega)
    rw [show ((i + 1 : Nat) : Int) = (i : Int) + 1 by omega] at e1
    have ex : [t.1, t.2.1, t.2.2.1, t.2.2.2.1, t.2.2.2.2.1, t.2.2.2.2.2.1].getD i 0 = mx s fl i := e0.1
    have ey : [t.2.2.2.2.2.2.1, t.2.2.2.2.2.2.2.1, t.2.2.2.2.2.2.2.2.1, t.2.2.2.2.2.2.2.2.2.1, t.2.2.2.2.2.2.2.2.2.2.1, t.2.2.2.2.2.2.2.2.2.2.2.1].getD i 0 = my s fl i := e0.2
    have d := d_is s fl ((i : Int) + 1) 4 2 (by decide) (by decide)
    rw [if_pos q, ir, cond_true, cond_true, e, ex, ey, dig_r _ _ false _ hl (by omega) (by omega), d.1]
    simp only [Option.bind_some]
    have ec : ((i : Int) + 1) = ((i + 1 : Nat) : Int) := by omega
    have go := ih (i + 1) (by omega) (by omega)
    refine way_r rec _ s fl (i + 1) (by omega) _ _ _ _ _ t (by rw [dg_len]; exact hl) (by unfold GX; omega) (by unfold GY; omega) (by rw [e1.1]; unfold GX; omega) (by rw [e1.2]; unfold GY; omega) ?_
    refine go _ ?_
    have eh : halls s fl (i + 1) = hallTo s fl ((i : Int) + 1) (halls s fl i) := by unfold halls; rw [List.range_succ, List.foldl_append]; rfl
    rw [eh, e1.1, e1.2]
    unfold hallTo
    have em : (i : Int) + 1 - 1 = i := by omega
    rw [em]
    rfl
  · have : i = 5 := by omega
    subst this
    have b0 := mid_b s fl 0
    have e0 := ht 0 (by decide)
    have ex : t.1 = mx s fl 0 := e0.1
    have ey : t.2.2.2.2.2.2.1 = my s fl 0 := e0.2
    have e : IntKind.wrap .i64 (IntKind.wrap .i64 (t.2.2.2.2.2.2.1 * 24) + t.1) = upc s fl := by rw [ex, ey, wr (x := my s fl 0 * 24) (by omega), wr (by omega)]; rfl
    have hu := upc_gc s fl
    unfold GC at hu
    rw [if_neg q, e, inR (by omega), cond_true]
    have eU : (halls s fl 5).set (upc s fl).toNat 3 = cellsU s fl := rfl
    rw [eU, (fld_is (cellsU s fl) (cellsU_cb s fl) (upc s fl)).1]
    simp only [Option.bind_some]
    have eD : fld (cellsU s fl) (upc s fl) = dist s fl := rfl
    rw [eD, far_r s fl h1 h2 hD]
    exact OK.ret rfl
theorem far_lt (s fl : Int) : Field.rd (dist s fl) (far s fl) ≤ 100000 := by
  have := field_lt (dist_is s fl) (far s fl) (far_gc s fl)
  omega
/-- The document's floor. -/
theorem rmake_eq (s fl : Int) (h1 : 1 ≤ fl) (h2 : fl ≤ 10000) : f40 s fl = some (floor s fl) := by
  refine OK.eq ?_
  unfold f40 f40.L10
  refine OK.loop (fun j : Nat × Tail => (s, fl, (j.1 : Int), (List.range j.1).foldl (fun c (i : Nat) => roomOf s fl i c) (List.replicate 384 0), j.2)) (fun j => j.1 ≤ 6 ∧ ∀ k : Nat, k < j.1 → mxs j.2 k = mx s fl k ∧ mys j.2 k = my s fl k) (fun j => 6 - j.1) (fun rec j hj ih => ?_) (0, (0, 0, 0, 0, 0, 0, 0, 0, 0, 0, 0, 0, ())) rfl ⟨by dsimp only; decide, fun k hk => absurd hk (Nat.not_lt_zero k)⟩ (by dsimp only; decide)
  obtain ⟨i, t⟩ := j
  obtain ⟨hi, ht⟩ := hj
  dsimp only at hi ht ih ⊢
  rw [bif_dec]
  by_cases q : (i : Int) < 6
  · have b := room_b s fl i
    have d0 := d_is s fl i 0 5 (by decide) (by decide)
    have d1 := d_is s fl i 1 4 (by decide) (by decide)
    have e0 : 3 + dv s fl i 0 5 = rw' s fl i := rfl
    have e1 : 2 + dv s fl i 1 4 = rh' s fl i := rfl
    have d2 := d_is s fl i 2 (23 - rw' s fl i) (by omega) (by omega)
    have d3 := d_is s fl i 3 (15 - rh' s fl i) (by omega) (by omega)
    have e2 : 1 + dv s fl i 2 (23 - rw' s fl i) = rx' s fl i := rfl
    have e3 : 1 + dv s fl i 3 (15 - rh' s fl i) = ry' s fl i := rfl
    rw [if_pos q, d0.1, d1.1]
    simp only [Option.bind_some]
    rw [e0, e1, wr (x := rw' s fl i) (by omega), wr (x := rh' s fl i) (by omega), wr (x := 23 - rw' s fl i) (by omega), wr (x := 15 - rh' s fl i) (by omega), d2.1, d3.1]
    simp only [Option.bind_some]
    rw [e2, e3, wr (x := rx' s fl i) (by omega), wr (x := ry' s fl i) (by omega)]
    refine room_r rec _ s fl _ _ _ _ i (by omega) _ t (rooms_hi' s fl i).len (by omega) (by omega) (by omega) (by omega) (by omega) (by omega) fun t' hx hy => ?_
    refine ih (i + 1, t') ⟨by dsimp only; omega, fun k hk => ?_⟩ (by dsimp only; omega) _ ?_
    · dsimp only at hk ⊢
      rw [hx k (by omega), hy k (by omega)]
      by_cases e : k = i
      · subst e
        rw [if_pos rfl, if_pos rfl]
        exact ⟨rfl, rfl⟩
      · rw [if_neg e, if_neg e]
        exact ht k (by omega)
    · dsimp only
      rw [List.range_succ, List.foldl_append]
      rfl
  · have : i = 6 := by omega
    subst this
    rw [if_neg q]
    have := halls_r s fl t ht h1 h2 (far_lt s fl)
    show OK (f40.L9 (s, fl, 1, rooms s fl, t)) _
    rw [this]
    exact OK.ret rfl
end Go.Proofs.Ytjmbmpeflhkngaa.Fl
/- The document's floor: what is found on it, what is reached (own work). -/
namespace Go.Proofs.Ytjmbmpeflhkngaa.Fl
open Go Go.Proofs.Ytjmbmpeflhkngaa.Mx Go.Proofs.Ytjmbmpeflhkngaa.Pc Go.Proofs.Ytjmbmpeflhkngaa.Run Go.Proofs.Ytjmbmpeflhkngaa.Field Go.Proofs.Ytjmbmpeflhkngaa.Gen Go.Proofs.Ytjmbmpeflhkngaa.GenL
set_option linter.unusedVariables false
set_option linter.unusedSimpArgs false
/-- The first cell of a kind; -1: none. -/
def findC (c : List Int) (v : Int) : Int := match (List.range 384).find? fun i : Nat => c.getD i 0 == v with | some i => (i : Int) | none => -1
theorem find_r (c : List Int) (hc : CB c) (hl : c.length = 384) (v : Int) : f30 c v = some (findC c v, ()) := by
  unfold f30 f30.L1 findC
  refine (it_find (x := (c, v, 0, ())) (fun i : Nat => c.getD i 0 == v) 384 (fun i : Nat => (c, v, (i : Int), ())) (fun i => some ((i : Int), ())) (some (-1, ())) (fun rec i hi => ?_) (by decide) rfl).trans ?_
  rotate_left
  · cases (List.range 384).find? fun i : Nat => c.getD i 0 == v <;> rfl
  · dsimp only
    rw [bif_dec, bif_dec]
    by_cases q : i < 384
    · have b := hc i
      rw [if_pos q, if_pos (by omega), if_pos (by omega), inR (by omega), cond_true, wr (x := (i : Int) + 1) (by omega), Int.toNat_natCast, wr (by omega), ite_bif]
      rfl
    · rw [if_neg q, if_neg (by omega)]
/-- Every cell of the floor is reached. -/
theorem reach (s fl : Int) (h1 : 1 ≤ fl) (h2 : fl ≤ 10000) : (∀ n, GC n → Wk (cells s fl) n → Link (cells s fl) (upc s fl) n) ∧ ∀ n, GC n → Wk (cellsU s fl) n → 0 ≤ Field.rd (dist s fl) n := by
  obtain ⟨z, e, u, hu, hG⟩ := make_wk s fl (by omega) h2
  rw [rmake_eq s fl h1 h2] at e
  cases e
  have all : ∀ n, GC n → Wk (cells s fl) n → Link (cells s fl) (upc s fl) n := fun n hn hw =>
    (hG.all _ (upc_gc s fl) ((cells_wk s fl _).2 (up_wk s fl))).symm.trans (hG.all n hn hw)
  refine ⟨all, fun n hn hw => ?_⟩
  exact link_field (dist_is s fl) ((all n hn ((cells_wk s fl n).2 hw)).mono fun m _ h => (cells_wk s fl m).1 h)
theorem find_shop (s fl : Int) : findC (cells s fl) 5 = match shopAt s fl with | some i => (i : Int) | none => -1 := by
  unfold findC
  cases h : shopAt s fl with
  | some i =>
    have : (List.range 384).find? (fun j : Nat => (cells s fl).getD j 0 == 5) = some i := List.find?_range_eq_some.2 ⟨beq_iff_eq.2 ((cells_shop s fl i).2 h), List.mem_range.2 (shop_is s fl h).1, fun j hj => by
      have : ((cells s fl).getD j 0 == 5) = false := by
        rw [beq_eq_false_iff_ne]
        intro e
        have := (cells_shop s fl j).1 e
        rw [h] at this
        cases this
        omega
      rw [this]; rfl⟩
    rw [this]
  | none =>
    have : (List.range 384).find? (fun j : Nat => (cells s fl).getD j 0 == 5) = none := List.find?_range_eq_none.2 fun j hj => by
      have : ((cells s fl).getD j 0 == 5) = false := by
        rw [beq_eq_false_iff_ne]
        intro e
        have := (cells_shop s fl j).1 e
        rw [h] at this
        cases this
      rw [this]; rfl
    rw [this]
theorem findC_one {c : List Int} {v : Int} {k : Nat} (hk : k < 384) (h : ∀ n : Nat, c.getD n 0 = v ↔ n = k) : findC c v = k := by
  unfold findC
  have : (List.range 384).find? (fun j : Nat => c.getD j 0 == v) = some k := List.find?_range_eq_some.2 ⟨beq_iff_eq.2 ((h k).2 rfl), List.mem_range.2 hk, fun j hj => by
    have : (c.getD j 0 == v) = false := by
      rw [beq_eq_false_iff_ne]
      intro e
      have := (h j).1 e
      omega
    rw [this]; rfl⟩
  rw [this]
theorem find_up (s fl : Int) : findC (cells s fl) 3 = upc s fl := by
  have g := upc_gc s fl
  unfold GC at g
  rw [findC_one (k := (upc s fl).toNat) (by omega) (cells_up s fl)]
  omega
theorem find_down (s fl : Int) : findC (cells s fl) 4 = far s fl := by
  have g := far_gc s fl
  unfold GC at g
  rw [findC_one (k := (far s fl).toNat) (by omega) (cells_down s fl)]
  omega
/-- The field of the whole floor is the one that it was made by. -/
theorem fld_cells (s fl : Int) : fld (cells s fl) (upc s fl) = dist s fl := by
  have h := (fld_is (cells s fl) (cells_cb s fl) (upc s fl)).2
  have e1 : opnC (cells s fl) [] = opnC (cellsU s fl) [] := funext fun n => propext (by
    have := cells_wk s fl n
    unfold Wk at this
    unfold opnC
    rw [this])
  have e2 : IsT (cells s fl) [upc s fl] = IsT (cellsU s fl) [upc s fl] := funext fun n => propext (by
    have := cells_wk s fl n
    unfold Wk at this
    unfold IsT
    rw [this])
  rw [e1, e2] at h
  exact field_one h (dist_is s fl)
end Go.Proofs.Ytjmbmpeflhkngaa.Fl
/- Worlds of the laws: a floor, a hero, items each at a place of its own (own work). -/
namespace Go.Proofs.Ytjmbmpeflhkngaa.Wd
open Go Go.Proofs.Ytjmbmpeflhkngaa.Mx Go.Proofs.Ytjmbmpeflhkngaa.Pc Go.Proofs.Ytjmbmpeflhkngaa.Run Go.Proofs.Ytjmbmpeflhkngaa.Field Go.Proofs.Ytjmbmpeflhkngaa.Gen Go.Proofs.Ytjmbmpeflhkngaa.GenL Go.Proofs.Ytjmbmpeflhkngaa.Fl
set_option linter.unusedVariables false
set_option linter.unusedSimpArgs false
set_option maxHeartbeats 1000000
abbrev eN : EntT := (0, 0, 0, 0, 0, 0, 0, 0, 0, 0, 0)
abbrev iN : ItT := (0, 0, 0, 0)
theorem within7_eq (a n : Int) (h : 0 < n) (hn : n ≤ 1000000000000) : f39 a n = some (within a n, ()) := by
  have := within_b a n h
  unfold f39 within
  simp only [Option.bind_some, bif_dec]
  rw [if_neg (by omega)]
  split
  · rw [wr (by omega)]; rfl
  · rfl
/-- Is an item at a place? -/
def isAt (w a b : Int) (x : ItT) : Bool := x.2.1 == w && (x.2.2.1 == a && x.2.2.2 == b)
/-- The first item at a place; -1: none. -/
def inI (l : List ItT) (w a b : Int) : Int := match (List.range l.length).find? fun i => isAt w a b (l.getD i iN) with | some i => (i : Int) | none => -1
theorem rin_eq (l : List ItT) (hl : l.length ≤ 100000) (w a b : Int) : f21 l w a b = some (inI l w a b, ()) := by
  unfold f21 f21.L1 inI
  refine (it_find (x := (l, w, a, b, 0, ())) (fun i => isAt w a b (l.getD i iN)) l.length (fun i : Nat => (l, w, a, b, (i : Int), ())) (fun i => some ((i : Int), ())) (some (-1, ())) (fun rec i hi => ?_) (by omega) rfl).trans ?_
  rotate_left
  · cases (List.range l.length).find? fun i => isAt w a b (l.getD i iN) <;> rfl
  · dsimp only
    rw [bif_dec]
    by_cases c : i < l.length
    · rw [if_pos c, if_pos (by omega), inR (by omega), wr (x := (i : Int) + 1) (by omega), Int.toNat_natCast]
      unfold isAt
      simp only [cond_true]
      cases (l.getD i (0, 0, 0, 0)).2.1 == w <;> cases (l.getD i (0, 0, 0, 0)).2.2.1 == a <;> cases (l.getD i (0, 0, 0, 0)).2.2.2 == b <;> rfl
    · rw [if_neg c, if_neg (by omega)]
theorem inI_none {l : List ItT} {w a b : Int} : inI l w a b < 0 ↔ ∀ i, i < l.length → isAt w a b (l.getD i iN) = false := by
  unfold inI
  cases h : (List.range l.length).find? fun i => isAt w a b (l.getD i iN) with
  | none =>
    simp only
    refine ⟨fun _ i hi => ?_, fun _ => by decide⟩
    have := List.find?_range_eq_none.1 h i hi
    simpa using this
  | some k =>
    simp only
    obtain ⟨h1, h2, _⟩ := List.find?_range_eq_some.1 h
    refine ⟨fun q => by omega, fun q => ?_⟩
    rw [q k (List.mem_range.1 h2)] at h1
    cases h1
theorem inI_some {l : List ItT} {w a b : Int} (h : ¬ inI l w a b < 0) : ∃ k, k < l.length ∧ inI l w a b = k ∧ isAt w a b (l.getD k iN) = true ∧ ∀ j, j < k → isAt w a b (l.getD j iN) = false := by
  unfold inI at h ⊢
  cases e : (List.range l.length).find? fun i => isAt w a b (l.getD i iN) with
  | none => rw [e] at h; exact absurd (by decide) h
  | some k =>
    obtain ⟨h1, h2, h3⟩ := List.find?_range_eq_some.1 e
    exact ⟨k, List.mem_range.1 h2, rfl, h1, fun j hj => by simpa using h3 j hj⟩
/-- May an item be where it is? -/
def Placed (c : List Int) (x : ItT) : Prop :=
  (x.2.1 = 1 ∧ 0 ≤ x.2.2.1 ∧ x.2.2.1 < 24 ∧ 0 ≤ x.2.2.2 ∧ x.2.2.2 < 16 ∧ c.getD (x.2.2.2 * 24 + x.2.2.1).toNat 0 ≠ 0) ∨
  (x.2.1 = 2 ∧ 0 ≤ x.2.2.1 ∧ x.2.2.1 < 4 ∧ 0 ≤ x.2.2.2 ∧ x.2.2.2 < 4 ∧ x.1 ≠ 4) ∨
  (x.2.1 = 3 ∧ 0 ≤ x.2.2.1 ∧ x.2.2.1 < 4 ∧ ((x.1 = 2 ∧ x.2.2.2 = 0) ∨ (x.1 = 3 ∧ x.2.2.2 = 1))) ∨
  (x.2.1 = 4 ∧ 0 ≤ x.2.2.1 ∧ x.2.2.1 < 3 ∧ x.2.2.2 = 0 ∧ x.1 ≠ 4)
/-- Items, each at a place of its own. -/
structure ItsOk (c : List Int) (l : List ItT) : Prop where
  len : l.length = 40
  kind : ∀ i, i < 40 → l.getD i iN = iN ∨ (1 ≤ (l.getD i iN).1 ∧ (l.getD i iN).1 ≤ 4 ∧ Placed c (l.getD i iN))
  one : ∀ i j, i < 40 → j < 40 → l.getD i iN ≠ iN → (l.getD i iN).2 = (l.getD j iN).2 → i = j
theorem Placed.wh {c : List Int} {x : ItT} (h : Placed c x) : 1 ≤ x.2.1 ∧ x.2.1 ≤ 4 := by unfold Placed at h; omega
theorem ItsOk.none (c : List Int) : ItsOk c (List.replicate 40 iN) := by
  have g : ∀ i, (List.replicate 40 iN).getD i iN = iN := fun i => by
    rw [List.getD_eq_getElem?_getD, List.getElem?_replicate]
    split <;> rfl
  exact ⟨List.length_replicate, fun i _ => .inl (g i), fun i j _ _ h _ => absurd (g i) h⟩
/-- An item is laid at a place where none is. -/
theorem ItsOk.put {c : List Int} {l : List ItT} (h : ItsOk c l) {x : ItT} {n : Nat} (hn : n < 40) (hk : 1 ≤ x.1 ∧ x.1 ≤ 4) (hp : Placed c x) (hf : ∀ i, i < 40 → i ≠ n → (l.getD i iN).2 ≠ x.2) : ItsOk c (l.set n x) := by
  have hl := h.len
  have g : ∀ i, (l.set n x).getD i iN = if n = i then x else l.getD i iN := fun i => by
    rw [getD_set]
    by_cases e : n = i
    · rw [if_pos ⟨e, by omega⟩, if_pos e]
    · rw [if_neg (fun z => e z.1), if_neg e]
  refine ⟨by rw [List.length_set]; exact hl, fun i hi => ?_, fun i j hi hj hne he => ?_⟩
  · rw [g]
    by_cases e : n = i
    · rw [if_pos e]; exact .inr ⟨hk.1, hk.2, hp⟩
    · rw [if_neg e]; exact h.kind i hi
  · rw [g] at hne he
    rw [g] at he
    by_cases e : n = i
    · rw [if_pos e] at he
      by_cases e2 : n = j
      · omega
      · rw [if_neg e2] at he
        exact absurd he.symm (hf j hj (fun z => e2 z.symm))
    · rw [if_neg e] at hne he
      by_cases e2 : n = j
      · rw [if_pos e2] at he
        exact absurd he (hf i hi (fun z => e z.symm))
      · rw [if_neg e2] at he
        exact h.one i j hi hj hne he
theorem ItsOk.drop {c : List Int} {l : List ItT} (h : ItsOk c l) (n : Nat) : ItsOk c (l.set n iN) := by
  have hl := h.len
  by_cases hn : n < 40
  · have g : ∀ i, (l.set n iN).getD i iN = if n = i then iN else l.getD i iN := fun i => by
      rw [getD_set]
      by_cases e : n = i
      · rw [if_pos ⟨e, by omega⟩, if_pos e]
      · rw [if_neg (fun z => e z.1), if_neg e]
    refine ⟨by rw [List.length_set]; exact hl, fun i hi => ?_, fun i j hi hj hne he => ?_⟩
    · rw [g]
      by_cases e : n = i
      · rw [if_pos e]; exact .inl rfl
      · rw [if_neg e]; exact h.kind i hi
    · rw [g] at hne he
      rw [g] at he
      by_cases e : n = i
      · rw [if_pos e] at hne; exact absurd rfl hne
      · rw [if_neg e] at hne he
        by_cases e2 : n = j
        · rw [if_pos e2] at he
          rcases h.kind i hi with q | q
          · exact absurd q hne
          · have := q.2.2.wh
            rw [he] at this
            exact absurd this.1 (by decide)
        · rw [if_neg e2] at he
          exact h.one i j hi hj hne he
  · rw [List.set_eq_of_length_le (by omega)]
    exact h
/-- The cells that can be walked on. -/
def opens (c : List Int) (n : Nat) : List Int := ((List.range n).filter fun i : Nat => walkable (c.getD i 0)).map fun i : Nat => (i : Int)
theorem opens_succ (c : List Int) (n : Nat) : opens c (n + 1) = opens c n ++ if walkable (c.getD n 0) then [(n : Int)] else [] := by
  unfold opens
  rw [List.range_succ, List.filter_append, List.map_append, List.filter_cons]
  cases walkable (c.getD n 0) <;> rfl
theorem opens_mem {c : List Int} {n : Nat} {k : Int} (h : k ∈ opens c n) : 0 ≤ k ∧ k < n ∧ walkable (c.getD k.toNat 0) = true := by
  unfold opens at h
  obtain ⟨i, hi, rfl⟩ := List.mem_map.1 h
  obtain ⟨h1, h2⟩ := List.mem_filter.1 hi
  have := List.mem_range.1 h1
  rw [Int.toNat_natCast]
  exact ⟨by omega, by omega, h2⟩
theorem mem_opens {c : List Int} {n : Nat} {k : Int} (h0 : 0 ≤ k) (hk : k < n) (hw : walkable (c.getD k.toNat 0) = true) : k ∈ opens c n := by
  unfold opens
  exact List.mem_map.2 ⟨k.toNat, List.mem_filter.2 ⟨List.mem_range.2 (by omega), hw⟩, by omega⟩
theorem opens_len (c : List Int) (n : Nat) : (opens c n).length ≤ n := by
  unfold opens
  rw [List.length_map]
  have := List.length_filter_le (fun i : Nat => walkable (c.getD i 0)) (List.range n)
  rw [List.length_range] at this
  exact this
/-- Where the hero is put. -/
noncomputable def heroAt (s fl at' : Int) : Int := if Int.tmod at' 3 = 0 ∧ (shopAt s fl).isSome then ((shopAt s fl).getD 0 : Nat) else (opens (cells s fl) 384).getD (within at' (opens (cells s fl) 384).length).toNat 0
theorem opens_some (s fl : Int) : 1 ≤ (opens (cells s fl) 384).length := by
  have g := upc_gc s fl
  unfold GC at g
  have : upc s fl ∈ opens (cells s fl) 384 := mem_opens g.1 g.2 ((cells_wk s fl _).2 (up_wk s fl))
  cases h : opens (cells s fl) 384 with
  | nil => rw [h] at this; cases this
  | cons _ _ => simp
theorem heroAt_gc (s fl at' : Int) : GC (heroAt s fl at') ∧ Wk (cells s fl) (heroAt s fl at') := by
  unfold heroAt
  split
  · rename_i h
    obtain ⟨i, hi⟩ := Option.isSome_iff_exists.1 h.2
    rw [hi]
    have := shop_is s fl hi
    refine ⟨⟨by simp only [Option.getD_some]; omega, by simp only [Option.getD_some]; omega⟩, ?_⟩
    rw [wk_iff (cells_val s fl _)]
    simp only [Option.getD_some, Int.toNat_natCast]
    rw [(cells_shop s fl i).2 hi]; decide
  · have h1 := opens_some s fl
    have h2 := opens_len (cells s fl) 384
    have b := within_b at' (opens (cells s fl) 384).length (by omega)
    have hm : (opens (cells s fl) 384).getD (within at' (opens (cells s fl) 384).length).toNat 0 ∈ opens (cells s fl) 384 := by
      rw [List.getD_eq_getElem?_getD, List.getElem?_eq_getElem (by omega)]
      exact List.getElem_mem _
    have := opens_mem hm
    exact ⟨⟨this.1, this.2.1⟩, this.2.2⟩
/-- The hero as it comes. -/
noncomputable def heroE (s fl seat at' : Int) : EntT := (1, 0, seat, heroAt s fl at' % 24, heroAt s fl at' / 24, 1 + within at' 20, 20, 5, 1, 0, 0)
noncomputable def entsW (s fl seat at' : Int) : List EntT := (List.replicate 32 eN).set (within at' 32).toNat (heroE s fl seat at')
abbrev WT := Int × Int × Int × Int × Int × Int × Int × Int × List Int × List EntT × List ItT × Unit
def goldOf (seat g j : Int) : Int := if seat = j then g else 0
/-- An item that is wanted, before its kind is set right. -/
def Want (c : List Int) (kd wh a b : Int) : Prop :=
  (wh = 1 ∧ 0 ≤ a ∧ a < 24 ∧ 0 ≤ b ∧ b < 16 ∧ c.getD (b * 24 + a).toNat 0 ≠ 0 ∧ 1 ≤ kd ∧ kd ≤ 4) ∨ (wh = 2 ∧ 0 ≤ a ∧ a < 4 ∧ 0 ≤ b ∧ b < 4 ∧ 1 ≤ kd ∧ kd ≤ 4) ∨ (wh = 3 ∧ 0 ≤ a ∧ a < 4 ∧ ((kd = 2 ∧ b = 0) ∨ (kd = 3 ∧ b = 1))) ∨ (wh = 4 ∧ 0 ≤ a ∧ a < 3 ∧ b = 0 ∧ 1 ≤ kd ∧ kd ≤ 4)
theorem want_placed {c : List Int} {kd wh a b : Int} (h : Want c kd wh a b) {kd' : Int} (e : kd' = if kd = 4 ∧ wh ≠ 1 then 1 else kd) : Placed c (kd', wh, a, b) ∧ 1 ≤ kd' ∧ kd' ≤ 4 := by
  rcases h with ⟨h1, h2, h3, h4, h5, h6, h7, h8⟩ | ⟨h1, h2, h3, h4, h5, h6, h7⟩ | ⟨h1, h2, h3, h4⟩ | ⟨h1, h2, h3, h4, h5, h6⟩
  · rw [if_neg (fun z => z.2 h1)] at e
    subst e
    exact ⟨.inl ⟨h1, h2, h3, h4, h5, h6⟩, h7, h8⟩
  · by_cases q : kd = 4 ∧ wh ≠ 1
    · rw [if_pos q] at e; subst e
      exact ⟨.inr (.inl ⟨h1, h2, h3, h4, h5, (by decide : (1 : Int) ≠ 4)⟩), by decide, by decide⟩
    · have n4 : kd ≠ 4 := fun z => q ⟨z, by omega⟩
      rw [if_neg q] at e; subst e
      exact ⟨.inr (.inl ⟨h1, h2, h3, h4, h5, n4⟩), h6, h7⟩
  · rw [if_neg (fun z => by omega)] at e
    subst e
    exact ⟨.inr (.inr (.inl ⟨h1, h2, h3, h4⟩)), by omega, by omega⟩
  · by_cases q : kd = 4 ∧ wh ≠ 1
    · rw [if_pos q] at e; subst e
      exact ⟨.inr (.inr (.inr ⟨h1, h2, h3, h4, (by decide : (1 : Int) ≠ 4)⟩)), by decide, by decide⟩
    · have n4 : kd ≠ 4 := fun z => q ⟨z, by omega⟩
      rw [if_neg q] at e; subst e
      exact ⟨.inr (.inr (.inr ⟨h1, h2, h3, h4, n4⟩)), h5, h6⟩
theorem walk_ne {c : List Int} {k : Int} (h : walkable (c.getD k.toNat 0) = true) : c.getD k.toNat 0 ≠ 0 := by
  unfold walkable at h
  have := of_decide_eq_true h
  omega
theorem items_w (s fl seat k : Int) (l : List ItT) (hl : l.length ≤ 1000000000000000) (c : List Int) (op : List Int) (hs : 0 ≤ seat ∧ seat < 4) (hk : GC k) (hkw : c.getD k.toNat 0 ≠ 0) (hop : ∀ n ∈ op, 0 ≤ n ∧ n < 384 ∧ c.getD n.toNat 0 ≠ 0) (hop1 : 1 ≤ op.length ∧ op.length ≤ 384)
    (z0 z1 z2 z3 z4 z5 z6 z7 w0 w1 w2 w3 g0 g1 g2 g3 : Int) (es : List EntT) :
    OK (f23.L1 (seat, l, k, 0, z0, z1, z2, z3, z4, z5, z6, z7, w0, w1, w2, w3, g0, g1, g2, g3, op, c, es, List.replicate 40 iN, ())) fun z => ∃ its, z = Sum.inl (z0, z1, z2, z3, z4, z5, z6, z7, w0, w1, w2, w3, g0, g1, g2, g3, c, es, its, ()) ∧ ItsOk c its ∧ (l = [] → its = List.replicate 40 iN) := by
  unfold f23.L1
  refine OK.loop (fun j : Nat × List ItT => (seat, l, k, (j.1 : Int), z0, z1, z2, z3, z4, z5, z6, z7, w0, w1, w2, w3, g0, g1, g2, g3, op, c, es, j.2, ())) (fun j => j.1 ≤ 20 ∧ ItsOk c j.2 ∧ (l = [] → j.2 = List.replicate 40 iN)) (fun j => 20 - j.1) (fun rec j hj ih => ?_) (0, List.replicate 40 iN) rfl ⟨Nat.zero_le _, ItsOk.none c, fun _ => rfl⟩ (by dsimp only; decide)
  obtain ⟨i, its⟩ := j
  obtain ⟨hi, hI, hN⟩ := hj
  dsimp only at hi hI hN ih ⊢
  have hil := hI.len
  have done : OK (some (Sum.inl (β := WT) (z0, z1, z2, z3, z4, z5, z6, z7, w0, w1, w2, w3, g0, g1, g2, g3, c, es, its, ()))) fun z => ∃ its, z = Sum.inl (z0, z1, z2, z3, z4, z5, z6, z7, w0, w1, w2, w3, g0, g1, g2, g3, c, es, its, ()) ∧ ItsOk c its ∧ (l = [] → its = List.replicate 40 iN) := OK.ret ⟨its, rfl, hI, hN⟩
  rw [bif_dec, bif_dec]
  by_cases q1 : (i : Int) < l.length
  · by_cases q2 : (i : Int) < 20
    · rw [if_pos q1, if_pos q2]
      have ir : inRange (i : Int) l.length = true := inR (by omega)
      have fin : ∀ kd wh a b : Int, Want c kd wh a b → ∀ kd', (kd' = if kd = 4 ∧ wh ≠ 1 then 1 else kd) →
          OK (Option.bind (f21 its wh a b) fun y14 =>
            bif decide (y14.1 < 0) then
              bif inRange (Int.tmod (IntKind.wrap .i64 (2 * (i : Int))) 40) its.length then
                rec (seat, l, k, IntKind.wrap .i64 ((i : Int) + 1), z0, z1, z2, z3, z4, z5, z6, z7, w0, w1, w2, w3, g0, g1, g2, g3, op, c, es, its.set (Int.toNat (Int.tmod (IntKind.wrap .i64 (2 * (i : Int))) 40)) (kd', wh, a, b), ())
              else none
            else rec (seat, l, k, IntKind.wrap .i64 ((i : Int) + 1), z0, z1, z2, z3, z4, z5, z6, z7, w0, w1, w2, w3, g0, g1, g2, g3, op, c, es, its, ())) fun z => ∃ its, z = Sum.inl (z0, z1, z2, z3, z4, z5, z6, z7, w0, w1, w2, w3, g0, g1, g2, g3, c, es, its, ()) ∧ ItsOk c its ∧ (l = [] → its = List.replicate 40 iN) := by
        intro kd wh a b hW kd' ekd
        rw [rin_eq its (by omega)]
        simp only [Option.bind_some]
        rw [bif_dec, wr (x := (i : Int) + 1) (by omega), wr (x := 2 * (i : Int)) (by omega), Int.tmod_eq_emod_of_nonneg (by omega)]
        by_cases q3 : inI its wh a b < 0
        · rw [if_pos q3, inR (by omega), cond_true]
          have hP := want_placed hW ekd
          clear hW ekd
          refine ih (i + 1, its.set (2 * (i : Int) % 40).toNat (kd', wh, a, b)) ⟨by dsimp only; omega, hI.put (by omega) hP.2 hP.1 fun j hj _ e => ?_, fun e => ?_⟩ (by dsimp only; omega) _ rfl
          · have := inI_none.1 q3 j (by omega)
            unfold isAt at this
            rw [e] at this
            simp at this
          · subst e
            exact absurd q1 (by simp)
        · rw [if_neg q3]
          exact ih (i + 1, its) ⟨by dsimp only; omega, hI, hN⟩ (by dsimp only; omega) _ rfl
      simp only [ir, cond_true]
      have bk := within_b (l.getD (Int.toNat (i : Int)) (0, 0, 0, 0)).1 4 (by decide)
      have bw := within_b (l.getD (Int.toNat (i : Int)) (0, 0, 0, 0)).2.1 4 (by decide)
      rw [within7_eq _ _ (by decide) (by decide)]
      simp only [Option.bind_some]
      rw [within7_eq _ _ (by decide) (by decide)]
      simp only [Option.bind_some]
      rw [wr (x := 1 + within (l.getD (Int.toNat (i : Int)) (0, 0, 0, 0)).2.1 4) (by omega), wr (x := 1 + within (l.getD (Int.toNat (i : Int)) (0, 0, 0, 0)).1 4) (by omega)]
      have bK : 1 ≤ 1 + within (l.getD (Int.toNat (i : Int)) (0, 0, 0, 0)).1 4 ∧ 1 + within (l.getD (Int.toNat (i : Int)) (0, 0, 0, 0)).1 4 ≤ 4 := by omega
      have bV : 1 ≤ 1 + within (l.getD (Int.toNat (i : Int)) (0, 0, 0, 0)).2.1 4 ∧ 1 + within (l.getD (Int.toNat (i : Int)) (0, 0, 0, 0)).2.1 4 ≤ 4 := by omega
      generalize 1 + within (l.getD (Int.toNat (i : Int)) (0, 0, 0, 0)).1 4 = K at *
      generalize hWh : 1 + within (l.getD (Int.toNat (i : Int)) (0, 0, 0, 0)).2.1 4 = V at *
      refine OK.callR (R := fun z => ∃ kd a b, z = Sum.inl (seat, l, k, (i : Int), z0, z1, z2, z3, z4, z5, z6, z7, w0, w1, w2, w3, g0, g1, g2, g3, op, kd, V, a, b, c, es, its, ()) ∧ Want c kd V a b) ?_ ?_
      · refine OK.bif (fun h1 => ?_) (fun h1 => ?_)
        · have eV : V = 1 := beq_iff_eq.1 h1
          rw [within7_eq _ _ (by omega) (by omega)]
          simp only [Option.bind_some]
          have bo := within_b (l.getD (Int.toNat (i : Int)) (0, 0, 0, 0)).2.2.1 op.length (by omega)
          generalize within (l.getD (Int.toNat (i : Int)) (0, 0, 0, 0)).2.2.1 op.length = u at *
          have hm : op.getD u.toNat 0 ∈ op := by
            rw [List.getD_eq_getElem?_getD, List.getElem?_eq_getElem (by omega)]
            exact List.getElem_mem _
          have ho := hop _ hm
          rw [inR (by omega), cond_true]
          have cell : ∀ m : Int, 0 ≤ m → m < 384 → c.getD m.toNat 0 ≠ 0 → Want c K V (Int.tmod m 24) (IntKind.wrap .i64 (Int.tdiv m 24)) := fun m m0 m1 m2 => by
            rw [Int.tmod_eq_emod_of_nonneg m0, Int.tdiv_eq_ediv_of_nonneg m0, wr (by omega)]
            refine .inl ⟨eV, by omega, by omega, by omega, by omega, ?_, by omega, by omega⟩
            rw [show m / 24 * 24 + m % 24 = m by omega]
            exact m2
          refine OK.callR (R := fun z => ∃ m, z = Sum.inl (seat, l, k, (i : Int), m, z0, z1, z2, z3, z4, z5, z6, z7, w0, w1, w2, w3, g0, g1, g2, g3, op, K, V, 0, 0, c, es, its, ()) ∧ 0 ≤ m ∧ m < 384 ∧ c.getD m.toNat 0 ≠ 0) ?_ ?_
          · refine OK.bif (fun _ => ?_) (fun _ => ?_)
            · exact OK.ret ⟨k, rfl, hk.1, hk.2, hkw⟩
            · exact OK.ret ⟨_, rfl, ho⟩
          · rintro z ⟨m, rfl, m0, m1, m2⟩
            simp only [Sum.elim_inl]
            exact OK.ret ⟨_, _, _, rfl, cell m m0 m1 m2⟩
        · refine OK.bif (fun h2 => ?_) (fun h2 => ?_)
          · have eV : V = 2 := beq_iff_eq.1 h2
            have ba := within_b (l.getD (Int.toNat (i : Int)) (0, 0, 0, 0)).2.2.1 4 (by decide)
            have bb := within_b (l.getD (Int.toNat (i : Int)) (0, 0, 0, 0)).2.2.2 4 (by decide)
            rw [within7_eq _ _ (by decide) (by decide)]
            simp only [Option.bind_some]
            rw [within7_eq _ _ (by decide) (by decide)]
            simp only [Option.bind_some]
            refine OK.bif (fun _ => ?_) (fun _ => ?_)
            · exact OK.ret ⟨_, _, _, rfl, .inr (.inl ⟨eV, hs.1, hs.2, bb.2.2.1, bb.2.2.2, by omega, by omega⟩)⟩
            · exact OK.ret ⟨_, _, _, rfl, .inr (.inl ⟨eV, ba.2.2.1, ba.2.2.2, bb.2.2.1, bb.2.2.2, by omega, by omega⟩)⟩
          · refine OK.bif (fun h3 => ?_) (fun h3 => ?_)
            · have eV : V = 3 := beq_iff_eq.1 h3
              have ba := within_b (l.getD (Int.toNat (i : Int)) (0, 0, 0, 0)).1 2 (by decide)
              rw [within7_eq _ _ (by decide) (by decide)]
              simp only [Option.bind_some]
              rw [wr (x := 2 + within (l.getD (Int.toNat (i : Int)) (0, 0, 0, 0)).1 2) (by omega), wr (by omega)]
              exact OK.ret ⟨_, _, _, rfl, .inr (.inr (.inl ⟨eV, hs.1, hs.2, by omega⟩))⟩
            · have eV : V = 4 := by
                have n1 := beq_eq_false_iff_ne.1 h1
                have n2 := beq_eq_false_iff_ne.1 h2
                have n3 := beq_eq_false_iff_ne.1 h3
                omega
              have ba := within_b (l.getD (Int.toNat (i : Int)) (0, 0, 0, 0)).2.2.1 3 (by decide)
              rw [beq_iff_eq.2 eV, cond_true, within7_eq _ _ (by decide) (by decide)]
              simp only [Option.bind_some]
              exact OK.ret ⟨_, _, _, rfl, .inr (.inr (.inr ⟨eV, ba.2.2.1, ba.2.2.2, rfl, by omega, by omega⟩))⟩
      · rintro z ⟨kd, a, b, rfl, hW⟩
        simp only [Sum.elim_inl]
        refine OK.callR (R := fun z => ∃ kd', z = Sum.inl (seat, l, k, (i : Int), z0, z1, z2, z3, z4, z5, z6, z7, w0, w1, w2, w3, g0, g1, g2, g3, op, kd', V, a, b, c, es, its, ()) ∧ kd' = if kd = 4 ∧ V ≠ 1 then 1 else kd) ?_ ?_
        · refine OK.bif (fun h1 => ?_) (fun h1 => ?_)
          · have e1 := beq_iff_eq.1 h1
            refine OK.bif (fun h2 => ?_) (fun h2 => ?_)
            · exact OK.ret ⟨_, rfl, by rw [if_pos ⟨e1, bne_iff_ne.1 h2⟩]⟩
            · refine OK.ret ⟨_, rfl, ?_⟩
              rw [if_neg]
              intro z
              have := bne_iff_ne.2 z.2
              rw [h2] at this
              cases this
          · exact OK.ret ⟨_, rfl, by rw [if_neg (fun z => beq_eq_false_iff_ne.1 h1 z.1)]⟩
        · rintro z ⟨kd', rfl, hkd⟩
          simp only [Sum.elim_inl]
          exact fin kd V a b hW kd' hkd
    · rw [if_pos q1, if_neg q2]
      exact done
  · rw [if_neg q1]
    exact done
end Go.Proofs.Ytjmbmpeflhkngaa.Wd
/- Worlds of the laws: what World makes (own work). -/
namespace Go.Proofs.Ytjmbmpeflhkngaa.Wd
open Go Go.Proofs.Ytjmbmpeflhkngaa.Mx Go.Proofs.Ytjmbmpeflhkngaa.Pc Go.Proofs.Ytjmbmpeflhkngaa.Run Go.Proofs.Ytjmbmpeflhkngaa.Field Go.Proofs.Ytjmbmpeflhkngaa.Gen Go.Proofs.Ytjmbmpeflhkngaa.GenL Go.Proofs.Ytjmbmpeflhkngaa.Fl
set_option linter.unusedVariables false
set_option linter.unusedSimpArgs false
theorem hero_stats : f25 1 = some (1, 0, 0, 0, 0, 20, 20, 5, 1, 0, 0, ()) := rfl
theorem gold_eq (seat g : Int) (j : Nat) (hs : 0 ≤ seat) : (if seat.toNat = j then g else 0) = goldOf seat g j := by
  unfold goldOf
  by_cases h : seat.toNat = j
  · rw [if_pos h, if_pos (by omega)]
  · rw [if_neg h, if_neg (by omega)]
theorem world_is (s f seat at' : Int) (l : List ItT) (hl : l.length ≤ 1000000000000000) (gold : Int) :
    OK (f23 s f seat at' l gold) fun z => ∃ its, z = (s, 0, 1 + within f 3, 0, goldOf (within seat 4) (within gold 1000) 0, goldOf (within seat 4) (within gold 1000) 1, goldOf (within seat 4) (within gold 1000) 2, goldOf (within seat 4) (within gold 1000) 3, cells s (1 + within f 3), entsW s (1 + within f 3) (within seat 4) at', its, ()) ∧ ItsOk (cells s (1 + within f 3)) its ∧ (l = [] → its = List.replicate 40 iN) := by
  have bf := within_b f 3 (by decide)
  unfold f23
  rw [within7_eq _ _ (by decide) (by decide)]
  simp only [Option.bind_some]
  rw [wr (x := 1 + within f 3) (by omega)]
  generalize hfl : 1 + within f 3 = fl at *
  have f1 : 1 ≤ fl := by omega
  have f2 : fl ≤ 10000 := by omega
  rw [rmake_eq s fl f1 f2]
  simp only [Option.bind_some]
  have e1 : (floor s fl).1 = cells s fl := rfl
  rw [e1]
  have hcl := cells_len s fl
  have hcb := cells_cb s fl
  unfold f23.L2
  refine OK.loop (fun i : Nat => (seat, at', l, gold, (i : Int), 0, 0, 0, 0, 0, 0, 0, 0, s, 0, fl, 0, 0, 0, 0, 0, opens (cells s fl) i, cells s fl, List.replicate 32 eN, List.replicate 40 iN, ())) (fun i => i ≤ 384) (fun i => 384 - i) (fun rec i hi ih => ?_) 0 rfl (Nat.zero_le _) (by decide)
  dsimp only
  rw [bif_dec]
  by_cases q : i < 384
  · have b := hcb i
    have ho := opens_len (cells s fl) i
    have go := ih (i + 1) (by omega) (by omega) _ rfl
    rw [opens_succ] at go
    rw [if_pos (by omega), inR (by omega), cond_true, wr (x := (i : Int) + 1) (by omega), Int.toNat_natCast, wr (x := (cells s fl).getD i 0) (by omega), rwalk_eq]
    simp only [Option.bind_some]
    cases hw : walkable ((cells s fl).getD i 0) with
    | true =>
      rw [cond_true, decide_eq_true (by simp [limit]; omega), cond_true]
      rw [hw] at go
      exact go
    | false =>
      rw [cond_false]
      rw [hw, if_neg (by decide), List.append_nil] at go
      exact go
  · have : i = 384 := by omega
    subst this
    have h1 := opens_some s fl
    have h2 := opens_len (cells s fl) 384
    have bs := within_b seat 4 (by decide)
    have ba := within_b at' (opens (cells s fl) 384).length (by omega)
    rw [if_neg (by omega), within7_eq _ _ (by decide) (by decide)]
    simp only [Option.bind_some]
    rw [within7_eq _ _ (by omega) (by omega)]
    simp only [Option.bind_some]
    rw [inR (by omega), cond_true]
    have hg := heroAt_gc s fl at'
    refine OK.callR (R := fun z => z = Sum.inl (within seat 4, at', l, gold, heroAt s fl at', 0, 0, 0, 0, 0, 0, 0, 0, s, 0, fl, 0, 0, 0, 0, 0, opens (cells s fl) 384, cells s fl, List.replicate 32 eN, List.replicate 40 iN, ())) ?_ ?_
    · have eK : heroAt s fl at' = if Int.tmod at' 3 = 0 ∧ (shopAt s fl).isSome then (((shopAt s fl).getD 0 : Nat) : Int) else (opens (cells s fl) 384).getD (within at' (opens (cells s fl) 384).length).toNat 0 := rfl
      rw [find_r _ hcb hcl, find_shop]
      simp only [Option.bind_some]
      by_cases z : Int.tmod at' 3 = 0
      · have z' : (Int.tmod at' 3 == 0) = true := beq_iff_eq.2 z
        rw [z', cond_true]
        cases hsh : shopAt s fl with
        | none =>
          rw [hsh] at eK
          rw [if_neg (by simp)] at eK
          rw [eK]
          exact OK.ret rfl
        | some k =>
          rw [hsh] at eK
          rw [if_pos ⟨z, rfl⟩] at eK
          rw [eK, decide_eq_true (show ((k : Nat) : Int) ≥ 0 by omega), cond_true]
          exact OK.ret rfl
      · have z' : (Int.tmod at' 3 == 0) = false := beq_eq_false_iff_ne.2 z
        rw [z', cond_false]
        rw [if_neg (fun y => z y.1)] at eK
        rw [eK]
        exact OK.ret rfl
    · rintro z rfl
      simp only [Sum.elim_inl]
      rw [hero_stats]
      simp only [Option.bind_some]
      have b20 := within_b at' 20 (by decide)
      have b32 := within_b at' 32 (by decide)
      have bg := within_b gold 1000 (by decide)
      rw [within7_eq at' 20 (by decide) (by decide)]
      simp only [Option.bind_some]
      rw [within7_eq at' 32 (by decide) (by decide)]
      simp only [Option.bind_some]
      rw [inR (by rw [List.length_replicate]; omega), cond_true, within7_eq gold 1000 (by decide) (by decide)]
      simp only [Option.bind_some]
      rw [inR (by omega), cond_true]
      have hg' := hg.1
      unfold GC at hg'
      have ewk := hg.2
      rw [wk_iff (cells_val s fl _)] at ewk
      have hop : ∀ n ∈ opens (cells s fl) 384, 0 ≤ n ∧ n < 384 ∧ (cells s fl).getD n.toNat 0 ≠ 0 := fun n hn => by
        have := opens_mem hn
        exact ⟨this.1, by omega, walk_ne this.2.2⟩
      refine OK.callR (items_w s fl (within seat 4) (heroAt s fl at') l hl (cells s fl) (opens (cells s fl) 384) bs.2.2 hg.1 ewk hop ⟨h1, h2⟩ 0 0 0 0 0 0 0 0 s 0 fl 0 _ _ _ _ _) ?_
      rintro z ⟨its, rfl, hI, hN⟩
      simp only [Sum.elim_inl]
      refine OK.ret ⟨its, ?_, hI, hN⟩
      have g0 := gold_eq (within seat 4) (within gold 1000) 0 bs.2.2.1
      have g1 := gold_eq (within seat 4) (within gold 1000) 1 bs.2.2.1
      have g2 := gold_eq (within seat 4) (within gold 1000) 2 bs.2.2.1
      have g3 := gold_eq (within seat 4) (within gold 1000) 3 bs.2.2.1
      rw [← show ((0 : Nat) : Int) = 0 from rfl, ← show ((1 : Nat) : Int) = 1 from rfl, ← show ((2 : Nat) : Int) = 2 from rfl, ← show ((3 : Nat) : Int) = 3 from rfl, ← g0, ← g1, ← g2, ← g3]
      have ee : entsW s fl (within seat 4) at' = (List.replicate 32 eN).set (within at' 32).toNat (1, 0, within seat 4, Int.tmod (heroAt s fl at') 24, IntKind.wrap .i64 (Int.tdiv (heroAt s fl at') 24), IntKind.wrap .i64 (1 + within at' 20), 20, 5, 1, 0, 0) := by
        rw [Int.tmod_eq_emod_of_nonneg hg'.1, Int.tdiv_eq_ediv_of_nonneg hg'.1, wr (by omega), wr (by omega)]
        rfl
      rw [ee]
      rfl
end Go.Proofs.Ytjmbmpeflhkngaa.Wd
/- Blows in plain words, and that both texts give them (own work). -/
namespace Go.Proofs.Ytjmbmpeflhkngaa.Ft
open Go Go.Proofs.Ytjmbmpeflhkngaa.Mx Go.Proofs.Ytjmbmpeflhkngaa.Pc Go.Proofs.Ytjmbmpeflhkngaa.Run Go.Proofs.Ytjmbmpeflhkngaa.Field Go.Proofs.Ytjmbmpeflhkngaa.Gen Go.Proofs.Ytjmbmpeflhkngaa.GenL Go.Proofs.Ytjmbmpeflhkngaa.Fl Go.Proofs.Ytjmbmpeflhkngaa.Wd
set_option linter.unusedVariables false
set_option linter.unusedSimpArgs false
set_option maxHeartbeats 1000000
def kd (e : EntT) : Int := e.1
def gn (e : EntT) : Int := e.2.1
def st (e : EntT) : Int := e.2.2.1
def ex (e : EntT) : Int := e.2.2.2.1
def ey (e : EntT) : Int := e.2.2.2.2.1
def hp (e : EntT) : Int := e.2.2.2.2.2.1
def mxh (e : EntT) : Int := e.2.2.2.2.2.2.1
def atk (e : EntT) : Int := e.2.2.2.2.2.2.2.1
def df (e : EntT) : Int := e.2.2.2.2.2.2.2.2.1
def po (e : EntT) : Int := e.2.2.2.2.2.2.2.2.2.1
def sn (e : EntT) : Int := e.2.2.2.2.2.2.2.2.2.2
def setHP (e : EntT) (v : Int) : EntT := (e.1, e.2.1, e.2.2.1, e.2.2.2.1, e.2.2.2.2.1, v, e.2.2.2.2.2.2.1, e.2.2.2.2.2.2.2.1, e.2.2.2.2.2.2.2.2.1, e.2.2.2.2.2.2.2.2.2.1, e.2.2.2.2.2.2.2.2.2.2)
def setPo (e : EntT) (v : Int) : EntT := (e.1, e.2.1, e.2.2.1, e.2.2.2.1, e.2.2.2.2.1, e.2.2.2.2.2.1, e.2.2.2.2.2.2.1, e.2.2.2.2.2.2.2.1, e.2.2.2.2.2.2.2.2.1, v, e.2.2.2.2.2.2.2.2.2.2)
def setSn (e : EntT) (v : Int) : EntT := (e.1, e.2.1, e.2.2.1, e.2.2.2.1, e.2.2.2.2.1, e.2.2.2.2.2.1, e.2.2.2.2.2.2.1, e.2.2.2.2.2.2.2.1, e.2.2.2.2.2.2.2.2.1, e.2.2.2.2.2.2.2.2.2.1, v)
/-- An entity as it may be. -/
def EOk (e : EntT) : Prop := (kd e = 0 ∧ e = (0, gn e, 0, 0, 0, 0, 0, 0, 0, 0, 0)) ∨ (1 ≤ kd e ∧ kd e ≤ 4 ∧ 1 ≤ hp e ∧ hp e ≤ mxh e ∧ mxh e ≤ 20 ∧ 0 ≤ atk e ∧ atk e ≤ 5 ∧ 0 ≤ df e ∧ df e ≤ 1 ∧ 0 ≤ po e ∧ po e ≤ 9 ∧ 0 ≤ sn e ∧ sn e ≤ 9)
structure LOk (l : List EntT) : Prop where
  len : l.length = 32
  ent : ∀ i, i < 32 → EOk (l.getD i eN)
/-- Items of which those that are worn have a kind. -/
def IOk (its : List ItT) : Prop := its.length ≤ 1000 ∧ ∀ i, i < its.length → (its.getD i iN).2.1 ≠ 0 → (its.getD i iN).1 ≠ 0
def alive (l : List EntT) (r : Int) : Bool := decide (0 ≤ r) && decide (r < (l.length : Int)) && (l.getD r.toNat eN).1 != 0
def freeE (e : EntT) : EntT := (0, e.2.1, 0, 0, 0, 0, 0, 0, 0, 0, 0)
def sweep1 (s : Int) (x : ItT) : ItT := if (x.2.1 = 2 ∨ x.2.1 = 3) ∧ x.2.2.1 = s then iN else x
def sweep (its : List ItT) (s : Int) : List ItT := its.map (sweep1 s)
def hurt (l : List EntT) (its : List ItT) (r n : Int) : List EntT × List ItT :=
  if alive l r = false ∨ n < 1 then (l, its)
  else if n < hp (l.getD r.toNat eN) then (l.set r.toNat (setHP (l.getD r.toNat eN) (hp (l.getD r.toNat eN) - n)), its)
  else (l.set r.toNat (freeE (l.getD r.toNat eN)), if kd (l.getD r.toNat eN) = 1 then sweep its (st (l.getD r.toNat eN)) else its)
def bon (its : List ItT) (s : Int) : Int × Int := (if inI its 3 s 0 < 0 then 0 else 3, if inI its 3 s 1 < 0 then 0 else 2)
noncomputable section
def dval (n s : Int) (l : List Int) : Int := ((f35 n s l).getD (0, ())).1
theorem die_is (n s : Int) (l : List Int) (hl : l.length ≤ 1000) (h1 : 1 ≤ n) (h2 : n ≤ 1000000000) : f35 n s l = some (dval n s l, ()) ∧ 0 ≤ dval n s l ∧ dval n s l < n := by
  obtain ⟨y, e, h⟩ := die_ok n s l (by omega) h1 h2
  unfold dval
  rw [e]
  exact ⟨rfl, h⟩
def arm (e : EntT) (its : List ItT) : Int := if kd e = 1 then atk e + (bon its (st e)).1 else atk e
def guard' (e : EntT) (its : List ItT) : Int := if kd e = 1 then df e + (bon its (st e)).2 else df e
/-- What a blow takes. -/
def blow (sd fr a b : Int) (l : List EntT) (its : List ItT) : Int := max 1 (arm (l.getD a.toNat eN) its - guard' (l.getD b.toNat eN) its) + dval 3 sd [fr, a, b, 77]
/-- What a blow leaves. -/
def leave (sd fr a b k : Int) (l : List EntT) : List EntT :=
  if k = 4 then l.set b.toNat (setPo (l.getD b.toNat eN) (min (po (l.getD b.toNat eN) + 3) 9))
  else if k = 3 then (if dval 4 sd [fr, a, b, 78] = 0 then l.set b.toNat (setSn (l.getD b.toNat eN) (min (sn (l.getD b.toNat eN) + 2) 9)) else l)
  else l
def hit (sd fr : Int) (l : List EntT) (its : List ItT) (a b : Int) : List EntT × List ItT :=
  if alive l a = false ∨ alive l b = false then (l, its)
  else if alive (hurt l its b (blow sd fr a b l its)).1 b = false then hurt l its b (blow sd fr a b l its)
  else (leave sd fr a b (kd (l.getD a.toNat eN)) (hurt l its b (blow sd fr a b l its)).1, (hurt l its b (blow sd fr a b l its)).2)
/-- A row's ailments, one frame of them. -/
def ail1 (l : List EntT) (its : List ItT) (i : Nat) : List EntT × List ItT :=
  if alive l i = false then (l, its)
  else
    let l1 := if 0 < sn (l.getD i eN) then l.set i (setSn (l.getD i eN) (sn (l.getD i eN) - 1)) else l
    if 0 < po (l1.getD i eN) then hurt (l1.set i (setPo (l1.getD i eN) (po (l1.getD i eN) - 1))) its i 1 else (l1, its)
def ail (l : List EntT) (its : List ItT) (n : Nat) : List EntT × List ItT := (List.range n).foldl (fun p i => ail1 p.1 p.2 i) (l, its)
theorem ail_succ (l : List EntT) (its : List ItT) (n : Nat) : ail l its (n + 1) = ail1 (ail l its n).1 (ail l its n).2 n := by
  unfold ail
  rw [List.range_succ, List.foldl_append]; rfl
/-! what stays so -/
theorem getD_set' {A : Type} (l : List A) (i j : Nat) (x d : A) (h : i < l.length) : (l.set i x).getD j d = if i = j then x else l.getD j d := by
  rw [getD_set]
  by_cases e : i = j
  · rw [if_pos ⟨e, h⟩, if_pos e]
  · rw [if_neg (fun z => e z.1), if_neg e]
theorem LOk.set {l : List EntT} (h : LOk l) (i : Nat) {e : EntT} (he : EOk e) : LOk (l.set i e) := ⟨by rw [List.length_set]; exact h.len, fun j hj => by
  rw [getD_set]
  split
  · exact he
  · exact h.ent j hj⟩
theorem alive_iff {l : List EntT} {r : Int} : alive l r = true ↔ 0 ≤ r ∧ r < l.length ∧ kd (l.getD r.toNat eN) ≠ 0 := by
  unfold alive kd
  simp only [Bool.and_eq_true, decide_eq_true_eq, bne_iff_ne, ne_eq, and_assoc]
theorem alive_not {l : List EntT} {r : Int} (h : ¬ (alive l r = false ∨ False)) : alive l r = true := by
  cases e : alive l r with
  | true => rfl
  | false => exact absurd (.inl e) h
theorem EOk.free (e : EntT) : EOk (freeE e) := .inl ⟨rfl, rfl⟩
theorem LOk.taken {l : List EntT} (h : LOk l) {r : Int} (ha : alive l r = true) : 1 ≤ kd (l.getD r.toNat eN) ∧ kd (l.getD r.toNat eN) ≤ 4 ∧ 1 ≤ hp (l.getD r.toNat eN) ∧ hp (l.getD r.toNat eN) ≤ mxh (l.getD r.toNat eN) ∧ mxh (l.getD r.toNat eN) ≤ 20 ∧ 0 ≤ atk (l.getD r.toNat eN) ∧ atk (l.getD r.toNat eN) ≤ 5 ∧ 0 ≤ df (l.getD r.toNat eN) ∧ df (l.getD r.toNat eN) ≤ 1 ∧ 0 ≤ po (l.getD r.toNat eN) ∧ po (l.getD r.toNat eN) ≤ 9 ∧ 0 ≤ sn (l.getD r.toNat eN) ∧ sn (l.getD r.toNat eN) ≤ 9 := by
  obtain ⟨h0, h1, h2⟩ := alive_iff.1 ha
  have hl := h.len
  rcases h.ent r.toNat (by omega) with ⟨q, _⟩ | q
  · exact absurd q h2
  · exact q
theorem sweep_len (its : List ItT) (s : Int) : (sweep its s).length = its.length := by simp [sweep]
theorem sweep_get (its : List ItT) (s : Int) (i : Nat) : (sweep its s).getD i iN = sweep1 s (its.getD i iN) := by
  unfold sweep
  simp only [List.getD_eq_getElem?_getD, List.getElem?_map]
  cases its[i]? with
  | some x => rfl
  | none =>
    show iN = sweep1 s iN
    unfold sweep1; split <;> rfl
theorem IOk.sweep {its : List ItT} (h : IOk its) (s : Int) : IOk (sweep its s) := ⟨by rw [sweep_len]; exact h.1, fun i hi => by
  rw [sweep_len] at hi
  rw [sweep_get]
  unfold sweep1
  split
  · intro z; exact absurd rfl z
  · exact h.2 i hi⟩
theorem hurt_ok {l : List EntT} {its : List ItT} (h : LOk l) (hi : IOk its) (r n : Int) : LOk (hurt l its r n).1 ∧ IOk (hurt l its r n).2 ∧ (hurt l its r n).2.length = its.length := by
  unfold hurt
  split
  · exact ⟨h, hi, rfl⟩
  · rename_i q
    have ha : alive l r = true := by
      cases e : alive l r with
      | true => rfl
      | false => exact absurd (.inl e) q
    have t := h.taken ha
    split
    · rename_i q2
      refine ⟨h.set _ (.inr ?_), hi, rfl⟩
      have : 1 ≤ n := by omega
      show 1 ≤ kd (l.getD r.toNat eN) ∧ kd (l.getD r.toNat eN) ≤ 4 ∧ 1 ≤ hp (l.getD r.toNat eN) - n ∧ hp (l.getD r.toNat eN) - n ≤ mxh (l.getD r.toNat eN) ∧ mxh (l.getD r.toNat eN) ≤ 20 ∧ 0 ≤ atk (l.getD r.toNat eN) ∧ atk (l.getD r.toNat eN) ≤ 5 ∧ 0 ≤ df (l.getD r.toNat eN) ∧ df (l.getD r.toNat eN) ≤ 1 ∧ 0 ≤ po (l.getD r.toNat eN) ∧ po (l.getD r.toNat eN) ≤ 9 ∧ 0 ≤ sn (l.getD r.toNat eN) ∧ sn (l.getD r.toNat eN) ≤ 9
      omega
    · refine ⟨h.set _ (EOk.free _), ?_, ?_⟩
      · dsimp only
        split
        · exact hi.sweep _
        · exact hi
      · dsimp only
        split
        · exact sweep_len _ _
        · rfl
theorem leave_ok {l : List EntT} (h : LOk l) {sd fr a b k : Int} (hb : alive l b = true) : LOk (leave sd fr a b k l) := by
  have t := h.taken hb
  unfold leave
  split
  · refine h.set _ (.inr ?_)
    show 1 ≤ kd (l.getD b.toNat eN) ∧ kd (l.getD b.toNat eN) ≤ 4 ∧ 1 ≤ hp (l.getD b.toNat eN) ∧ hp (l.getD b.toNat eN) ≤ mxh (l.getD b.toNat eN) ∧ mxh (l.getD b.toNat eN) ≤ 20 ∧ 0 ≤ atk (l.getD b.toNat eN) ∧ atk (l.getD b.toNat eN) ≤ 5 ∧ 0 ≤ df (l.getD b.toNat eN) ∧ df (l.getD b.toNat eN) ≤ 1 ∧ 0 ≤ min (po (l.getD b.toNat eN) + 3) 9 ∧ min (po (l.getD b.toNat eN) + 3) 9 ≤ 9 ∧ 0 ≤ sn (l.getD b.toNat eN) ∧ sn (l.getD b.toNat eN) ≤ 9
    omega
  · split
    · split
      · refine h.set _ (.inr ?_)
        show 1 ≤ kd (l.getD b.toNat eN) ∧ kd (l.getD b.toNat eN) ≤ 4 ∧ 1 ≤ hp (l.getD b.toNat eN) ∧ hp (l.getD b.toNat eN) ≤ mxh (l.getD b.toNat eN) ∧ mxh (l.getD b.toNat eN) ≤ 20 ∧ 0 ≤ atk (l.getD b.toNat eN) ∧ atk (l.getD b.toNat eN) ≤ 5 ∧ 0 ≤ df (l.getD b.toNat eN) ∧ df (l.getD b.toNat eN) ≤ 1 ∧ 0 ≤ po (l.getD b.toNat eN) ∧ po (l.getD b.toNat eN) ≤ 9 ∧ 0 ≤ min (sn (l.getD b.toNat eN) + 2) 9 ∧ min (sn (l.getD b.toNat eN) + 2) 9 ≤ 9
        omega
      · exact h
    · exact h
theorem hit_ok {l : List EntT} {its : List ItT} (h : LOk l) (hi : IOk its) (sd fr a b : Int) : LOk (hit sd fr l its a b).1 ∧ IOk (hit sd fr l its a b).2 ∧ (hit sd fr l its a b).2.length = its.length := by
  unfold hit
  have k := hurt_ok h hi b (blow sd fr a b l its)
  split
  · exact ⟨h, hi, rfl⟩
  · split
    · exact k
    · rename_i q
      exact ⟨leave_ok k.1 (by cases e : alive (hurt l its b (blow sd fr a b l its)).1 b with | true => rfl | false => exact absurd e q), k.2⟩
theorem ail1_ok {l : List EntT} {its : List ItT} (h : LOk l) (hi : IOk its) (i : Nat) : LOk (ail1 l its i).1 ∧ IOk (ail1 l its i).2 ∧ (ail1 l its i).2.length = its.length := by
  unfold ail1
  split
  · exact ⟨h, hi, rfl⟩
  · rename_i q
    have ha : alive l i = true := by cases e : alive l i with | true => rfl | false => exact absurd e q
    have t := h.taken ha
    rw [Int.toNat_natCast] at t
    have h1 : LOk (if 0 < sn (l.getD i eN) then l.set i (setSn (l.getD i eN) (sn (l.getD i eN) - 1)) else l) := by
      split
      · refine h.set _ (.inr ?_)
        show 1 ≤ kd (l.getD i eN) ∧ kd (l.getD i eN) ≤ 4 ∧ 1 ≤ hp (l.getD i eN) ∧ hp (l.getD i eN) ≤ mxh (l.getD i eN) ∧ mxh (l.getD i eN) ≤ 20 ∧ 0 ≤ atk (l.getD i eN) ∧ atk (l.getD i eN) ≤ 5 ∧ 0 ≤ df (l.getD i eN) ∧ df (l.getD i eN) ≤ 1 ∧ 0 ≤ po (l.getD i eN) ∧ po (l.getD i eN) ≤ 9 ∧ 0 ≤ sn (l.getD i eN) - 1 ∧ sn (l.getD i eN) - 1 ≤ 9
        omega
      · exact h
    have ha1 : kd ((if 0 < sn (l.getD i eN) then l.set i (setSn (l.getD i eN) (sn (l.getD i eN) - 1)) else l).getD i eN) ≠ 0 := by
      have hl := h.len
      obtain ⟨_, q1, q2⟩ := alive_iff.1 ha
      rw [Int.toNat_natCast] at q2
      split
      · rw [getD_set' _ _ _ _ _ (by omega), if_pos rfl]; exact q2
      · exact q2
    have hi32 : i < 32 := by
      have hl := h.len
      have := (alive_iff.1 ha).2.1
      omega
    dsimp only
    generalize (if 0 < sn (l.getD i eN) then l.set i (setSn (l.getD i eN) (sn (l.getD i eN) - 1)) else l) = l1 at *
    split
    · rename_i q3
      refine hurt_ok (h1.set _ (.inr ?_)) hi i 1
      rcases h1.ent i hi32 with q4 | q4
      · exact absurd q4.1 ha1
      · show 1 ≤ kd (l1.getD i eN) ∧ kd (l1.getD i eN) ≤ 4 ∧ 1 ≤ hp (l1.getD i eN) ∧ hp (l1.getD i eN) ≤ mxh (l1.getD i eN) ∧ mxh (l1.getD i eN) ≤ 20 ∧ 0 ≤ atk (l1.getD i eN) ∧ atk (l1.getD i eN) ≤ 5 ∧ 0 ≤ df (l1.getD i eN) ∧ df (l1.getD i eN) ≤ 1 ∧ 0 ≤ po (l1.getD i eN) - 1 ∧ po (l1.getD i eN) - 1 ≤ 9 ∧ 0 ≤ sn (l1.getD i eN) ∧ sn (l1.getD i eN) ≤ 9
        omega
    · exact ⟨h1, hi, rfl⟩
theorem ail_ok {l : List EntT} {its : List ItT} (h : LOk l) (hi : IOk its) : ∀ n, LOk (ail l its n).1 ∧ IOk (ail l its n).2 ∧ (ail l its n).2.length = its.length
  | 0 => ⟨h, hi, rfl⟩
  | n + 1 => by
    rw [ail_succ]
    obtain ⟨a, b, c⟩ := ail_ok h hi n
    obtain ⟨a', b', c'⟩ := ail1_ok a b n
    exact ⟨a', b', by omega⟩
end
end Go.Proofs.Ytjmbmpeflhkngaa.Ft
/- Dice of both texts; worlds apart (for seats without fight) (own work). -/
namespace Go.Proofs.Ytjmbmpeflhkngaa.Ft
open Go Go.Proofs.Ytjmbmpeflhkngaa.Mx Go.Proofs.Ytjmbmpeflhkngaa.Pc Go.Proofs.Ytjmbmpeflhkngaa.Run Go.Proofs.Ytjmbmpeflhkngaa.Field Go.Proofs.Ytjmbmpeflhkngaa.Gen Go.Proofs.Ytjmbmpeflhkngaa.GenL Go.Proofs.Ytjmbmpeflhkngaa.Fl Go.Proofs.Ytjmbmpeflhkngaa.Wd
set_option linter.unusedVariables false
set_option linter.unusedSimpArgs false
set_option maxHeartbeats 1000000
/-! Two loops side by side, and the dice. -/
theorem it_sim {X Y B : Type} {F : (X → Option B) → X → Option B} {G : (Y → Option B) → Y → Option B} (r : X → Y → Prop)
    (h : ∀ (f : X → Option B) (g : Y → Option B) x y, r x y → (∀ x' y', r x' y' → f x' = g y') → F f x = G g y) : ∀ (n : Nat) (x : X) (y : Y), r x y → Mx.it F n x = Mx.it G n y
  | 0, x, y, _ => by rw [it_zero, it_zero]
  | n + 1, x, y, hr => by
    rw [it_succ, it_succ]
    exact h _ _ x y hr fun x' y' q => it_sim r h n x' y' q
theorem cg2 {A B C : Type} (f : A → B → C) {a a' : A} {b b' : B} (h : a = a') (h' : b = b') : f a b = f a' b' := by rw [h, h']
theorem mix_one (a : Int) : f96 a = f51 a := rfl
theorem mix_same (s : Int) (l : List Int) : f84 s l = f45 s l := by
  unfold f84 f45
  rw [mix_one]
  refine congrArg _ (funext fun y => ?_)
  unfold f84.L1 f45.L1
  refine it_sim (fun x y => x = (y.2.1, y.1, (y.1.length : Int), y.2.2.1, ())) ?_ _ _ _ rfl
  rintro f g x ⟨l, acc, i, u⟩ rfl hr
  dsimp only
  rw [mix_one]
  generalize f51 _ = o
  refine cg2 (fun a b => bif decide (i < (l.length : Int)) then a else b) ?_ rfl
  refine cg2 (fun a b => bif inRange i l.length then a else b) ?_ rfl
  refine congrArg _ (funext fun y => ?_)
  exact hr _ (l, y.1, _, ()) rfl
theorem die_same (n s : Int) (l : List Int) : f71 n s l = f35 n s l := by
  unfold f71 f35
  rw [mix_same]
section
variable (a0 a1 a2 a3 : Int) (c : List Int) (a7 a8 a9 a10 : Int)
theorem rtwin_eq {l : List EntT} {its : List ItT} (hc : c.length ≤ 1000) (hl : l.length ≤ 1000) (hi : its.length ≤ 1000) : f10 a0 a1 a2 a3 c l its a7 a8 a9 a10 = some (a0, a1, a2, a3, a7, a8, a9, a10, c, l, its, ()) := by
  unfold f10
  rw [decide_eq_true (by simp [limit]; omega), decide_eq_true (by simp [limit]; omega), decide_eq_true (by simp [limit]; omega)]
  rfl
end
theorem list_ext' {A : Type} {x y : List A} (d : A) (hl : x.length = y.length) (h : ∀ i, i < x.length → x.getD i d = y.getD i d) : x = y := by
  apply List.ext_getElem hl
  intro i a b
  have := h i a
  rw [List.getD_eq_getElem?_getD, List.getD_eq_getElem?_getD, List.getElem?_eq_getElem a, List.getElem?_eq_getElem b] at this
  exact this
end Go.Proofs.Ytjmbmpeflhkngaa.Ft
/- Crowds: a world with monsters and heroes about (own work). -/
namespace Go.Proofs.Ytjmbmpeflhkngaa.Ft
open Go Go.Proofs.Ytjmbmpeflhkngaa.Mx Go.Proofs.Ytjmbmpeflhkngaa.Pc Go.Proofs.Ytjmbmpeflhkngaa.Run Go.Proofs.Ytjmbmpeflhkngaa.Field Go.Proofs.Ytjmbmpeflhkngaa.Gen Go.Proofs.Ytjmbmpeflhkngaa.GenL Go.Proofs.Ytjmbmpeflhkngaa.Fl Go.Proofs.Ytjmbmpeflhkngaa.Wd
set_option linter.unusedVariables false
set_option linter.unusedSimpArgs false
set_option maxHeartbeats 1000000
theorem within8_eq (a n : Int) (h : 0 < n) (hn : n ≤ 1000000000000) : f31 a n = some (within a n, ()) := by
  have := within_b a n h
  unfold f31 within
  simp only [Option.bind_some, bif_dec]
  rw [if_neg (by omega)]
  split
  · rw [wr (by omega)]; rfl
  · rfl
/-- A row's number; -1: none. -/
def oI : Option Nat → Int
  | some i => (i : Int)
  | none => -1
/-- Who stands at a place; -1: nobody. -/
def standsAt (x y : Int) (e : EntT) : Bool := kd e != 0 && (ex e == x && ey e == y)
def atE (l : List EntT) (x y : Int) : Int := oI ((List.range l.length).find? fun i => standsAt x y (l.getD i eN))
def isHero (s : Int) (e : EntT) : Bool := kd e == 1 && st e == s
def heroE' (l : List EntT) (s : Int) : Int := oI ((List.range l.length).find? fun i => isHero s (l.getD i eN))
theorem find_neg {p : Nat → Bool} {n : Nat} : oI ((List.range n).find? p) < 0 ↔ ∀ i, i < n → p i = false := by
  cases h : (List.range n).find? p with
  | none =>
    exact ⟨fun _ i hi => by simpa using List.find?_range_eq_none.1 h i hi, fun _ => (by decide : (-1 : Int) < 0)⟩
  | some k =>
    obtain ⟨h1, h2, _⟩ := List.find?_range_eq_some.1 h
    refine ⟨fun q => absurd q (by show ¬ (k : Int) < 0; omega), fun q => ?_⟩
    rw [q k (List.mem_range.1 h2)] at h1
    cases h1
theorem find_pos {p : Nat → Bool} {n : Nat} (h : ¬ oI ((List.range n).find? p) < 0) : ∃ k, k < n ∧ oI ((List.range n).find? p) = k ∧ p k = true ∧ ∀ j, j < k → p j = false := by
  cases e : (List.range n).find? p with
  | none => rw [e] at h; exact absurd (by decide : (-1 : Int) < 0) h
  | some k =>
    obtain ⟨h1, h2, h3⟩ := List.find?_range_eq_some.1 e
    exact ⟨k, List.mem_range.1 h2, rfl, h1, fun j hj => by simpa using h3 j hj⟩
theorem rat_eq (l : List EntT) (hl : l.length ≤ 100000) (x y : Int) : f17 l x y = some (atE l x y, ()) := by
  unfold f17 f17.L1 atE
  refine (it_find (x := (l, x, y, 0, ())) (fun i => standsAt x y (l.getD i eN)) l.length (fun i : Nat => (l, x, y, (i : Int), ())) (fun i => some ((i : Int), ())) (some (-1, ())) (fun rec i hi => ?_) (by omega) rfl).trans ?_
  rotate_left
  · cases (List.range l.length).find? fun i => standsAt x y (l.getD i eN) <;> rfl
  · dsimp only
    rw [bif_dec]
    by_cases c : i < l.length
    · rw [if_pos c, if_pos (by omega), inR (by omega), wr (by omega), Int.toNat_natCast]
      simp only [cond_true]
      unfold standsAt kd ex ey
      cases (l.getD i (0, 0, 0, 0, 0, 0, 0, 0, 0, 0, 0)).1 != 0 <;> cases (l.getD i (0, 0, 0, 0, 0, 0, 0, 0, 0, 0, 0)).2.2.2.1 == x <;> cases (l.getD i (0, 0, 0, 0, 0, 0, 0, 0, 0, 0, 0)).2.2.2.2.1 == y <;> rfl
    · rw [if_neg c, if_neg (by omega)]
theorem rhero_eq (l : List EntT) (hl : l.length ≤ 100000) (s : Int) : f20 l s = some (heroE' l s, ()) := by
  unfold f20 f20.L1 heroE'
  refine (it_find (x := (l, s, 0, ())) (fun i => isHero s (l.getD i eN)) l.length (fun i : Nat => (l, s, (i : Int), ())) (fun i => some ((i : Int), ())) (some (-1, ())) (fun rec i hi => ?_) (by omega) rfl).trans ?_
  rotate_left
  · cases (List.range l.length).find? fun i => isHero s (l.getD i eN) <;> rfl
  · dsimp only
    rw [bif_dec]
    by_cases c : i < l.length
    · rw [if_pos c, if_pos (by omega), inR (by omega), wr (by omega), Int.toNat_natCast]
      simp only [cond_true]
      unfold isHero kd st
      cases (l.getD i (0, 0, 0, 0, 0, 0, 0, 0, 0, 0, 0)).1 == 1 <;> cases (l.getD i (0, 0, 0, 0, 0, 0, 0, 0, 0, 0, 0)).2.2.1 == s <;> rfl
    · rw [if_neg c, if_neg (by omega)]
/-- The first free row. -/
def firstFree (l : List EntT) : Option Nat := (List.range 32).find? fun i => kd (l.getD i eN) == 0
def withGen (e : EntT) (g : Int) : EntT := (e.1, g, e.2.2.1, e.2.2.2.1, e.2.2.2.2.1, e.2.2.2.2.2.1, e.2.2.2.2.2.2.1, e.2.2.2.2.2.2.2.1, e.2.2.2.2.2.2.2.2.1, e.2.2.2.2.2.2.2.2.2.1, e.2.2.2.2.2.2.2.2.2.2)
theorem rspawn_eq {l : List EntT} (hl : l.length = 32) (e : EntT) (hk : 1 ≤ kd e ∧ kd e ≤ 4) :
    f26 l e.1 e.2.1 e.2.2.1 e.2.2.2.1 e.2.2.2.2.1 e.2.2.2.2.2.1 e.2.2.2.2.2.2.1 e.2.2.2.2.2.2.2.1 e.2.2.2.2.2.2.2.2.1 e.2.2.2.2.2.2.2.2.2.1 e.2.2.2.2.2.2.2.2.2.2 =
      match firstFree l with
      | some i => some ((i : Int), 0, l.set i (withGen e (Int.tmod (IntKind.wrap .i64 (gn (l.getD i eN) + 1)) 256)), ())
      | none => some (0, 5, [], ()) := by
  unfold kd at hk
  unfold f26 f26.L1 firstFree
  rw [bif_dec, if_neg (by omega), bif_dec, if_neg (by omega)]
  refine (congrArg (fun o => Option.bind o _) (it_find (x := (l, 0, e.1, e.2.1, e.2.2.1, e.2.2.2.1, e.2.2.2.2.1, e.2.2.2.2.2.1, e.2.2.2.2.2.2.1, e.2.2.2.2.2.2.2.1, e.2.2.2.2.2.2.2.2.1, e.2.2.2.2.2.2.2.2.2.1, e.2.2.2.2.2.2.2.2.2.2, ())) (fun i => kd (l.getD i eN) == 0) 32 (fun i : Nat => (l, (i : Int), e.1, e.2.1, e.2.2.1, e.2.2.2.1, e.2.2.2.2.1, e.2.2.2.2.2.1, e.2.2.2.2.2.2.1, e.2.2.2.2.2.2.2.1, e.2.2.2.2.2.2.2.2.1, e.2.2.2.2.2.2.2.2.2.1, e.2.2.2.2.2.2.2.2.2.2, ())) (fun i => some (Sum.inr ((i : Int), 0, l.set i (withGen e (Int.tmod (IntKind.wrap .i64 (gn (l.getD i eN) + 1)) 256)), ()))) (some (Sum.inl ())) (fun rec i hi => ?_) (by decide) rfl)).trans ?_
  · dsimp only
    rw [bif_dec, bif_dec]
    by_cases c : i < 32
    · rw [if_pos c, if_pos (by omega), if_pos (by omega), inR (by omega), wr (x := (i : Int) + 1) (by omega), Int.toNat_natCast, decide_eq_true (by simp [limit]; omega)]
      simp only [cond_true]
      unfold kd
      cases (l.getD i (0, 0, 0, 0, 0, 0, 0, 0, 0, 0, 0)).1 == 0 <;> rfl
    · rw [if_neg c, if_neg (by omega)]
  · cases (List.range 32).find? fun i => kd (l.getD i eN) == 0 <;> rfl
/-- What a kind has. -/
def statE (k : Int) : EntT := if k = 1 then (1, 0, 0, 0, 0, 20, 20, 5, 1, 0, 0) else if k = 2 then (2, 0, 0, 0, 0, 4, 4, 2, 0, 0, 0) else if k = 3 then (3, 0, 0, 0, 0, 9, 9, 4, 1, 0, 0) else (4, 0, 0, 0, 0, 6, 6, 3, 0, 0, 0)
theorem rstat_eq (k : Int) (h : 1 ≤ k ∧ k ≤ 4) : f25 k = some ((statE k).1, (statE k).2.1, (statE k).2.2.1, (statE k).2.2.2.1, (statE k).2.2.2.2.1, (statE k).2.2.2.2.2.1, (statE k).2.2.2.2.2.2.1, (statE k).2.2.2.2.2.2.2.1, (statE k).2.2.2.2.2.2.2.2.1, (statE k).2.2.2.2.2.2.2.2.2.1, (statE k).2.2.2.2.2.2.2.2.2.2, ()) := by
  have : k = 1 ∨ k = 2 ∨ k = 3 ∨ k = 4 := by omega
  rcases this with rfl | rfl | rfl | rfl <;> rfl
theorem stat_b (k : Int) (h : 1 ≤ k ∧ k ≤ 4) : kd (statE k) = k ∧ 1 ≤ mxh (statE k) ∧ mxh (statE k) ≤ 20 ∧ hp (statE k) = mxh (statE k) ∧ 0 ≤ atk (statE k) ∧ atk (statE k) ≤ 5 ∧ 0 ≤ df (statE k) ∧ df (statE k) ≤ 1 := by
  have : k = 1 ∨ k = 2 ∨ k = 3 ∨ k = 4 := by omega
  rcases this with rfl | rfl | rfl | rfl <;> decide
structure COk (c : List Int) (l : List EntT) : Prop where
  ok : LOk l
  pos : ∀ i, i < 32 → kd (l.getD i eN) ≠ 0 → 0 ≤ ex (l.getD i eN) ∧ ex (l.getD i eN) < 24 ∧ 0 ≤ ey (l.getD i eN) ∧ ey (l.getD i eN) < 16 ∧ c.getD (ey (l.getD i eN) * 24 + ex (l.getD i eN)).toNat 0 ≠ 0 ∧ 0 ≤ st (l.getD i eN) ∧ st (l.getD i eN) < 4
  apart : ∀ i j, i < 32 → j < 32 → kd (l.getD i eN) ≠ 0 → kd (l.getD j eN) ≠ 0 → ex (l.getD i eN) = ex (l.getD j eN) → ey (l.getD i eN) = ey (l.getD j eN) → i = j
  seats : ∀ i j, i < 32 → j < 32 → kd (l.getD i eN) = 1 → kd (l.getD j eN) = 1 → st (l.getD i eN) = st (l.getD j eN) → i = j
  hero : ∃ i, i < 32 ∧ kd (l.getD i eN) = 1 ∧ st (l.getD i eN) = 0
/-- One more comes. -/
theorem COk.add {c : List Int} {l : List EntT} (h : COk c l) {i : Nat} (hi : i < 32) (hf : kd (l.getD i eN) = 0) {e : EntT} (he : EOk e) (hp' : 0 ≤ ex e ∧ ex e < 24 ∧ 0 ≤ ey e ∧ ey e < 16 ∧ c.getD (ey e * 24 + ex e).toNat 0 ≠ 0 ∧ 0 ≤ st e ∧ st e < 4)
    (hn : ∀ j, j < 32 → standsAt (ex e) (ey e) (l.getD j eN) = false) (hs : kd e = 1 → ∀ j, j < 32 → isHero (st e) (l.getD j eN) = false) : COk c (l.set i e) := by
  have hl := h.ok.len
  have g : ∀ j, (l.set i e).getD j eN = if i = j then e else l.getD j eN := fun j => getD_set' l i j e eN (by omega)
  have no : ∀ j, j < 32 → kd (l.getD j eN) ≠ 0 → ex (l.getD j eN) = ex e → ey (l.getD j eN) = ey e → False := fun j hj h0 h1 h2 => by
    have := hn j hj
    unfold standsAt at this
    rw [bne_iff_ne.2 h0, h1, h2] at this
    simp at this
  have nh : kd e = 1 → ∀ j, j < 32 → kd (l.getD j eN) = 1 → st (l.getD j eN) = st e → False := fun hk j hj h0 h1 => by
    have := hs hk j hj
    unfold isHero at this
    rw [h0, h1] at this
    simp at this
  refine ⟨h.ok.set i he, fun j hj => ?_, fun j k hj hk => ?_, fun j k hj hk => ?_, ?_⟩
  · rw [g]
    split
    · exact fun _ => hp'
    · exact h.pos j hj
  · rw [g, g]
    by_cases e1 : i = j
    · by_cases e2 : i = k
      · intros; omega
      · rw [if_pos e1, if_neg e2]
        intro _ h0 h1 h2
        exact (no k hk h0 h1.symm h2.symm).elim
    · by_cases e2 : i = k
      · rw [if_neg e1, if_pos e2]
        intro h0 _ h1 h2
        exact (no j hj h0 h1 h2).elim
      · rw [if_neg e1, if_neg e2]
        exact h.apart j k hj hk
  · rw [g, g]
    by_cases e1 : i = j
    · by_cases e2 : i = k
      · intros; omega
      · rw [if_pos e1, if_neg e2]
        intro h0 h1 h2
        exact (nh h0 k hk h1 h2.symm).elim
    · by_cases e2 : i = k
      · rw [if_neg e1, if_pos e2]
        intro h0 h1 h2
        exact (nh h1 j hj h0 h2).elim
      · rw [if_neg e1, if_neg e2]
        exact h.seats j k hj hk
  · obtain ⟨k, hk, h1, h2⟩ := h.hero
    have : i ≠ k := fun z => by rw [z, h1] at hf; cases hf
    exact ⟨k, hk, by rw [g, if_neg this]; exact h1, by rw [g, if_neg this]; exact h2⟩
/-- The hero alone. -/
theorem COk.one (s fl at' : Int) (seat : Int) (hs : seat = 0) : COk (cells s fl) (entsW s fl seat at') := by
  have b := within_b at' 32 (by decide)
  have b2 := within_b at' 20 (by decide)
  have hg := heroAt_gc s fl at'
  have hg' := hg.1
  unfold GC at hg'
  have hw := hg.2
  rw [wk_iff (cells_val s fl _)] at hw
  have gR : ∀ j, (List.replicate 32 eN).getD j eN = eN := fun j => by
    rw [List.getD_eq_getElem?_getD, List.getElem?_replicate]
    split <;> rfl
  have g : ∀ j, (entsW s fl seat at').getD j eN = if (within at' 32).toNat = j then heroE s fl seat at' else eN := fun j => by
    unfold entsW
    have := getD_set' (List.replicate 32 eN) (within at' 32).toNat j (heroE s fl seat at') eN (by rw [List.length_replicate]; omega)
    rw [gR] at this
    exact this
  have k0 : kd eN = 0 := rfl
  refine ⟨⟨by unfold entsW; rw [List.length_set, List.length_replicate], fun j hj => ?_⟩, fun j hj => ?_, fun j k hj hk => ?_, fun j k hj hk => ?_, ?_⟩
  · rw [g]
    split
    · refine .inr ?_
      show 1 ≤ (1 : Int) ∧ (1 : Int) ≤ 4 ∧ 1 ≤ 1 + within at' 20 ∧ 1 + within at' 20 ≤ 20 ∧ (20 : Int) ≤ 20 ∧ 0 ≤ (5 : Int) ∧ (5 : Int) ≤ 5 ∧ 0 ≤ (1 : Int) ∧ (1 : Int) ≤ 1 ∧ 0 ≤ (0 : Int) ∧ (0 : Int) ≤ 9 ∧ 0 ≤ (0 : Int) ∧ (0 : Int) ≤ 9
      omega
    · exact .inl ⟨rfl, rfl⟩
  · rw [g]
    split
    · intro _
      show 0 ≤ heroAt s fl at' % 24 ∧ heroAt s fl at' % 24 < 24 ∧ 0 ≤ heroAt s fl at' / 24 ∧ heroAt s fl at' / 24 < 16 ∧ (cells s fl).getD (heroAt s fl at' / 24 * 24 + heroAt s fl at' % 24).toNat 0 ≠ 0 ∧ 0 ≤ seat ∧ seat < 4
      rw [show heroAt s fl at' / 24 * 24 + heroAt s fl at' % 24 = heroAt s fl at' by omega]
      exact ⟨by omega, by omega, by omega, by omega, hw, by omega, by omega⟩
    · exact fun z => absurd k0 z
  · rw [g, g]
    by_cases e1 : (within at' 32).toNat = j
    · by_cases e2 : (within at' 32).toNat = k
      · intros; omega
      · rw [if_neg e2]
        exact fun _ z => absurd k0 z
    · rw [if_neg e1]
      exact fun z => absurd k0 z
  · rw [g, g]
    by_cases e1 : (within at' 32).toNat = j
    · by_cases e2 : (within at' 32).toNat = k
      · intros; omega
      · rw [if_neg e2]
        exact fun _ z => absurd z (by decide)
    · rw [if_neg e1]
      exact fun z => absurd z (by decide)
  · refine ⟨(within at' 32).toNat, by omega, ?_, ?_⟩
    · rw [g, if_pos rfl]; rfl
    · rw [g, if_pos rfl]; exact hs
/-- The next cell that can be walked on, and where nobody stands. -/
theorem seek (kinds : List Int) (i z0 z1 z2 z3 z4 z5 z6 z7 w0 w1 w2 w3 w4 w5 w6 w7 : Int) (c : List Int) (l : List EntT) (its : List ItT) (hc : c.length = 384) (hcb : CB c) (hl : l.length = 32) (at' : Int) (h0 : 0 ≤ at' ∧ at' ≤ 1000) :
    OK (f9.L1 (kinds, at', i, z0, z1, z2, z3, z4, z5, z6, z7, w0, w1, w2, w3, w4, w5, w6, w7, c, l, its, ())) fun z => ∃ k, z = Sum.inl (kinds, k, i, z0, z1, z2, z3, z4, z5, z6, z7, w0, w1, w2, w3, w4, w5, w6, w7, c, l, its, ()) ∧ at' ≤ k ∧ k ≤ 1000 ∧
      (k < 384 → walkable (c.getD k.toNat 0) = true ∧ atE l (k % 24) (k / 24) < 0) ∧ ∀ j, at' ≤ j → j < k → j < 384 → ¬ (walkable (c.getD j.toNat 0) = true ∧ atE l (j % 24) (j / 24) < 0) := by
  unfold f9.L1
  refine OK.loop (fun k : Int => (kinds, k, i, z0, z1, z2, z3, z4, z5, z6, z7, w0, w1, w2, w3, w4, w5, w6, w7, c, l, its, ())) (fun k => at' ≤ k ∧ k ≤ 1000 ∧ (at' < k → k ≤ 384) ∧ ∀ j, at' ≤ j → j < k → j < 384 → ¬ (walkable (c.getD j.toNat 0) = true ∧ atE l (j % 24) (j / 24) < 0)) (fun k => (1000 - k).toNat) (fun rec k hk ih => ?_) at' rfl ⟨Int.le_refl _, h0.2, fun h => absurd h (Int.lt_irrefl _), fun j h1 h2 => by omega⟩ (by omega)
  obtain ⟨hk0, hk1, hk2, hk3⟩ := hk
  dsimp only
  have next : k < 384 → ¬ (walkable (c.getD k.toNat 0) = true ∧ atE l (k % 24) (k / 24) < 0) → OK (Option.bind (some (Sum.inl (kinds, k, i, z0, z1, z2, z3, z4, z5, z6, z7, w0, w1, w2, w3, w4, w5, w6, w7, c, l, its, ()))) fun y2 => Sum.elim (fun y3 => rec (y3.1, IntKind.wrap .i64 (y3.2.1 + 1), y3.2.2.1, y3.2.2.2.1, y3.2.2.2.2.1, y3.2.2.2.2.2.1, y3.2.2.2.2.2.2.1, y3.2.2.2.2.2.2.2.1, y3.2.2.2.2.2.2.2.2.1, y3.2.2.2.2.2.2.2.2.2.1, y3.2.2.2.2.2.2.2.2.2.2.1, y3.2.2.2.2.2.2.2.2.2.2.2.1, y3.2.2.2.2.2.2.2.2.2.2.2.2.1, y3.2.2.2.2.2.2.2.2.2.2.2.2.2.1, y3.2.2.2.2.2.2.2.2.2.2.2.2.2.2.1, y3.2.2.2.2.2.2.2.2.2.2.2.2.2.2.2.1, y3.2.2.2.2.2.2.2.2.2.2.2.2.2.2.2.2.1, y3.2.2.2.2.2.2.2.2.2.2.2.2.2.2.2.2.2.1, y3.2.2.2.2.2.2.2.2.2.2.2.2.2.2.2.2.2.2.1, y3.2.2.2.2.2.2.2.2.2.2.2.2.2.2.2.2.2.2.2.1, y3.2.2.2.2.2.2.2.2.2.2.2.2.2.2.2.2.2.2.2.2.1, y3.2.2.2.2.2.2.2.2.2.2.2.2.2.2.2.2.2.2.2.2.2.1, ())) (fun z4 => some z4) y2) fun z => ∃ k, z = Sum.inl (kinds, k, i, z0, z1, z2, z3, z4, z5, z6, z7, w0, w1, w2, w3, w4, w5, w6, w7, c, l, its, ()) ∧ at' ≤ k ∧ k ≤ 1000 ∧
      (k < 384 → walkable (c.getD k.toNat 0) = true ∧ atE l (k % 24) (k / 24) < 0) ∧ ∀ j, at' ≤ j → j < k → j < 384 → ¬ (walkable (c.getD j.toNat 0) = true ∧ atE l (j % 24) (j / 24) < 0) := by
    intro q hn
    simp only [Option.bind_some, Sum.elim_inl]
    rw [wr (by omega)]
    refine ih (k + 1) ⟨by omega, by omega, fun _ => by omega, fun j h1 h2 h3 => ?_⟩ (by omega) _ rfl
    by_cases e : j = k
    · rw [e]; exact hn
    · exact hk3 j h1 (by omega) h3
  rw [bif_dec]
  by_cases q : k < 384
  · have b := hcb k.toNat
    rw [if_pos q, inR (by omega), cond_true, wr (x := c.getD k.toNat 0) (by omega), rwalk_eq]
    simp only [Option.bind_some]
    cases hw : walkable (c.getD k.toNat 0) with
    | false =>
      rw [Bool.not_false, cond_true]
      exact next q (fun z => by rw [hw] at z; cases z.1)
    | true =>
      rw [Bool.not_true, cond_false, Int.tmod_eq_emod_of_nonneg (by omega), Int.tdiv_eq_ediv_of_nonneg (by omega), wr (x := k / 24) (by omega), rat_eq l (by omega)]
      simp only [Option.bind_some]
      rw [bif_dec]
      by_cases z : atE l (k % 24) (k / 24) ≥ 0
      · rw [if_pos z]
        exact next q (fun y => by omega)
      · rw [if_neg z]
        exact OK.ret ⟨k, rfl, hk0, hk1, fun _ => ⟨hw, by omega⟩, hk3⟩
  · rw [if_neg q]
    exact OK.ret ⟨k, rfl, hk0, hk1, fun z => absurd z q, hk3⟩
end Go.Proofs.Ytjmbmpeflhkngaa.Ft
/- Crowds: what Crowd makes (own work). -/
namespace Go.Proofs.Ytjmbmpeflhkngaa.Ft
open Go Go.Proofs.Ytjmbmpeflhkngaa.Mx Go.Proofs.Ytjmbmpeflhkngaa.Pc Go.Proofs.Ytjmbmpeflhkngaa.Run Go.Proofs.Ytjmbmpeflhkngaa.Field Go.Proofs.Ytjmbmpeflhkngaa.Gen Go.Proofs.Ytjmbmpeflhkngaa.GenL Go.Proofs.Ytjmbmpeflhkngaa.Fl Go.Proofs.Ytjmbmpeflhkngaa.Wd
set_option linter.unusedVariables false
set_option linter.unusedSimpArgs false
set_option maxHeartbeats 2000000
/-- Where those of a crowd come from. -/
structure CX (kinds : List Int) (i : Nat) (l : List EntT) : Prop where
  all : ∀ r, r < 32 → kd (l.getD r eN) ≠ 0 → (kd (l.getD r eN) = 1 ∧ st (l.getD r eN) = 0) ∨ ∃ j, j < kinds.length ∧ kd (l.getD r eN) = 1 + within (kinds.getD j 0) 4 ∧ hp (l.getD r eN) = 1 + within (IntKind.wrap .i64 (Int.tdiv (kinds.getD j 0) 7)) (mxh (statE (1 + within (kinds.getD j 0) 4)))
  some' : 1 ≤ i → 1 ≤ kinds.length → within (kinds.getD 0 0) 4 ≠ 0 → ∃ r, r < 32 ∧ kd (l.getD r eN) = 1 + within (kinds.getD 0 0) 4
theorem CX.one (kinds : List Int) (s fl at' : Int) : CX kinds 0 (entsW s fl 0 at') := by
  have b := within_b at' 32 (by decide)
  have gR : ∀ j, (List.replicate 32 eN).getD j eN = eN := fun j => by
    rw [List.getD_eq_getElem?_getD, List.getElem?_replicate]
    split <;> rfl
  have g : ∀ j, (entsW s fl 0 at').getD j eN = if (within at' 32).toNat = j then heroE s fl 0 at' else eN := fun j => by
    unfold entsW
    have := getD_set' (List.replicate 32 eN) (within at' 32).toNat j (heroE s fl 0 at') eN (by rw [List.length_replicate]; omega)
    rw [gR] at this
    exact this
  refine ⟨fun r hr => ?_, fun h => absurd h (by decide)⟩
  rw [g]
  split
  · exact fun _ => .inl ⟨rfl, rfl⟩
  · exact fun z => absurd rfl z
/-- Somebody can come to a floor on which the hero alone stands. -/
theorem room_first (s fl at' : Int) : ∃ j : Int, 0 ≤ j ∧ j < 384 ∧ walkable ((cells s fl).getD j.toNat 0) = true ∧ atE (entsW s fl 0 at') (j % 24) (j / 24) < 0 := by
  have b := within_b at' 32 (by decide)
  have gR : ∀ j, (List.replicate 32 eN).getD j eN = eN := fun j => by
    rw [List.getD_eq_getElem?_getD, List.getElem?_replicate]
    split <;> rfl
  have g : ∀ j, (entsW s fl 0 at').getD j eN = if (within at' 32).toNat = j then heroE s fl 0 at' else eN := fun j => by
    unfold entsW
    have := getD_set' (List.replicate 32 eN) (within at' 32).toNat j (heroE s fl 0 at') eN (by rw [List.length_replicate]; omega)
    rw [gR] at this
    exact this
  have hg := (heroAt_gc s fl at').1
  unfold GC at hg
  have free : ∀ j : Int, 0 ≤ j → j ≠ heroAt s fl at' → atE (entsW s fl 0 at') (j % 24) (j / 24) < 0 := fun j h0 hj => by
    unfold atE
    refine find_neg.2 fun i hi => ?_
    rw [g]
    split
    · unfold standsAt
      rw [Bool.and_eq_false_iff]
      refine .inr ?_
      rw [Bool.and_eq_false_iff, beq_eq_false_iff_ne, beq_eq_false_iff_ne]
      show heroAt s fl at' % 24 ≠ j % 24 ∨ heroAt s fl at' / 24 ≠ j / 24
      omega
    · rfl
  have gu := upc_gc s fl
  have gf := far_gc s fl
  unfold GC at gu gf
  by_cases e : upc s fl = heroAt s fl at'
  · exact ⟨far s fl, gf.1, gf.2, (cells_wk s fl _).2 (far_wk s fl), free _ gf.1 (fun z => far_ne s fl (z.trans e.symm))⟩
  · exact ⟨upc s fl, gu.1, gu.2, (cells_wk s fl _).2 (up_wk s fl), free _ gu.1 e⟩
theorem crowd_is (s f : Int) (kinds : List Int) (items : List ItT) (hit' : items.length ≤ 1000000000000000) (frame : Int) :
    OK (f9 s f kinds items frame) fun z => ∃ l its, z = (s, within frame 1048576, 1 + within f 3, 0, 50, 0, 0, 0, cells s (1 + within f 3), l, its, ()) ∧ COk (cells s (1 + within f 3)) l ∧ CX kinds kinds.length l ∧ ItsOk (cells s (1 + within f 3)) its ∧ (kinds = [] → l = entsW s (1 + within f 3) 0 1) ∧ (items = [] → its = List.replicate 40 iN) := by
  unfold f9
  have hw := world_is s f 0 1 items hit' 50
  obtain ⟨z, e, its, rfl, hI, hN⟩ := hw
  rw [e]
  clear e
  simp only [Option.bind_some]
  rw [within8_eq _ _ (by decide) (by decide)]
  simp only [Option.bind_some]
  have w0 : within 0 4 = 0 := by decide
  have w50 : within 50 1000 = 50 := by decide
  rw [w0, w50]
  have g0 : goldOf 0 50 0 = 50 := by decide
  have g1 : goldOf 0 50 1 = 0 := by decide
  have g2 : goldOf 0 50 2 = 0 := by decide
  have g3 : goldOf 0 50 3 = 0 := by decide
  rw [g0, g1, g2, g3]
  have bf := within_b f 3 (by decide)
  generalize 1 + within f 3 = fl at *
  generalize within frame 1048576 = fr at *
  have hcl := cells_len s fl
  have hcb := cells_cb s fl
  have h1 := COk.one s fl 1 0 rfl
  have h2 := CX.one kinds s fl 1
  have h3 := room_first s fl 1
  have hfirst : ∃ i, firstFree (entsW s fl 0 1) = some i := by
    unfold firstFree
    cases q : (List.range 32).find? fun i => kd ((entsW s fl 0 1).getD i eN) == 0 with
    | some i => exact ⟨i, rfl⟩
    | none =>
      exfalso
      have := List.find?_range_eq_none.1 q 0 (by decide)
      have g : (entsW s fl 0 1).getD 0 eN = eN := rfl
      rw [g] at this
      exact absurd this (by decide)
  refine OK.callR (R := fun z => ∃ l, z = Sum.inl (0, 0, 0, 0, 0, 0, 0, 0, s, fr, fl, 0, 50, 0, 0, 0, cells s fl, l, its, ()) ∧ COk (cells s fl) l ∧ CX kinds kinds.length l ∧ (kinds = [] → l = entsW s fl 0 1)) ?_ (fun z ⟨l, e, h⟩ => by subst e; exact OK.ret ⟨l, its, rfl, h.1, h.2.1, hI, h.2.2, hN⟩)
  unfold f9.L2
  refine OK.loop (fun j : Nat × Int × List EntT => (kinds, j.2.1, (j.1 : Int), 0, 0, 0, 0, 0, 0, 0, 0, s, fr, fl, 0, 50, 0, 0, 0, cells s fl, j.2.2, its, ())) (fun j => j.1 ≤ 12 ∧ j.1 ≤ kinds.length ∧ 0 ≤ j.2.1 ∧ j.2.1 ≤ 990 ∧ COk (cells s fl) j.2.2 ∧ CX kinds j.1 j.2.2 ∧ (j.1 = 0 → j.2.1 = 0 ∧ j.2.2 = entsW s fl 0 1)) (fun j => 12 - j.1) (fun rec j hj ih => ?_) (0, 0, entsW s fl 0 1) rfl ⟨by dsimp only; omega, by dsimp only; omega, by dsimp only; omega, by dsimp only; omega, h1, h2, fun _ => ⟨rfl, rfl⟩⟩ (by dsimp only; omega)
  obtain ⟨i, at', l⟩ := j
  obtain ⟨hi, hik, ha0, ha1, hC, hX, hz⟩ := hj
  dsimp only at hi hik ha0 ha1 hC hX hz ih ⊢
  have hl := hC.ok.len
  have upX : ∀ {l : List EntT}, CX kinds i l → (1 ≤ i ∨ kinds.length = 0 ∨ within (kinds.getD 0 0) 4 = 0) → CX kinds kinds.length l := fun {l} h hc => ⟨h.all, fun a b c => by
    rcases hc with q | q | q
    · exact h.some' q b c
    · omega
    · exact absurd q c⟩
  have stop : (1 ≤ i ∨ kinds.length = 0 ∨ within (kinds.getD 0 0) 4 = 0) → OK (some (Sum.inl (α := Int × Int × Int × Int × Int × Int × Int × Int × Int × Int × Int × Int × Int × Int × Int × Int × List Int × List EntT × List ItT × Unit) (β := WT) (0, 0, 0, 0, 0, 0, 0, 0, s, fr, fl, 0, 50, 0, 0, 0, cells s fl, l, its, ()))) fun z => ∃ l, z = Sum.inl (0, 0, 0, 0, 0, 0, 0, 0, s, fr, fl, 0, 50, 0, 0, 0, cells s fl, l, its, ()) ∧ COk (cells s fl) l ∧ CX kinds kinds.length l ∧ (kinds = [] → l = entsW s fl 0 1) := fun hc =>
    OK.ret ⟨l, rfl, hC, upX hX hc, fun e => by
      subst e
      have : i = 0 := by simp at hik; omega
      exact (hz this).2⟩
  rw [bif_dec, bif_dec]
  by_cases q1 : (i : Int) < kinds.length
  · rw [if_pos q1]
    by_cases q2 : (i : Int) < 12
    · rw [if_pos q2]
      refine OK.callR (seek kinds (i : Int) 0 0 0 0 0 0 0 0 s fr fl 0 50 0 0 0 (cells s fl) l its hcl hcb hl at' ⟨ha0, by omega⟩) ?_
      rintro z ⟨k, rfl, hk0, hk1, hk2, hk3⟩
      simp only [Sum.elim_inl]
      rw [bif_dec]
      by_cases q3 : k ≥ 384
      · rw [if_pos q3]
        refine stop ?_
        by_cases e : i = 0
        · exfalso
          obtain ⟨e1, e2⟩ := hz e
          subst e2
          obtain ⟨j, j0, j1, j2, j3⟩ := h3
          exact hk3 j (by omega) (by omega) j1 ⟨j2, j3⟩
        · exact .inl (by omega)
      · rw [if_neg q3]
        obtain ⟨hw, hat⟩ := hk2 (by omega)
        have bk := within_b (kinds.getD i 0) 4 (by decide)
        have ir : inRange (i : Int) kinds.length = true := inR (by omega)
        have b3 := within_b (Int.tdiv (kinds.getD i 0) 3) 4 (by decide)
        have bp := within_b (Int.tdiv (kinds.getD i 0) 5) 10 (by decide)
        have bs := within_b (Int.tdiv (kinds.getD i 0) 11) 10 (by decide)
        have skipX : i = 0 → within (kinds.getD 0 0) 4 ≠ 0 → kd (statE (1 + within (kinds.getD i 0) 4)) = 1 → False := fun e h h' => by
          subst e
          rw [(stat_b _ (by omega)).1] at h'
          omega
        rw [ir, cond_true, Int.toNat_natCast, within8_eq _ _ (by decide) (by decide)]
        simp only [Option.bind_some]
        rw [wr (x := 1 + within (kinds.getD i 0) 4) (by omega), rstat_eq _ (by omega)]
        simp only [Option.bind_some]
        have sb := stat_b (1 + within (kinds.getD i 0) 4) (by omega)
        generalize hK : 1 + within (kinds.getD i 0) 4 = K at *
        generalize hE : statE K = e at *
        have eK : e.1 = K := sb.1
        -- the body of what comes behind
        refine OK.callR (R := fun z => (∃ seat, z = Sum.inl (kinds, k, (i : Int), 0, 0, 0, 0, 0, 0, 0, 0, s, fr, fl, 0, 50, 0, 0, 0, e.1, e.2.1, seat, e.2.2.2.1, e.2.2.2.2.1, e.2.2.2.2.2.1, e.2.2.2.2.2.2.1, e.2.2.2.2.2.2.2.1, e.2.2.2.2.2.2.2.2.1, e.2.2.2.2.2.2.2.2.2.1, e.2.2.2.2.2.2.2.2.2.2, cells s fl, l, its, ()) ∧ 0 ≤ seat ∧ seat < 4 ∧ (kd e = 1 → ∀ j, j < 32 → isHero seat (l.getD j eN) = false)) ∨ ∃ q, z = Sum.inr q ∧ ∃ l, q = Sum.inl (0, 0, 0, 0, 0, 0, 0, 0, s, fr, fl, 0, 50, 0, 0, 0, cells s fl, l, its, ()) ∧ COk (cells s fl) l ∧ CX kinds kinds.length l ∧ (kinds = [] → l = entsW s fl 0 1)) ?_ ?_
        · by_cases h1 : kd e = 1
          · have h1' : (e.1 == 1) = true := beq_iff_eq.2 h1
            have bt := within_b (Int.tdiv (kinds.getD i 0) 4) 3 (by decide)
            have ew : IntKind.wrap .i64 (Int.tdiv (kinds.getD i 0) 4) = IntKind.wrap .i64 (Int.tdiv (kinds.getD i 0) 4) := rfl
            have bt' := within_b (IntKind.wrap .i64 (Int.tdiv (kinds.getD i 0) 4)) 3 (by decide)
            rw [h1', cond_true, within8_eq _ _ (by decide) (by decide)]
            simp only [Option.bind_some]
            rw [wr (x := 1 + within (IntKind.wrap .i64 (Int.tdiv (kinds.getD i 0) 4)) 3) (by omega), rhero_eq l (by omega)]
            simp only [Option.bind_some]
            rw [bif_dec]
            by_cases h5 : heroE' l (1 + within (IntKind.wrap .i64 (Int.tdiv (kinds.getD i 0) 4)) 3) ≥ 0
            · rw [if_pos h5, wr (x := (i : Int) + 1) (by omega)]
              refine OK.callR (ih (i + 1, k, l) ⟨by dsimp only; omega, by dsimp only; omega, by dsimp only; omega, by dsimp only; omega, hC, ⟨hX.all, fun _ b c => ?_⟩, fun h => by dsimp only at h; omega⟩ (by dsimp only; omega) _ rfl) fun q hq => OK.ret (.inr ⟨q, rfl, hq⟩)
              by_cases e0 : i = 0
              · exact (skipX e0 c h1).elim
              · exact hX.some' (by omega) b c
            · rw [if_neg h5]
              refine OK.ret (.inl ⟨_, rfl, by omega, by omega, fun _ j hj => ?_⟩)
              have : heroE' l (1 + within (IntKind.wrap .i64 (Int.tdiv (kinds.getD i 0) 4)) 3) < 0 := by omega
              exact find_neg.1 this j (by omega)
          · have h1' : (e.1 == 1) = false := beq_eq_false_iff_ne.2 h1
            rw [h1', cond_false]
            have e2 : e.2.2.1 = 0 := by
              rw [← hE]
              unfold statE
              repeat' split
              all_goals rfl
            exact OK.ret (.inl ⟨e.2.2.1, rfl, by omega, by omega, fun h => absurd h h1⟩)
        · rintro z (⟨seat, rfl, hs0, hs1, hsN⟩ | ⟨q, rfl, hq⟩)
          · simp only [Sum.elim_inl]
            simp only [ir, cond_true, Int.toNat_natCast]
            have em : e.2.2.2.2.2.2.1 = mxh e := rfl
            have bh := within_b (IntKind.wrap .i64 (Int.tdiv (kinds.getD i 0) 7)) (mxh e) (by omega)
            have bp' := within_b (IntKind.wrap .i64 (Int.tdiv (kinds.getD i 0) 5)) 10 (by decide)
            have bs' := within_b (IntKind.wrap .i64 (Int.tdiv (kinds.getD i 0) 11)) 10 (by decide)
            rw [em, within8_eq _ _ (by omega) (by omega)]
            simp only [Option.bind_some]
            rw [within8_eq _ _ (by decide) (by decide)]
            simp only [Option.bind_some]
            rw [within8_eq _ _ (by decide) (by decide)]
            simp only [Option.bind_some]
            rw [Int.tmod_eq_emod_of_nonneg (by omega), Int.tdiv_eq_ediv_of_nonneg (a := k) (by omega), wr (x := k / 24) (by omega), wr (x := 1 + within (IntKind.wrap .i64 (Int.tdiv (kinds.getD i 0) 7)) (mxh e)) (by omega)]
            have hsp := rspawn_eq hl (e.1, e.2.1, seat, k % 24, k / 24, 1 + within (IntKind.wrap .i64 (Int.tdiv (kinds.getD i 0) 7)) (mxh e), mxh e, e.2.2.2.2.2.2.2.1, e.2.2.2.2.2.2.2.2.1, within (IntKind.wrap .i64 (Int.tdiv (kinds.getD i 0) 5)) 10, within (IntKind.wrap .i64 (Int.tdiv (kinds.getD i 0) 11)) 10) (by show 1 ≤ e.1 ∧ e.1 ≤ 4; omega)
            dsimp only at hsp
            rw [hsp]
            clear hsp
            have fin : ∀ l', COk (cells s fl) l' → CX kinds (i + 1) l' → OK (rec (kinds, k + 1 + within (IntKind.wrap .i64 (Int.tdiv (kinds.getD i 0) 3)) 4, (i : Int) + 1, 0, 0, 0, 0, 0, 0, 0, 0, s, fr, fl, 0, 50, 0, 0, 0, cells s fl, l', its, ())) fun z => ∃ l, z = Sum.inl (0, 0, 0, 0, 0, 0, 0, 0, s, fr, fl, 0, 50, 0, 0, 0, cells s fl, l, its, ()) ∧ COk (cells s fl) l ∧ CX kinds kinds.length l ∧ (kinds = [] → l = entsW s fl 0 1) := fun l' hC' hX' => by
              have b3' := within_b (IntKind.wrap .i64 (Int.tdiv (kinds.getD i 0) 3)) 4 (by decide)
              exact ih (i + 1, k + 1 + within (IntKind.wrap .i64 (Int.tdiv (kinds.getD i 0) 3)) 4, l') ⟨by dsimp only; omega, by dsimp only; omega, by dsimp only; omega, by dsimp only; omega, hC', hX', fun h => by dsimp only at h; omega⟩ (by dsimp only; omega) _ rfl
            have b3' := within_b (IntKind.wrap .i64 (Int.tdiv (kinds.getD i 0) 3)) 4 (by decide)
            cases hff : firstFree l with
            | none =>
              simp only [Option.bind_some]
              rw [show ((5 : Int) == 0) = false from rfl, cond_false]
              simp only [Option.bind_some, Sum.elim_inl]
              rw [ir, cond_true, Int.toNat_natCast, within8_eq _ _ (by decide) (by decide)]
              simp only [Option.bind_some]
              rw [wr (x := k + 1) (by omega), wr (x := (i : Int) + 1) (by omega), wr (by omega)]
              refine fin l hC ⟨hX.all, fun _ b c => ?_⟩
              by_cases e0 : i = 0
              · obtain ⟨_, e2⟩ := hz e0
                subst e2
                obtain ⟨r, hr⟩ := hfirst
                rw [hff] at hr
                cases hr
              · exact hX.some' (by omega) b c
            | some r =>
              have hr := List.find?_range_eq_some.1 hff
              have hr32 := List.mem_range.1 hr.2.1
              have hr0 : kd (l.getD r eN) = 0 := beq_iff_eq.1 hr.1
              simp only [Option.bind_some]
              rw [beq_self_eq_true, cond_true]
              simp only [Option.bind_some, Sum.elim_inl]
              rw [ir, cond_true, Int.toNat_natCast, within8_eq _ _ (by decide) (by decide)]
              simp only [Option.bind_some]
              rw [wr (x := k + 1) (by omega), wr (x := (i : Int) + 1) (by omega), wr (by omega)]
              generalize Int.tmod (IntKind.wrap .i64 (gn (l.getD r eN) + 1)) 256 = G
              have eR : withGen (e.1, e.2.1, seat, k % 24, k / 24, 1 + within (IntKind.wrap .i64 (Int.tdiv (kinds.getD i 0) 7)) (mxh e), mxh e, e.2.2.2.2.2.2.2.1, e.2.2.2.2.2.2.2.2.1, within (IntKind.wrap .i64 (Int.tdiv (kinds.getD i 0) 5)) 10, within (IntKind.wrap .i64 (Int.tdiv (kinds.getD i 0) 11)) 10) G = (e.1, G, seat, k % 24, k / 24, 1 + within (IntKind.wrap .i64 (Int.tdiv (kinds.getD i 0) 7)) (mxh e), mxh e, e.2.2.2.2.2.2.2.1, e.2.2.2.2.2.2.2.2.1, within (IntKind.wrap .i64 (Int.tdiv (kinds.getD i 0) 5)) 10, within (IntKind.wrap .i64 (Int.tdiv (kinds.getD i 0) 11)) 10) := rfl
              rw [eR]
              have hne := walk_ne hw
              refine fin _ (hC.add hr32 hr0 (.inr ?_) ?_ ?_ ?_) ⟨fun j hj => ?_, fun _ b c => ?_⟩
              · show 1 ≤ e.1 ∧ e.1 ≤ 4 ∧ 1 ≤ 1 + within (IntKind.wrap .i64 (Int.tdiv (kinds.getD i 0) 7)) (mxh e) ∧ 1 + within (IntKind.wrap .i64 (Int.tdiv (kinds.getD i 0) 7)) (mxh e) ≤ mxh e ∧ mxh e ≤ 20 ∧ 0 ≤ atk e ∧ atk e ≤ 5 ∧ 0 ≤ df e ∧ df e ≤ 1 ∧ 0 ≤ within (IntKind.wrap .i64 (Int.tdiv (kinds.getD i 0) 5)) 10 ∧ within (IntKind.wrap .i64 (Int.tdiv (kinds.getD i 0) 5)) 10 ≤ 9 ∧ 0 ≤ within (IntKind.wrap .i64 (Int.tdiv (kinds.getD i 0) 11)) 10 ∧ within (IntKind.wrap .i64 (Int.tdiv (kinds.getD i 0) 11)) 10 ≤ 9
                omega
              · show 0 ≤ k % 24 ∧ k % 24 < 24 ∧ 0 ≤ k / 24 ∧ k / 24 < 16 ∧ (cells s fl).getD (k / 24 * 24 + k % 24).toNat 0 ≠ 0 ∧ 0 ≤ seat ∧ seat < 4
                rw [show k / 24 * 24 + k % 24 = k by omega]
                exact ⟨by omega, by omega, by omega, by omega, hne, hs0, hs1⟩
              · intro j hj
                exact find_neg.1 hat j (by omega)
              · intro h j hj
                exact hsN h j hj
              · rw [getD_set' _ _ _ _ _ (by omega)]
                split
                · intro _
                  refine .inr ⟨i, by omega, ?_, ?_⟩
                  · rw [hK]; exact eK
                  · rw [hK, hE]
                    rfl
                · exact hX.all j hj
              · by_cases e0 : i = 0
                · subst e0
                  refine ⟨r, hr32, ?_⟩
                  rw [getD_set' _ _ _ _ _ (by omega), if_pos rfl, hK]
                  exact eK
                · obtain ⟨r', hr', h'⟩ := hX.some' (by omega) b c
                  refine ⟨r', hr', ?_⟩
                  rw [getD_set' _ _ _ _ _ (by omega), if_neg]
                  · exact h'
                  · intro z
                    subst z
                    have b0 := within_b (kinds.getD 0 0) 4 (by decide)
                    omega
          · simp only [Sum.elim_inr]
            exact OK.ret hq
    · rw [if_neg q2]
      exact stop (.inl (by omega))
  · rw [if_neg q1]
    refine stop ?_
    by_cases e : i = 0
    · exact .inr (.inl (by omega))
    · exact .inl (by omega)
end Go.Proofs.Ytjmbmpeflhkngaa.Ft
/- What the laws of chapter 8 share (own work). -/
namespace Go.Proofs.Ytjmbmpeflhkngaa.Ft
open Go Go.Proofs.Ytjmbmpeflhkngaa.Mx Go.Proofs.Ytjmbmpeflhkngaa.Pc Go.Proofs.Ytjmbmpeflhkngaa.Run Go.Proofs.Ytjmbmpeflhkngaa.Field Go.Proofs.Ytjmbmpeflhkngaa.Gen Go.Proofs.Ytjmbmpeflhkngaa.GenL Go.Proofs.Ytjmbmpeflhkngaa.Fl Go.Proofs.Ytjmbmpeflhkngaa.Wd
set_option linter.unusedVariables false
set_option linter.unusedSimpArgs false
set_option maxHeartbeats 1000000
theorem same_eq (a0 a1 a2 a3 a7 a8 a9 a10 : Int) (c : List Int) (l : List EntT) (its : List ItT) (h1 : l.length ≤ 100000) (h2 : its.length ≤ 100000) :
    f15 a0 a1 a2 a3 c l its a7 a8 a9 a10 a0 a1 a2 a3 c l its a7 a8 a9 a10 = some (true, ()) := by
  have items : f15.L1 (0, a0, a1, a2, a3, c, l, its, a7, a8, a9, a10, a0, a1, a2, a3, c, l, its, a7, a8, a9, a10, ()) = some (true, ()) := by
    refine OK.eq ?_
    unfold f15.L1
    refine OK.loop (fun i : Nat => ((i : Int), a0, a1, a2, a3, c, l, its, a7, a8, a9, a10, a0, a1, a2, a3, c, l, its, a7, a8, a9, a10, ())) (fun i => i ≤ its.length) (fun i => its.length - i) (fun rec i hi ih => ?_) 0 rfl (Nat.zero_le _) (by omega)
    dsimp only
    rw [bif_dec]
    by_cases q : (i : Int) < its.length
    · rw [if_pos q, inR (by omega), cond_true, cond_true, wr (by omega)]
      simp only [beq_self_eq_true, Bool.and_self, Bool.not_true, cond_false]
      exact ih (i + 1) (by omega) (by omega) _ rfl
    · rw [if_neg q]
      exact OK.ret rfl
  refine OK.eq ?_
  unfold f15 f15.L2
  simp only [beq_self_eq_true, Bool.not_true, cond_false, bne_self_eq_false, Bool.and_self]
  refine OK.loop (fun i : Nat => ((i : Int), a0, a1, a2, a3, c, l, its, a7, a8, a9, a10, a0, a1, a2, a3, c, l, its, a7, a8, a9, a10, ())) (fun i => i ≤ l.length) (fun i => l.length - i) (fun rec i hi ih => ?_) 0 rfl (Nat.zero_le _) (by omega)
  dsimp only
  rw [bif_dec]
  by_cases q : (i : Int) < l.length
  · rw [if_pos q, inR (by omega), cond_true, cond_true, wr (by omega)]
    simp only [beq_self_eq_true, Bool.and_self, Bool.not_true, cond_false]
    exact ih (i + 1) (by omega) (by omega) _ rfl
  · rw [if_neg q, items]
    exact OK.ret rfl
theorem its_iok {c : List Int} {its : List ItT} (h : ItsOk c its) : IOk its := ⟨by have := h.len; omega, fun i hi hw => by
  have hl := h.len
  rcases h.kind i (by omega) with q | q
  · rw [q] at hw
    exact absurd rfl hw
  · omega⟩
theorem hero_is {l : List EntT} (hl : l.length = 32) {s : Int} (h : ∃ i, i < 32 ∧ kd (l.getD i eN) = 1 ∧ st (l.getD i eN) = s) : ∃ k : Nat, k < 32 ∧ heroE' l s = k ∧ kd (l.getD k eN) = 1 ∧ st (l.getD k eN) = s := by
  obtain ⟨i, hi, h1, h2⟩ := h
  have : ¬ heroE' l s < 0 := fun z => by
    have := find_neg.1 z i (by omega)
    unfold isHero at this
    rw [h1, h2] at this
    simp at this
  obtain ⟨k, hk, e, hp', _⟩ := find_pos this
  unfold isHero at hp'
  simp only [Bool.and_eq_true, beq_iff_eq] at hp'
  exact ⟨k, by omega, e, hp'.1, hp'.2⟩
theorem alive_nat {l : List EntT} {k : Nat} (hk : k < l.length) (h : kd (l.getD k eN) ≠ 0) : alive l (k : Int) = true := alive_iff.2 ⟨by omega, by omega, by rw [Int.toNat_natCast]; exact h⟩
end Go.Proofs.Ytjmbmpeflhkngaa.Ft
/- Bags, and who stands where, in plain words (own work). -/
namespace Go.Proofs.Ytjmbmpeflhkngaa.Ft
open Go Go.Proofs.Ytjmbmpeflhkngaa.Mx Go.Proofs.Ytjmbmpeflhkngaa.Pc Go.Proofs.Ytjmbmpeflhkngaa.Run Go.Proofs.Ytjmbmpeflhkngaa.Field Go.Proofs.Ytjmbmpeflhkngaa.Gen Go.Proofs.Ytjmbmpeflhkngaa.GenL Go.Proofs.Ytjmbmpeflhkngaa.Fl Go.Proofs.Ytjmbmpeflhkngaa.Wd
set_option linter.unusedVariables false
set_option linter.unusedSimpArgs false
set_option maxHeartbeats 1000000
theorem find_b {p : Nat → Bool} {n : Nat} : -1 ≤ oI ((List.range n).find? p) ∧ oI ((List.range n).find? p) < (n : Int) := by
  by_cases h : oI ((List.range n).find? p) < 0
  · cases e : (List.range n).find? p with
    | none => exact ⟨Int.le_refl _, by show (-1 : Int) < n; omega⟩
    | some k => rw [e] at h; exact absurd h (by show ¬ (k : Int) < 0; omega)
  · obtain ⟨k, h1, h2, _⟩ := find_pos h
    omega
theorem rows_eq (l : List EntT) (hl : l.length = 32) : f97 l = some (l, ()) := by
  unfold f97
  have e : minI ((l.length : Nat) : Int) 32 = 32 := by rw [minI_eq]; omega
  rw [e, decide_eq_true (by omega), cond_true, show Int.toNat 32 = l.length by omega, List.take_length, List.drop_zero]
theorem hero_eq (l : List EntT) (hl : l.length = 32) (s : Int) : f76 l s = some (heroE' l s, ()) := by
  unfold f76 f87 f87.L1 heroE'
  rw [rows_eq l hl]
  simp only [Option.bind_some]
  have key := it_find (fuel := 100000000000000000000) (x := (l, (l.length : Int), 0, s, ())) (step := fun rec x => bif decide (x.2.2.1 < x.2.1) then bif inRange x.2.2.1 x.1.length then Option.bind (f89 x.2.2.1 (x.1.getD x.2.2.1.toNat (0, 0, 0, 0, 0, 0, 0, 0, 0, 0, 0)).1 (x.1.getD x.2.2.1.toNat (0, 0, 0, 0, 0, 0, 0, 0, 0, 0, 0)).2.1 (x.1.getD x.2.2.1.toNat (0, 0, 0, 0, 0, 0, 0, 0, 0, 0, 0)).2.2.1 (x.1.getD x.2.2.1.toNat (0, 0, 0, 0, 0, 0, 0, 0, 0, 0, 0)).2.2.2.1 (x.1.getD x.2.2.1.toNat (0, 0, 0, 0, 0, 0, 0, 0, 0, 0, 0)).2.2.2.2.1 (x.1.getD x.2.2.1.toNat (0, 0, 0, 0, 0, 0, 0, 0, 0, 0, 0)).2.2.2.2.2.1 (x.1.getD x.2.2.1.toNat (0, 0, 0, 0, 0, 0, 0, 0, 0, 0, 0)).2.2.2.2.2.2.1 (x.1.getD x.2.2.1.toNat (0, 0, 0, 0, 0, 0, 0, 0, 0, 0, 0)).2.2.2.2.2.2.2.1 (x.1.getD x.2.2.1.toNat (0, 0, 0, 0, 0, 0, 0, 0, 0, 0, 0)).2.2.2.2.2.2.2.2.1 (x.1.getD x.2.2.1.toNat (0, 0, 0, 0, 0, 0, 0, 0, 0, 0, 0)).2.2.2.2.2.2.2.2.2.1 (x.1.getD x.2.2.1.toNat (0, 0, 0, 0, 0, 0, 0, 0, 0, 0, 0)).2.2.2.2.2.2.2.2.2.2 x.2.2.2.1) fun y0 => bif y0.1 then some (x.2.2.1, x.2.2.2.1, ()) else rec (x.1, x.2.1, IntKind.wrap .i64 (x.2.2.1 + 1), x.2.2.2.1, ()) else none else some (-1, x.2.2.2.1, ())) (fun i => isHero s (l.getD i eN)) l.length (fun i : Nat => (l, (l.length : Int), (i : Int), s, ())) (fun i => some ((i : Int), s, ())) (some (-1, s, ())) (fun rec i hi' => by
    dsimp only
    rw [bif_dec]
    by_cases q : i < l.length
    · rw [if_pos (by omega), if_pos q, inR (by omega), cond_true, wr (by omega), Int.toNat_natCast]
      have ef : f89 (i : Int) (l.getD i eN).1 (l.getD i eN).2.1 (l.getD i eN).2.2.1 (l.getD i eN).2.2.2.1 (l.getD i eN).2.2.2.2.1 (l.getD i eN).2.2.2.2.2.1 (l.getD i eN).2.2.2.2.2.2.1 (l.getD i eN).2.2.2.2.2.2.2.1 (l.getD i eN).2.2.2.2.2.2.2.2.1 (l.getD i eN).2.2.2.2.2.2.2.2.2.1 (l.getD i eN).2.2.2.2.2.2.2.2.2.2 s = some (isHero s (l.getD i eN), ()) := by
        unfold f89 isHero kd st
        cases (l.getD i eN).1 == 1 <;> rfl
      rw [ef]
      simp only [Option.bind_some]
      cases isHero s (l.getD i eN) <;> rfl
    · rw [if_neg (by omega), if_neg q]) (by omega) rfl
  refine (congrArg (fun z => Option.bind z fun y0 => some (y0.1, ())) key).trans ?_
  cases (List.range l.length).find? fun i => isHero s (l.getD i eN) <;> rfl
theorem pat_eq (l : List EntT) (hl : l.length = 32) (px py : Int) : f75 l px py = some (atE l px py, ()) := by
  unfold f75 f87_1 f87_1.L1 atE
  rw [rows_eq l hl]
  simp only [Option.bind_some]
  have key := it_find (fuel := 100000000000000000000) (x := (l, (l.length : Int), 0, px, py, ())) (step := fun rec x => bif decide (x.2.2.1 < x.2.1) then bif inRange x.2.2.1 x.1.length then Option.bind (f88 x.2.2.1 (x.1.getD x.2.2.1.toNat (0, 0, 0, 0, 0, 0, 0, 0, 0, 0, 0)).1 (x.1.getD x.2.2.1.toNat (0, 0, 0, 0, 0, 0, 0, 0, 0, 0, 0)).2.1 (x.1.getD x.2.2.1.toNat (0, 0, 0, 0, 0, 0, 0, 0, 0, 0, 0)).2.2.1 (x.1.getD x.2.2.1.toNat (0, 0, 0, 0, 0, 0, 0, 0, 0, 0, 0)).2.2.2.1 (x.1.getD x.2.2.1.toNat (0, 0, 0, 0, 0, 0, 0, 0, 0, 0, 0)).2.2.2.2.1 (x.1.getD x.2.2.1.toNat (0, 0, 0, 0, 0, 0, 0, 0, 0, 0, 0)).2.2.2.2.2.1 (x.1.getD x.2.2.1.toNat (0, 0, 0, 0, 0, 0, 0, 0, 0, 0, 0)).2.2.2.2.2.2.1 (x.1.getD x.2.2.1.toNat (0, 0, 0, 0, 0, 0, 0, 0, 0, 0, 0)).2.2.2.2.2.2.2.1 (x.1.getD x.2.2.1.toNat (0, 0, 0, 0, 0, 0, 0, 0, 0, 0, 0)).2.2.2.2.2.2.2.2.1 (x.1.getD x.2.2.1.toNat (0, 0, 0, 0, 0, 0, 0, 0, 0, 0, 0)).2.2.2.2.2.2.2.2.2.1 (x.1.getD x.2.2.1.toNat (0, 0, 0, 0, 0, 0, 0, 0, 0, 0, 0)).2.2.2.2.2.2.2.2.2.2 x.2.2.2.1 x.2.2.2.2.1) fun y0 => bif y0.1 then some (x.2.2.1, x.2.2.2.1, x.2.2.2.2.1, ()) else rec (x.1, x.2.1, IntKind.wrap .i64 (x.2.2.1 + 1), x.2.2.2.1, x.2.2.2.2.1, ()) else none else some (-1, x.2.2.2.1, x.2.2.2.2.1, ())) (fun i => standsAt px py (l.getD i eN)) l.length (fun i : Nat => (l, (l.length : Int), (i : Int), px, py, ())) (fun i => some ((i : Int), px, py, ())) (some (-1, px, py, ())) (fun rec i hi' => by
    dsimp only
    rw [bif_dec]
    by_cases q : i < l.length
    · rw [if_pos (by omega), if_pos q, inR (by omega), cond_true, wr (by omega), Int.toNat_natCast]
      have ef : f88 (i : Int) (l.getD i eN).1 (l.getD i eN).2.1 (l.getD i eN).2.2.1 (l.getD i eN).2.2.2.1 (l.getD i eN).2.2.2.2.1 (l.getD i eN).2.2.2.2.2.1 (l.getD i eN).2.2.2.2.2.2.1 (l.getD i eN).2.2.2.2.2.2.2.1 (l.getD i eN).2.2.2.2.2.2.2.2.1 (l.getD i eN).2.2.2.2.2.2.2.2.2.1 (l.getD i eN).2.2.2.2.2.2.2.2.2.2 px py = some (standsAt px py (l.getD i eN), ()) := by
        unfold f88 standsAt kd ex ey
        rw [Bool.and_true]
        cases (l.getD i eN).1 != 0 <;> rfl
      rw [ef]
      simp only [Option.bind_some]
      cases standsAt px py (l.getD i eN) <;> rfl
    · rw [if_neg (by omega), if_neg q]) (by omega) rfl
  refine (congrArg (fun z => Option.bind z fun y0 => some (y0.1, ())) key).trans ?_
  cases (List.range l.length).find? fun i => standsAt px py (l.getD i eN) <;> rfl
/-- The lowest free slot; -1: none. -/
def emptyI (its : List ItT) (s : Int) : Int := oI ((List.range 4).find? fun b : Nat => decide (inI its 2 s b < 0))
def holdB (its : List ItT) (s lo hi : Int) (b : Nat) : Bool := decide (0 ≤ inI its 2 s b) && (decide (lo ≤ (its.getD (inI its 2 s b).toNat iN).1) && decide ((its.getD (inI its 2 s b).toNat iN).1 ≤ hi))
/-- The item in the lowest slot that holds one of kinds from lo to hi; -1: none. -/
def hold (its : List ItT) (s lo hi : Int) : Int := match (List.range 4).find? (holdB its s lo hi) with
  | some b => inI its 2 s b
  | none => -1
theorem inI_b (its : List ItT) (w a b : Int) : -1 ≤ inI its w a b ∧ inI its w a b < its.length := by
  by_cases h : inI its w a b < 0
  · unfold inI at h ⊢
    cases e : (List.range its.length).find? fun i => isAt w a b (its.getD i iN) with
    | none => exact ⟨Int.le_refl _, by show (-1 : Int) < _; omega⟩
    | some k => rw [e] at h; exact absurd h (by show ¬ (k : Int) < 0; omega)
  · obtain ⟨k, h1, h2, _⟩ := inI_some h
    omega
theorem rslot_eq (its : List ItT) (hl : its.length ≤ 1000) (s : Int) : f36 its s = some (emptyI its s, ()) := by
  unfold f36 f36.L1 emptyI
  refine (it_find (x := (its, s, 0, ())) (fun b : Nat => decide (inI its 2 s b < 0)) 4 (fun b : Nat => (its, s, (b : Int), ())) (fun b => some ((b : Int), ())) (some (-1, ())) (fun rec b hb => ?_) (by omega) rfl).trans ?_
  rotate_left
  · cases (List.range 4).find? fun b : Nat => decide (inI its 2 s b < 0) <;> rfl
  · dsimp only
    rw [bif_dec]
    by_cases q : b < 4
    · rw [if_pos (by omega), if_pos q, rin_eq its (by omega), wr (by omega)]
      simp only [Option.bind_some]
      rw [ite_bif]
      rfl
    · rw [if_neg (by omega), if_neg q]
theorem rhas_eq (its : List ItT) (hl : its.length ≤ 1000) (s lo hi : Int) : f38 its s lo hi = some (hold its s lo hi, ()) := by
  unfold f38 f38.L1 hold
  refine (it_find (x := (its, s, lo, hi, 0, ())) (holdB its s lo hi) 4 (fun b : Nat => (its, s, lo, hi, (b : Int), ())) (fun b => some (inI its 2 s b, ())) (some (-1, ())) (fun rec b hb => ?_) (by omega) rfl).trans ?_
  rotate_left
  · cases (List.range 4).find? (holdB its s lo hi) <;> rfl
  · dsimp only
    rw [bif_dec]
    by_cases q : b < 4
    · rw [if_pos (by omega), if_pos q, rin_eq its (by omega), wr (by omega)]
      simp only [Option.bind_some]
      have ib := inI_b its 2 s b
      unfold holdB
      rw [bif_dec]
      by_cases h0 : inI its 2 s b ≥ 0
      · have h0' : 0 ≤ inI its 2 s b := h0
        rw [if_pos h0, inR (by omega), decide_eq_true h0']
        simp only [cond_true, Bool.true_and]
        rw [bif_dec, bif_dec]
        by_cases h1 : lo ≤ (its.getD (inI its 2 s b).toNat iN).1
        · by_cases h2 : (its.getD (inI its 2 s b).toNat iN).1 ≤ hi
          · rw [if_pos (show (its.getD (inI its 2 s b).toNat (0, 0, 0, 0)).1 ≥ lo from h1), if_pos (show (its.getD (inI its 2 s b).toNat (0, 0, 0, 0)).1 ≤ hi from h2), decide_eq_true h1, decide_eq_true h2]; rfl
          · rw [if_pos (show (its.getD (inI its 2 s b).toNat (0, 0, 0, 0)).1 ≥ lo from h1), if_neg (show ¬ (its.getD (inI its 2 s b).toNat (0, 0, 0, 0)).1 ≤ hi from h2), decide_eq_true h1, decide_eq_false h2]; rfl
        · rw [if_neg (show ¬ (its.getD (inI its 2 s b).toNat (0, 0, 0, 0)).1 ≥ lo from h1), decide_eq_false h1]; rfl
      · have h0' : ¬ 0 ≤ inI its 2 s b := h0
        rw [if_neg h0, decide_eq_false h0']
        rfl
    · rw [if_neg (by omega), if_neg q]
theorem rpotion_eq (its : List ItT) (hl : its.length ≤ 1000) (s : Int) : f22 its s = some (hold its s 1 1, ()) := by
  unfold f22
  rw [rhas_eq its hl]
  rfl
theorem idx_is (l : List Int) (hl : ∀ i, 0 ≤ l.getD i 0 ∧ l.getD i 0 < 256) (v : Int) (hv : 0 ≤ v ∧ v < 256) : idxN l v = match (List.range l.length).find? fun i : Nat => l.getD i 0 == v with | some i => (i : Int) | none => -1 := by
  have hs : (ByteArray.mk (Go.Lib.bytesOf l).toArray).size = l.length := by
    show (Go.Lib.bytesOf l).toArray.size = _
    simp [Go.Lib.bytesOf]
  have hp : ∀ i, i < l.length → ((ByteArray.mk (Go.Lib.bytesOf l).toArray)[i]! == v.toNat.toUInt8) = (l.getD i 0 == v) := by
    intro i hi
    have e : (ByteArray.mk (Go.Lib.bytesOf l).toArray)[i]! = UInt8.ofNat (l.getD i 0).toNat := by
      rw [getElem!_pos _ i (by rw [hs]; exact hi)]
      show (Go.Lib.bytesOf l).toArray[i]'_ = _
      simp [Go.Lib.bytesOf, List.getD_eq_getElem?_getD, List.getElem?_eq_getElem hi]
    have b := hl i
    rw [e]
    by_cases q : l.getD i 0 = v
    · rw [q, beq_self_eq_true, beq_self_eq_true]
    · rw [beq_eq_false_iff_ne.2 q, beq_eq_false_iff_ne]
      intro z
      have z2 := congrArg UInt8.toNat z
      have a1 : (UInt8.ofNat (l.getD i 0).toNat).toNat = (l.getD i 0).toNat := UInt8.toNat_ofNat_of_lt' (by show _ < 256; omega)
      have a2 : (v.toNat.toUInt8).toNat = v.toNat := UInt8.toNat_ofNat_of_lt' (by show _ < 256; omega)
      rw [a1, a2] at z2
      omega
  have main : ∀ (L : List Nat), (∀ i ∈ L, i < l.length) → L.find? (fun i => (ByteArray.mk (Go.Lib.bytesOf l).toArray)[i]! == v.toNat.toUInt8) = L.find? fun i : Nat => l.getD i 0 == v := by
    intro L
    induction L with
    | nil => intro _; rfl
    | cons a L ih =>
      intro h
      rw [List.find?_cons, List.find?_cons, hp a (h a List.mem_cons_self), ih fun i hi => h i (List.mem_cons_of_mem _ hi)]
  unfold idxN
  rw [hs, main _ fun i hi => List.mem_range.1 hi]
  rfl
theorem find_g (c : List Int) (hc : CB c) (hl : c.length = 384) (v : Int) (hv : 0 ≤ v ∧ v ≤ 255) : f105 c v = some (findC c v, ()) := by
  unfold f105
  have e : Int.toNat (minI (c.length : Int) 384) = 384 := by rw [minI_eq]; omega
  have e2 : IntKind.wrap .u8 v = v := by
    have : IntKind.wrap .u8 v = v % 256 := by simp [IntKind.wrap, IntKind.bits, IntKind.signed]
    omega
  rw [bif_dec, if_neg (by omega), bif_dec, if_neg (by omega), decide_eq_true (by rw [minI_eq]; omega), cond_true, e, e2, List.drop_zero, List.take_of_length_le (by omega)]
  have eF : f106 c v = some (idxN c v, ()) := rfl
  rw [eF]
  simp only [Option.bind_some]
  rw [idx_is c hc v (by omega), hl]
  rfl
end Go.Proofs.Ytjmbmpeflhkngaa.Ft
/- What nav's functions compute (own work). -/
namespace Go.Proofs.Ytjmbmpeflhkngaa.Nav
open Go Go.Proofs.Ytjmbmpeflhkngaa.Mx Go.Proofs.Ytjmbmpeflhkngaa.Pc Go.Proofs.Ytjmbmpeflhkngaa.Run Go.Proofs.Ytjmbmpeflhkngaa.Field Go.Proofs.Ytjmbmpeflhkngaa.Gen
set_option linter.unusedVariables false
set_option linter.unusedSimpArgs false
theorem turned_eq (n : Nat) (hn : n ≤ 3) : f94 0 (-1) (n : Int) = some (ddx n, ddy n, ()) := by
  refine OK.eq ?_
  unfold f94 f94.L1
  have e : Int.tmod (IntKind.wrap .i64 (Int.tmod (n : Int) 4 + 4)) 4 = n := by
    rw [Int.tmod_eq_emod_of_nonneg (a := (n : Int)) (by omega), wr (by omega), Int.tmod_eq_emod_of_nonneg (by omega)]; omega
  rw [e]
  refine OK.loop (fun j : Nat => (ddx j, ddy j, (n : Int), (j : Int), ())) (fun j => j ≤ n) (fun j => n - j) (fun rec j hj ih => ?_) 0 rfl (Nat.zero_le _) (by omega)
  dsimp only at hj ih ⊢
  rw [bif_dec]
  by_cases q : (j : Int) < n
  · rw [if_pos q, wr (by omega)]
    have k : ∀ j : Nat, j < 3 → (small (ddx j) && small (ddy j)) = true ∧ -ddy j = ddx (j + 1) ∧ ddx j = ddy (j + 1) := by decide
    obtain ⟨k1, k2, k3⟩ := k j (by omega)
    rw [k1, cond_true]
    exact ih (j + 1) (by omega) (by omega) _ (by rw [k2, ← k3]; rfl)
  · have e : j = n := by omega
    rw [if_neg q]
    subst e
    exact OK.ret rfl
theorem way_eq (j : Nat) (hj : j < 4) : f79 (1 + (j : Int)) = some (ddx j, ddy j, ()) := by
  unfold f79
  have e : 1 + (j : Int) - 1 = j := by omega
  rw [bif_dec, bif_dec, if_neg (by omega), if_neg (by omega), wr (by omega), e, turned_eq j (by omega)]
  match j, hj with
  | 0, _ => rfl
  | 1, _ => rfl
  | 2, _ => rfl
  | 3, _ => rfl
theorem rway_eq (j : Nat) (hj : j < 4) : f16 (1 + (j : Int)) = some (ddx j, ddy j, ()) := by
  match j, hj with
  | 0, _ => rfl
  | 1, _ => rfl
  | 2, _ => rfl
  | 3, _ => rfl
theorem number_eq (x y : Int) : f80 x y = some (if 0 ≤ x ∧ x < 24 ∧ 0 ≤ y ∧ y < 16 then y * 24 + x else -1, ()) := by
  unfold f80
  simp only [bif_dec]
  by_cases h : 0 ≤ x ∧ x < 24 ∧ 0 ≤ y ∧ y < 16
  · rw [if_pos h, if_neg (by omega), if_neg (by omega), if_neg (by omega), if_neg (by omega), wr (x := y * 24) (by omega), wr (by omega)]
  · rw [if_neg h]
    split
    · rfl
    · split
      · rfl
      · split
        · rfl
        · split
          · rfl
          · omega
theorem small_of {x : Int} (h : -1000 ≤ x ∧ x ≤ 1000) : small x = true := by
  unfold small; simp; omega
theorem dd (j : Nat) (hj : j < 4) : -1 ≤ ddx j ∧ ddx j ≤ 1 ∧ -1 ≤ ddy j ∧ ddy j ≤ 1 := by
  match j, hj with
  | 0, _ => decide
  | 1, _ => decide
  | 2, _ => decide
  | 3, _ => decide
theorem step_eq (x y : Int) (hx : 0 ≤ x ∧ x < 24) (hy : 0 ≤ y ∧ y < 16) (j : Nat) (hj : j < 4) : f83 x y (1 + (j : Int)) = some (x + ddx j, y + ddy j, ()) := by
  have d := dd j hj
  unfold f83
  rw [way_eq j hj]
  simp only [Option.bind_some]
  rw [small_of (by omega), small_of (by omega), small_of (by omega), small_of (by omega)]
  rfl
theorem plain_eq (x y : Int) (hx : -10 ≤ x ∧ x < 40) (hy : -10 ≤ y ∧ y < 40) : f82 x y = some (x, y, ()) := by
  unfold f82
  rw [small_of (by omega), small_of (by omega)]
  rfl
/-! ### entities -/
abbrev e0 : EntT := (0, 0, 0, 0, 0, 0, 0, 0, 0, 0, 0)
def exx (e : EntT) : Int := e.2.2.2.1
def eyy (e : EntT) : Int := e.2.2.2.2.1
/-- Entities at places of the grid. -/
structure Ents (l : List EntT) : Prop where
  len : l.length = 32
  at_ : ∀ i, i < l.length → (l.getD i e0).1 = 0 ∨ (0 ≤ exx (l.getD i e0) ∧ exx (l.getD i e0) < 24 ∧ 0 ≤ eyy (l.getD i e0) ∧ eyy (l.getD i e0) < 16)
theorem rat_ok (l : List EntT) (hl : l.length ≤ 1000) (x y : Int) : OK (f17 l x y) fun z => -1 ≤ z.1 ∧ (z.1 < 0 ∨ ∃ i, i < l.length ∧ (l.getD i e0).1 ≠ 0 ∧ exx (l.getD i e0) = x ∧ eyy (l.getD i e0) = y) := by
  unfold f17 f17.L1
  refine OK.loop (fun j : Nat => (l, x, y, (j : Int), ())) (fun j => j ≤ l.length) (fun j => l.length - j) (fun rec j hj ih => ?_) 0 rfl (Nat.zero_le _) (by omega)
  dsimp only at hj ih ⊢
  rw [bif_dec]
  by_cases q : (j : Int) < (l.length : Int)
  · have wj : IntKind.wrap .i64 ((j : Int) + 1) = ((j + 1 : Nat) : Int) := by rw [wr (by omega)]; omega
    have skip := ih (j + 1) (by omega) (by omega) _ rfl
    rw [if_pos q, inR (by omega), cond_true, cond_true, cond_true, wj, Int.toNat_natCast]
    refine OK.bif (fun h1 => ?_) (fun _ => skip)
    refine OK.bif (fun h2 => ?_) (fun _ => skip)
    refine OK.bif (fun h3 => ?_) (fun _ => skip)
    refine OK.ret ⟨by dsimp only; omega, .inr ⟨j, by omega, bne_iff_ne.1 h1, beq_iff_eq.1 h2, beq_iff_eq.1 h3⟩⟩
  · rw [if_neg q]
    exact OK.ret ⟨by decide, .inl (by decide)⟩
theorem rstats_eq : f25 2 = some (2, 0, 0, 0, 0, 4, 4, 2, 0, 0, 0, ()) := rfl
def mk (m : Int) (b : List Bool) (e : EntT) : List Bool := if e.1 ≠ 0 ∧ eyy e * 24 + exx e ≠ m then b.set (eyy e * 24 + exx e).toNat true else b
def stand (m : Int) (l : List EntT) (i : Nat) : List Bool := (l.take i).foldl (mk m) (List.replicate 384 false)
theorem mk_len (m : Int) (b : List Bool) (e : EntT) : (mk m b e).length = b.length := by unfold mk; split <;> simp
theorem stand_len (m : Int) (l : List EntT) (i : Nat) : (stand m l i).length = 384 := by
  unfold stand
  generalize l.take i = t
  have : ∀ (t : List EntT) (b : List Bool), (t.foldl (mk m) b).length = b.length := by
    intro t
    induction t with
    | nil => intro b; rfl
    | cons e t ih => intro b; rw [List.foldl_cons, ih, mk_len]
  rw [this, List.length_replicate]
theorem stand_succ (m : Int) (l : List EntT) (i : Nat) (hi : i < l.length) : stand m l (i + 1) = mk m (stand m l i) (l.getD i e0) := by
  unfold stand
  have : l.getD i e0 = l[i] := by simp [List.getD_eq_getElem?_getD, hi]
  rw [List.take_succ_eq_append_getElem hi, List.foldl_append, this]
  rfl
theorem stand_at (m : Int) (l : List EntT) (h : Ents l) (k : Nat) (hk : k < l.length) (h1 : (l.getD k e0).1 ≠ 0) (h2 : eyy (l.getD k e0) * 24 + exx (l.getD k e0) ≠ m) : ∀ i, k < i → i ≤ l.length → (stand m l i).getD (eyy (l.getD k e0) * 24 + exx (l.getD k e0)).toNat false = true := by
  intro i
  induction i with
  | zero => intro h; omega
  | succ i ih =>
    intro hki hil
    rw [stand_succ m l i (by omega)]
    have hlen := stand_len m l i
    rcases h.at_ k hk with h0 | h0
    · exact absurd h0 h1
    by_cases e : k = i
    · subst e
      unfold mk
      rw [if_pos ⟨h1, h2⟩, getD_set, if_pos ⟨rfl, by omega⟩]
    · have := ih (by omega) (by omega)
      unfold mk
      split
      · rw [getD_set]
        split
        · rfl
        · exact this
      · exact this
/-- The step that leads nearer. -/
theorem toward_ok (c : List Int) (hc : CB c) (l : List EntT) (h : Ents l) (m : Int) (hm : GC m) (ts : List Int) (ht : ts.length ≤ 1000000) :
    OK (f70 c l (m % 24) (m / 24) ts) fun z => ∃ f, IsField (opnC c (stand m l 32)) (IsT c ts) f ∧
      (z.1 = 0 ∨ ∃ j : Nat, j < 4 ∧ z.1 = 1 + (j : Int) ∧ GC (nbr m j) ∧ 1 ≤ rd f m ∧ rd f (nbr m j) = rd f m - 1 ∧ (stand m l 32).getD (nbr m j).toNat false = false) := by
  have hm' := hm
  unfold GC at hm'
  have hl := h.len
  unfold f70
  have em : m / 24 * 24 + m % 24 = m := by omega
  rw [number_eq, if_pos (by omega), em]
  simp only [Option.bind_some]
  have lm : minI (l.length : Int) 32 = 32 := by rw [minI_eq]; omega
  have ld : List.drop 0 (List.take (Int.toNat (32 : Int)) l) = l := by
    rw [List.drop_zero]; exact List.take_of_length_le (by omega)
  rw [bif_dec, if_neg (by omega), lm, bif_dec, if_pos (by omega), ld]
  unfold f70.L2
  refine OK.loop (fun j : Nat => (c, m % 24, m / 24, ts, m, l, (l.length : Int), (j : Int), stand m l j, ())) (fun j => j ≤ 32) (fun j => 32 - j) (fun rec j hj ih => ?_) 0 rfl (Nat.zero_le _) (by decide)
  dsimp only at hj ih ⊢
  rw [bif_dec]
  by_cases q : (j : Int) < (l.length : Int)
  · have wj : IntKind.wrap .i64 ((j : Int) + 1) = ((j + 1 : Nat) : Int) := by rw [wr (by omega)]; omega
    rw [if_pos q, inR (by omega), cond_true, number_eq, wj, Int.toNat_natCast]
    simp only [Option.bind_some]
    have nx := ih (j + 1) (by omega) (by omega) _ rfl
    rw [stand_succ m l j (by omega)] at nx
    have hlen := stand_len m l j
    have hh := h.at_ j (by omega)
    generalize stand m l j = b at *
    unfold mk at nx
    generalize hE : l.getD j e0 = E at *
    by_cases k0 : E.1 = 0
    · have q0 : (E.1 != 0) = false := by simp [k0]
      rw [if_neg (fun hx => hx.1 k0)] at nx
      rw [q0, cond_false]
      exact nx
    · have q0 : (E.1 != 0) = true := by simpa using k0
      have g := hh.resolve_left k0
      have eN : (if 0 ≤ E.2.2.2.1 ∧ E.2.2.2.1 < 24 ∧ 0 ≤ E.2.2.2.2.1 ∧ E.2.2.2.2.1 < 16 then E.2.2.2.2.1 * 24 + E.2.2.2.1 else -1) = eyy E * 24 + exx E := if_pos g
      rw [q0, cond_true, eN, bif_dec, if_pos (by omega)]
      by_cases k1 : eyy E * 24 + exx E = m
      · have q1 : (eyy E * 24 + exx E != m) = false := by simp [k1]
        rw [if_neg (fun hx => hx.2 k1)] at nx
        rw [q1, cond_false]
        exact nx
      · have q1 : (eyy E * 24 + exx E != m) = true := by simpa using k1
        rw [if_pos ⟨k0, k1⟩] at nx
        rw [q1, cond_true, inR (by omega), cond_true]
        exact nx
  · have e : j = 32 := by omega
    subst e
    rw [if_neg q]
    have hlen := stand_len m l 32
    refine OK.callR (field_is c hc (stand m l 32) ts ht) fun y hy => ?_
    have hfl := hy.len
    have lo := hy.lo m hm
    have sm := field_small hy m hm
    generalize stand m l 32 = b at *
    obtain ⟨f, u⟩ := y
    dsimp only at hy hfl lo sm ⊢
    rw [inR (by omega), cond_true, bif_dec]
    by_cases k : f.getD m.toNat 0 < 1
    · rw [if_pos k]
      exact OK.ret ⟨f, hy, .inl rfl⟩
    · rw [if_neg k]
      have k' : 1 ≤ Field.rd f m := by unfold Field.rd; omega
      unfold f70.L1
      refine OK.loop (fun j : Nat => (m % 24, m / 24, m, 1 + (j : Int), b, f, ())) (fun j => j ≤ 4) (fun j => 4 - j) (fun rec j hj ih => ?_) 0 rfl (Nat.zero_le _) (by decide)
      dsimp only at hj ih ⊢
      rw [bif_dec]
      by_cases q : j < 4
      · have d := dd j q
        have wj : IntKind.wrap .i64 (1 + (j : Int) + 1) = 1 + ((j + 1 : Nat) : Int) := by rw [wr (by omega)]; omega
        have skip := ih (j + 1) (by omega) (by omega) _ rfl
        rw [if_pos (by omega), small_of (x := m % 24) (by omega), small_of (x := m / 24) (by omega), cond_true, cond_true, step_eq _ _ (by omega) (by omega) j q, wj]
        simp only [Option.bind_some]
        rw [plain_eq _ _ (by omega) (by omega)]
        simp only [Option.bind_some]
        rw [number_eq]
        simp only [Option.bind_some]
        rcases dir_place m hm j q with ⟨hin, hcel⟩ | ⟨hout, hn⟩
        · unfold InG at hin
          unfold cel at hcel
          have hg : GC (nbr m j) := by rw [← hcel]; unfold GC; omega
          rw [if_pos hin, hcel]
          have hg' := hg
          unfold GC at hg'
          have ew : IntKind.wrap .i64 (f.getD m.toNat 0 - 1) = Field.rd f m - 1 := by
            have : f.getD m.toNat 0 = Field.rd f m := rfl
            rw [this, wr (by omega)]
          rw [bif_dec, if_pos (by omega), inR (i := nbr m j) (n := f.length) (by omega), inR (i := m) (n := f.length) (by omega), inR (i := nbr m j) (n := b.length) (by omega), cond_true, cond_true, cond_true, ew]
          refine OK.bif (fun h1 => ?_) (fun _ => skip)
          refine OK.bif (fun h2 => ?_) (fun _ => skip)
          exact OK.ret ⟨f, hy, .inr ⟨j, q, rfl, hg, k', beq_iff_eq.1 h1, (by
            cases hb : b.getD (nbr m j).toNat false with
            | false => rfl
            | true => rw [hb] at h2; exact absurd h2 (by decide))⟩⟩
        · unfold InG at hout
          rw [if_neg hout, bif_dec, if_neg (by omega)]
          exact skip
      · rw [if_neg (by omega)]
        exact OK.ret ⟨f, hy, .inl rfl⟩
end Go.Proofs.Ytjmbmpeflhkngaa.Nav
/- The law NavFree, in plain words (own work). -/
namespace Go.Proofs.Ytjmbmpeflhkngaa.Nav
open Go Go.Proofs.Ytjmbmpeflhkngaa.Mx Go.Proofs.Ytjmbmpeflhkngaa.Pc Go.Proofs.Ytjmbmpeflhkngaa.Run Go.Proofs.Ytjmbmpeflhkngaa.Field Go.Proofs.Ytjmbmpeflhkngaa.Gen
set_option linter.unusedVariables false
set_option linter.unusedSimpArgs false
theorem beside_ok (a b c d : Int) : OK (f69 a b c d) fun y => (∃ j : Nat, j < 4 ∧ y.1 = 1 + (j : Int) ∧ IntKind.wrap .i64 (c - a) = ddx j ∧ IntKind.wrap .i64 (d - b) = ddy j) ∨ (y.1 = 0 ∧ ∀ j : Nat, j < 4 → ¬ (IntKind.wrap .i64 (c - a) = ddx j ∧ IntKind.wrap .i64 (d - b) = ddy j)) := by
  unfold f69 f69.L1
  refine OK.loop (fun j : Nat => (a, b, c, d, 1 + (j : Int), ())) (fun j => j ≤ 4 ∧ ∀ k, k < j → ¬ (IntKind.wrap .i64 (c - a) = ddx k ∧ IntKind.wrap .i64 (d - b) = ddy k)) (fun j => 4 - j) (fun rec j hj ih => ?_) 0 rfl ⟨Nat.zero_le _, fun k hk => absurd hk (Nat.not_lt_zero k)⟩ (by omega)
  obtain ⟨hj, hn⟩ := hj
  dsimp only at hj hn ih ⊢
  rw [bif_dec]
  by_cases q : j < 4
  · have wj : IntKind.wrap .i64 (1 + (j : Int) + 1) = 1 + ((j + 1 : Nat) : Int) := by rw [wr (by omega)]; omega
    rw [if_pos (by omega), way_eq j q, wj]
    simp only [Option.bind_some]
    have skip : ¬ (IntKind.wrap .i64 (c - a) = ddx j ∧ IntKind.wrap .i64 (d - b) = ddy j) → OK (rec (a, b, c, d, 1 + ((j + 1 : Nat) : Int), ())) _ := fun h => ih (j + 1) ⟨by omega, fun k hk => by
      rcases (by omega : k < j ∨ k = j) with z | z
      · exact hn k z
      · subst z; exact h⟩ (by omega) _ rfl
    refine OK.bif (fun h1 => ?_) (fun h1 => skip (fun h => by have := beq_eq_false_iff_ne.1 h1; exact this h.1))
    refine OK.bif (fun h2 => ?_) (fun h2 => skip (fun h => by have := beq_eq_false_iff_ne.1 h2; exact this h.2))
    exact OK.ret (.inl ⟨j, q, rfl, beq_iff_eq.1 h1, beq_iff_eq.1 h2⟩)
  · rw [if_neg (by omega)]
    exact OK.ret (.inr ⟨rfl, fun k hk => hn k (by omega)⟩)
end Go.Proofs.Ytjmbmpeflhkngaa.Nav
namespace Go.Proofs.Ytjmbmpeflhkngaa.Pure
end Go.Proofs.Ytjmbmpeflhkngaa.Pure

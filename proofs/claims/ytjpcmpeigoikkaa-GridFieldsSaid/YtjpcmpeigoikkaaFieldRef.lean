/- Plain law: the document's field is a field: cell by cell as they are reached, each cell beside that is open and not reached yet is reached one step further. No condition but that the cells are as many as there are, each a byte. -/
import Derived.Test.YtjpcmpeigoikkaaFieldDef
import Derived.Test.YtjpcmpeigoikkaaFieldRun
import Derived.Test.YtjpcmpeigoikkaaQ8
namespace Go.Proofs.Ytjpcmpeigoikkaa.Pure
set_option linter.unusedVariables false
set_option linter.unusedSimpArgs false
open Go.RowKit Go.Proofs.Ytjpcmpeigoikkaa.Q Go.Proofs.YtjpcmpeigoikkaaW.PrintWords Go.Proofs.YtjpcmpeigoikkaaW.PrintLast Go.Proofs.YtjpcmpeigoikkaaW.PrintMore

theorem rw_walk (v : Int) : aditref3_Walk.f v = some (walkable v) := fw_walk v
theorem rw_at (c : List Int) (hc : CB c) (x y : Int) (h : InG x y) : aditref3_At.f c x y = some (rd c (cel x y)) := by
  have hv := hc.2 (cel x y).toNat
  have hp := cel_place x y h
  have hl := hc.1
  have h' := h
  unfold InG at h'
  unfold aditref3_At.f
  rw [in_is, decide_eq_true h, Option.bind_some, if_pos rfl, w64 (n := y * 24) (by omega) (by omega), w64 (n := y * 24 + x) (by omega) (by omega), show y * 24 + x = cel x y from rfl, if_neg (by omega), if_pos (by omega), if_pos (by omega), w64 (by unfold rd; omega) (by unfold rd; omega)]

def ddx (j : Nat) : Int := match j with | 0 => 0 | 1 => 1 | 2 => 0 | _ => -1
def ddy (j : Nat) : Int := match j with | 0 => -1 | 1 => 0 | 2 => 1 | _ => 0
theorem dir_place (m : Int) (hm : GC m) (j : Nat) (hj : j < 4) : (InG (m % 24 + ddx j) (m / 24 + ddy j) ∧ cel (m % 24 + ddx j) (m / 24 + ddy j) = nbr m j) ∨ (¬ InG (m % 24 + ddx j) (m / 24 + ddy j) ∧ nbr m j = -1) := by
  unfold GC at hm
  unfold InG cel
  match j, hj with
  | 0, _ => unfold ddx ddy nbr; simp only; split <;> omega
  | 1, _ => unfold ddx ddy nbr; simp only; split <;> omega
  | 2, _ => unfold ddx ddy nbr; simp only; split <;> omega
  | 3, _ => unfold ddx ddy nbr; simp only; split <;> omega
theorem dir_step (k : Nat) (c : List Int) (b : List Bool) (f row : List Int) (i m : Int) (hm : GC m) (j : Nat) (hj : j < 4) : aditref3_Field.l4 (k + 1) c b f row i m (j : Int) = aditref3_Field.j5 k c b f row i m (j : Int) (m % 24 + ddx j) (m / 24 + ddy j) := by
  unfold GC at hm
  simp only [aditref3_Field.l4]
  rw [if_pos (by omega), Int.tmod_eq_emod_of_nonneg hm.1, Int.tdiv_eq_ediv_of_nonneg hm.1, w64 (n := m / 24) (by omega) (by omega), w64 (n := m / 24 - 1) (by omega) (by omega), w64 (n := m / 24 + 1) (by omega) (by omega), w64 (n := m % 24 + 1) (by omega) (by omega), w64 (n := m % 24 - 1) (by omega) (by omega)]
  match j, hj with
  | 0, _ => rw [if_pos (by rfl)]; unfold ddx ddy; simp only; rw [Int.add_zero]; rfl
  | 1, _ => rw [if_neg (by decide), if_pos (by rfl)]; unfold ddx ddy; simp only; rw [Int.add_zero]
  | 2, _ => rw [if_neg (by decide), if_neg (by decide), if_pos (by rfl)]; unfold ddx ddy; simp only; rw [Int.add_zero]
  | 3, _ => rw [if_neg (by decide), if_neg (by decide), if_neg (by decide), if_pos (by rfl)]; unfold ddx ddy; simp only; rw [Int.add_zero]; rfl

section
variable (opn : Int → Prop) (T : Int → Prop)
structure Qv (f row : List Int) : Prop where
  base : Base opn T f
  rowG : ∀ n ∈ row, GC n
  mem : ∀ n, GC n → (0 ≤ rd f n ↔ n ∈ row)
  sorted : ∀ (p q : Nat) (hp : p < row.length) (hq : q < row.length), p ≤ q → rd f row[p] ≤ rd f row[q]
  cnt : row.length + un f = 384
def DoneR (f : List Int) (m : Int) (d : Nat) : Prop := GC (nbr m d) → opn (nbr m d) → 0 ≤ rd f (nbr m d) ∧ rd f (nbr m d) ≤ rd f m + 1
variable {opn T}
theorem qv_set {f row : List Int} (h : Qv opn T f row) {m v : Int} (hm : GC m) (h0 : 0 ≤ rd f m) (hb : ∀ x ∈ row, rd f x ≤ rd f m + 1) (hv : GC v) (ha : adj m v) (ho : opn v) (hu : rd f v < 0) :
    Qv opn T (f.set v.toNat (rd f m + 1)) (row ++ [v]) ∧ (∀ x d, GC x → 0 ≤ rd f x → DoneR opn f x d → DoneR opn (f.set v.toNat (rd f m + 1)) x d) ∧ rd (f.set v.toNat (rd f m + 1)) m = rd f m ∧ (∀ x ∈ row ++ [v], rd (f.set v.toNat (rd f m + 1)) x ≤ rd f m + 1) := by
  have hl := h.base.len
  have hset := fun x (hx : GC x) => rd_set f hl v x (rd f m + 1) hv hx
  have hne : ∀ x, GC x → 0 ≤ rd f x → x ≠ v := fun x hx hp e => by rw [← e] at hu; omega
  have hsame : ∀ x, GC x → 0 ≤ rd f x → rd (f.set v.toNat (rd f m + 1)) x = rd f x := fun x hx hp => by rw [hset x hx, if_neg (hne x hx hp)]
  have hnew : rd (f.set v.toNat (rd f m + 1)) v = rd f m + 1 := by rw [hset v hv, if_pos rfl]
  have hrow : ∀ x ∈ row, rd (f.set v.toNat (rd f m + 1)) x = rd f x := fun x hx => hsame x (h.rowG x hx) ((h.mem x (h.rowG x hx)).2 hx)
  have hun := un_set f hl v (rd f m + 1) hv hu (by omega)
  refine ⟨⟨base_set h.base hm hv ha ho hu (by omega) (by omega), ?_, ?_, ?_, ?_⟩, ?_, hsame m hm h0, ?_⟩
  · intro n hn
    rcases List.mem_append.1 hn with x | x
    · exact h.rowG n x
    · rw [List.mem_singleton.1 x]; exact hv
  · intro n hn
    rw [hset n hn, List.mem_append, List.mem_singleton]
    by_cases e : n = v
    · rw [if_pos e]
      exact ⟨fun _ => .inr e, fun _ => by omega⟩
    · rw [if_neg e, h.mem n hn]
      exact ⟨.inl, fun x => x.resolve_right e⟩
  · intro p q hp hq hpq
    rw [List.length_append] at hp hq
    simp only [List.length_cons, List.length_nil] at hp hq
    rw [List.getElem_append, List.getElem_append]
    by_cases q1 : q < row.length
    · have p1 : p < row.length := by omega
      rw [dif_pos p1, dif_pos q1, hrow _ (List.getElem_mem p1), hrow _ (List.getElem_mem q1)]
      exact h.sorted p q p1 q1 hpq
    · rw [dif_neg q1]
      simp only [List.getElem_singleton]
      rw [hnew]
      by_cases p1 : p < row.length
      · rw [dif_pos p1, hrow _ (List.getElem_mem p1)]
        exact hb _ (List.getElem_mem p1)
      · rw [dif_neg p1]
        exact Int.le_of_eq hnew
  · rw [List.length_append]
    simp only [List.length_cons, List.length_nil]
    have := h.cnt
    omega
  · intro x d hx hp hd hg hop
    obtain ⟨d1, d2⟩ := hd hg hop
    rw [hsame _ hg d1, hsame x hx hp]
    exact ⟨d1, d2⟩
  · intro x hx
    rcases List.mem_append.1 hx with y | y
    · rw [hrow x y]; exact hb x y
    · rw [List.mem_singleton.1 y, hnew]
      exact Int.le_refl _
end

/-- One direction: it leads on, whatever is there. -/
theorem dir_run (c : List Int) (hc : CB c) (b : List Bool) (T : Int → Prop) (i m : Int) (hm : GC m) (j : Nat) (hj : j < 4) (k : Nat) (f row : List Int) (hQ : Qv (opnC c b) T f row) (h0 : 0 ≤ rd f m) (hmv : rd f m < 100000) (hb : ∀ x ∈ row, rd f x ≤ rd f m + 1) :
    ∃ f' row', aditref3_Field.l4 (k + 2) c b f row i m (j : Int) = aditref3_Field.l4 k c b f' row' i m ((j + 1 : Nat) : Int) ∧ Qv (opnC c b) T f' row' ∧ rd f' m = rd f m ∧ (∀ x ∈ row', rd f' x ≤ rd f m + 1) ∧ DoneR (opnC c b) f' m j ∧
      (∀ x d, GC x → 0 ≤ rd f x → DoneR (opnC c b) f x d → DoneR (opnC c b) f' x d) ∧ (∀ x, GC x → 0 ≤ rd f x → rd f' x = rd f x) ∧ (∃ more, row' = row ++ more) := by
  have hw := wrap_succ j (by omega)
  have hl := hQ.base.len
  have hcnt : row.length ≤ 384 := by have := hQ.cnt; omega
  rw [show k + 2 = (k + 1) + 1 from rfl, dir_step (k + 1) c b f row i m hm j hj]
  simp only [aditref3_Field.j5]
  rw [in_is, Option.bind_some, hw]
  clear hw
  have skip : DoneR (opnC c b) f m j → ∃ f' row', aditref3_Field.l4 k c b f row i m ((j + 1 : Nat) : Int) = aditref3_Field.l4 k c b f' row' i m ((j + 1 : Nat) : Int) ∧ Qv (opnC c b) T f' row' ∧ rd f' m = rd f m ∧ (∀ x ∈ row', rd f' x ≤ rd f m + 1) ∧ DoneR (opnC c b) f' m j ∧
      (∀ x d, GC x → 0 ≤ rd f x → DoneR (opnC c b) f x d → DoneR (opnC c b) f' x d) ∧ (∀ x, GC x → 0 ≤ rd f x → rd f' x = rd f x) ∧ (∃ more, row' = row ++ more) :=
    fun hd => ⟨f, row, rfl, hQ, rfl, hb, hd, fun _ _ _ _ h => h, fun _ _ _ => rfl, [], by simp⟩
  rcases dir_place m hm j hj with ⟨hin, hcel⟩ | ⟨hout, hn⟩
  · have hp := cel_place _ _ hin
    have hg : GC (nbr m j) := by rw [← hcel]; exact ⟨hp.2.2.1, hp.2.2.2⟩
    have hin' := hin
    unfold InG at hin'
    rw [decide_eq_true hin, if_pos rfl, w64 (n := (m / 24 + ddy j) * 24) (by omega) (by omega), w64 (n := (m / 24 + ddy j) * 24 + (m % 24 + ddx j)) (by omega) (by omega), rw_at c hc _ _ hin]
    rw [show (m / 24 + ddy j) * 24 + (m % 24 + ddx j) = nbr m j from hcel, show cel (m % 24 + ddx j) (m / 24 + ddy j) = nbr m j from hcel]
    generalize hv : nbr m j = v at hg hcel ⊢
    have hg' := hg
    unfold GC at hg'
    have hm' := hm
    unfold GC at hm'
    rw [if_pos hg'.1, if_pos (by omega)]
    by_cases h1 : rd f v < 0
    · rw [if_pos h1, Option.bind_some, rw_walk, Option.bind_some]
      by_cases h2 : walkable (rd c v) = true
      · rw [if_pos h2]
        have hwv : wrap64 (rd f m + 1) = rd f m + 1 := w64 (by omega) (by omega)
        have set : opnC c b v → ∃ f' row', aditref3_Field.l4 k c b (f.set v.toNat (rd f m + 1)) (row ++ [v]) i m ((j + 1 : Nat) : Int) = aditref3_Field.l4 k c b f' row' i m ((j + 1 : Nat) : Int) ∧ Qv (opnC c b) T f' row' ∧ rd f' m = rd f m ∧ (∀ x ∈ row', rd f' x ≤ rd f m + 1) ∧ DoneR (opnC c b) f' m j ∧
            (∀ x d, GC x → 0 ≤ rd f x → DoneR (opnC c b) f x d → DoneR (opnC c b) f' x d) ∧ (∀ x, GC x → 0 ≤ rd f x → rd f' x = rd f x) ∧ (∃ more, row' = row ++ more) := by
          intro ho
          obtain ⟨a1, a2, a3, a4⟩ := qv_set hQ hm h0 hb hg ⟨j, hj, hv⟩ ho h1
          refine ⟨_, _, rfl, a1, a3, a4, ?_, a2, fun x hx hp => ?_, ⟨[v], rfl⟩⟩
          · intro _ _
            rw [hv, a3, rd_set f hl v v (rd f m + 1) hg hg, if_pos rfl]
            omega
          · rw [rd_set f hl v x (rd f m + 1) hg hx, if_neg (fun e => by rw [← e] at h1; omega)]
        by_cases h3 : v ≥ (b.length : Int)
        · rw [if_pos h3, if_pos hm'.1, if_pos (by omega), if_pos (by omega), hwv]
          exact set ⟨h2, fun x => by have := x.1; omega⟩
        · rw [if_neg h3, if_pos (by omega)]
          by_cases h4 : rdOf false b v = true
          · rw [if_pos h4]
            exact skip (fun _ ho => by rw [hv] at ho; exact absurd ⟨by omega, h4⟩ ho.2)
          · rw [if_neg h4, if_pos hm'.1, if_pos (by omega), if_pos (by omega), hwv]
            exact set ⟨h2, fun x => h4 x.2⟩
      · rw [if_neg h2]
        exact skip (fun _ ho => by rw [hv] at ho; exact absurd ho.1 h2)
    · rw [if_neg h1]
      refine skip (fun _ _ => ?_)
      rw [hv]
      exact ⟨by omega, hb v ((hQ.mem v hg).1 (by omega))⟩
  · rw [decide_eq_false hout, if_neg (by decide)]
    exact skip (fun hg _ => by unfold GC at hg; omega)

theorem cell_ref (c : List Int) (hc : CB c) (b : List Bool) (T : Int → Prop) (i m : Int) (hm : GC m) (e : Nat) :
    ∀ (j : Nat) (k : Nat) (f row : List Int), j + e = 4 → 2 * e < k → Qv (opnC c b) T f row → 0 ≤ rd f m → rd f m < 100000 → (∀ x ∈ row, rd f x ≤ rd f m + 1) → (∀ d, d < j → DoneR (opnC c b) f m d) →
    ∃ f' row', aditref3_Field.l4 k c b f row i m (j : Int) = aditref3_Field.l3 (k - 2 * e - 1) c b f' row' (wrap64 (i + 1)) ∧ Qv (opnC c b) T f' row' ∧ rd f' m = rd f m ∧ (∀ x ∈ row', rd f' x ≤ rd f m + 1) ∧ (∀ d, d < 4 → DoneR (opnC c b) f' m d) ∧
      (∀ x d, GC x → 0 ≤ rd f x → DoneR (opnC c b) f x d → DoneR (opnC c b) f' x d) ∧ (∀ x, GC x → 0 ≤ rd f x → rd f' x = rd f x) ∧ (∃ more, row' = row ++ more) := by
  induction e with
  | zero =>
    intro j k f row hj hk hQ h0 h1 hb hd
    obtain ⟨k, rfl⟩ : ∃ q, k = q + 1 := ⟨k - 1, by omega⟩
    rw [show k + 1 - 2 * 0 - 1 = k by omega]
    refine ⟨f, row, ?_, hQ, rfl, hb, fun d hd4 => hd d (by omega), fun _ _ _ _ h => h, fun _ _ _ => rfl, [], by simp⟩
    simp only [aditref3_Field.l4]
    rw [if_neg (by omega)]
  | succ e ih =>
    intro j k f row hj hk hQ h0 h1 hb hd
    obtain ⟨k, rfl⟩ : ∃ q, k = q + 2 := ⟨k - 2, by omega⟩
    rw [show k + 2 - 2 * (e + 1) - 1 = k - 2 * e - 1 by omega]
    obtain ⟨f1, row1, r1, r2, r3, r4, r5, r6, r7, ⟨m1, r8⟩⟩ := dir_run c hc b T i m hm j (by omega) k f row hQ h0 h1 hb
    obtain ⟨f2, row2, t1, t2, t3, t4, t5, t6, t7, ⟨m2, t8⟩⟩ := ih (j + 1) k f1 row1 (by omega) (by omega) r2 (by omega) (by omega) (by rw [r3]; exact r4) (fun d hdj => by
      rcases (by omega : d < j ∨ d = j) with h | h
      · exact r6 m d hm h0 (hd d h)
      · subst h; exact r5)
    refine ⟨f2, row2, by rw [r1, t1], t2, by rw [t3, r3], by rw [← r3]; exact t4, t5, fun x d hx hp hdx => t6 x d hx (by rw [r7 x hx hp]; exact hp) (r6 x d hx hp hdx), fun x hx hp => by rw [t7 x hx (by rw [r7 x hx hp]; exact hp), r7 x hx hp], ⟨m1 ++ m2, by rw [t8, r8, List.append_assoc]⟩⟩

theorem queue_run (c : List Int) (hc : CB c) (b : List Bool) (T : Int → Prop) (d : Nat) : ∀ (k i : Nat) (f row : List Int), i + d = 384 → 10 * d < k → Qv (opnC c b) T f row → i ≤ row.length → (∀ n, GC n → rd f n ≤ i + 1) → (∀ (hi : i < row.length), ∀ x ∈ row, rd f x ≤ rd f row[i] + 1) →
    (∀ x ∈ row.take i, ∀ q, q < 4 → DoneR (opnC c b) f x q) → ∃ g, aditref3_Field.l3 k c b f row (i : Int) = some g ∧ IsField (opnC c b) T g := by
  have fin : ∀ (f row : List Int), Qv (opnC c b) T f row → (∀ x ∈ row, ∀ q, q < 4 → DoneR (opnC c b) f x q) → IsField (opnC c b) T f := by
    intro f row hQ hD
    refine ⟨hQ.base, ?_⟩
    intro m n hm hn h1 ⟨q, hq, e⟩ h3
    have := hD m ((hQ.mem m hm).1 h1) q hq (by rw [e]; exact hn) (by rw [e]; exact h3)
    rw [e] at this
    exact this
  induction d with
  | zero =>
    intro k i f row hi hk hQ hir hhi hb hD
    obtain ⟨k, rfl⟩ : ∃ q, k = q + 1 := ⟨k - 1, by omega⟩
    have hc := hQ.cnt
    have e : i = row.length := by omega
    subst e
    rw [List.take_length] at hD
    simp only [aditref3_Field.l3]
    rw [if_neg (by omega)]
    exact ⟨f, rfl, fin f row hQ hD⟩
  | succ d ih =>
    intro k i f row hi hk hQ hir hhi hb hD
    obtain ⟨k, rfl⟩ : ∃ q, k = q + 1 := ⟨k - 1, by omega⟩
    have hcn := hQ.cnt
    simp only [aditref3_Field.l3]
    by_cases hlt : i < row.length
    · have hrd : rd row (i : Int) = row[i] := by unfold rd; simp [hlt]
      have hmem : row[i] ∈ row := List.getElem_mem hlt
      have hm := hQ.rowG _ hmem
      have h0 := (hQ.mem _ hm).2 hmem
      have h1 := hhi _ hm
      rw [if_pos (by omega), if_pos (by omega), hrd]
      clear hrd
      obtain ⟨f', row', r1, r2, r3, r4, r5, r6, r7, ⟨more, r8⟩⟩ := cell_ref c hc b T (i : Int) row[i] hm 4 0 k f row (by omega) (by omega) hQ h0 (by omega) (hb hlt) (fun q hq => by omega)
      rw [show ((0 : Nat) : Int) = 0 from rfl, wrap_succ i (by omega)] at r1
      rw [r1]
      clear r1
      have hlen : row.length ≤ row'.length := by rw [r8, List.length_append]; omega
      refine ih (k - 2 * 4 - 1) (i + 1) f' row' (by omega) (by omega) r2 (by omega) (fun n hn => ?_) (fun hi1 x hx => ?_) (fun x hx q hq => ?_)
      · by_cases hp : 0 ≤ rd f' n
        · have := r4 n ((r2.mem n hn).1 hp)
          omega
        · omega
      · have hs := r2.sorted i (i + 1) (by omega) hi1 (by omega)
        have he : row'[i]'(by omega) = row[i] := by
          simp only [r8]
          rw [List.getElem_append_left hlt]
        rw [he, r3] at hs
        have := r4 x hx
        omega
      · have ht : row'.take (i + 1) = row.take (i + 1) := by
          rw [r8, List.take_append_of_le_length (by omega)]
        rw [ht, List.take_succ_eq_append_getElem hlt] at hx
        rcases List.mem_append.1 hx with y | y
        · have hy := List.mem_of_mem_take y
          exact r6 x q (hQ.rowG x hy) ((hQ.mem x (hQ.rowG x hy)).2 hy) (hD x y q hq)
        · rw [List.mem_singleton.1 y]
          exact r5 q hq
    · rw [if_neg (by omega)]
      have e : i = row.length := by omega
      subst e
      rw [List.take_length] at hD
      exact ⟨f, rfl, fin f row hQ hD⟩

/-- The cells at 0 are the first in the row. -/
theorem collect_run (c : List Int) (hc : CB c) (b : List Bool) (T : Int → Prop) (f : List Int) (hB : Base (opnC c b) T f) (hv : ∀ n, GC n → rd f n = -1 ∨ rd f n = 0) (d : Nat) : ∀ (k i : Nat) (row : List Int), i + d = 384 → d + 4000 < k → (∀ n ∈ row, GC n) → (∀ n, GC n → (n ∈ row ↔ rd f n = 0 ∧ n < i)) → row.length + (f.drop i).countP (fun v => decide (v < 0)) + (f.take i).countP (fun v => decide (v < 0)) + (f.drop i).countP (fun v => decide (¬ v < 0)) = 384 →
    ∃ g, aditref3_Field.l2 k c b f row (i : Int) = some g ∧ IsField (opnC c b) T g := by
  have hl := hB.len
  induction d with
  | zero =>
    intro k i row hi hk hrG hr hcnt
    obtain ⟨k, rfl⟩ : ∃ q, k = q + 1 := ⟨k - 1, by omega⟩
    simp only [aditref3_Field.l2]
    rw [if_neg (by omega)]
    have e : i = 384 := by omega
    subst e
    rw [List.drop_of_length_le (by omega), List.take_of_length_le (by omega)] at hcnt
    simp only [List.countP_nil, Nat.add_zero] at hcnt
    have hz : ∀ x ∈ row, rd f x = 0 := fun x hx => ((hr x (hrG x hx)).1 hx).1
    refine queue_run c hc b T 384 k 0 f row (by omega) (by omega) ⟨hB, hrG, fun n hn => ?_, fun p q hp hq hpq => ?_, hcnt⟩ (by omega) (fun n hn => by rcases hv n hn with h | h <;> omega) (fun hi1 x hx => ?_) (fun x hx => by simp at hx)
    · rw [hr n hn]
      constructor
      · intro h
        exact ⟨by rcases hv n hn with x | x <;> omega, by unfold GC at hn; omega⟩
      · intro h
        omega
    · rw [hz _ (List.getElem_mem hp), hz _ (List.getElem_mem hq)]
      exact Int.le_refl _
    · rw [hz x hx, hz _ (List.getElem_mem hi1)]
      omega
  | succ d ih =>
    intro k i row hi hk hrG hr hcnt
    obtain ⟨k, rfl⟩ : ∃ q, k = q + 1 := ⟨k - 1, by omega⟩
    have hlt : i < f.length := by omega
    have hg : GC (i : Int) := ⟨by omega, by omega⟩
    have hfi : f[i] = rd f (i : Int) := by unfold rd; simp [hlt]
    have hd := List.drop_eq_getElem_cons hlt
    have ht := List.take_succ_eq_append_getElem hlt
    have hrow : row.length ≤ 384 := by omega
    simp only [aditref3_Field.l2]
    rw [if_pos (by omega), if_pos (by omega), if_pos (by omega), wrap_succ i (by omega)]
    rw [hd, List.countP_cons, List.countP_cons, hfi] at hcnt
    by_cases h0 : rd f (i : Int) = 0
    · rw [if_pos h0, if_pos (by omega)]
      rw [h0] at hcnt hfi
      refine ih k (i + 1) _ (by omega) (by omega) (fun n hn => ?_) (fun n hn => ?_) ?_
      · rcases List.mem_append.1 hn with x | x
        · exact hrG n x
        · rw [List.mem_singleton.1 x]; exact hg
      · rw [List.mem_append, List.mem_singleton, hr n hn]
        constructor
        · rintro (⟨x, y⟩ | x)
          · exact ⟨x, by omega⟩
          · subst x; exact ⟨h0, by omega⟩
        · rintro ⟨x, y⟩
          rcases (by omega : n < i ∨ n = i) with z | z
          · exact .inl ⟨x, z⟩
          · exact .inr z
      · rw [List.length_append, ht, List.countP_append, hfi]
        simp at hcnt ⊢
        omega
    · rw [if_neg h0]
      have h1 : rd f (i : Int) = -1 := by rcases hv _ hg with x | x <;> omega
      rw [h1] at hcnt hfi
      refine ih k (i + 1) row (by omega) (by omega) hrG (fun n hn => ?_) ?_
      · rw [hr n hn]
        constructor
        · rintro ⟨x, y⟩
          exact ⟨x, by omega⟩
        · rintro ⟨x, y⟩
          refine ⟨x, ?_⟩
          rcases (by omega : n < i ∨ n = i) with z | z
          · exact z
          · subst z; omega
      · rw [ht, List.countP_append, hfi]
        simp at hcnt ⊢
        omega

theorem ref_targets (c : List Int) (hc : CB c) (b : List Bool) (ts : List Int) (ht : ts.length ≤ 1000) (d : Nat) : ∀ (k i : Nat) (f : List Int), i + d = ts.length → d + 5000 < k → f.length = 384 → (∀ n, GC n → rd f n = -1 ∨ rd f n = 0) → (∀ n, GC n → (rd f n = 0 ↔ IsT c (ts.take i) n)) →
    ∃ g, aditref3_Field.l1 k c b ts f (i : Int) = some g ∧ IsField (opnC c b) (IsT c ts) g := by
  induction d with
  | zero =>
    intro k i f hi hk hl hv hz
    obtain ⟨k, rfl⟩ : ∃ q, k = q + 1 := ⟨k - 1, by omega⟩
    simp only [aditref3_Field.l1]
    rw [if_neg (by omega)]
    have e : i = ts.length := by omega
    subst e
    rw [List.take_length] at hz
    refine collect_run c hc b (IsT c ts) f ⟨hl, fun n hn => by rcases hv n hn with h | h <;> omega, hz, fun n hn hp => by rcases hv n hn with h | h <;> omega⟩ hv 384 k 0 [] (by omega) (by omega) (fun n hn => by cases hn) (fun n hn => ⟨(fun h => by cases h), (fun h => by have := h.2; unfold GC at hn; omega)⟩) ?_
    have := List.length_eq_countP_add_countP (fun v : Int => decide (v < 0)) (l := f)
    simp at this ⊢
    omega
  | succ d ih =>
    intro k i f hi hk hl hv hz
    obtain ⟨k, rfl⟩ : ∃ q, k = q + 1 := ⟨k - 1, by omega⟩
    have hlt : i < ts.length := by omega
    have hrd : rd ts (i : Int) = ts[i] := by unfold rd; simp [hlt]
    have htake := List.take_succ_eq_append_getElem hlt
    have hmem : ∀ n, n ∈ ts.take (i + 1) ↔ n ∈ ts.take i ∨ n = ts[i] := fun n => by rw [htake, List.mem_append, List.mem_singleton]
    simp only [aditref3_Field.l1]
    rw [if_pos (by omega), if_pos (by omega), hrd, wrap_succ i (by omega)]
    clear hrd
    have skip : (∀ n, GC n → IsT c (ts.take (i + 1)) n → IsT c (ts.take i) n) → ∃ g, aditref3_Field.l1 k c b ts f ((i + 1 : Nat) : Int) = some g ∧ IsField (opnC c b) (IsT c ts) g := by
      intro h
      refine ih k (i + 1) f (by omega) (by omega) hl hv (fun n hn => ?_)
      rw [hz n hn]
      exact ⟨fun x => ⟨(hmem n).2 (.inl x.1), x.2⟩, h n hn⟩
    by_cases h1 : ts[i] ≥ 0
    · rw [if_pos h1]
      by_cases h2 : ts[i] < 384
      · have hg : GC ts[i] := ⟨h1, h2⟩
        have hin : InG (ts[i] % 24) (ts[i] / 24) := by unfold InG; omega
        have hcl : cel (ts[i] % 24) (ts[i] / 24) = ts[i] := by unfold cel; omega
        rw [if_pos h2, Int.tmod_eq_emod_of_nonneg h1, Int.tdiv_eq_ediv_of_nonneg h1, w64 (n := ts[i] / 24) (by omega) (by omega), rw_at c hc _ _ hin, hcl, Option.bind_some, rw_walk, Option.bind_some]
        by_cases h4 : walkable (rd c ts[i]) = true
        · have hset := fun x (hx : GC x) => rd_set f hl ts[i] x 0 hg hx
          rw [if_pos h4, if_pos h1, if_pos (by omega)]
          refine ih k (i + 1) _ (by omega) (by omega) (by rw [List.length_set]; exact hl) (fun n hn => ?_) (fun n hn => ?_)
          · rw [hset n hn]
            split
            · exact .inr rfl
            · exact hv n hn
          · rw [hset n hn]
            by_cases e : n = ts[i]
            · rw [if_pos e]
              exact ⟨fun _ => ⟨(hmem n).2 (.inr e), by rw [e]; exact h4⟩, fun _ => rfl⟩
            · rw [if_neg e, hz n hn]
              exact ⟨fun x => ⟨(hmem n).2 (.inl x.1), x.2⟩, fun x => ⟨((hmem n).1 x.1).resolve_right e, x.2⟩⟩
        · rw [if_neg h4]
          exact skip (fun n hn x => ⟨((hmem n).1 x.1).resolve_right (fun e => h4 (by rw [← e]; exact x.2)), x.2⟩)
      · rw [if_neg h2]
        exact skip (fun n hn x => ⟨((hmem n).1 x.1).resolve_right (fun e => by unfold GC at hn; omega), x.2⟩)
    · rw [if_neg h1]
      exact skip (fun n hn x => ⟨((hmem n).1 x.1).resolve_right (fun e => by unfold GC at hn; omega), x.2⟩)

theorem ref_clear (c : List Int) (hc : CB c) (b : List Bool) (ts : List Int) (ht : ts.length ≤ 1000) (d : Nat) : ∀ (k i : Nat) (f : List Int), i + d = 384 → d + 7000 < k → f.length = 384 → (∀ n, 0 ≤ n → n < (i : Int) → rd f n = -1) →
    ∃ g, aditref3_Field.l0 k c b ts f (i : Int) = some g ∧ IsField (opnC c b) (IsT c ts) g := by
  induction d with
  | zero =>
    intro k i f hi hk hl hv
    obtain ⟨k, rfl⟩ : ∃ q, k = q + 1 := ⟨k - 1, by omega⟩
    simp only [aditref3_Field.l0]
    rw [if_neg (by omega)]
    have all : ∀ n, GC n → rd f n = -1 := fun n hn => hv n hn.1 (by have := hn.2; omega)
    exact ref_targets c hc b ts ht ts.length k 0 f (by omega) (by omega) hl (fun n hn => .inl (all n hn)) (fun n hn => ⟨fun e => by have := all n hn; omega, fun e => by cases e.1⟩)
  | succ d ih =>
    intro k i f hi hk hl hv
    obtain ⟨k, rfl⟩ : ∃ q, k = q + 1 := ⟨k - 1, by omega⟩
    simp only [aditref3_Field.l0]
    rw [if_pos (by omega), if_pos (by omega), if_pos (by omega), wrap_succ i (by omega)]
    refine ih k (i + 1) _ (by omega) (by omega) (by rw [List.length_set]; exact hl) (fun n h0 h1 => ?_)
    rw [rd_set f hl (i : Int) n (-1) ⟨by omega, by omega⟩ ⟨by omega, by omega⟩]
    by_cases e : n = (i : Int)
    · rw [if_pos e]
    · rw [if_neg e]
      exact hv n h0 (by omega)
theorem ref_field_is (k : Nat) (hk : 12000 ≤ k) (c : List Int) (hc : CB c) (b : List Bool) (ts : List Int) (ht : ts.length ≤ 1000) : ∃ g, aditref3_Field.f k c b ts = some g ∧ IsField (opnC c b) (IsT c ts) g := by
  unfold aditref3_Field.f
  rw [if_pos (by decide)]
  exact ref_clear c hc b ts ht 384 k 0 _ (by omega) (by omega) List.length_replicate (fun n h0 h1 => by omega)
/-- Both fields are one. -/
theorem fields_agree (k : Nat) (hk : 12000 ≤ k) (c : List Int) (hc : CB c) (b : List Bool) (ts : List Int) (ht : ts.length ≤ 1000) : ∃ g, grid_Field.f k c b ts = some g ∧ aditref3_Field.f k c b ts = some g ∧ IsField (opnC c b) (IsT c ts) g := by
  obtain ⟨g, e1, h1⟩ := field_is k hk c hc b ts ht
  obtain ⟨h, e2, h2⟩ := ref_field_is k hk c hc b ts ht
  exact ⟨g, e1, by rw [e2, field_one h1 h2], h1⟩
end Go.Proofs.Ytjpcmpeigoikkaa.Pure

/- The program's field is a field (own work). -/
import Derived.Test.YtbekimnigknapaaRun
import Derived.Test.YtbekimnigknapaaField0
namespace Go.Proofs.Ytbekimnigknapaa.Field
open Go Go.Proofs.Ytbekimnigknapaa.Mx Go.Proofs.Ytbekimnigknapaa.Pc Go.Proofs.Ytbekimnigknapaa.Run
set_option linter.unusedVariables false
set_option linter.unusedSimpArgs false
/-- Cells are bytes. -/
def CB (c : List Int) : Prop := ∀ i, 0 ≤ c.getD i 0 ∧ c.getD i 0 < 256
def walkable (v : Int) : Bool := decide (1 ≤ v ∧ v ≤ 5)
def opnC (c : List Int) (b : List Bool) (n : Int) : Prop := walkable (rd c n) = true ∧ ¬ (n < (b.length : Int) ∧ b.getD n.toNat false = true)
def IsT (c ts : List Int) (n : Int) : Prop := n ∈ ts ∧ walkable (rd c n) = true
theorem walk_eq (v : Int) : f76 v = some (walkable v, ()) := by
  unfold f76 walkable
  rw [bif_dec]
  by_cases h : v ≥ 1
  · rw [if_pos h]
    have : decide (v ≤ 5) = decide (1 ≤ v ∧ v ≤ 5) := decide_eq_decide.2 ⟨fun x => ⟨h, x⟩, fun x => x.2⟩
    rw [this]
  · rw [if_neg h, decide_eq_false (fun x => h x.1)]
theorem kind_eq (c : List Int) (hc : CB c) (a : Int) (h : 0 ≤ a) : f77 c a = some (rd c a, ()) := by
  have hv := hc a.toNat
  unfold f77 rd
  simp only [bif_dec]
  rw [if_neg (by omega)]
  by_cases q : a ≥ (c.length : Int)
  · rw [if_pos q, List.getD_eq_getElem?_getD, List.getElem?_eq_none (by omega)]; rfl
  · rw [if_neg q, inR (by omega), wr (by omega)]; rfl
theorem place_eq (x y : Int) (h1 : -1000 ≤ x) (h2 : x ≤ 1000) (h3 : -1000 ≤ y) (h4 : y ≤ 1000) : f83 x y = some (if 0 ≤ x ∧ x < 24 ∧ 0 ≤ y ∧ y < 16 then y * 24 + x else -1, ()) := by
  unfold f83
  simp only [bif_dec]
  by_cases a : x < 0
  · rw [if_pos a, if_neg (by omega)]
  by_cases b : x ≥ 24
  · rw [if_neg a, if_pos b, if_neg (by omega)]
  by_cases c : y < 0
  · rw [if_neg a, if_neg b, if_pos c, if_neg (by omega)]
  by_cases d : y ≥ 16
  · rw [if_neg a, if_neg b, if_neg c, if_pos d, if_neg (by omega)]
  · rw [if_neg a, if_neg b, if_neg c, if_neg d, if_pos (by omega), wr (x := y * 24) (by omega), wr (by omega)]
theorem beside_eq (n : Int) (h : GC n) : f78 n = some (nbr n 0, nbr n 1, nbr n 2, nbr n 3, ()) := by
  unfold GC at h
  unfold f78
  rw [Int.tmod_eq_emod_of_nonneg h.1, Int.tdiv_eq_ediv_of_nonneg h.1]
  simp (disch := omega) only [wr]
  rw [place_eq _ _ (by omega) (by omega) (by omega) (by omega), place_eq _ _ (by omega) (by omega) (by omega) (by omega), place_eq _ _ (by omega) (by omega) (by omega) (by omega), place_eq _ _ (by omega) (by omega) (by omega) (by omega)]
  simp only [Option.bind_some]
  have e0 : (if 0 ≤ n % 24 ∧ n % 24 < 24 ∧ 0 ≤ n / 24 - 1 ∧ n / 24 - 1 < 16 then (n / 24 - 1) * 24 + n % 24 else -1) = nbr n 0 := by
    unfold nbr
    by_cases h0 : 24 ≤ n
    · rw [if_pos (by omega)]; simp only; rw [if_pos h0]; omega
    · rw [if_neg (by omega)]; simp only; rw [if_neg h0]
  have e1 : (if 0 ≤ n % 24 + 1 ∧ n % 24 + 1 < 24 ∧ 0 ≤ n / 24 ∧ n / 24 < 16 then n / 24 * 24 + (n % 24 + 1) else -1) = nbr n 1 := by
    unfold nbr
    by_cases h0 : n % 24 ≤ 22
    · rw [if_pos (by omega)]; simp only; rw [if_pos h0]; omega
    · rw [if_neg (by omega)]; simp only; rw [if_neg h0]
  have e2 : (if 0 ≤ n % 24 ∧ n % 24 < 24 ∧ 0 ≤ n / 24 + 1 ∧ n / 24 + 1 < 16 then (n / 24 + 1) * 24 + n % 24 else -1) = nbr n 2 := by
    unfold nbr
    by_cases h0 : n < 360
    · rw [if_pos (by omega)]; simp only; rw [if_pos h0]; omega
    · rw [if_neg (by omega)]; simp only; rw [if_neg h0]
  have e3 : (if 0 ≤ n % 24 - 1 ∧ n % 24 - 1 < 24 ∧ 0 ≤ n / 24 ∧ n / 24 < 16 then n / 24 * 24 + (n % 24 - 1) else -1) = nbr n 3 := by
    unfold nbr
    by_cases h0 : 1 ≤ n % 24
    · rw [if_pos (by omega)]; simp only; rw [if_pos h0]; omega
    · rw [if_neg (by omega)]; simp only; rw [if_neg h0]
  rw [e0, e1, e2, e3]
theorem four_at (m : Int) (j : Nat) (hj : j < 4) : [nbr m 0, nbr m 1, nbr m 2, nbr m 3].getD j 0 = nbr m j := by
  match j, hj with
  | 0, _ => rfl
  | 1, _ => rfl
  | 2, _ => rfl
  | 3, _ => rfl
section
variable {c : List Int} {b : List Bool} {T : Int → Prop} {s : Int} {ring : List Int}
/-- The four directions of one cell. -/
theorem dirs_run (hc : CB c) (hs0 : 0 ≤ s) (hs1 : s < 100000) {i m : Int} (hi0 : 0 ≤ i) (hi1 : i < 100000) (hm : GC m) {P : List Int} (hP : ∀ x ∈ P, GC x) {f next : List Int} {len : Int}
    (hL : Lv (opnC c b) T f s ring next) (hv : rd f m = s) (hD : ∀ x ∈ P, ∀ d, d < 4 → Done (opnC c b) f x d)
    {K : List Int × List Bool × Int × Int × Int × List Int × List Int × List Int × Unit → Option (List Int × Unit)} {Q : List Int × Unit → Prop}
    (hK : ∀ f' next', Lv (opnC c b) T f' s ring next' → rd f' m = s → (∀ x ∈ P, ∀ d, d < 4 → Done (opnC c b) f' x d) → (∀ d, d < 4 → Done (opnC c b) f' m d) → next'.length + un f' = next.length + un f → OK (K (c, b, s + 1, len, i + 1, f', next', ring, ())) Q) :
    OK (f66.L1 K (c, b, s + 1, len, i, nbr m 0, nbr m 1, nbr m 2, nbr m 3, 0, f, next, ring, ())) Q := by
  unfold f66.L1
  refine OK.loop (fun j : Nat × List Int × List Int => (c, b, s + 1, len, i, nbr m 0, nbr m 1, nbr m 2, nbr m 3, (j.1 : Int), j.2.1, j.2.2, ring, ())) (fun j => j.1 ≤ 4 ∧ Lv (opnC c b) T j.2.1 s ring j.2.2 ∧ rd j.2.1 m = s ∧ (∀ x ∈ P, ∀ d, d < 4 → Done (opnC c b) j.2.1 x d) ∧ (∀ d, d < j.1 → Done (opnC c b) j.2.1 m d) ∧ j.2.2.length + un j.2.1 = next.length + un f)
    (fun j => 4 - j.1) (fun rec j hj ih => ?_) (0, f, next) rfl ⟨Nat.zero_le _, hL, hv, hD, fun d hd => (by dsimp only at hd; omega), rfl⟩ (by dsimp only; decide)
  obtain ⟨j, f1, n1⟩ := j
  obtain ⟨h1, hL1, hv1, hD1, hJ1, hC1⟩ := hj
  dsimp only at h1 hL1 hv1 hD1 hJ1 hC1
  have hl := hL1.base.len
  simp only [bif_dec, Int.toNat_natCast]
  by_cases c0 : (j : Int) < 4
  · have hj4 : j < 4 := by omega
    rw [if_pos c0, inR (by omega), cond_true, wr (x := (j : Int) + 1) (by omega)]
    simp only [four_at m j hj4]
    have next1 : Done (opnC c b) f1 m j → OK (rec (c, b, s + 1, len, i, nbr m 0, nbr m 1, nbr m 2, nbr m 3, (j : Int) + 1, f1, n1, ring, ())) Q := fun hd =>
      ih (j + 1, f1, n1) ⟨by dsimp only; omega, hL1, hv1, hD1, fun d hd' => by
        rcases Nat.lt_or_ge d j with q | q
        · exact hJ1 d q
        · have : d = j := by dsimp only at hd'; omega
          rw [this]; exact hd, hC1⟩ (by dsimp only; omega) _ (by simp)
    have skip : Done (opnC c b) f1 m j → ∀ {α : Type} {g : List Int × Unit → α ⊕ List Int × Unit}, (∀ y, g y = Sum.inr y) → OK (Option.bind (rec (c, b, s + 1, len, i, nbr m 0, nbr m 1, nbr m 2, nbr m 3, (j : Int) + 1, f1, n1, ring, ())) fun y => some (g y)) fun y => ∃ z, y = Sum.inr z ∧ Q z := fun hd α g hg => by
      refine OK.callR (next1 hd) fun y hy => OK.ret ⟨y, hg y, hy⟩
    refine OK.callR (R := fun y => (∃ z, y = Sum.inr z ∧ Q z) ∨ (opnC c b (nbr m j) ∧ GC (nbr m j) ∧ rd f1 (nbr m j) < 0 ∧ y = Sum.inl (c, b, s + 1, nbr m j, len, i, nbr m 0, nbr m 1, nbr m 2, nbr m 3, (j : Int), f1, n1, ring, ()))) ?_ ?_
    · by_cases c1 : nbr m j < 0
      · rw [if_pos c1]
        exact (skip (fun hg _ => absurd c1 (Int.not_lt.2 hg.1)) fun _ => rfl).mono fun y hy => .inl hy
      have hg : GC (nbr m j) := (nbr_range m j hm).resolve_left (by omega)
      have hg' := hg
      unfold GC at hg'
      rw [if_neg c1, inR (by omega), cond_true]
      by_cases c2 : f1.getD (nbr m j).toNat 0 ≥ 0
      · rw [if_pos c2]
        exact (skip (fun _ _ => c2) fun _ => rfl).mono fun y hy => .inl hy
      rw [if_neg c2, kind_eq c hc _ hg.1]
      simp only [Option.bind_some]
      rw [walk_eq]
      simp only [Option.bind_some]
      cases c3 : walkable (rd c (nbr m j)) with
      | false =>
        simp only [Bool.not_false, cond_true]
        exact (skip (fun _ ho => by rw [ho.1] at c3; cases c3) fun _ => rfl).mono fun y hy => .inl hy
      | true =>
        simp only [Bool.not_true, cond_false]
        by_cases c4 : nbr m j < (b.length : Int)
        · rw [if_pos c4, inR (by omega), cond_true]
          cases c5 : b.getD (nbr m j).toNat false with
          | true =>
            simp only [cond_true]
            exact (skip (fun _ ho => absurd ⟨c4, c5⟩ ho.2) fun _ => rfl).mono fun y hy => .inl hy
          | false =>
            simp only [cond_false]
            exact OK.ret (.inr ⟨⟨c3, fun q => by rw [c5] at q; cases q.2⟩, hg, by unfold rd; omega, rfl⟩)
        · rw [if_neg c4]
          exact OK.ret (.inr ⟨⟨c3, fun q => c4 q.1⟩, hg, by unfold rd; omega, rfl⟩)
    · rintro y (⟨z, rfl, hz⟩ | ⟨ho, hg, hu, rfl⟩)
      · exact OK.ret hz
      · simp only [Sum.elim_inl]
        have hg' := hg
        unfold GC at hg'
        have hcnt := hL1.cnt
        rw [inR (by omega), cond_true, if_pos (by simp [limit]; omega)]
        obtain ⟨r1, r2, r3⟩ := lv_set hL1 hm hv1 hg ⟨j, hj4, rfl⟩ ho hu
        have hne : m ≠ nbr m j := fun e => by rw [← e] at hu; omega
        refine ih (j + 1, f1.set (nbr m j).toNat (s + 1), n1 ++ [nbr m j]) ⟨by dsimp only; omega, r1, ?_, fun x hx d hd => r2 x d (hP x hx) (hD1 x hx d hd), fun d hd => ?_, ?_⟩ (by dsimp only; omega) _ ?_
        · dsimp only
          rw [rd_set f1 hl _ _ _ hg hm, if_neg hne]; exact hv1
        · dsimp only at hd ⊢
          rcases Nat.lt_or_ge d j with q | q
          · exact r2 m d hm (hJ1 d q)
          · obtain rfl : d = j := by omega
            intro _ _
            rw [rd_set f1 hl _ _ _ hg hg, if_pos rfl]
            omega
        · simp only [List.length_append, List.length_cons, List.length_nil]
          omega
        · rw [wr (by omega)]
          simp
  · rw [if_neg c0, wr (by omega)]
    have : j = 4 := by omega
    subst this
    exact hK f1 n1 hL1 hv1 hD1 hJ1 hC1
/-- What a level leaves. -/
def LvEnd (c : List Int) (b : List Bool) (T : Int → Prop) (s : Int) (ring : List Int) (C : Nat) (f' next' : List Int) : Prop :=
  Lv (opnC c b) T f' s ring next' ∧ (∀ x ∈ ring, ∀ d, d < 4 → Done (opnC c b) f' x d) ∧ next'.length + un f' = C
/-- One level. -/
theorem level_run (hc : CB c) (hs0 : 0 ≤ s) (hs1 : s < 100000) (hr : ring.length ≤ 10000) {f : List Int} (hL : Lv (opnC c b) T f s ring [])
    {step : (List Int × List Bool × Int × Int × Int × List Int × List Int × List Int × Unit → Option (List Int × Unit)) → List Int × List Bool × Int × Int × Int × List Int × List Int × List Int × Unit → Option (List Int × Unit)} {Q : List Int × Unit → Prop} {fin : List Int → List Int → Option (List Int × Unit)}
    (hstep : ∀ rec (i : Nat) f1 n1, i ≤ ring.length → step rec (c, b, s + 1, (ring.length : Int), (i : Int), f1, n1, ring, ()) =
      if (i : Int) < ring.length then Option.bind (f78 (ring.getD i 0)) (fun y => f66.L1 rec (c, b, s + 1, (ring.length : Int), (i : Int), y.1, y.2.1, y.2.2.1, y.2.2.2.1, 0, f1, n1, ring, ())) else fin f1 n1)
    (hfin : ∀ f' next', LvEnd c b T s ring (un f) f' next' → OK (fin f' next') Q) {n : Nat} (hn : ring.length < n) : OK (Mx.it step n (c, b, s + 1, (ring.length : Int), 0, f, [], ring, ())) Q := by
  refine OK.loop (fun j : Nat × List Int × List Int => (c, b, s + 1, (ring.length : Int), (j.1 : Int), j.2.1, j.2.2, ring, ())) (fun j => j.1 ≤ ring.length ∧ Lv (opnC c b) T j.2.1 s ring j.2.2 ∧ (∀ x ∈ ring.take j.1, ∀ d, d < 4 → Done (opnC c b) j.2.1 x d) ∧ j.2.2.length + un j.2.1 = un f)
    (fun j => ring.length - j.1) (fun rec j hj ih => ?_) (0, f, []) rfl ⟨Nat.zero_le _, hL, by simp, by simp⟩ (by simpa using hn)
  obtain ⟨i, f1, n1⟩ := j
  obtain ⟨h1, hL1, hD1, hC1⟩ := hj
  dsimp only at h1 hL1 hD1 hC1
  dsimp only
  rw [hstep _ _ _ _ h1]
  by_cases c0 : (i : Int) < ring.length
  · have hlt : i < ring.length := by omega
    have hg : ring.getD i 0 = ring[i] := by simp [List.getD_eq_getElem?_getD, hlt]
    have hmem : ring[i] ∈ ring := List.getElem_mem hlt
    have hm := hL1.ringG _ hmem
    have hv := (hL1.atS _ hm).2 hmem
    rw [if_pos c0, hg, beside_eq _ hm]
    simp only [Option.bind_some]
    refine dirs_run hc hs0 hs1 (by omega) (by omega) hm (P := ring.take i) (fun x hx => hL1.ringG x (List.mem_of_mem_take hx)) hL1 hv hD1 (fun f' next' a1 a2 a3 a4 a5 => ?_)
    refine ih (i + 1, f', next') ⟨by dsimp only; omega, a1, fun x hx d hd => ?_, by dsimp only; omega⟩ (by dsimp only; omega) _ (by simp)
    rw [List.take_succ_eq_append_getElem hlt] at hx
    rcases List.mem_append.1 hx with y | y
    · exact a3 x y d hd
    · rw [List.mem_singleton.1 y]; exact a4 d hd
  · rw [if_neg c0]
    have : i = ring.length := by omega
    subst this
    rw [List.take_length] at hD1
    exact hfin f1 n1 ⟨hL1, hD1, hC1⟩
/-- A level behind which none comes. -/
theorem last_level {f' : List Int} {C : Nat} (h : LvEnd c b T s ring C f' []) : IsField (opnC c b) T f' := by
  obtain ⟨r2, r3, _⟩ := h
  refine ⟨r2.base, fun m n hm hn h1 h2 h3 => ?_⟩
  have hnone : ∀ x, GC x → rd f' x ≠ s + 1 := fun x hx e => by
    have := (r2.atN x hx).1 e
    cases this
  have hm1 := r2.hi m hm
  have hm2 := hnone m hm
  have hn1 := r2.hi n hn
  have hn2 := hnone n hn
  rcases (by omega : rd f' m < s ∨ rd f' m = s) with h | h
  · exact r2.low m n hm hn h1 h h2 h3
  · obtain ⟨d, hd, e⟩ := h2
    have := r3 m ((r2.atS m hm).1 h) d hd (by rw [e]; exact hn) (by rw [e]; exact h3)
    rw [e] at this
    omega
/-- A level behind which one comes. -/
theorem next_level {f' next' : List Int} {C : Nat} (h : LvEnd c b T s ring C f' next') : Lv (opnC c b) T f' (s + 1) next' [] := by
  obtain ⟨r2, r3, _⟩ := h
  have hunf := un_le f' r2.base.len
  have := r2.s0
  refine ⟨r2.base, by omega, fun n hn => by have := r2.hi n hn; omega, r2.nextG, r2.atN, (fun n hn => by cases hn), fun n hn => ⟨fun e => by have := r2.hi n hn; omega, fun e => by cases e⟩, ?_, by simp only [List.length_nil]; omega⟩
  intro m n hm hn h1 h2 h3 h4
  rcases (by omega : rd f' m < s ∨ rd f' m = s) with h | h
  · exact r2.low m n hm hn h1 h h3 h4
  · obtain ⟨d, hd, e⟩ := h3
    have := r3 m ((r2.atS m hm).1 h) d hd (by rw [e]; exact hn) (by rw [e]; exact h4)
    rw [e] at this
    have := r2.hi n hn
    omega
/-- From a level on to the end. -/
theorem levels_run (hc : CB c) {f : List Int} (hL : Lv (opnC c b) T f s ring []) (hs1 : s + un f < 50000) (hr : ring.length ≤ 10000) :
    OK (f66.L3 (c, b, s, f, ring, ())) fun y => IsField (opnC c b) T y.1 := by
  unfold f66.L3
  refine OK.loop (fun j : Int × List Int × List Int => (c, b, j.1, j.2.1, j.2.2, ())) (fun j => Lv (opnC c b) T j.2.1 j.1 j.2.2 [] ∧ j.1 + un j.2.1 < 50000 ∧ j.2.2.length ≤ 10000) (fun j => un j.2.1) (fun rec j hj ih => ?_) (s, f, ring) rfl ⟨hL, hs1, hr⟩ (by have := un_le f hL.base.len; dsimp only; omega)
  obtain ⟨s1, f1, r1⟩ := j
  obtain ⟨hL1, h1, h2⟩ := hj
  dsimp only at hL1 h1 h2
  dsimp only
  have h0 := hL1.s0
  unfold f66.L2
  rw [wr (by omega)]
  refine level_run hc h0 (by omega) h2 hL1 (fin := fun f' n' => if (n'.length : Int) > 0 then rec (c, b, s1 + 1, f', n', ()) else some (f', ())) (fun rec2 i f2 n2 hi => ?_) (fun f' next' hE => ?_) (by omega)
  · simp only [bif_dec, Int.toNat_natCast]
    by_cases q : (i : Int) < r1.length
    · rw [if_pos q, if_pos q, inR (by omega), cond_true]
    · rw [if_neg q, if_neg q]
  · by_cases q : (next'.length : Int) > 0
    · rw [if_pos q]
      have hN := next_level hE
      have hcnt := hE.2.2
      have hu := un_le f1 hL1.base.len
      exact ih (s1 + 1, f', next') ⟨hN, by dsimp only; omega, by dsimp only; omega⟩ (by dsimp only; omega) _ rfl
    · rw [if_neg q]
      have : next' = [] := List.length_eq_zero_iff.1 (by omega)
      subst this
      exact OK.ret (last_level hE)
end
/-- The targets, and on to the end. -/
theorem targets_run (c : List Int) (hc : CB c) (b : List Bool) (ts : List Int) (ht : ts.length ≤ 1000000) {f : List Int} (hl : f.length = 384) (all : ∀ n, GC n → rd f n = -1) (hun : un f = 384) :
    OK (f66.L5 (c, b, ts, (ts.length : Int), 0, f, [], ())) fun y => IsField (opnC c b) (IsT c ts) y.1 := by
  unfold f66.L5
  refine OK.loop (fun j : Nat × List Int × List Int => (c, b, ts, (ts.length : Int), (j.1 : Int), j.2.1, j.2.2, ())) (fun j => j.1 ≤ ts.length ∧ j.2.1.length = 384 ∧ (∀ n, GC n → rd j.2.1 n = -1 ∨ rd j.2.1 n = 0) ∧ (∀ n, GC n → (rd j.2.1 n = 0 ↔ IsT c (ts.take j.1) n)) ∧ (∀ n ∈ j.2.2, GC n) ∧ (∀ n, GC n → (rd j.2.1 n = 0 ↔ n ∈ j.2.2)) ∧ j.2.2.length + un j.2.1 = 384)
    (fun j => ts.length - j.1) (fun rec j hj ih => ?_) (0, f, []) rfl ⟨Nat.zero_le _, hl, fun n hn => .inl (all n hn), fun n hn => ⟨fun e => (by have := all n hn; dsimp only at e; omega), fun e => (by cases e.1)⟩, fun n hn => (by cases hn), fun n hn => ⟨fun e => (by have := all n hn; dsimp only at e; omega), fun e => (by cases e)⟩, by simpa using hun⟩ (by dsimp only; omega)
  obtain ⟨i, f, ring⟩ := j
  obtain ⟨hi, hl, hv, hz, hrG, hr, hun⟩ := hj
  dsimp only at hi hl hv hz hrG hr hun
  simp only [bif_dec, Int.toNat_natCast]
  by_cases c0 : (i : Int) < ts.length
  · have hlt : i < ts.length := by omega
    have hrd : ts.getD i 0 = ts[i] := by simp [List.getD_eq_getElem?_getD, hlt]
    have hmem : ∀ n, n ∈ ts.take (i + 1) ↔ n ∈ ts.take i ∨ n = ts[i] := fun n => by rw [List.take_succ_eq_append_getElem hlt, List.mem_append, List.mem_singleton]
    rw [if_pos c0, inR (by omega), cond_true, wr (by omega)]
    simp only [hrd]
    generalize ts[i] = t at *
    have skip : (∀ n, GC n → IsT c (ts.take (i + 1)) n → IsT c (ts.take i) n) → OK (rec (c, b, ts, (ts.length : Int), (i : Int) + 1, f, ring, ())) fun y => IsField (opnC c b) (IsT c ts) y.1 := fun h => by
      refine ih (i + 1, f, ring) ⟨by dsimp only; omega, hl, hv, fun n hn => ?_, hrG, hr, hun⟩ (by dsimp only; omega) _ (by simp)
      dsimp only
      rw [hz n hn]
      exact ⟨fun x => ⟨(hmem n).2 (.inl x.1), x.2⟩, h n hn⟩
    by_cases h1 : t ≥ 0
    · by_cases h2 : t < 384
      · have hg : GC t := ⟨h1, h2⟩
        rw [if_pos h1, if_pos h2, inR (by omega), cond_true]
        by_cases h3 : f.getD t.toNat 0 < 0
        · rw [if_pos h3, kind_eq c hc _ h1]
          simp only [Option.bind_some]
          rw [walk_eq]
          simp only [Option.bind_some]
          cases h4 : walkable (rd c t) with
          | true =>
            have hset := fun x (hx : GC x) => rd_set f hl t x 0 hg hx
            have hun' := un_set f hl t 0 hg h3 (Int.le_refl _)
            rw [cond_true, cond_true, if_pos (by simp [limit]; omega)]
            refine ih (i + 1, f.set t.toNat 0, ring ++ [t]) ⟨by dsimp only; omega, by simpa using hl, fun n hn => ?_, fun n hn => ?_, fun n hn => ?_, fun n hn => ?_, ?_⟩ (by dsimp only; omega) _ (by simp)
            · dsimp only
              rw [hset n hn]
              split
              · exact .inr rfl
              · exact hv n hn
            · dsimp only
              rw [hset n hn]
              by_cases e : n = t
              · rw [if_pos e]
                exact ⟨fun _ => ⟨(hmem n).2 (.inr e), by rw [e]; exact h4⟩, fun _ => rfl⟩
              · rw [if_neg e, hz n hn]
                exact ⟨fun x => ⟨(hmem n).2 (.inl x.1), x.2⟩, fun x => ⟨((hmem n).1 x.1).resolve_right e, x.2⟩⟩
            · rcases List.mem_append.1 hn with x | x
              · exact hrG n x
              · rw [List.mem_singleton.1 x]; exact hg
            · dsimp only
              rw [hset n hn, List.mem_append, List.mem_singleton]
              by_cases e : n = t
              · rw [if_pos e]
                exact ⟨fun _ => .inr e, fun _ => rfl⟩
              · rw [if_neg e, hr n hn]
                exact ⟨.inl, fun x => x.resolve_right e⟩
            · simp only [List.length_append, List.length_cons, List.length_nil]
              omega
          | false =>
            rw [cond_false]
            exact skip (fun n hn x => ⟨((hmem n).1 x.1).resolve_right (fun e => by rw [e] at x; rw [x.2] at h4; cases h4), x.2⟩)
        · rw [if_neg h3]
          refine skip (fun n hn x => ?_)
          rcases (hmem n).1 x.1 with y | y
          · exact ⟨y, x.2⟩
          · subst y
            exact (hz _ hg).1 (by rcases hv _ hg with h | h <;> unfold rd at h ⊢ <;> omega)
      · rw [if_pos h1, if_neg h2]
        exact skip (fun n hn x => ⟨((hmem n).1 x.1).resolve_right (fun e => by unfold GC at hn; omega), x.2⟩)
    · rw [if_neg h1]
      exact skip (fun n hn x => ⟨((hmem n).1 x.1).resolve_right (fun e => by unfold GC at hn; omega), x.2⟩)
  · rw [if_neg c0]
    have e : i = ts.length := by omega
    subst e
    rw [List.take_length] at hz
    have hL : Lv (opnC c b) (IsT c ts) f 0 ring [] := by
      refine ⟨⟨hl, fun n hn => by rcases hv n hn with h | h <;> omega, hz, fun n hn hp => by rcases hv n hn with h | h <;> omega⟩, Int.le_refl _, fun n hn => by rcases hv n hn with h | h <;> omega, hrG, hr, (fun n hn => by cases hn), fun n hn => ⟨fun e => by rcases hv n hn with h | h <;> omega, fun e => by cases e⟩, fun m n hm hn h1 h2 => by omega, by simp only [List.length_nil]; omega⟩
    unfold f66.L4
    rw [wr (by omega)]
    refine level_run hc (Int.le_refl 0) (by omega) (by omega) hL (fin := fun f' n' => if (n'.length : Int) > 0 then f66.L3 (c, b, 0 + 1, f', n', ()) else some (f', ())) (fun rec2 i f2 n2 hi => ?_) (fun f' next' hE => ?_) (by omega)
    · simp only [bif_dec, Int.toNat_natCast]
      by_cases q : (i : Int) < ring.length
      · rw [if_pos q, if_pos q, inR (by omega), cond_true]
      · rw [if_neg q, if_neg q]
    · by_cases q : (next'.length : Int) > 0
      · rw [if_pos q]
        have hcnt := hE.2.2
        exact levels_run hc (next_level hE) (by omega) (by omega)
      · rw [if_neg q]
        have : next' = [] := List.length_eq_zero_iff.1 (by omega)
        subst this
        exact OK.ret (last_level hE)
/-- Field makes the field. -/
theorem field_is (c : List Int) (hc : CB c) (b : List Bool) (ts : List Int) (ht : ts.length ≤ 1000000) : OK (f66 c b ts) fun y => IsField (opnC c b) (IsT c ts) y.1 := by
  unfold f66 f66.L6
  have hlen : (List.replicate (Int.toNat 384) (0 : Int)).length = 384 := by rw [List.length_replicate]; rfl
  refine OK.loop (fun j : Nat × List Int => (c, b, ts, (((384 : Nat) : Int)), (j.1 : Int), j.2, ())) (fun j => j.1 ≤ 384 ∧ j.2.length = 384 ∧ ∀ n, 0 ≤ n → n < (j.1 : Int) → rd j.2 n = -1) (fun j => 384 - j.1) (fun rec j hj ih => ?_) (0, List.replicate (Int.toNat 384) 0) (by kernel_rfl) ⟨by decide, hlen, fun n h1 h2 => by dsimp only at h2; omega⟩ (by decide)
  obtain ⟨i, f⟩ := j
  obtain ⟨hi, hl, hv⟩ := hj
  dsimp only at hi hl hv
  simp only [bif_dec, Int.toNat_natCast]
  by_cases c0 : (i : Int) < ((384 : Nat) : Int)
  · rw [if_pos c0, inR (by omega), cond_true, wr (by omega)]
    refine ih (i + 1, f.set i (-1)) ⟨by dsimp only; omega, by simpa using hl, fun n h0 h1 => ?_⟩ (by dsimp only; omega) _ (by simp)
    dsimp only at h1 ⊢
    have := rd_set f hl (i : Int) n (-1) ⟨by omega, by omega⟩ ⟨by omega, by omega⟩
    rw [Int.toNat_natCast] at this
    rw [this]
    by_cases e : n = (i : Int)
    · rw [if_pos e]
    · rw [if_neg e]
      exact hv n h0 (by omega)
  · rw [if_neg c0]
    have all : ∀ n, GC n → rd f n = -1 := fun n hn => hv n hn.1 (by have := hn.2; omega)
    have hun : un f = 384 := by
      unfold un
      rw [← hl]
      refine List.countP_eq_length.2 (fun x hx => ?_)
      obtain ⟨q, hq, e⟩ := List.getElem_of_mem hx
      have := all (q : Int) ⟨by omega, by omega⟩
      unfold rd at this
      rw [List.getD_eq_getElem?_getD, show ((q : Int)).toNat = q by omega, List.getElem?_eq_getElem hq, e] at this
      simp only [Option.getD_some] at this
      rw [this]; rfl
    exact targets_run c hc b ts ht hl all hun
end Go.Proofs.Ytbekimnigknapaa.Field

/- Plain law: the program's field is a field: level by level, each cell that is beside one of the level and open, and not reached yet, is reached one step further. No condition but that the cells are as many as there are, each a byte. -/
import Derived.Test.YtjpcmpeigoikkaaFieldDef
import Derived.Test.YtjpcmpeigoikkaaQ6
namespace Go.Proofs.Ytjpcmpeigoikkaa.Pure
set_option linter.unusedVariables false
set_option linter.unusedSimpArgs false
open Go.RowKit Go.Proofs.Ytjpcmpeigoikkaa.Q Go.Proofs.YtjpcmpeigoikkaaW.PrintWords Go.Proofs.YtjpcmpeigoikkaaW.PrintLast Go.Proofs.YtjpcmpeigoikkaaW.PrintMore

/-- Cells: as many as there are, each a byte. -/
def CB (c : List Int) : Prop := c.length = 384 ∧ ∀ i, 0 ≤ c.getD i 0 ∧ c.getD i 0 < 256
def walkable (v : Int) : Bool := decide (1 ≤ v ∧ v ≤ 5)
def opnC (c : List Int) (b : List Bool) (n : Int) : Prop := walkable (rd c n) = true ∧ ¬ (n < (b.length : Int) ∧ rdOf false b n = true)
def IsT (c ts : List Int) (n : Int) : Prop := n ∈ ts ∧ walkable (rd c n) = true
theorem fw_walk (v : Int) : grid_Walk.f v = some (walkable v) := by
  unfold grid_Walk.f walkable
  by_cases h : v ≥ 1
  · rw [if_pos h]
    congr 1
    exact decide_eq_decide.2 ⟨fun x => ⟨h, x⟩, fun x => x.2⟩
  · rw [if_neg h, decide_eq_false (fun x => h x.1)]
theorem fw_kind (c : List Int) (hc : CB c) (a : Int) (h : GC a) : grid_kind.f c a = some (rd c a) := by
  have hv := hc.2 a.toNat
  have hl := hc.1
  unfold GC at h
  unfold grid_kind.f
  rw [if_neg (by omega), if_neg (by omega), if_pos h.1, if_pos (by omega), w64 (by unfold rd; omega) (by unfold rd; omega)]
theorem fw_beside (n : Int) (h : GC n) : grid_beside.f n = some (nbr n 0, nbr n 1, nbr n 2, nbr n 3) := by
  unfold GC at h
  unfold grid_beside.f
  rw [Int.tmod_eq_emod_of_nonneg h.1, Int.tdiv_eq_ediv_of_nonneg h.1, w64 (n := n / 24) (by omega) (by omega), w64 (n := n / 24 - 1) (by omega) (by omega), w64 (n := n / 24 + 1) (by omega) (by omega), w64 (n := n % 24 + 1) (by omega) (by omega), w64 (n := n % 24 - 1) (by omega) (by omega)]
  rw [place_is, place_is, place_is, place_is, Option.bind_some, Option.bind_some, Option.bind_some, Option.bind_some]
  have e0 : (if InG (n % 24) (n / 24 - 1) then cel (n % 24) (n / 24 - 1) else -1) = nbr n 0 := by
    unfold nbr cel
    by_cases h0 : 24 ≤ n
    · rw [if_pos (by unfold InG; omega)]; simp only; rw [if_pos h0]; omega
    · rw [if_neg (by unfold InG; omega)]; simp only; rw [if_neg h0]
  have e1 : (if InG (n % 24 + 1) (n / 24) then cel (n % 24 + 1) (n / 24) else -1) = nbr n 1 := by
    unfold nbr cel
    by_cases h0 : n % 24 ≤ 22
    · rw [if_pos (by unfold InG; omega)]; simp only; rw [if_pos h0]; omega
    · rw [if_neg (by unfold InG; omega)]; simp only; rw [if_neg h0]
  have e2 : (if InG (n % 24) (n / 24 + 1) then cel (n % 24) (n / 24 + 1) else -1) = nbr n 2 := by
    unfold nbr cel
    by_cases h0 : n < 360
    · rw [if_pos (by unfold InG; omega)]; simp only; rw [if_pos h0]; omega
    · rw [if_neg (by unfold InG; omega)]; simp only; rw [if_neg h0]
  have e3 : (if InG (n % 24 - 1) (n / 24) then cel (n % 24 - 1) (n / 24) else -1) = nbr n 3 := by
    unfold nbr cel
    by_cases h0 : 1 ≤ n % 24
    · rw [if_pos (by unfold InG; omega)]; simp only; rw [if_pos h0]; omega
    · rw [if_neg (by unfold InG; omega)]; simp only; rw [if_neg h0]
  rw [e0, e1, e2, e3]

section
variable (opn : Int → Prop) (T : Int → Prop)
/-- A level that is worked off: what was reached is no further than s + 1; 'ring' stands at s, 'next' at s + 1. -/
structure Lv (f : List Int) (s : Int) (ring next : List Int) : Prop where
  base : Base opn T f
  s0 : 0 ≤ s
  hi : ∀ n, GC n → rd f n ≤ s + 1
  ringG : ∀ n ∈ ring, GC n
  atS : ∀ n, GC n → (rd f n = s ↔ n ∈ ring)
  nextG : ∀ n ∈ next, GC n
  atN : ∀ n, GC n → (rd f n = s + 1 ↔ n ∈ next)
  low : ∀ m n, GC m → GC n → 0 ≤ rd f m → rd f m < s → adj m n → opn n → 0 ≤ rd f n ∧ rd f n ≤ rd f m + 1
  cnt : next.length + un f ≤ 384
/-- Direction d of m is worked off. -/
def Done (f : List Int) (m : Int) (d : Nat) : Prop := GC (nbr m d) → opn (nbr m d) → 0 ≤ rd f (nbr m d)
variable {opn T}
theorem lv_set {f : List Int} {s : Int} {ring next : List Int} (h : Lv opn T f s ring next) {m v : Int} (hm : GC m) (hs : rd f m = s) (hv : GC v) (ha : adj m v) (ho : opn v) (hu : rd f v < 0) :
    Lv opn T (f.set v.toNat (s + 1)) s ring (next ++ [v]) ∧ (∀ x d, GC x → Done opn f x d → Done opn (f.set v.toNat (s + 1)) x d) ∧ un (f.set v.toNat (s + 1)) + 1 = un f := by
  have hl := h.base.len
  have h0 := h.s0
  have hset := fun x (hx : GC x) => rd_set f hl v x (s + 1) hv hx
  have hun := un_set f hl v (s + 1) hv hu (by omega)
  refine ⟨⟨base_set h.base hm hv ha ho hu (by omega) (by omega), h0, ?_, h.ringG, ?_, ?_, ?_, ?_, ?_⟩, ?_, hun⟩
  · intro n hn
    rw [hset n hn]
    have := h.hi n hn
    split <;> omega
  · intro n hn
    rw [hset n hn]
    by_cases e : n = v
    · subst e
      rw [if_pos rfl]
      constructor
      · intro x; omega
      · intro x
        have := (h.atS n hn).2 x
        omega
    · rw [if_neg e]; exact h.atS n hn
  · intro n hn
    rcases List.mem_append.1 hn with x | x
    · exact h.nextG n x
    · rw [List.mem_singleton.1 x]; exact hv
  · intro n hn
    rw [hset n hn, List.mem_append, List.mem_singleton]
    by_cases e : n = v
    · rw [if_pos e]
      exact ⟨fun _ => .inr e, fun _ => rfl⟩
    · rw [if_neg e, h.atN n hn]
      exact ⟨.inl, fun x => x.resolve_right e⟩
  · intro x n hx hn h1 h2 h3 h4
    rw [hset x hx] at h1 h2 ⊢
    rw [hset n hn]
    by_cases e : x = v
    · rw [if_pos e] at h2; omega
    · rw [if_neg e] at h1 h2 ⊢
      have := h.low x n hx hn h1 h2 h3 h4
      by_cases e2 : n = v
      · subst e2; omega
      · rw [if_neg e2]; exact this
  · rw [List.length_append]
    have := h.cnt
    simp only [List.length_cons, List.length_nil]
    omega
  · intro x d hx hd hg hop
    have := hd hg hop
    rw [hset _ hg]
    split <;> omega
end

theorem four_at (m : Int) (j : Nat) (hj : j < 4) : rd [nbr m 0, nbr m 1, nbr m 2, nbr m 3] (j : Int) = nbr m j := by
  match j, hj with
  | 0, _ => rfl
  | 1, _ => rfl
  | 2, _ => rfl
  | 3, _ => rfl
theorem wrap_succ (j : Nat) (hj : j < 1000000) : wrap64 ((j : Int) + 1) = ((j + 1 : Nat) : Int) := by unfold wrap64; omega
/-- The four directions of one cell. -/
theorem cell_run (c : List Int) (hc : CB c) (b : List Bool) (T : Int → Prop) (s : Int) (hs0 : 0 ≤ s) (hs1 : s < 100000) (ring : List Int) (i m : Int) (hm : GC m) (P : List Int) (hP : ∀ x ∈ P, GC x) (e : Nat) :
    ∀ (k j : Nat) (f next : List Int), j + e = 4 → e < k → Lv (opnC c b) T f s ring next → rd f m = s → (∀ x ∈ P, ∀ d, d < 4 → Done (opnC c b) f x d) → (∀ d, d < j → Done (opnC c b) f m d) →
    ∃ f' next', grid_Field.l4 k c b f next (s + 1) ring (ring.length : Int) i (j : Int) (nbr m 0) (nbr m 1) (nbr m 2) (nbr m 3) = grid_Field.l3 (k - e - 1) c b f' next' (s + 1) ring (ring.length : Int) (wrap64 (i + 1)) ∧
      Lv (opnC c b) T f' s ring next' ∧ rd f' m = s ∧ (∀ x ∈ P, ∀ d, d < 4 → Done (opnC c b) f' x d) ∧ (∀ d, d < 4 → Done (opnC c b) f' m d) ∧ next'.length + un f' = next.length + un f ∧ next.length ≤ next'.length := by
  induction e with
  | zero =>
    intro k j f next hj hk hL hv hD hJ
    obtain ⟨k, rfl⟩ : ∃ q, k = q + 1 := ⟨k - 1, by omega⟩
    rw [show k + 1 - 0 - 1 = k by omega]
    refine ⟨f, next, ?_, hL, hv, hD, fun d hd => hJ d (by omega), rfl, Nat.le_refl _⟩
    simp only [grid_Field.l4]
    rw [if_neg (by omega)]
  | succ e ih =>
    intro k j f next hj hk hL hv hD hJ
    obtain ⟨k, rfl⟩ : ∃ q, k = q + 1 := ⟨k - 1, by omega⟩
    rw [show k + 1 - (e + 1) - 1 = k - e - 1 by omega]
    have hl := hL.base.len
    have hcnt := hL.cnt
    have skip : Done (opnC c b) f m j → ∃ f' next', grid_Field.l4 k c b f next (s + 1) ring (ring.length : Int) i ((j + 1 : Nat) : Int) (nbr m 0) (nbr m 1) (nbr m 2) (nbr m 3) = grid_Field.l3 (k - e - 1) c b f' next' (s + 1) ring (ring.length : Int) (wrap64 (i + 1)) ∧
        Lv (opnC c b) T f' s ring next' ∧ rd f' m = s ∧ (∀ x ∈ P, ∀ d, d < 4 → Done (opnC c b) f' x d) ∧ (∀ d, d < 4 → Done (opnC c b) f' m d) ∧ next'.length + un f' = next.length + un f ∧ next.length ≤ next'.length := by
      intro hd
      refine ih k (j + 1) f next (by omega) (by omega) hL hv hD (fun d hdj => ?_)
      rcases (by omega : d < j ∨ d = j) with h | h
      · exact hJ d h
      · subst h; exact hd
    have c1 : (j : Int) < 4 := by omega
    have c2 : (0 : Int) ≤ (j : Int) := by omega
    have hn := four_at m j (by omega)
    have hw := wrap_succ j (by omega)
    simp only [grid_Field.l4]
    rw [if_pos c1, if_pos c2, hn, hw]
    clear hn hw
    rcases nbr_range m j hm with hout | hg
    · rw [if_pos (by omega)]
      exact skip (fun hg => by unfold GC at hg; omega)
    have hg' := hg
    unfold GC at hg'
    rw [if_neg (by omega), if_pos (by omega), if_pos (by omega)]
    by_cases h1 : rd f (nbr m j) ≥ 0
    · rw [if_pos h1]
      exact skip (fun _ _ => h1)
    rw [if_neg h1, fw_kind c hc _ hg, Option.bind_some, fw_walk, Option.bind_some]
    by_cases h2 : walkable (rd c (nbr m j)) = true
    · rw [if_pos h2]
      have set : opnC c b (nbr m j) → ∃ f' next', (if next.length < 17592186044416 then grid_Field.l4 k c b (f.set (nbr m j).toNat (s + 1)) (next ++ [nbr m j]) (s + 1) ring (ring.length : Int) i ((j + 1 : Nat) : Int) (nbr m 0) (nbr m 1) (nbr m 2) (nbr m 3) else none) = grid_Field.l3 (k - e - 1) c b f' next' (s + 1) ring (ring.length : Int) (wrap64 (i + 1)) ∧
          Lv (opnC c b) T f' s ring next' ∧ rd f' m = s ∧ (∀ x ∈ P, ∀ d, d < 4 → Done (opnC c b) f' x d) ∧ (∀ d, d < 4 → Done (opnC c b) f' m d) ∧ next'.length + un f' = next.length + un f ∧ next.length ≤ next'.length := by
        intro ho
        obtain ⟨hL', hmono, hun⟩ := lv_set hL hm hv hg ⟨j, by omega, rfl⟩ ho (by omega)
        have hset := fun x (hx : GC x) => rd_set f hl (nbr m j) x (s + 1) hg hx
        rw [if_pos (by omega)]
        have hvm : rd (f.set (nbr m j).toNat (s + 1)) m = s := by
          rw [hset m hm, if_neg (fun e => by rw [← e] at h1; omega)]; exact hv
        obtain ⟨f', next', r1, r2, r3, r4, r5, r6, r7⟩ := ih k (j + 1) _ _ (by omega) (by omega) hL' hvm (fun x hx d hd => hmono x d (hP x hx) (hD x hx d hd)) (fun d hdj => by
          rcases (by omega : d < j ∨ d = j) with h | h
          · exact hmono m d hm (hJ d h)
          · subst h
            intro _ _
            rw [hset _ hg, if_pos rfl]
            omega)
        rw [List.length_append] at r6 r7
        simp only [List.length_cons, List.length_nil] at r6 r7
        exact ⟨f', next', r1, r2, r3, r4, r5, by omega, by omega⟩
      by_cases h3 : nbr m j < (b.length : Int)
      · rw [if_pos h3]
        by_cases h4 : rdOf false b (nbr m j) = true
        · rw [if_pos h4]
          exact skip (fun _ ho => absurd ⟨h3, h4⟩ ho.2)
        · rw [if_neg h4]
          exact set ⟨h2, fun x => h4 x.2⟩
      · rw [if_neg h3]
        exact set ⟨h2, fun x => h3 x.1⟩
    · rw [if_neg h2]
      exact skip (fun _ ho => absurd ho.1 h2)

/-- A level. -/
theorem ring_run (c : List Int) (hc : CB c) (b : List Bool) (T : Int → Prop) (s : Int) (hs0 : 0 ≤ s) (hs1 : s < 100000) (ring : List Int) (hr : ring.length ≤ 100000) (d : Nat) :
    ∀ (k i : Nat) (f next : List Int), i + d = ring.length → 6 * d < k → Lv (opnC c b) T f s ring next → (∀ x ∈ ring.take i, ∀ q, q < 4 → Done (opnC c b) f x q) →
    ∃ f' next', grid_Field.l3 k c b f next (s + 1) ring (ring.length : Int) (i : Int) = grid_Field.l3 (k - 6 * d) c b f' next' (s + 1) ring (ring.length : Int) (ring.length : Int) ∧
      Lv (opnC c b) T f' s ring next' ∧ (∀ x ∈ ring, ∀ q, q < 4 → Done (opnC c b) f' x q) ∧ next'.length + un f' = next.length + un f ∧ next.length ≤ next'.length := by
  induction d with
  | zero =>
    intro k i f next hi hk hL hD
    have e : i = ring.length := by omega
    subst e
    rw [List.take_length] at hD
    exact ⟨f, next, rfl, hL, hD, rfl, Nat.le_refl _⟩
  | succ d ih =>
    intro k i f next hi hk hL hD
    obtain ⟨k, rfl⟩ : ∃ q, k = q + 1 := ⟨k - 1, by omega⟩
    have hlt : i < ring.length := by omega
    have hrd : rd ring (i : Int) = ring[i] := by unfold rd; simp [hlt]
    have hmem : ring[i] ∈ ring := List.getElem_mem hlt
    have hm := hL.ringG _ hmem
    have hv := (hL.atS _ hm).2 hmem
    simp only [grid_Field.l3]
    rw [if_pos (by omega), if_pos (by omega), if_pos (by omega), hrd, fw_beside _ hm, Option.bind_some]
    obtain ⟨f', next', r1, r2, r3, r4, r5, r6, r7⟩ := cell_run c hc b T s hs0 hs1 ring (i : Int) ring[i] hm (ring.take i) (fun x hx => hL.ringG x (List.mem_of_mem_take hx)) 4 k 0 f next (by omega) (by omega) hL hv hD (fun q hq => by omega)
    rw [show wrap64 ((i : Int) + 1) = ((i + 1 : Nat) : Int) by unfold wrap64; omega] at r1
    obtain ⟨g, nx, t1, t2, t3, t4, t5⟩ := ih (k - 4 - 1) (i + 1) f' next' (by omega) (by omega) r2 (fun x hx q hq => by
      rw [List.take_succ_eq_append_getElem hlt] at hx
      rcases List.mem_append.1 hx with y | y
      · exact r4 x y q hq
      · rw [List.mem_singleton.1 y]; exact r5 q hq)
    refine ⟨g, nx, ?_, t2, t3, by omega, by omega⟩
    rw [show ((0 : Nat) : Int) = 0 from rfl] at r1
    rw [r1, t1, show k - 4 - 1 - 6 * d = k + 1 - 6 * (d + 1) by omega]

/-- From a level on to the end. -/
theorem levels_run (c : List Int) (hc : CB c) (b : List Bool) (T : Int → Prop) (N : Nat) : ∀ (k : Nat) (f ring : List Int) (s : Int), un f ≤ N → s + N ≤ 1000 → ring.length ≤ 384 → 6 * ring.length + 20 * un f + 12 < k → 
    Lv (opnC c b) T f s ring [] → ∃ g, grid_Field.l2 k c b f ring s = some g ∧ IsField (opnC c b) T g := by
  induction N with
  | zero =>
    intro k f ring s hN hs hr hk hL
    obtain ⟨k, rfl⟩ : ∃ q, k = q + 1 := ⟨k - 1, by omega⟩
    have hs0 := hL.s0
    obtain ⟨f', next', r1, r2, r3, r4, r5⟩ := ring_run c hc b T s hs0 (by omega) ring (by omega) ring.length k 0 f [] (by omega) (by omega) hL (by simp)
    simp only [grid_Field.l2]
    rw [w64 (n := s + 1) (by omega) (by omega)]
    rw [show ((0 : Nat) : Int) = 0 from rfl] at r1
    obtain ⟨k2, hk2⟩ : ∃ q, k - 6 * ring.length = q + 1 := ⟨k - 6 * ring.length - 1, by omega⟩
    rw [r1, hk2]
    simp only [grid_Field.l3]
    have hz : next'.length = 0 := by simp only [List.length_nil] at r4; omega
    rw [if_neg (by omega), if_neg (by omega)]
    refine ⟨f', rfl, ⟨r2.base, ?_⟩⟩
    intro m n hm hn h1 h2 h3
    have hnone : ∀ x, GC x → rd f' x ≠ s + 1 := fun x hx e => by
      have := (r2.atN x hx).1 e
      rw [List.length_eq_zero_iff.1 hz] at this
      cases this
    have hm1 := r2.hi m hm
    have hm2 := hnone m hm
    have hn1 := r2.hi n hn
    have hn2 := hnone n hn
    rcases (by omega : rd f' m < s ∨ rd f' m = s) with h | h
    · exact r2.low m n hm hn h1 h h2 h3
    · obtain ⟨d, hd, e⟩ := h2
      have := r3 m ((r2.atS m hm).1 h) d hd (by rw [e]; exact hn) (by rw [e]; exact h3)
      rw [e] at this
      omega
  | succ N ih =>
    intro k f ring s hN hs hr hk hL
    obtain ⟨k, rfl⟩ : ∃ q, k = q + 1 := ⟨k - 1, by omega⟩
    have hs0 := hL.s0
    obtain ⟨f', next', r1, r2, r3, r4, r5⟩ := ring_run c hc b T s hs0 (by omega) ring (by omega) ring.length k 0 f [] (by omega) (by omega) hL (by simp)
    simp only [grid_Field.l2]
    rw [w64 (n := s + 1) (by omega) (by omega)]
    rw [show ((0 : Nat) : Int) = 0 from rfl] at r1
    obtain ⟨k2, hk2⟩ : ∃ q, k - 6 * ring.length = q + 1 := ⟨k - 6 * ring.length - 1, by omega⟩
    rw [r1, hk2]
    simp only [grid_Field.l3]
    simp only [List.length_nil] at r4
    rw [if_neg (by omega)]
    by_cases hz : next'.length = 0
    · rw [if_neg (by omega)]
      refine ⟨f', rfl, ⟨r2.base, ?_⟩⟩
      intro m n hm hn h1 h2 h3
      have hnone : ∀ x, GC x → rd f' x ≠ s + 1 := fun x hx e => by
        have := (r2.atN x hx).1 e
        rw [List.length_eq_zero_iff.1 hz] at this
        cases this
      have hm1 := r2.hi m hm
      have hm2 := hnone m hm
      have hn1 := r2.hi n hn
      have hn2 := hnone n hn
      rcases (by omega : rd f' m < s ∨ rd f' m = s) with h | h
      · exact r2.low m n hm hn h1 h h2 h3
      · obtain ⟨d, hd, e⟩ := h2
        have := r3 m ((r2.atS m hm).1 h) d hd (by rw [e]; exact hn) (by rw [e]; exact h3)
        rw [e] at this
        omega
    · rw [if_pos (by omega)]
      have hunf := un_le f hL.base.len
      refine ih k2 f' next' (s + 1) (by omega) (by omega) (by omega) (by omega) ⟨r2.base, by omega, fun n hn => by have := r2.hi n hn; omega, r2.nextG, r2.atN, (fun n hn => by cases hn), fun n hn => ⟨fun e => by have := r2.hi n hn; omega, fun e => by cases e⟩, ?_, by simp only [List.length_nil]; omega⟩
      intro m n hm hn h1 h2 h3 h4
      rcases (by omega : rd f' m < s ∨ rd f' m = s) with h | h
      · exact r2.low m n hm hn h1 h h3 h4
      · obtain ⟨d, hd, e⟩ := h3
        have := r3 m ((r2.atS m hm).1 h) d hd (by rw [e]; exact hn) (by rw [e]; exact h4)
        rw [e] at this
        have := r2.hi n hn
        omega

/-- The targets. -/
theorem targets_run (c : List Int) (hc : CB c) (b : List Bool) (ts : List Int) (ht : ts.length ≤ 1000) (d : Nat) :
    ∀ (k i : Nat) (f ring : List Int), i + d = ts.length → d + 10100 < k → f.length = 384 → (∀ n, GC n → rd f n = -1 ∨ rd f n = 0) → (∀ n, GC n → (rd f n = 0 ↔ IsT c (ts.take i) n)) → (∀ n ∈ ring, GC n) → (∀ n, GC n → (rd f n = 0 ↔ n ∈ ring)) → ring.length + un f = 384 →
    ∃ g, grid_Field.l1 k c b f ring ts (ts.length : Int) (i : Int) = some g ∧ IsField (opnC c b) (IsT c ts) g := by
  induction d with
  | zero =>
    intro k i f ring hi hk hl hv hz hrG hr hun
    obtain ⟨k, rfl⟩ : ∃ q, k = q + 1 := ⟨k - 1, by omega⟩
    simp only [grid_Field.l1]
    rw [if_neg (by omega)]
    have e : i = ts.length := by omega
    subst e
    rw [List.take_length] at hz
    refine levels_run c hc b (IsT c ts) 384 k f ring 0 (by omega) (by omega) (by omega) (by omega) ⟨⟨hl, fun n hn => by rcases hv n hn with h | h <;> omega, hz, fun n hn hp => by rcases hv n hn with h | h <;> omega⟩, Int.le_refl _, fun n hn => by rcases hv n hn with h | h <;> omega, hrG, hr, (fun n hn => by cases hn), fun n hn => ⟨fun e => by rcases hv n hn with h | h <;> omega, fun e => by cases e⟩, fun m n hm hn h1 h2 => by omega, by simp only [List.length_nil]; omega⟩
  | succ d ih =>
    intro k i f ring hi hk hl hv hz hrG hr hun
    obtain ⟨k, rfl⟩ : ∃ q, k = q + 1 := ⟨k - 1, by omega⟩
    have hlt : i < ts.length := by omega
    have hrd : rd ts (i : Int) = ts[i] := by unfold rd; simp [hlt]
    have htake := List.take_succ_eq_append_getElem hlt
    have hmem : ∀ n, n ∈ ts.take (i + 1) ↔ n ∈ ts.take i ∨ n = ts[i] := fun n => by rw [htake, List.mem_append, List.mem_singleton]
    simp only [grid_Field.l1]
    rw [if_pos (by omega), if_pos (by omega), if_pos (by omega), hrd, show wrap64 ((i : Int) + 1) = ((i + 1 : Nat) : Int) by unfold wrap64; omega]
    have skip : (∀ n, GC n → IsT c (ts.take (i + 1)) n → IsT c (ts.take i) n) → ∃ g, grid_Field.l1 k c b f ring ts (ts.length : Int) ((i + 1 : Nat) : Int) = some g ∧ IsField (opnC c b) (IsT c ts) g := by
      intro h
      refine ih k (i + 1) f ring (by omega) (by omega) hl hv (fun n hn => ?_) hrG hr hun
      rw [hz n hn]
      exact ⟨fun x => ⟨(hmem n).2 (.inl x.1), x.2⟩, h n hn⟩
    by_cases h1 : ts[i] ≥ 0
    · rw [if_pos h1]
      by_cases h2 : ts[i] < 384
      · have hg : GC ts[i] := ⟨h1, h2⟩
        rw [if_pos h2, if_pos h1, if_pos (by omega)]
        by_cases h3 : rd f ts[i] < 0
        · rw [if_pos h3, fw_kind c hc _ hg, Option.bind_some, fw_walk, Option.bind_some]
          by_cases h4 : walkable (rd c ts[i]) = true
          · have hset := fun x (hx : GC x) => rd_set f hl ts[i] x 0 hg hx
            have hun' := un_set f hl ts[i] 0 hg h3 (Int.le_refl _)
            rw [if_pos h4, if_pos (by omega)]
            refine ih k (i + 1) _ _ (by omega) (by omega) (by rw [List.length_set]; exact hl) (fun n hn => ?_) (fun n hn => ?_) (fun n hn => ?_) (fun n hn => ?_) ?_
            · rw [hset n hn]
              split
              · exact .inr rfl
              · exact hv n hn
            · rw [hset n hn]
              by_cases e : n = ts[i]
              · rw [if_pos e]
                exact ⟨fun _ => ⟨(hmem n).2 (.inr e), by rw [e]; exact h4⟩, fun _ => rfl⟩
              · rw [if_neg e, hz n hn]
                exact ⟨fun x => ⟨(hmem n).2 (.inl x.1), x.2⟩, fun x => ⟨((hmem n).1 x.1).resolve_right e, x.2⟩⟩
            · rcases List.mem_append.1 hn with x | x
              · exact hrG n x
              · rw [List.mem_singleton.1 x]; exact hg
            · rw [hset n hn, List.mem_append, List.mem_singleton]
              by_cases e : n = ts[i]
              · rw [if_pos e]
                exact ⟨fun _ => .inr e, fun _ => rfl⟩
              · rw [if_neg e, hr n hn]
                exact ⟨.inl, fun x => x.resolve_right e⟩
            · rw [List.length_append]
              simp only [List.length_cons, List.length_nil]
              omega
          · rw [if_neg h4]
            refine skip (fun n hn x => ⟨((hmem n).1 x.1).resolve_right (fun e => h4 (by rw [← e]; exact x.2)), x.2⟩)
        · rw [if_neg h3]
          refine skip (fun n hn x => ?_)
          rcases (hmem n).1 x.1 with y | y
          · exact ⟨y, x.2⟩
          · subst y
            exact (hz _ hg).1 (by rcases hv _ hg with h | h <;> omega)
      · rw [if_neg h2]
        refine skip (fun n hn x => ⟨((hmem n).1 x.1).resolve_right (fun e => by unfold GC at hn; omega), x.2⟩)
    · rw [if_neg h1]
      refine skip (fun n hn x => ⟨((hmem n).1 x.1).resolve_right (fun e => by unfold GC at hn; omega), x.2⟩)

/-- The cells are laid as not reached. -/
theorem clear_run (c : List Int) (hc : CB c) (b : List Bool) (ts : List Int) (ht : ts.length ≤ 1000) (d : Nat) :
    ∀ (k i : Nat) (f : List Int), i + d = 384 → d + 11200 < k → f.length = 384 → (∀ n, 0 ≤ n → n < (i : Int) → rd f n = -1) →
    ∃ g, grid_Field.l0 k c b ts f 384 (i : Int) = some g ∧ IsField (opnC c b) (IsT c ts) g := by
  induction d with
  | zero =>
    intro k i f hi hk hl hv
    obtain ⟨k, rfl⟩ : ∃ q, k = q + 1 := ⟨k - 1, by omega⟩
    simp only [grid_Field.l0]
    rw [if_neg (by omega)]
    have all : ∀ n, GC n → rd f n = -1 := fun n hn => hv n hn.1 (by have := hn.2; omega)
    have hun : un f = 384 := by
      unfold un
      rw [← hl]
      refine List.countP_eq_length.2 (fun x hx => ?_)
      obtain ⟨q, hq, e⟩ := List.getElem_of_mem hx
      have := all (q : Int) ⟨by omega, by omega⟩
      unfold rd at this
      rw [List.getD_eq_getElem?_getD, show ((q : Int)).toNat = q by omega, List.getElem?_eq_getElem hq, e] at this
      simp only [Option.getD_some] at this
      rw [this]; rfl
    exact targets_run c hc b ts ht ts.length k 0 f [] (by omega) (by omega) hl (fun n hn => .inl (all n hn)) (fun n hn => ⟨fun e => by have := all n hn; omega, fun e => by cases e.1⟩) (fun n hn => by cases hn) (fun n hn => ⟨fun e => by have := all n hn; omega, fun e => by cases e⟩) (by simp only [List.length_nil]; omega)
  | succ d ih =>
    intro k i f hi hk hl hv
    obtain ⟨k, rfl⟩ : ∃ q, k = q + 1 := ⟨k - 1, by omega⟩
    simp only [grid_Field.l0]
    rw [if_pos (by omega), if_pos (by omega), if_pos (by omega), show wrap64 ((i : Int) + 1) = ((i + 1 : Nat) : Int) by unfold wrap64; omega]
    refine ih k (i + 1) _ (by omega) (by omega) (by rw [List.length_set]; exact hl) (fun n h0 h1 => ?_)
    rw [rd_set f hl (i : Int) n (-1) ⟨by omega, by omega⟩ ⟨by omega, by omega⟩]
    by_cases e : n = (i : Int)
    · rw [if_pos e]
    · rw [if_neg e]
      exact hv n h0 (by omega)
theorem field_is (k : Nat) (hk : 12000 ≤ k) (c : List Int) (hc : CB c) (b : List Bool) (ts : List Int) (ht : ts.length ≤ 1000) : ∃ g, grid_Field.f k c b ts = some g ∧ IsField (opnC c b) (IsT c ts) g := by
  unfold grid_Field.f
  rw [if_pos (by decide), Option.bind_some, List.length_replicate]
  exact clear_run c hc b ts ht 384 k 0 _ (by omega) (by omega) List.length_replicate (fun n h0 h1 => by omega)
end Go.Proofs.Ytjpcmpeigoikkaa.Pure

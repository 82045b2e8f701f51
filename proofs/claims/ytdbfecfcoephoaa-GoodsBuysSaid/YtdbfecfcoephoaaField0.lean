/- Plain laws of fields: what makes a field (how far each cell is from the nearest target), that there is one alone, and how one grows cell by cell. No program in sight (own work). -/
import Derived.Test.YtdbfecfcoephoaaPc
namespace Go.Proofs.Ytdbfecfcoephoaa.Field
set_option linter.unusedVariables false
set_option linter.unusedSimpArgs false
def rd (l : List Int) (n : Int) : Int := l.getD n.toNat 0
def GC (n : Int) : Prop := 0 ≤ n ∧ n < 384
/-- The cell beside, in direction d: north, east, south, west; -1: there is none. -/
def nbr (n : Int) (d : Nat) : Int :=
  match d with
  | 0 => if 24 ≤ n then n - 24 else -1
  | 1 => if n % 24 ≤ 22 then n + 1 else -1
  | 2 => if n < 360 then n + 24 else -1
  | _ => if 1 ≤ n % 24 then n - 1 else -1
def adj (m n : Int) : Prop := ∃ d, d < 4 ∧ nbr m d = n
theorem nbr_range (m : Int) (d : Nat) (hm : GC m) : nbr m d = -1 ∨ GC (nbr m d) := by
  unfold GC at hm ⊢
  unfold nbr
  split <;> split <;> omega
theorem adj_sym (m n : Int) (hm : GC m) (hn : GC n) (h : adj m n) : adj n m := by
  obtain ⟨d, hd, e⟩ := h
  unfold GC at hm hn
  unfold nbr at e
  match d, hd with
  | 0, _ => exact ⟨2, by decide, by unfold nbr; simp only at e ⊢; split at e <;> (first | omega | (rw [if_pos (by omega)]; omega))⟩
  | 1, _ => exact ⟨3, by decide, by unfold nbr; simp only at e ⊢; split at e <;> (first | omega | (rw [if_pos (by omega)]; omega))⟩
  | 2, _ => exact ⟨0, by decide, by unfold nbr; simp only at e ⊢; split at e <;> (first | omega | (rw [if_pos (by omega)]; omega))⟩
  | 3, _ => exact ⟨1, by decide, by unfold nbr; simp only at e ⊢; split at e <;> (first | omega | (rw [if_pos (by omega)]; omega))⟩

theorem rd_set (f : List Int) (hf : f.length = 384) (n m v : Int) (hn : GC n) (hm : GC m) : rd (f.set n.toNat v) m = if m = n then v else rd f m := by
  unfold GC at hn hm
  unfold rd
  rw [List.getD_eq_getElem?_getD, List.getElem?_set]
  by_cases h : m = n
  · subst h
    rw [if_pos rfl, if_pos (by omega), if_pos rfl]
    rfl
  · rw [if_neg (by omega), if_neg h, List.getD_eq_getElem?_getD]
/-- How many cells are not reached. -/
def un (f : List Int) : Nat := f.countP (fun v => decide (v < 0))
theorem un_le (f : List Int) (hf : f.length = 384) : un f ≤ 384 := by
  unfold un
  have := List.countP_le_length (p := fun v : Int => decide (v < 0)) (l := f)
  omega
theorem un_set (f : List Int) (hf : f.length = 384) (n v : Int) (hn : GC n) (h1 : rd f n < 0) (hv : 0 ≤ v) : un (f.set n.toNat v) + 1 = un f := by
  unfold GC at hn
  have hlt : n.toNat < f.length := by omega
  have hr : f[n.toNat] = rd f n := by
    unfold rd
    rw [List.getD_eq_getElem?_getD, List.getElem?_eq_getElem hlt]
    rfl
  unfold un
  rw [List.countP_set hlt, hr, if_pos (by simpa using h1), if_neg (by simpa using hv)]
  have : 0 < f.countP (fun v => decide (v < 0)) := List.countP_pos_iff.2 ⟨f[n.toNat], List.getElem_mem hlt, by rw [hr]; simpa using h1⟩
  omega

section
variable (opn : Int → Prop) (T : Int → Prop)
structure Base (f : List Int) : Prop where
  len : f.length = 384
  lo : ∀ n, GC n → -1 ≤ rd f n
  zero : ∀ n, GC n → (rd f n = 0 ↔ T n)
  up : ∀ n, GC n → 0 < rd f n → opn n ∧ ∃ m, GC m ∧ adj m n ∧ rd f m = rd f n - 1
/-- A field. -/
structure IsField (f : List Int) : Prop extends Base opn T f where
  down : ∀ m n, GC m → GC n → 0 ≤ rd f m → adj m n → opn n → 0 ≤ rd f n ∧ rd f n ≤ rd f m + 1
variable {opn T}
theorem field_le {f g : List Int} (hf : IsField opn T f) (hg : IsField opn T g) (d : Nat) : ∀ n, GC n → rd f n = d → 0 ≤ rd g n ∧ rd g n ≤ d := by
  induction d with
  | zero =>
    intro n hn h
    have := (hg.zero n hn).2 ((hf.zero n hn).1 h)
    omega
  | succ d ih =>
    intro n hn h
    obtain ⟨ho, m, hm, ha, hv⟩ := hf.up n hn (by omega)
    have h1 := ih m hm (by omega)
    have h2 := hg.down m n hm hn h1.1 ha ho
    omega
/-- There is one field alone. -/
theorem field_one {f g : List Int} (hf : IsField opn T f) (hg : IsField opn T g) : f = g := by
  have key : ∀ n, GC n → rd f n = rd g n := by
    intro n hn
    have lf := hf.lo n hn
    have lg := hg.lo n hn
    by_cases h1 : 0 ≤ rd f n
    · have a := field_le hf hg (rd f n).toNat n hn (by omega)
      have b := field_le hg hf (rd g n).toNat n hn (by omega)
      omega
    · by_cases h2 : 0 ≤ rd g n
      · have b := field_le hg hf (rd g n).toNat n hn (by omega)
        omega
      · omega
  have l1 := hf.len
  have l2 := hg.len
  apply List.ext_getElem (by omega)
  intro i h1 h2
  have := key (i : Int) (by unfold GC; omega)
  unfold rd at this
  rw [List.getD_eq_getElem?_getD, List.getD_eq_getElem?_getD, show ((i : Int)).toNat = i by omega, List.getElem?_eq_getElem h1, List.getElem?_eq_getElem h2] at this
  exact this
/-- One cell more is reached. -/
theorem base_set {f : List Int} (h : Base opn T f) {m n v : Int} (hm : GC m) (hn : GC n) (ha : adj m n) (ho : opn n) (hu : rd f n < 0) (hv : rd f m = v - 1) (hv0 : 1 ≤ v) : Base opn T (f.set n.toNat v) := by
  have hl := h.len
  have hlo := h.lo n hn
  have hne : ∀ x, GC x → 0 ≤ rd f x → x ≠ n := fun x hx h0 e => by subst e; omega
  refine ⟨by rw [List.length_set]; exact hl, fun x hx => ?_, fun x hx => ?_, fun x hx hp => ?_⟩
  · rw [rd_set f hl n x v hn hx]
    have := h.lo x hx
    split <;> omega
  · rw [rd_set f hl n x v hn hx]
    by_cases e : x = n
    · subst e
      rw [if_pos rfl]
      constructor
      · intro h0; omega
      · intro ht
        have := (h.zero x hx).2 ht
        omega
    · rw [if_neg e]; exact h.zero x hx
  · rw [rd_set f hl n x v hn hx] at hp ⊢
    by_cases e : x = n
    · subst e
      rw [if_pos rfl]
      refine ⟨ho, m, hm, ha, ?_⟩
      rw [rd_set f hl x m v hn hm, if_neg (hne m hm (by omega)), hv]
    · rw [if_neg e] at hp ⊢
      obtain ⟨o, y, hy, ay, vy⟩ := h.up x hx hp
      refine ⟨o, y, hy, ay, ?_⟩
      rw [rd_set f hl n y v hn hy, if_neg (hne y hy (by omega)), vy]
end

section
variable (opn : Int → Prop) (T : Int → Prop)
/-- A level that is worked off: what was reached is no further than s + 1; 'ring' stands at s, 'next' at s + 1. -/
structure Lv (f : List Int) (s : Int) (ring next : List Int) : Prop where
  base : Base opn T f
  s0 : 0 ≤ s
  hi : ∀ n, GC n → rd f n ≤ s + 1
  ringG : ∀ n ∈ ring, GC n
  atS : ∀ n, GC n → (rd f n = s ↔ n ∈ ring)
  nextG : ∀ n ∈ next, GC n
  atN : ∀ n, GC n → (rd f n = s + 1 ↔ n ∈ next)
  low : ∀ m n, GC m → GC n → 0 ≤ rd f m → rd f m < s → adj m n → opn n → 0 ≤ rd f n ∧ rd f n ≤ rd f m + 1
  cnt : next.length + un f ≤ 384
/-- Direction d of m is worked off. -/
def Done (f : List Int) (m : Int) (d : Nat) : Prop := GC (nbr m d) → opn (nbr m d) → 0 ≤ rd f (nbr m d)
variable {opn T}
theorem lv_set {f : List Int} {s : Int} {ring next : List Int} (h : Lv opn T f s ring next) {m v : Int} (hm : GC m) (hs : rd f m = s) (hv : GC v) (ha : adj m v) (ho : opn v) (hu : rd f v < 0) :
    Lv opn T (f.set v.toNat (s + 1)) s ring (next ++ [v]) ∧ (∀ x d, GC x → Done opn f x d → Done opn (f.set v.toNat (s + 1)) x d) ∧ un (f.set v.toNat (s + 1)) + 1 = un f := by
  have hl := h.base.len
  have h0 := h.s0
  have hset := fun x (hx : GC x) => rd_set f hl v x (s + 1) hv hx
  have hun := un_set f hl v (s + 1) hv hu (by omega)
  refine ⟨⟨base_set h.base hm hv ha ho hu (by omega) (by omega), h0, ?_, h.ringG, ?_, ?_, ?_, ?_, ?_⟩, ?_, hun⟩
  · intro n hn
    rw [hset n hn]
    have := h.hi n hn
    split <;> omega
  · intro n hn
    rw [hset n hn]
    by_cases e : n = v
    · subst e
      rw [if_pos rfl]
      constructor
      · intro x; omega
      · intro x
        have := (h.atS n hn).2 x
        omega
    · rw [if_neg e]; exact h.atS n hn
  · intro n hn
    rcases List.mem_append.1 hn with x | x
    · exact h.nextG n x
    · rw [List.mem_singleton.1 x]; exact hv
  · intro n hn
    rw [hset n hn, List.mem_append, List.mem_singleton]
    by_cases e : n = v
    · rw [if_pos e]
      exact ⟨fun _ => .inr e, fun _ => rfl⟩
    · rw [if_neg e, h.atN n hn]
      exact ⟨.inl, fun x => x.resolve_right e⟩
  · intro x n hx hn h1 h2 h3 h4
    rw [hset x hx] at h1 h2 ⊢
    rw [hset n hn]
    by_cases e : x = v
    · rw [if_pos e] at h2; omega
    · rw [if_neg e] at h1 h2 ⊢
      have := h.low x n hx hn h1 h2 h3 h4
      by_cases e2 : n = v
      · subst e2; omega
      · rw [if_neg e2]; exact this
  · rw [List.length_append]
    have := h.cnt
    simp only [List.length_cons, List.length_nil]
    omega
  · intro x d hx hd hg hop
    have := hd hg hop
    rw [hset _ hg]
    split <;> omega
end

/-- Values of a field stay below the number of cells. -/
theorem cnt_succ (k : Nat) : ∀ f : List Int, f.countP (fun v => decide (0 ≤ v ∧ v ≤ (k : Int) + 1)) = f.countP (fun v => decide (0 ≤ v ∧ v ≤ (k : Int))) + f.countP (fun v => decide (v = (k : Int) + 1))
  | [] => rfl
  | v :: f => by
    rw [List.countP_cons, List.countP_cons, List.countP_cons, cnt_succ k f]
    by_cases h1 : v = (k : Int) + 1
    · simp only [h1, decide_true, if_true]
      rw [if_pos (by simp; omega), if_neg (by simp; omega)]
      omega
    · by_cases h2 : 0 ≤ v ∧ v ≤ (k : Int)
      · rw [if_pos (by simp; omega), if_pos (by simpa using h2), if_neg (by simpa using h1)]
        omega
      · rw [if_neg (by simp; omega), if_neg (by simpa using h2), if_neg (by simpa using h1)]
        omega
theorem field_small {opn T : Int → Prop} {f : List Int} (hF : IsField opn T f) : ∀ n, GC n → rd f n ≤ 1000 := by
  have mem : ∀ i, GC i → rd f i ∈ f := fun i hi => by
    have hl := hF.len
    unfold GC at hi
    have : i.toNat < f.length := by omega
    unfold rd
    rw [List.getD_eq_getElem?_getD, List.getElem?_eq_getElem this]
    exact List.getElem_mem this
  have key : ∀ (k : Nat) (i : Int), GC i → rd f i = k → k + 1 ≤ f.countP (fun v => decide (0 ≤ v ∧ v ≤ (k : Int))) := by
    intro k
    induction k with
    | zero =>
      intro i hi h
      exact List.countP_pos_iff.2 ⟨_, mem i hi, by rw [h]; decide⟩
    | succ k ih =>
      intro i hi h
      obtain ⟨_, m, m1, _, m3⟩ := hF.up i hi (by omega)
      have h1 := ih m m1 (by omega)
      have h2 := cnt_succ k f
      have h3 : 0 < f.countP (fun v => decide (v = (k : Int) + 1)) := List.countP_pos_iff.2 ⟨_, mem i hi, by rw [h]; simp⟩
      have e : f.countP (fun v => decide (0 ≤ v ∧ v ≤ ((k + 1 : Nat) : Int))) = f.countP (fun v => decide (0 ≤ v ∧ v ≤ (k : Int) + 1)) := by congr 1
      rw [e]
      omega
  intro n hn
  by_cases h : rd f n < 0
  · omega
  · have h1 := key (rd f n).toNat n hn (by omega)
    have h2 := List.countP_le_length (p := fun v : Int => decide (0 ≤ v ∧ v ≤ ((rd f n).toNat : Int))) (l := f)
    have := hF.len
    omega
end Go.Proofs.Ytdbfecfcoephoaa.Field

/- What the functions of chunk compute (own work). -/
import Derived.Test.YtmffnlcmklapmaaRun
import Derived.Test.YtmffnlcmklapmaaPc
namespace Go.Proofs.Ytmffnlcmklapmaa.Chunk
open Go Go.Proofs.Ytmffnlcmklapmaa.Mx Go.Proofs.Ytmffnlcmklapmaa.Pc Go.Proofs.Ytmffnlcmklapmaa.Run
set_option autoImplicit false
set_option linter.unusedVariables false
set_option linter.unusedSimpArgs false
/-- One look at the piece k behind a: it is told if it was not heard of, and there is room. -/
def look (n : Int) (a : Nat) (h : List Bool) (r : Int × List Int) (k : Nat) : Int × List Int :=
  if (r.2.length : Int) < n ∧ h.getD ((a + k) % h.length) false = false then ((((a + k) % h.length + 1) % h.length : Nat), r.2 ++ [(((a + k) % h.length : Nat) : Int)]) else r
/-- What is told next, and from where on one looks then. -/
def next (n : Int) (a : Nat) (h : List Bool) : Int × List Int := (List.range h.length).foldl (look n a h) ((a : Int), [])
theorem look_full {n : Int} {a : Nat} {h : List Bool} {r : Int × List Int} (hr : n ≤ (r.2.length : Int)) : ∀ l : List Nat, l.foldl (look n a h) r = r
  | [] => rfl
  | k :: l => by
    rw [List.foldl_cons]
    have : look n a h r k = r := if_neg (by omega)
    rw [this]
    exact look_full hr l
theorem look_len {n : Int} {a : Nat} {h : List Bool} {r : Int × List Int} (k : Nat) : (look n a h r k).2.length ≤ r.2.length + 1 := by
  unfold look; split <;> simp
theorem fold_len {n : Int} {a : Nat} {h : List Bool} (r0 : Int × List Int) : ∀ k, ((List.range k).foldl (look n a h) r0).2.length ≤ r0.2.length + k
  | 0 => Nat.le_refl _
  | k + 1 => by
    rw [List.range_succ, List.foldl_append, List.foldl_cons, List.foldl_nil]
    have h1 := look_len (n := n) (a := a) (h := h) (r := (List.range k).foldl (look n a h) r0) k
    have h2 := fold_len (n := n) (a := a) (h := h) r0 k
    omega
theorem range_split (k m : Nat) (h : k ≤ m) : List.range m = List.range k ++ List.range' k (m - k) := by
  have := List.range'_append_1 (s := 0) (m := k) (n := m - k)
  rw [Nat.zero_add, show k + (m - k) = m by omega] at this
  rw [List.range_eq_range', List.range_eq_range']
  exact this.symm
theorem fold_stop {n : Int} {a : Nat} {h : List Bool} {k : Nat} (r0 : Int × List Int) (hk : k ≤ h.length) (hr : n ≤ (((List.range k).foldl (look n a h) r0).2.length : Int)) : (List.range k).foldl (look n a h) r0 = (List.range h.length).foldl (look n a h) r0 := by
  rw [range_split k h.length hk, List.foldl_append, look_full hr]
theorem next_eq (n : Int) (a : Nat) (h : List Bool) (ha : a < h.length) (hl : h.length ≤ 1000) : f18 n a h = some ((next n a h).1, h, (next n a h).2, ()) := by
  refine OK.eq ?_
  unfold f18 f18.L1
  refine OK.callR (R := fun y => y = Sum.inl ((next n a h).1, h, (next n a h).2, ())) ?_ (fun y e => by subst e; exact OK.ret rfl)
  refine OK.loop (fun k : Nat => (n, (((a + k) % h.length : Nat) : Int), (h.length : Int), (k : Int), ((List.range k).foldl (look n a h) ((a : Int), [])).1, h, ((List.range k).foldl (look n a h) ((a : Int), [])).2, ())) (fun k => k ≤ h.length) (fun k => h.length - k) (fun rec k hk ih => ?_) 0 (by simp [Nat.mod_eq_of_lt ha]) (Nat.zero_le _) (by omega)
  have hlen := fold_len (n := n) (a := a) (h := h) ((a : Int), []) k
  generalize hr : (List.range k).foldl (look n a h) ((a : Int), []) = r at *
  simp only [List.length_nil] at hlen
  simp only [bif_cl, Int.toNat_natCast]
  by_cases c0 : (k : Int) < h.length
  · rw [if_pos c0]
    by_cases c1 : (r.2.length : Int) ≥ n
    · rw [if_pos c1]
      have := fold_stop (n := n) (a := a) (h := h) ((a : Int), []) hk (by rw [hr]; exact c1)
      refine OK.ret ?_
      unfold next
      rw [← this, hr]
    · rw [if_neg c1]
      have hm : (a + k) % h.length < h.length := Nat.mod_lt _ (by omega)
      have hstep : (List.range (k + 1)).foldl (look n a h) ((a : Int), []) = look n a h r k := by rw [List.range_succ, List.foldl_append, hr]; rfl
      have hnext : ((a + (k + 1)) % h.length : Nat) = ((a + k) % h.length + 1) % h.length := by rw [← Nat.add_assoc, Nat.mod_add_mod]
      have w1 : IntKind.wrap .i64 ((((a + k) % h.length : Nat) : Int) + 1) = (((a + k) % h.length + 1 : Nat) : Int) := by rw [wr (by omega)]; rfl
      have w2 : Int.tmod (((a + k) % h.length + 1 : Nat) : Int) (h.length : Int) = (((a + k) % h.length + 1) % h.length : Nat) := by
        rw [Int.tmod_eq_emod_of_nonneg (by omega)]; rfl
      have w3 : IntKind.wrap .i64 ((k : Int) + 1) = (k : Int) + 1 := wr (by omega)
      have go := ih (k + 1) (by omega) (by omega)
      rw [hstep, hnext] at go
      simp only [w1, w2]
      refine OK.callR (R := fun y => y = Sum.inl (n, (((a + k) % h.length : Nat) : Int), (h.length : Int), (k : Int), (look n a h r k).1, h, (look n a h r k).2, ())) ?_ ?_
      · rw [inR (by omega), cond_true]
        cases c2 : h.getD ((a + k) % h.length) false with
        | false =>
          have : look n a h r k = (((((a + k) % h.length + 1) % h.length : Nat) : Int), r.2 ++ [(((a + k) % h.length : Nat) : Int)]) := if_pos ⟨by omega, c2⟩
          rw [this]
          simp only [Bool.not_false, cond_true]
          rw [if_pos (by simp [limit]; omega), if_neg (by omega)]
          exact OK.ret rfl
        | true =>
          have : look n a h r k = r := if_neg (by rw [c2]; simp)
          rw [this]
          exact OK.ret rfl
      · rintro _ rfl
        simp only [Sum.elim_inl]
        rw [if_neg (by omega), w1, w2, w3]
        exact go _ (by simp)
  · rw [if_neg c0]
    have : k = h.length := by omega
    subst this
    exact OK.ret (by unfold next; rw [hr])
theorem next_at (n : Int) (a : Nat) (h : List Bool) (ha : a < h.length) : ∃ b : Nat, (next n a h).1 = b ∧ b < h.length := by
  have : ∀ (l : List Nat) (r : Int × List Int), (∃ b : Nat, r.1 = b ∧ b < h.length) → ∃ b : Nat, (l.foldl (look n a h) r).1 = b ∧ b < h.length := by
    intro l
    induction l with
    | nil => exact fun r hr => hr
    | cons k l ih =>
      intro r hr
      rw [List.foldl_cons]
      refine ih _ ?_
      unfold look
      split
      · exact ⟨_, rfl, Nat.mod_lt _ (by omega)⟩
      · exact hr
  exact this _ _ ⟨a, rfl, ha⟩
/-- Is every piece heard of? -/
def all (h : List Bool) : Bool := h.all id
theorem getD_false {h : List Bool} {i : Nat} (hi : i < h.length) (e : h.getD i false = false) : all h = false := by
  unfold all
  rw [List.all_eq_false]
  refine ⟨h[i], List.getElem_mem hi, ?_⟩
  rw [List.getD_eq_getElem?_getD, List.getElem?_eq_getElem hi] at e
  simpa using e
theorem all_true {h : List Bool} (e : ∀ i, i < h.length → h.getD i false = true) : all h = true := by
  unfold all
  rw [List.all_eq_true]
  intro x hx
  obtain ⟨i, hi, rfl⟩ := List.getElem_of_mem hx
  have := e i hi
  rw [List.getD_eq_getElem?_getD, List.getElem?_eq_getElem hi] at this
  simpa using this
theorem done_eq (h : List Bool) (a : Int) (hl : h.length ≤ 1000) : f17 (h, a) = some (all h, ()) := by
  have hi : OK (f24 h false) fun y => decide (y.1 ≥ 0) = !all h := by
    unfold f24 f24.L1
    refine OK.loop (fun k : Nat => (h, false, (h.length : Int), (k : Int), ())) (fun k => k ≤ h.length ∧ ∀ i, i < k → h.getD i false = true) (fun k => h.length - k) (fun rec k hk ih => ?_) 0 rfl ⟨Nat.zero_le _, fun i hi => by cases hi⟩ (by omega)
    simp only [bif_cl, Int.toNat_natCast]
    by_cases c0 : (k : Int) < h.length
    · rw [if_pos c0, inR (by omega), cond_true]
      cases c1 : h.getD k false with
      | false =>
        refine OK.ret ?_
        rw [getD_false (by omega) c1]
        simp
      | true =>
        have w3 : IntKind.wrap .i64 ((k : Int) + 1) = (k : Int) + 1 := wr (by omega)
        refine ih (k + 1) ⟨by omega, fun i hi => ?_⟩ (by omega) _ (by rw [w3]; simp)
        rcases Nat.lt_or_ge i k with q | q
        · exact hk.2 i q
        · rw [show i = k by omega]; exact c1
    · rw [if_neg c0]
      refine OK.ret ?_
      rw [all_true fun i hi => hk.2 i (by omega)]
      rfl
  unfold f17 f22
  obtain ⟨y, e, hy⟩ := hi
  rw [e]
  simp only [Option.bind_some, hy, Bool.not_not]
def bit (b : Int) (i : Nat) : Bool := IntKind.wrap .u32 ((((BitVec.ofInt (IntKind.bits .u32) (Int.fdiv b (2 ^ min i (IntKind.bits .u32)))) &&& (BitVec.ofInt (IntKind.bits .u32) 1)).toNat : Nat) : Int) == 1
def acked (b : Int) (h : List Bool) (k : Nat) : List Bool := (List.range k).foldl (fun l i => l.set i (h.getD i false || bit b i)) h
theorem acked_len (b : Int) (h : List Bool) : ∀ k, (acked b h k).length = h.length
  | 0 => rfl
  | k + 1 => by
    have := acked_len b h k
    unfold acked at this ⊢
    rw [List.range_succ, List.foldl_append]
    simpa using this
theorem acked_get (b : Int) (h : List Bool) (i : Nat) : ∀ k, k ≤ h.length → (acked b h k).getD i false = if i < k then (h.getD i false || bit b i) else h.getD i false
  | 0, _ => by rw [if_neg (by omega)]; rfl
  | k + 1, hk => by
    have := acked_get b h i k (by omega)
    have hl := acked_len b h k
    unfold acked at this hl ⊢
    rw [List.range_succ, List.foldl_append, List.foldl_cons, List.foldl_nil, getD_set, this, hl]
    by_cases e : k = i
    · subst e
      rw [if_pos ⟨rfl, by omega⟩, if_pos (by omega)]
    · rw [if_neg (by omega)]
      by_cases e2 : i < k
      · rw [if_pos e2, if_pos (by omega)]
      · rw [if_neg e2, if_neg (by omega)]
theorem ack_eq (b : Int) (a : Int) (h : List Bool) (hl : h.length ≤ 1000) : f19 b a h = some (a, acked b h h.length, ()) := by
  refine OK.eq ?_
  unfold f19 f19.L1
  refine OK.loop (fun k : Nat => (b, (h.length : Int), (k : Int), a, acked b h k, ())) (fun k => k ≤ h.length) (fun k => h.length - k) (fun rec k hk ih => ?_) 0 rfl (Nat.zero_le _) (by omega)
  have hal := acked_len b h k
  have hag := acked_get b h k k hk
  rw [if_neg (Nat.lt_irrefl _)] at hag
  have hs : acked b h (k + 1) = (acked b h k).set k (h.getD k false || bit b k) := by unfold acked; rw [List.range_succ, List.foldl_append]; rfl
  simp only [bif_cl, Int.toNat_natCast]
  by_cases c0 : (k : Int) < h.length
  · have w3 : IntKind.wrap .i64 ((k : Int) + 1) = (k : Int) + 1 := wr (by omega)
    have go := ih (k + 1) (by omega) (by omega)
    rw [hs] at go
    rw [if_pos c0, inR (by omega), cond_true, hag, w3]
    cases c1 : h.getD k false with
    | true =>
      rw [c1] at go
      simp only [cond_true]
      exact go _ (by simp)
    | false =>
      rw [c1] at go
      rw [cond_false, if_neg (by omega), cond_true]
      exact go _ (by simp [bit])
  · rw [if_neg c0]
    have : k = h.length := by omega
    subst this
    exact OK.ret rfl
end Go.Proofs.Ytmffnlcmklapmaa.Chunk

/- Regions: what the model does in any order (own work). -/
import Derived.Test.YtmffnlcmklapmaaMxR
namespace Go.Proofs.Ytmffnlcmklapmaa.Mx
open Go
set_option autoImplicit false
set_option linter.unusedVariables false
set_option linter.unusedSimpArgs false
universe u
variable {P : Program}
theorem yields_of {ops : Array Oper} {g : Gh} {hp : HP} {sl : List SV} {a : Act} {j t : Nat} {b : Bool} (hsl : SlR g hp sl a) (ht : guardSlot ops.toList j = some t) (hb : getS sl t = .v (.c (.bool b))) : yielded ops a.tmps j = some b := by
  have h1 := hsl t
  rw [hb] at h1
  have h1 : a.tmps.getD t undef = .bool b := h1
  have h2 : a.tmps[t]? = some (.bool b) := by
    rw [Array.getD_eq_getD_getElem?] at h1
    cases hq : a.tmps[t]? with
    | none => rw [hq] at h1; simp [undef] at h1
    | some x => rw [hq] at h1; simp only [Option.getD_some] at h1; rw [h1]
  unfold guardSlot at ht
  unfold yielded
  cases ho : ops[j]? with
  | none => simp [ho] at ht
  | some o =>
    simp only [Array.getElem?_toList, ho] at ht
    simp only [Option.bind_some, ht, h2]
theorem yields_none {ops : Array Oper} {g : Gh} {hp : HP} {sl : List SV} {a : Act} {j t : Nat} (hsl : SlR g hp sl a) (ht : guardSlot ops.toList j = some t) (hb : getS sl t = .tup []) : yielded ops a.tmps j = none := by
  have h1 := hsl t
  rw [hb] at h1
  obtain ⟨vs, h1, h0⟩ := h1
  have h2 : a.tmps[t]? = none ∨ a.tmps[t]? = some (.tuple vs.toArray) := by
    rw [Array.getD_eq_getD_getElem?] at h1
    cases hq : a.tmps[t]? with
    | none => exact .inl rfl
    | some x => rw [hq] at h1; simp only [Option.getD_some] at h1; exact .inr (by rw [h1])
  unfold guardSlot at ht
  unfold yielded
  cases ho : ops[j]? with
  | none => rfl
  | some o =>
    simp only [Array.getElem?_toList, ho] at ht
    rcases h2 with h2 | h2 <;> simp only [Option.bind_some, ht, h2]
section
variable {mt : Nat → Prop} {g : Gh} {H H' : HF} {w : World} {base : Nat} {fp : FP} {v : SV} {o : Oper} {a : Act} {E : Env} {sl : List SV} {ops : Array Oper} {i : Nat} {K : Act → World → Prop} {Q : Exit → Act → World → Prop}
theorem step_wp (ok : EnvOk P E) (M : Mem mt g H w.heap) (hm : ∀ b, w.heap.size ≤ b → mt b) (hsl : SlR g w.heap sl a) (hlen : sl.length ≤ a.tmps.size) (hf : ∀ n, base ≤ n → n < base + keys → g.φ n = none) (ho : ops[i]? = some o)
    (hs : stepE E ops.toList o base sl H = some (v, H', fp))
    (hK : ∀ V w' g', Ext mt g w g' w' → (∀ n, ¬ (base ≤ n ∧ n < base + keys) → g'.φ n = g.φ n) → Mem mt g' H' w'.heap → SlR g' w'.heap (putS sl o.dst v) (a.put o.dst V) → K (a.put o.dst V) w') : wpOp P ops Q i K a w := by
  have run : (opM E sl o.type o.op).eval base H ⟨[], []⟩ = some (v, H', fp) → o.wp P a w K Q := fun h =>
    op_does ok M hm hf hsl h K Q fun V w' ⟨g', e, hφ, M', hv⟩ => hK V w' g' e hφ M' (SlR.put (hsl.stab (e.stab M.ro)) hlen hv o.dst)
  unfold wpOp
  rw [ho]
  simp only
  unfold stepE at hs
  split at hs
  · rename_i hg
    rw [if_pos (by simp [Region.wanted, hg])]
    exact .inl (run hs)
  · rename_i j want hg
    split at hs
    · cases hs
    · rename_i t ht
      split at hs
      · rename_i b hb
        have hy := yields_of hsl ht hb
        split at hs
        · rename_i hw
          rw [if_pos (by simp [Region.wanted, hg, hy, hw])]
          exact .inl (run hs)
        · rename_i hw
          simp only [Option.some.injEq, Prod.mk.injEq] at hs
          obtain ⟨rfl, rfl, rfl⟩ := hs
          rw [if_neg (by simp [Region.wanted, hg, hy, hw])]
          exact hK undef w g (Ext.refl _ _ _) (fun _ _ => rfl) M (SlR.put (v := .tup []) (V := undef) hsl hlen ⟨[], rfl, trivial⟩ o.dst)
      · rename_i hb
        simp only [Option.some.injEq, Prod.mk.injEq] at hs
        obtain ⟨rfl, rfl, rfl⟩ := hs
        rw [if_neg (by simp [Region.wanted, hg, yields_none hsl ht hb])]
        exact hK undef w g (Ext.refl _ _ _) (fun _ _ => rfl) M (SlR.put (v := .tup []) (V := undef) hsl hlen ⟨[], rfl, trivial⟩ o.dst)
      · cases hs
end
/-- What must stand at the end of a region. -/
structure After (mt : Nat → Prop) (g0 : Gh) (w0 : World) (H : HF) (sl : List SV) (nx : Nat) (ds : List Deferred) (N : Nat) (a : Act) (w : World) (g : Gh) : Prop where
  ext : Ext mt g0 w0 g w
  mem : Mem mt g H w.heap
  slr : SlR g w.heap sl a
  len : sl.length ≤ a.tmps.size
  nx : ∀ n, nx ≤ n → g.φ n = none
  dfs : (a.defers = ds ∧ a.tmps.size = N)
section
variable {mt : Nat → Prop} {g0 : Gh} {w0 : World} {E : Env} {ops : Array Oper} {next : Nat} {F : Nat → FP} {Q : Exit → Act → World → Prop} {ds : List Deferred} {N : Nat}
theorem grown {g : Gh} {w : World} (hm0 : ∀ b, w0.heap.size ≤ b → mt b) (e : Ext mt g0 w0 g w) : ∀ b, w.heap.size ≤ b → mt b := fun b hb => hm0 b (Nat.le_trans e.size hb)
theorem keys_apart {i j n : Nat} (h1 : next + keys * i ≤ n) (h2 : n < next + keys * i + keys) (hne : i ≠ j) : ¬ (next + keys * j ≤ n ∧ n < next + keys * j + keys) := by
  simp only [keys] at *
  omega
/-- One operation of a list of them; the rest is left. -/
theorem run_step (ok : EnvOk P E) (hm0 : ∀ b, w0.heap.size ≤ b → mt b) {i : Nat} {is : List Nat} {sl sl' : List SV} {H H' : HF} {a : Act} {w : World} {g : Gh} {K : Act → World → Prop}
    (hr : Runs E ops.toList next F (i :: is) sl H sl' H') (ext : Ext mt g0 w0 g w) (M : Mem mt g H w.heap) (hsl : SlR g w.heap sl a) (hlen : sl.length ≤ a.tmps.size) (hd : (a.defers = ds ∧ a.tmps.size = N))
    (hf : ∀ k, k ∈ i :: is → ∀ n, next + keys * k ≤ n → n < next + keys * k + keys → g.φ n = none) (hn : ∀ n, next + keys * ops.size ≤ n → g.φ n = none) (hi : i < ops.size) (hni : i ∉ is)
    (hK : ∀ a w g sl H, Runs E ops.toList next F is sl H sl' H' → Ext mt g0 w0 g w → Mem mt g H w.heap → SlR g w.heap sl a → sl.length ≤ a.tmps.size → (a.defers = ds ∧ a.tmps.size = N) →
      (∀ k, k ∈ is → ∀ n, next + keys * k ≤ n → n < next + keys * k + keys → g.φ n = none) → (∀ n, next + keys * ops.size ≤ n → g.φ n = none) → K a w) : wpOp P ops Q i K a w := by
  cases hr with
  | cons ho hs hr =>
    rw [Array.getElem?_toList] at ho
    refine step_wp ok M (grown hm0 ext) hsl hlen (hf i List.mem_cons_self) ho hs fun V w' g' e hφ M' hsl' => ?_
    refine hK _ w' g' _ _ hr (ext.trans e) M' hsl' (by rw [putS_len, put_size]; exact hlen) (by rw [put_defers', put_size]; exact hd) (fun k hk n h1 h2 => ?_) (fun n h1 => ?_)
    · rw [hφ n (keys_apart h1 h2 fun e' => hni (e' ▸ hk))]
      exact hf k (List.mem_cons_of_mem _ hk) n h1 h2
    · rw [hφ n]
      · exact hn n h1
      · simp only [keys] at *
        omega
theorem wpOps_runs (ok : EnvOk P E) (hm0 : ∀ b, w0.heap.size ≤ b → mt b) {sl' : List SV} {H' : HF} (hQ : ∀ a w g, After mt g0 w0 H' sl' (next + keys * ops.size) ds N a w g → Q .normal a w) : ∀ (is : List Nat) (a : Act) (w : World) (g : Gh) (sl : List SV) (H : HF), is.Nodup → (∀ i, i ∈ is → i < ops.size) →
    Runs E ops.toList next F is sl H sl' H' → Ext mt g0 w0 g w → Mem mt g H w.heap → SlR g w.heap sl a → sl.length ≤ a.tmps.size → (a.defers = ds ∧ a.tmps.size = N) → (∀ k, k ∈ is → ∀ n, next + keys * k ≤ n → n < next + keys * k + keys → g.φ n = none) → (∀ n, next + keys * ops.size ≤ n → g.φ n = none) →
    wpOps P ops Q is a w
  | [], a, w, g, sl, H, _, _, hr, ext, M, hsl, hlen, hd, hf, hn => by
    cases hr
    exact hQ a w g ⟨ext, M, hsl, hlen, hn, hd⟩
  | i :: is, a, w, g, sl, H, hnd, hlt, hr, ext, M, hsl, hlen, hd, hf, hn => by
    rw [wpOps_cons]
    rw [List.nodup_cons] at hnd
    exact run_step ok hm0 hr ext M hsl hlen hd hf hn (hlt i List.mem_cons_self) hnd.1 fun a w g sl H hr ext M hsl hlen hd hf hn =>
      wpOps_runs ok hm0 hQ is a w g sl H hnd.2 (fun k hk => hlt k (List.mem_cons_of_mem _ hk)) hr ext M hsl hlen hd hf hn
/-! ### the unlisted -/
theorem filter_split (p : Nat → Bool) : ∀ (n a i : Nat), i ∈ (idx a n).filter p → ∃ pre post, (idx a n).filter p = pre ++ i :: post ∧ (∀ k, k ∈ pre → k < i ∧ a ≤ k ∧ k < a + n ∧ p k = true) ∧ (∀ k, k ∈ post → i < k) ∧ (idx a n).filter (fun k => p k && !(decide (k = i))) = pre ++ post
  | 0, a, i, h => by simp [idx] at h
  | n + 1, a, i, h => by
    have big : ∀ (q : Nat → Bool) k, k ∈ (idx (a + 1) n).filter q → a < k := fun q k hk => by
      have := (mem_idx _ _ _).1 (List.mem_filter.1 hk).1; omega
    by_cases hp : p a = true
    · by_cases e : i = a
      · subst e
        refine ⟨[], (idx (i + 1) n).filter p, by simp [idx, hp], fun k hk => (by cases hk), fun k hk => big _ k hk, ?_⟩
        simp only [idx, List.filter_cons, decide_true, Bool.not_true, Bool.and_false, Bool.false_eq_true, if_false, List.nil_append]
        refine List.filter_congr fun k hk => ?_
        have := (mem_idx _ _ _).1 hk
        have hki : k ≠ i := by omega
        simp [hki]
      · have h2 : i ∈ (idx (a + 1) n).filter p := by
          simp only [idx, List.filter_cons, hp, if_true, List.mem_cons] at h
          exact h.resolve_left e
        obtain ⟨pre, post, h3, h4, h5, h6⟩ := filter_split p n (a + 1) i h2
        refine ⟨a :: pre, post, by simp [idx, hp, h3], fun k hk => ?_, h5, ?_⟩
        · rcases List.mem_cons.1 hk with rfl | hk
          · exact ⟨by have := big _ i h2; omega, Nat.le_refl _, by omega, hp⟩
          · have := h4 k hk; exact ⟨this.1, by omega, by omega, this.2.2.2⟩
        · have hae : a ≠ i := Ne.symm e
          simp [idx, hp, hae, h6]
    · have h2 : i ∈ (idx (a + 1) n).filter p := by
        simp only [idx, List.filter_cons, hp, if_false, Bool.false_eq_true] at h
        exact h
      obtain ⟨pre, post, h3, h4, h5, h6⟩ := filter_split p n (a + 1) i h2
      refine ⟨pre, post, by simp [idx, hp, h3], fun k hk => ?_, h5, by simp [idx, hp, h6]⟩
      have := h4 k hk; exact ⟨this.1, by omega, by omega, this.2.2.2⟩
def unl (ops : Array Oper) (listed : Array Bool) : List Nat := (idx 0 ops.size).filter fun k => !listed.getD k true
theorem mem_unl {listed : Array Bool} {k : Nat} : k ∈ unl ops listed ↔ k < ops.size ∧ listed.getD k true = false := by
  unfold unl
  rw [List.mem_filter, mem_idx]
  simp
theorem getD_tf {listed : Array Bool} {k : Nat} (h : k < listed.size) : listed.getD k false = listed.getD k true := by
  simp [Array.getD, h]
theorem wpAny_runs (ok : EnvOk P E) (hm0 : ∀ b, w0.heap.size ≤ b → mt b) {sl' : List SV} {H' : HF} {pre : Nat → Nat → Prop} (hQ : ∀ a w g, After mt g0 w0 H' sl' (next + keys * ops.size) ds N a w g → Q .normal a w)
    (hedge : ∀ i o, ops[i]? = some o → ∀ e, e ∈ o.after → Region.binds .any e = true → e.on < i)
    (hpre : ∀ i o, ops[i]? = some o → ∀ j, pre i j → ∃ e, e ∈ o.after ∧ Region.binds .any e = true ∧ (j = e.on ∨ pre e.on j))
    (hap : ∀ i j oi oj, ops[i]? = some oi → ops[j]? = some oj → j < i → pre i j ∨ Apart ops.toList oj oi (F j) (F i)) :
    ∀ (fuel : Nat) (listed : Array Bool) (a : Act) (w : World) (g : Gh) (sl : List SV) (H : HF), listed.size = ops.size → (unl ops listed).length ≤ fuel → (∀ k, k < ops.size → listed.getD k true = true → ∀ j, pre k j → listed.getD j false = true) →
    Runs E ops.toList next F (unl ops listed) sl H sl' H' → Ext mt g0 w0 g w → Mem mt g H w.heap → SlR g w.heap sl a → sl.length ≤ a.tmps.size → (a.defers = ds ∧ a.tmps.size = N) → (∀ k, k ∈ unl ops listed → ∀ n, next + keys * k ≤ n → n < next + keys * k + keys → g.φ n = none) → (∀ n, next + keys * ops.size ≤ n → g.φ n = none) →
    wpAny P .any ops Q fuel listed a w := by
  intro fuel
  have ready_unl : ∀ (listed : Array Bool) i, listed.size = ops.size → i ∈ Region.ready .any ops listed → i ∈ unl ops listed := fun listed i hsz hi => by
    obtain ⟨h1, o, h2, _⟩ := mem_ready.1 hi
    exact mem_unl.2 ⟨(Array.getElem?_eq_some_iff.1 h2).1, h1⟩
  have done : ∀ (listed : Array Bool) a w g sl H, listed.size = ops.size → unl ops listed = [] → Runs E ops.toList next F (unl ops listed) sl H sl' H' → Ext mt g0 w0 g w → Mem mt g H w.heap → SlR g w.heap sl a → sl.length ≤ a.tmps.size → (a.defers = ds ∧ a.tmps.size = N) → (∀ n, next + keys * ops.size ≤ n → g.φ n = none) →
      Region.ready .any ops listed = [] ∧ Q .normal a w := fun listed a w g sl H hsz hu hr ext M hsl hlen hd hn => by
    rw [hu] at hr
    cases hr
    refine ⟨?_, hQ a w g ⟨ext, M, hsl, hlen, hn, hd⟩⟩
    cases hrd : Region.ready .any ops listed with
    | nil => rfl
    | cons x xs =>
      have := ready_unl listed x hsz (by rw [hrd]; exact List.mem_cons_self)
      rw [hu] at this; cases this
  induction fuel with
  | zero =>
    intro listed a w g sl H hsz hfu hcl hr ext M hsl hlen hd hf hn
    exact done listed a w g sl H hsz (List.length_eq_zero_iff.1 (Nat.le_zero.1 hfu)) hr ext M hsl hlen hd hn
  | succ fuel ih =>
    intro listed a w g sl H hsz hfu hcl hr ext M hsl hlen hd hf hn
    refine ⟨fun hrd => ?_, fun i hi => ?_⟩
    · cases hu : unl ops listed with
      | nil => exact (done listed a w g sl H hsz hu hr ext M hsl hlen hd hn).2
      | cons i rest =>
        exfalso
        have himem : i ∈ unl ops listed := by rw [hu]; exact List.mem_cons_self
        obtain ⟨hlt, hli⟩ := mem_unl.1 himem
        obtain ⟨p, q, h1, h2, h3, h4⟩ := filter_split _ _ _ _ himem
        have hmin : ∀ k, k < i → listed.getD k true = true := fun k hk => by
          cases hb : listed.getD k true with
          | true => rfl
          | false =>
            have hkm : k ∈ unl ops listed := mem_unl.2 ⟨by omega, hb⟩
            obtain ⟨p', q', h1', h2', h3', h4'⟩ := filter_split _ _ _ _ hkm
            have e : unl ops listed = p' ++ k :: q' := h1'
            rw [hu] at e
            cases p' with
            | nil => simp only [List.nil_append, List.cons.injEq] at e; omega
            | cons x xs =>
              simp only [List.cons_append, List.cons.injEq] at e
              have := (h2' x List.mem_cons_self).1
              omega
        have : i ∈ Region.ready .any ops listed := by
          refine mem_ready.2 ⟨hli, ops[i], Array.getElem?_eq_getElem hlt, fun e he hb => ?_⟩
          have hlt2 := hedge i _ (Array.getElem?_eq_getElem hlt) e he hb
          rw [getD_tf (by rw [hsz]; omega)]
          exact hmin _ hlt2
        rw [hrd] at this
        cases this
    · have himem := ready_unl listed i hsz hi
      obtain ⟨hlt, hli⟩ := mem_unl.1 himem
      obtain ⟨_, oi, hoi, hall⟩ := mem_ready.1 hi
      obtain ⟨p, q, h1, h2, h3, h4⟩ := filter_split _ _ _ _ himem
      have hsz' : (listed.setIfInBounds i true).size = ops.size := by simp [hsz]
      have hset : ∀ k, (listed.setIfInBounds i true).getD k true = if k = i then true else listed.getD k true := fun k => by
        by_cases e : k = i
        · subst e
          rw [if_pos rfl]
          have : k < (listed.setIfInBounds k true).size := by rw [hsz']; exact hlt
          simp [Array.getD, hsz, hlt]
        · rw [if_neg e, getD_set_ne true (Ne.symm e)]
      have hu : unl ops listed = p ++ i :: q := h1
      have hu' : unl ops (listed.setIfInBounds i true) = p ++ q := by
        rw [← h4]
        unfold unl
        refine List.filter_congr fun k hk => ?_
        rw [hset k]
        by_cases e : k = i <;> simp [e]
      have closed_i : ∀ j, pre i j → listed.getD j false = true := fun j hj => by
        obtain ⟨e, he, hb, h⟩ := hpre i oi hoi j hj
        have h5 := hall e he hb
        rcases h with rfl | h
        · exact h5
        · have h6 := hedge i oi hoi e he hb
          exact hcl e.on (by omega) (by rw [← getD_tf (by rw [hsz]; omega)]; exact h5) j h
      have hr2 : Runs E ops.toList next F (i :: (p ++ q)) sl H sl' H' := by
        rw [hu] at hr
        refine Runs.move (by rw [Array.getElem?_toList]; exact hoi) p sl sl' H H' (fun j hj => ?_) hr
        obtain ⟨k1, k2, k3, k4⟩ := h2 j hj
        have hjlt : j < ops.size := by omega
        refine ⟨ops[j], by rw [Array.getElem?_toList]; exact Array.getElem?_eq_getElem hjlt, (hap i j oi ops[j] hoi (Array.getElem?_eq_getElem hjlt) k1).resolve_left fun hp => ?_⟩
        have := closed_i j hp
        rw [getD_tf (by rw [hsz]; omega)] at this
        simp [this] at k4
      have hni : i ∉ p ++ q := fun h => by
        rcases List.mem_append.1 h with h | h
        · have := (h2 i h).1; omega
        · have := h3 i h; omega
      refine run_step ok hm0 hr2 ext M hsl hlen hd (fun k hk n a1 a2 => hf k ?_ n a1 a2) hn hlt hni fun a w g sl H hr ext M hsl hlen hd hf hn => ?_
      · rw [hu]
        rcases List.mem_cons.1 hk with rfl | hk
        · simp
        · rcases List.mem_append.1 hk with hk | hk <;> simp [hk]
      · refine ih _ a w g sl H hsz' ?_ (fun k hk hl j hj => ?_) (by rw [hu']; exact hr) ext M hsl hlen hd (by rw [hu']; exact hf) hn
        · rw [hu'] ; rw [hu] at hfu; simp only [List.length_append, List.length_cons] at hfu ⊢; omega
        · rw [hset k] at hl
          by_cases e : k = i
          · subst e; exact getD_set_true (closed_i j hj)
          · rw [if_neg e] at hl; exact getD_set_true (hcl k hk hl j hj)
end
/-! ### the check -/
theorem apartAll_spec {ops : List Oper} {pre : List Nat} {i : Nat} {o : Oper} {fp : FP} : ∀ (bs : List Oper) (qs : List FP) (j : Nat), apartAll ops pre i o fp j bs qs = true → ∀ k b q, bs[k]? = some b → qs[k]? = some q → Nat.testBit (pre.getD i 0) (j + k) = true ∨ Apart ops b o q fp
  | [], qs, j, h, k, b, q, hb, hq => by simp at hb
  | b :: bs, [], j, h, k, b', q, hb, hq => by cases h
  | b :: bs, q :: qs, j, h, 0, b', q', hb, hq => by
    simp only [apartAll, Bool.and_eq_true, Bool.or_eq_true] at h
    simp only [List.getElem?_cons_zero, Option.some.injEq] at hb hq
    subst hb hq
    exact h.1.imp id apart_spec
  | b :: bs, q :: qs, j, h, k + 1, b', q', hb, hq => by
    simp only [apartAll, Bool.and_eq_true, Bool.or_eq_true] at h
    have := apartAll_spec bs qs (j + 1) h.2 k b' q' (by simpa using hb) (by simpa using hq)
    rw [show j + (k + 1) = j + 1 + k by omega]
    exact this
theorem allApart_spec {ops : List Oper} {pre : List Nat} {fps : List FP} : ∀ (os : List Oper) (ps : List FP) (i : Nat), allApart ops pre fps i os ps = true → ∀ k o p, os[k]? = some o → ps[k]? = some p →
    (∀ e, e ∈ o.after → Region.binds .any e = true → e.on < i + k) ∧ ∀ j b q, j < i + k → ops[j]? = some b → fps[j]? = some q → Nat.testBit (pre.getD (i + k) 0) j = true ∨ Apart ops b o q p
  | [], ps, i, h, k, o, p, ho, hp => by simp at ho
  | o :: os, [], i, h, k, o', p, ho, hp => by cases h
  | o :: os, p :: ps, i, h, 0, o', p', ho, hp => by
    simp only [allApart, Bool.and_eq_true] at h
    simp only [List.getElem?_cons_zero, Option.some.injEq] at ho hp
    subst ho hp
    refine ⟨fun e he hb => ?_, fun j b q hj hb hq => ?_⟩
    · have := List.all_eq_true.1 h.1 e (by simpa using he)
      rw [hb] at this
      exact blt_lt this
    · have := apartAll_spec _ _ 0 h.2.1 j b q (by rw [List.getElem?_take]; simp only [Nat.add_zero] at hj; rw [if_pos hj]; exact hb) hq
      simpa using this
  | o :: os, p :: ps, i, h, k + 1, o', p', ho, hp => by
    simp only [allApart, Bool.and_eq_true] at h
    have := allApart_spec os ps (i + 1) h.2.2 k o' p' (by simpa using ho) (by simpa using hp)
    rw [show i + (k + 1) = i + 1 + k by omega]
    exact this
theorem maskOf_spec {pre : List Nat} {j : Nat} : ∀ (es : List Edge), Nat.testBit (maskOf pre es) j = true → ∃ e, e ∈ es ∧ Region.binds .any e = true ∧ (j = e.on ∨ Nat.testBit (pre.getD e.on 0) j = true)
  | [], h => by simp [maskOf] at h
  | e :: es, h => by
    unfold maskOf at h
    cases hb : Region.binds .any e with
    | false =>
      rw [hb] at h
      obtain ⟨e', h1, h2⟩ := maskOf_spec es h
      exact ⟨e', List.mem_cons_of_mem _ h1, h2⟩
    | true =>
      rw [hb] at h
      have h : Nat.testBit ((1 <<< e.on ||| pre.getD e.on 0) ||| maskOf pre es) j = true := h
      rw [Nat.testBit_or, Nat.testBit_or, Nat.testBit_shiftLeft, Bool.or_eq_true, Bool.or_eq_true] at h
      rcases h with (h | h) | h
      · simp only [Bool.and_eq_true, decide_eq_true_eq] at h
        refine ⟨e, List.mem_cons_self, hb, .inl ?_⟩
        have := h.2
        have hz : j - e.on = 0 := by
          rcases Nat.eq_zero_or_pos (j - e.on) with q | q
          · exact q
          · obtain ⟨m, hm⟩ := Nat.exists_eq_add_of_lt q
            rw [show j - e.on = m + 1 by omega, Nat.testBit_succ] at this
            simp at this
        have : e.on ≤ j := h.1
        omega
      · exact ⟨e, List.mem_cons_self, hb, .inr h⟩
      · obtain ⟨e', h1, h2⟩ := maskOf_spec es h
        exact ⟨e', List.mem_cons_of_mem _ h1, h2⟩
theorem preds_spec : ∀ (os : List Oper) (acc : List Nat), (∀ i, i < acc.length → (os.foldl addPreds acc).getD i 0 = acc.getD i 0) ∧
    ∀ k o, os[k]? = some o → ∀ j, Nat.testBit ((os.foldl addPreds acc).getD (acc.length + k) 0) j = true → ∃ e, e ∈ o.after ∧ Region.binds .any e = true ∧ (j = e.on ∨ Nat.testBit ((os.foldl addPreds acc).getD e.on 0) j = true)
  | [], acc => ⟨fun _ _ => rfl, fun k o h => by simp at h⟩
  | o :: os, acc => by
    obtain ⟨h1, h2⟩ := preds_spec os (addPreds acc o)
    have hl : (addPreds acc o).length = acc.length + 1 := by simp [addPreds]
    have old : ∀ i, i < acc.length → (addPreds acc o).getD i 0 = acc.getD i 0 := fun i hi => by
      simp only [addPreds, List.getD_eq_getElem?_getD, List.getElem?_append_left hi]
    refine ⟨fun i hi => ?_, fun k o' ho j hj => ?_⟩
    · rw [List.foldl_cons, h1 i (by omega), old i hi]
    · cases k with
      | zero =>
        simp only [List.getElem?_cons_zero, Option.some.injEq] at ho
        subst ho
        rw [List.foldl_cons, Nat.add_zero, h1 _ (by omega)] at hj
        simp only [addPreds, List.getD_eq_getElem?_getD, List.getElem?_append_right (Nat.le_refl _), Nat.sub_self, List.getElem?_cons_zero, Option.getD_some] at hj
        obtain ⟨e, he, hb, hj⟩ := maskOf_spec _ hj
        refine ⟨e, by simpa using he, hb, hj.imp id fun hj => ?_⟩
        have hlt : e.on < acc.length := by
          rcases Nat.lt_or_ge e.on acc.length with q | q
          · exact q
          · rw [List.getD_eq_getElem?_getD, List.getElem?_eq_none q] at hj; simp at hj
        rw [List.foldl_cons, h1 _ (by omega), old _ hlt]
        exact hj
      | succ k =>
        have := h2 k o' (by simpa using ho) j (by rw [hl, show acc.length + 1 + k = acc.length + (k + 1) by omega]; exact hj)
        exact this
end Go.Proofs.Ytmffnlcmklapmaa.Mx

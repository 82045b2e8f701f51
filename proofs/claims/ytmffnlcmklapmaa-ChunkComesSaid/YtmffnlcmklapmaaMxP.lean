/- Calls of functions told by their shapes do what the model's do: the caller's side (own work). -/
import Derived.Test.YtmffnlcmklapmaaMxO
namespace Go.Proofs.Ytmffnlcmklapmaa.Mx
open Go
set_option autoImplicit false
set_option linter.unusedVariables false
set_option linter.unusedSimpArgs false
universe u
variable {P : Program}
theorem Mem.sub {mt : Nat → Prop} {g : Gh} {H H' : HF} {hp : HP} (M : Mem mt g H hp) (h : ∀ n o, H' n = some o → H n = some o) : Mem mt g H' hp :=
  ⟨fun n o k => M.obj n o (h n o k), fun n o Q b k => M.own n o Q b (h n o k), fun n o Q b k => M.ice n o Q b (h n o k), fun n m o o' Q R b e k k' => M.sep n m o o' Q R b e (h n o k) (h m o' k'), M.ro⟩
theorem collect_eval : ∀ (f : Nat) (t : List Nat) (acc : Heap) (base : Nat) (H H' : HF) (fp fp' : FP) (a : Heap), (∀ n o, hget acc n = some o → H n = some o) → (collect f t acc).eval base H fp = some (a, H', fp') → H' = H ∧ ∀ n o, hget a n = some o → H n = some o
  | 0, t, acc, base, H, H', fp, fp', a, _, h => by cases h
  | f + 1, [], acc, base, H, H', fp, fp', a, hacc, h => by
    simp only [collect, MA.eval, Option.some.injEq, Prod.mk.injEq] at h
    obtain ⟨rfl, rfl, _⟩ := h
    exact ⟨rfl, hacc⟩
  | f + 1, n :: t, acc, base, H, H', fp, fp', a, hacc, h => by
    unfold collect at h
    split at h
    · exact collect_eval f t acc base H H' fp fp' a hacc h
    · simp only [MA.eval] at h
      cases ho : H n with
      | none => rw [ho] at h; cases h
      | some o =>
        rw [ho] at h
        refine collect_eval f _ _ base H H' _ fp' a (fun k q hk => ?_) h
        rw [hget_cons] at hk
        by_cases e : n = k
        · rw [if_pos e] at hk; cases hk; rw [← e]; exact ho
        · rw [if_neg e] at hk; exact hacc k q hk
theorem blt_lt {a b : Nat} (h : Nat.blt a b = true) : a < b := Nat.le_of_ble_eq_true h
theorem okAsg_spec {m : Nat} {h : Heap} : ∀ (l : List (Nat × Option Nat)), okAsg m h l = true → ∀ j x, aget l j = some x → j < m ∧ ∀ n, x = some n → hget h n ≠ none
  | [], _, j, x, hx => by cases hx
  | (k, none) :: r, hl, j, x, hx => by
    simp only [okAsg] at hl
    cases hb : Nat.blt k m with
    | false => rw [hb] at hl; cases hl
    | true =>
      rw [hb] at hl
      rw [aget_cons] at hx
      by_cases e : k = j
      · rw [if_pos e] at hx; cases hx; exact ⟨e ▸ blt_lt hb, fun n hn => by cases hn⟩
      · rw [if_neg e] at hx; exact okAsg_spec r hl j x hx
  | (k, some n) :: r, hl, j, x, hx => by
    simp only [okAsg] at hl
    cases ho : hget h n with
    | none => rw [ho] at hl; cases hl
    | some o =>
      rw [ho] at hl
      cases hb : Nat.blt k m with
      | false => rw [hb] at hl; cases hl
      | true =>
        rw [hb] at hl
        rw [aget_cons] at hx
        by_cases e : k = j
        · rw [if_pos e] at hx; cases hx; exact ⟨e ▸ blt_lt hb, fun n' hn => by cases hn; rw [ho]; simp⟩
        · rw [if_neg e] at hx; exact okAsg_spec r hl j x hx
theorem aget_mem : ∀ {l : List (Nat × Option Nat)} {j : Nat} {x : Option Nat}, aget l j = some x → (j, x) ∈ l
  | [], j, x, h => by cases h
  | (k, y) :: l, j, x, h => by
    rw [aget_cons] at h
    by_cases e : k = j
    · rw [if_pos e] at h; cases h; subst e; exact List.mem_cons_self
    · rw [if_neg e] at h; exact List.mem_cons_of_mem _ (aget_mem h)
section
variable {base : Nat} {H' : HF} {fp' : FP} {v : SV}
theorem strike_eval {kp : List (Nat × Option Nat)} {h : Heap} {k : MA SV} : ∀ (asg : List (Nat × Option Nat)) (H : HF) (fp : FP), (strike kp h asg k).eval base H fp = some (v, H', fp') →
    ∃ H1 fp1, k.eval base H1 fp1 = some (v, H', fp') ∧ (∀ n, H1 n = H n ∨ H1 n = none) ∧ ∀ j n, (j, some n) ∈ asg → (aget kp j = none ∨ hget h j = none) → H1 n = none
  | [], H, fp, hk => ⟨H, fp, hk, fun n => .inl rfl, fun j n h => by cases h⟩
  | (j, none) :: asg, H, fp, hk => by
    obtain ⟨H1, fp1, h1, h2, h3⟩ := strike_eval asg H fp (show (strike kp h asg k).eval base H fp = _ from hk)
    refine ⟨H1, fp1, h1, h2, fun i n hm hn => h3 i n ?_ hn⟩
    rcases List.mem_cons.1 hm with e | hm
    · cases e
    · exact hm
  | (j, some m) :: asg, H, fp, hk => by
    unfold strike at hk
    split at hk
    · rename_i x o hx ho
      obtain ⟨H1, fp1, h1, h2, h3⟩ := strike_eval asg H fp hk
      refine ⟨H1, fp1, h1, h2, fun i n hm hn => ?_⟩
      rcases List.mem_cons.1 hm with e | hm
      · cases e; rcases hn with hn | hn
        · rw [hx] at hn; cases hn
        · rw [ho] at hn; cases hn
      · exact h3 i n hm hn
    · obtain ⟨fp2, h0⟩ := del_eval hk
      obtain ⟨H1, fp1, h1, h2, h3⟩ := strike_eval asg _ _ h0
      refine ⟨H1, fp1, h1, fun n => ?_, fun i n hm hn => ?_⟩
      · rcases h2 n with q | q
        · by_cases e : n = m
          · rw [e, upd_same] at q; exact .inr (e ▸ q)
          · rw [upd_ne _ _ e] at q; exact .inl q
        · exact .inr q
      · rcases List.mem_cons.1 hm with e | hm
        · cases e
          rcases h2 m with q | q
          · rw [upd_same] at q; exact q
          · exact q
        · exact h3 i n hm hn
theorem kept_get {keep : List Nat} : ∀ (l : List (Nat × Option Nat)) (j : Nat), aget (kept keep l) j = if j ∈ keep then aget l j else none
  | [], j => by simp [kept, aget]
  | (k, x) :: l, j => by
    simp only [kept]
    cases hb : keep.any (Nat.beq k) with
    | true =>
      simp only
      rw [aget_cons, aget_cons, kept_get l j]
      by_cases e : k = j
      · subst e
        have hm : k ∈ keep := by
          obtain ⟨y, h1, h2⟩ := List.any_eq_true.1 hb
          rw [beq_eq h2]; exact h1
        simp [hm]
      · simp only [if_neg e]
    | false =>
      simp only
      rw [aget_cons, kept_get l j]
      by_cases e : k = j
      · subst e
        have hm : ¬ k ∈ keep := fun hm => by
          have : keep.any (Nat.beq k) = true := List.any_eq_true.2 ⟨k, hm, beq_self k⟩
          rw [hb] at this; cases this
        simp [hm]
      · rw [if_neg e]
theorem mu_some {b : Nat} {asg : List (Nat × Option Nat)} {j n : Nat} (h : aget asg j = some (some n)) : mu b asg j = n := by simp only [mu, h]
theorem mu_other {b : Nat} {asg : List (Nat × Option Nat)} {j : Nat} (h : ∀ n, aget asg j ≠ some (some n)) : mu b asg j = b + j := by
  unfold mu
  split
  · rename_i n hn; exact absurd hn (h n)
  · rfl
theorem layObs_eval {asg : List (Nat × Option Nat)} {μ : Nat → Nat} {k : MA SV} : ∀ (h : Heap) (H : HF) (fp : FP), (layObs μ asg h k).eval base H fp = some (v, H', fp') →
    ∃ H1 fp1, k.eval base H1 fp1 = some (v, H', fp') ∧ ∀ n, (∃ j o, (j, o) ∈ h ∧ mu base asg j = n ∧ H1 n = some (renO μ o)) ∨ ((∀ j o, (j, o) ∈ h → mu base asg j ≠ n) ∧ H1 n = H n)
  | [], H, fp, hk => ⟨H, fp, hk, fun n => .inr ⟨fun j o h => (by cases h), rfl⟩⟩
  | (j, o) :: h, H, fp, hk => by
    have fin : ∀ H0 fp0 q, H0 = upd H q (some (renO μ o)) → mu base asg j = q → (layObs μ asg h k).eval base H0 fp0 = some (v, H', fp') →
        ∃ H1 fp1, k.eval base H1 fp1 = some (v, H', fp') ∧ ∀ n, (∃ j' o', (j', o') ∈ (j, o) :: h ∧ mu base asg j' = n ∧ H1 n = some (renO μ o')) ∨ ((∀ j' o', (j', o') ∈ (j, o) :: h → mu base asg j' ≠ n) ∧ H1 n = H n) := fun H0 fp0 q hH0 hq hk => by
      obtain ⟨H1, fp1, h1, h2⟩ := layObs_eval h H0 fp0 hk
      refine ⟨H1, fp1, h1, fun n => ?_⟩
      rcases h2 n with ⟨j', o', h3, h4, h5⟩ | ⟨h3, h4⟩
      · exact .inl ⟨j', o', List.mem_cons_of_mem _ h3, h4, h5⟩
      · by_cases e : n = q
        · rw [e, hH0, upd_same] at h4; exact .inl ⟨j, o, List.mem_cons_self, by rw [hq, e], by rw [e]; exact h4⟩
        · rw [hH0, upd_ne _ _ e] at h4
          refine .inr ⟨fun j' o' hm => ?_, h4⟩
          rcases List.mem_cons.1 hm with hm | hm
          · cases hm; rw [hq]; exact Ne.symm e
          · exact h3 j' o' hm
    unfold layObs at hk
    split at hk
    · rename_i n hn
      simp only [MA.eval] at hk
      cases ho : H n with
      | none => rw [ho] at hk; cases hk
      | some o1 => rw [ho] at hk; exact fin _ _ n rfl (mu_some hn) hk
    · rename_i hn
      obtain ⟨fp2, h1, h2, h3⟩ := new_eval hk
      exact fin _ _ (base + j) rfl (mu_other fun n e => hn n e) h3
theorem finish1_eval {kp asg : List (Nat × Option Nat)} {s : Shape} {r : s.X} {H : HF} {fp : FP} {as : List (Nat × AV)} {os : Heap} (L : Laid s r as os) (h : (finish1 kp asg s r).eval base H fp = some (v, H', fp')) :
    v = mkRes (as.map fun a => (a.1, renA (mu base kp) a.2)) ∧ ∃ H1 : HF, (∀ n, H1 n = H n ∨ H1 n = none) ∧ (∀ j n, (j, some n) ∈ asg → (aget kp j = none ∨ hget os j = none) → H1 n = none) ∧
      ∀ n, (∃ j o, (j, o) ∈ os ∧ mu base kp j = n ∧ H' n = some (renO (mu base kp) o)) ∨ ((∀ j o, (j, o) ∈ os → mu base kp j ≠ n) ∧ H' n = H1 n) := by
  have h1 : (s.encK r fun as h => strike kp h asg (layObs (mu base kp) kp h (.pure (mkRes (as.map fun a => (a.1, renA (mu base kp) a.2)))))).eval base H fp = some (v, H', fp') := h
  rw [L.enc1] at h1
  obtain ⟨H1, fp1, h2, h3, h4⟩ := strike_eval asg H fp h1
  obtain ⟨H2, fp2, k1, k2⟩ := layObs_eval os H1 fp1 h2
  simp only [MA.eval, Option.some.injEq, Prod.mk.injEq] at k1
  obtain ⟨rfl, rfl, _⟩ := k1
  exact ⟨rfl, H1, h3, h4, k2⟩
end
/-! ### the caller's memory after a call -/
/-- Blocks that a callee may write to. -/
def mtOf (w : World) (g : Gh) (H : HF) (d : DS) (b : Nat) : Prop := w.heap.size ≤ b ∨ ∃ j n o Q, aget d.asg j = some (some n) ∧ H n = some o ∧ o.iced = false ∧ g.φ n = some Q ∧ Q.blk = some b
def gBack (base : Nat) (ro : Nat → Prop) (g g' : Gh) : Gh := ⟨fun n => if base ≤ n ∧ n < base + keys then g'.φ (n - base) else g.φ n, ro⟩
theorem all_mem {α : Type} {p : α → Bool} : ∀ {l : List α} {x : α}, l.all p = true → x ∈ l → p x = true := fun h hx => List.all_eq_true.1 h _ hx
theorem mkRes_ren {g g' : Gh} {hp : HP} {μ : Nat → Nat} {as : List (Nat × AV)} {V : Value} (h : ∀ a, a ∈ as → ∀ v, AVR g hp a.2 v → AVR g' hp (renA μ a.2) v) (hv : SVR g hp (mkRes as) V) : SVR g' hp (mkRes (as.map fun a => (a.1, renA μ a.2))) V := by
  have tup : ∀ (l : List (Nat × AV)) (vs : List Value), (∀ a, a ∈ l → ∀ v, AVR g hp a.2 v → AVR g' hp (renA μ a.2) v) → All2 (AVR g hp) (l.map (·.2)) vs → All2 (AVR g' hp) ((l.map fun a => (a.1, renA μ a.2)).map (·.2)) vs := by
    intro l
    induction l with
    | nil => intro vs _ h; cases vs with | nil => trivial | cons _ _ => exact h.elim
    | cons a l ih =>
      intro vs hl h
      cases vs with
      | nil => exact h.elim
      | cons v vs => exact ⟨hl a List.mem_cons_self v h.1, ih vs (fun b hb => hl b (List.mem_cons_of_mem _ hb)) h.2⟩
  match as, h, hv with
  | [], _, hv =>
    obtain ⟨vs, h1, h2⟩ := hv
    exact ⟨vs, h1, tup [] vs (fun a ha => by cases ha) h2⟩
  | [a], h, hv => exact h a List.mem_cons_self V hv
  | a :: b :: r, h, hv =>
    obtain ⟨vs, h1, h2⟩ := hv
    exact ⟨vs, h1, tup (a :: b :: r) vs h h2⟩
section
variable {mt : Nat → Prop} {g : Gh} {H : HF} {w : World} {base : Nat}
theorem call_post {keep : List Nat} {hS : Heap} {s so : Shape} {d : DS} {gA : Nat → Option AV} {x : s.X} {xas : List (Nat × AV)} {xos : Heap} {r : so.X} {as : List (Nat × AV)} {os : Heap} {g' : Gh} {w' : World} {V : Value} {v : SV} {H' : HF} {fp fp' : FP}
    (M : Mem mt g H w.heap) (hm : ∀ b, w.heap.size ≤ b → mt b) (hf : ∀ n, base ≤ n → n < base + keys → g.φ n = none)
    (hsub : ∀ n o, hget hS n = some o → H n = some o) (R : Read s [] (hget hS) gA x d xas xos) (hok : okAsg (topKey s.ob 0) hS d.asg = true) (hwf : so.wf = true) (hfl : d.frz = [] ∨ so.flat = true)
    (L : Laid so r as os) (E : Ext (mtOf w g H d) (gK keep (gE s d g)) w g' w') (M' : Mem (mtOf w g H d) g' (hget os) w'.heap) (hv : SVR g' w'.heap (mkRes as) V)
    (hev : (finish1 (kept keep d.asg) d.asg so r).eval base H fp = some (v, H', fp')) : Post mt g w base H' v V w' := by
  obtain ⟨rfl, H1, k1, k2, k3⟩ := finish1_eval L hev
  simp only [Shape.wf, Bool.and_eq_true] at hwf
  obtain ⟨⟨hnd, hobs⟩, hsls⟩ := hwf
  have MS : Mem mt g (hget hS) w.heap := M.sub hsub
  -- the ground that nobody writes to
  have hgE : ∀ b, g.ro b → (gE s d g).ro b := fun b h => .inl h
  have hmt : ∀ b, mtOf w g H d b → mt b := fun b h => by
    rcases h with h | ⟨j, n, o, Q, h1, h2, h3, h4, h5⟩
    · exact hm b h
    · exact (M.own n o Q b h2 h3 h4 h5).1
  obtain ⟨ro', hro1, hro2, hro3⟩ : ∃ ro' : Nat → Prop, (∀ b, g.ro b → ro' b) ∧ (∀ b, ro' b → g'.ro b ∧ ((gE s d g).ro b → g.ro b)) ∧ (ro' = g'.ro ∨ so.flat = true) := by
    rcases hfl with h0 | h0
    · refine ⟨g'.ro, fun b h => E.ro b (hgE b h), fun b h => ⟨h, fun h2 => ?_⟩, .inl rfl⟩
      rcases h2 with h2 | ⟨n, hn, _⟩
      · exact h2
      · rw [h0] at hn; cases hn
    · exact ⟨g.ro, fun b h => h, fun b h => ⟨E.ro b (hgE b h), fun _ => h⟩, .inr h0⟩
  have hroM : ∀ b, ro' b → g.ro b ∨ mtOf w g H d b := fun b hb => by
    obtain ⟨h1, h2⟩ := hro2 b hb
    exact (E.ro' b h1).imp h2 id
  -- keys
  have kget : ∀ j x, aget (kept keep d.asg) j = some x → j ∈ keep ∧ aget d.asg j = some x := fun j x h => by
    rw [kept_get] at h
    split at h
    · rename_i hk; exact ⟨hk, h⟩
    · cases h
  have hmu : ∀ j Q, j < keys → g'.φ j = some Q → (gBack base ro' g g').φ (mu base (kept keep d.asg) j) = some Q := fun j Q hj hQ => by
    cases ha : aget (kept keep d.asg) j with
    | none =>
      rw [mu_other (fun n e => by rw [ha] at e; cases e)]
      simp only [gBack]
      rw [if_pos ⟨Nat.le_add_right _ _, by omega⟩, Nat.add_sub_cancel_left]
      exact hQ
    | some y =>
      cases y with
      | none =>
        rw [mu_other (fun n e => by rw [ha] at e; cases e)]
        simp only [gBack]
        rw [if_pos ⟨Nat.le_add_right _ _, by omega⟩, Nat.add_sub_cancel_left]
        exact hQ
      | some n =>
        rw [mu_some ha]
        obtain ⟨hkp, ha'⟩ := kget j _ ha
        obtain ⟨_, h2⟩ := okAsg_spec d.asg hok j _ ha'
        cases ho : hget hS n with
        | none => exact absurd ho (h2 n rfl)
        | some o =>
          obtain ⟨Q', hQ', _⟩ := MS.obj n o ho
          have h3 := E.phi j Q' (by show (if j ∈ keep then _ else none) = _; rw [if_pos hkp, gE_some ha']; exact hQ')
          rw [hQ] at h3
          cases h3
          simp only [gBack]
          rw [if_neg]
          · exact hQ'
          · rintro ⟨h4, h5⟩; rw [hf n h4 h5] at hQ'; cases hQ'
  have hkeep : ∀ b, b < w.heap.size → (¬ mtOf w g H d b ∨ g.ro b) → w'.heap[b]? = w.heap[b]? := fun b h1 h2 => E.keep b h1 (h2.imp id (hgE b))
  have ext : Ext mt g w (gBack base ro' g g') w' := by
    refine ⟨E.os, E.tape, E.output, E.size, fun b h1 h2 => hkeep b h1 (h2.imp (fun q q' => q (hmt b q')) id), hro1, fun b hb => (hroM b hb).imp id (hmt b), fun n Q hQ => ?_⟩
    simp only [gBack]
    rw [if_neg]
    · exact hQ
    · rintro ⟨h4, h5⟩; rw [hf n h4 h5] at hQ; cases hQ
  have st : Stab g w.heap (gBack base ro' g g') w'.heap := ext.stab M.ro
  -- what lies under which key
  have new : ∀ j o, (j, o) ∈ os → j < keys ∧ hget os j = some o ∧ o.iced = false ∧ (∀ i, i ∈ refsO o → i < keys) ∧ (so.flat = true → plainO o = true) := fun j o hjo => by
    obtain ⟨y, hy, h1, h2⟩ := all2_mem L.ob hjo
    have h3 : (Nat.blt y.1 keys && ofOk y.2) = true := List.all_eq_true.1 hobs y hy
    simp only [Bool.and_eq_true] at h3
    have h1' : y.1 = j := h1
    refine ⟨by rw [← h1']; exact blt_lt h3.1, mem_hget hnd L.ob hjo, h2.live, h2.refs h3.2, fun hfl => ?_⟩
    simp only [Shape.flat, Bool.and_eq_true] at hfl
    exact h2.plain (List.all_eq_true.1 hfl.2 y hy)
  have gro : ∀ p : Bool, (so.flat = true → p = true) → p = true ∨ (gBack base ro' g g').ro = g'.ro := fun p hp => hro3.elim .inr fun h => .inl (hp h)
  have view : ∀ n o, H' n = some o → (∃ j o1, (j, o1) ∈ os ∧ mu base (kept keep d.asg) j = n ∧ o = renO (mu base (kept keep d.asg)) o1) ∨ (H n = some o ∧ ∀ j, aget d.asg j ≠ some (some n)) := fun n o hn => by
    rcases k3 n with ⟨j, o1, h1, h2, h3⟩ | ⟨h1, h2⟩
    · rw [hn] at h3; cases h3; exact .inl ⟨j, o1, h1, h2, rfl⟩
    · rw [hn] at h2
      refine .inr ⟨?_, fun j hj => ?_⟩
      · rcases k1 n with q | q
        · rw [← q]; exact h2.symm
        · rw [q] at h2; cases h2
      · cases hkp : aget (kept keep d.asg) j with
        | none => rw [k2 j n (aget_mem hj) (.inl hkp)] at h2; cases h2
        | some y =>
          have := (kget j y hkp).2
          rw [hj] at this
          cases this
          cases ho : hget os j with
          | none => rw [k2 j n (aget_mem hj) (.inr ho)] at h2; cases h2
          | some o2 => exact h1 j o2 (hget_mem ho) (mu_some hkp)
  have iced : ∀ o, (renO (mu base (kept keep d.asg)) o).iced = o.iced := fun o => by cases o <;> rfl
  have oldφ : ∀ n o Q, H n = some o → (gBack base ro' g g').φ n = some Q → g.φ n = some Q := fun n o Q hn hQ => by
    obtain ⟨Q', hQ', _⟩ := M.obj n o hn
    have := ext.phi n Q' hQ'
    rw [hQ] at this
    cases this
    exact hQ'
  have newφ : ∀ j o Q, (j, o) ∈ os → (gBack base ro' g g').φ (mu base (kept keep d.asg) j) = some Q → g'.φ j = some Q := fun j o Q hj hQ => by
    obtain ⟨h1, h2, _⟩ := new j o hj
    obtain ⟨Q', hQ', _⟩ := M'.obj j o h2
    have := hmu j Q' h1 hQ'
    rw [hQ] at this
    cases this
    exact hQ'
  -- an untouched key's block is none of the callee's
  have far : ∀ n o Q b, H n = some o → (∀ j, aget d.asg j ≠ some (some n)) → g.φ n = some Q → Q.blk = some b → ¬ mtOf w g H d b := fun n o Q b hn hno hQ hb hmo => by
    rcases hmo with h | ⟨j, n', o', Q', h1, h2, h3, h4, h5⟩
    · obtain ⟨Q', hQ', hO⟩ := M.obj n o hn
      rw [hQ] at hQ'; cases hQ'
      exact absurd (hO.lt b hb) (Nat.not_lt.2 h)
    · exact M.sep n n' o o' Q Q' b (fun e => hno j (by rw [e]; exact h1)) hn h2 hQ h4 hb h5
  refine ⟨gBack base ro' g g', ext, fun n hn => if_neg hn, ?_, ?_⟩
  · refine ⟨fun n o hn => ?_, fun n o Q b hn hi hQ hb => ?_, fun n o Q b hn hi hQ hb => ?_, fun n m o o' Q Q' b hnm hn hm' hQ hQ' hb => ?_, fun b hb => ?_⟩
    · rcases view n o hn with ⟨j, o1, h1, rfl, rfl⟩ | ⟨h1, h2⟩
      · obtain ⟨a1, a2, a3, a4, a5⟩ := new j o1 h1
        obtain ⟨Q, hQ, hO⟩ := M'.obj j o1 a2
        exact ⟨Q, hmu j Q a1 hQ, ObjR.ren (fun i R hi hR => hmu i R (a4 i hi) hR) (gro _ a5) hO⟩
      · obtain ⟨Q, hQ, hO⟩ := M.obj n o h1
        refine ⟨Q, ext.phi n Q hQ, hO.stab st fun b hb => ?_⟩
        exact hkeep b (hO.lt b hb) (.inl (far n o Q b h1 h2 hQ hb))
    · rcases view n o hn with ⟨j, o1, h1, rfl, rfl⟩ | ⟨h1, h2⟩
      · obtain ⟨a1, a2, a3, a4, a5⟩ := new j o1 h1
        obtain ⟨b1, b2⟩ := M'.own j o1 Q b a2 a3 (newφ j o1 Q h1 hQ) hb
        exact ⟨hmt b b1, fun h => b2 (hro2 b h).1⟩
      · have hQ' := oldφ n o Q h1 hQ
        obtain ⟨b1, b2⟩ := M.own n o Q b h1 hi hQ' hb
        exact ⟨b1, fun h => (hroM b h).elim b2 (far n o Q b h1 h2 hQ' hb)⟩
    · rcases view n o hn with ⟨j, o1, h1, rfl, rfl⟩ | ⟨h1, h2⟩
      · rw [iced, (new j o1 h1).2.2.1] at hi; cases hi
      · exact hro1 b (M.ice n o Q b h1 hi (oldφ n o Q h1 hQ) hb)
    · rcases view n o hn with ⟨j, o1, h1, rfl, rfl⟩ | ⟨h1, h2⟩
      · obtain ⟨a1, a2, a3, a4, a5⟩ := new j o1 h1
        have hQj := newφ j o1 Q h1 hQ
        rcases view m o' hm' with ⟨i, o2, c1, rfl, rfl⟩ | ⟨c1, c2⟩
        · exact M'.sep j i o1 o2 Q Q' b (fun e => hnm (by rw [e])) a2 (new i o2 c1).2.1 hQj (newφ i o2 Q' c1 hQ') hb
        · intro hb'
          exact far m o' Q' b c1 c2 (oldφ m o' Q' c1 hQ') hb' (M'.own j o1 Q b a2 a3 hQj hb).1
      · have hQn := oldφ n o Q h1 hQ
        rcases view m o' hm' with ⟨i, o2, c1, rfl, rfl⟩ | ⟨c1, c2⟩
        · intro hb'
          obtain ⟨a1, a2, a3, _⟩ := new i o2 c1
          exact far n o Q b h1 h2 hQn hb (M'.own i o2 Q' b a2 a3 (newφ i o2 Q' c1 hQ') hb').1
        · exact M.sep n m o o' Q Q' b hnm h1 c1 hQn (oldφ m o' Q' c1 hQ') hb
    · exact M'.ro b (hro2 b hb).1
  · refine mkRes_ren (fun a ha v hav => ?_) hv
    obtain ⟨y, hy, h1, h2⟩ := all2_mem L.sl ha
    refine AVR.ren (fun i R hi hR => hmu i R (h2.refs (List.all_eq_true.1 hsls y hy) i hi) hR) (gro _ fun hfl => ?_) hav
    simp only [Shape.flat, Bool.and_eq_true] at hfl
    exact h2.plain (List.all_eq_true.1 hfl.1 y hy)
theorem finish_post {keep : List Nat} {hS : Heap} {s : Shape} {d : DS} {gA : Nat → Option AV} {x : s.X} {xas : List (Nat × AV)} {xos : Heap} {w' : World} {V : Value} {v : SV} {H' : HF} {fp fp' : FP}
    (M : Mem mt g H w.heap) (hm : ∀ b, w.heap.size ≤ b → mt b) (hf : ∀ n, base ≤ n → n < base + keys → g.φ n = none)
    (hsub : ∀ n o, hget hS n = some o → H n = some o) (R : Read s [] (hget hS) gA x d xas xos) (hok : okAsg (topKey s.ob 0) hS d.asg = true) : ∀ (ss : List Shape) (r : sumX ss), ss.all Shape.wf = true → (d.frz = [] ∨ ss.all Shape.flat = true) →
    Outs ss r (fun _ as os => ∃ g', Ext (mtOf w g H d) (gK keep (gE s d g)) w g' w' ∧ Mem (mtOf w g H d) g' (hget os) w'.heap ∧ SVR g' w'.heap (mkRes as) V) →
    (finish (kept keep d.asg) d.asg ss r).eval base H fp = some (v, H', fp') → Post mt g w base H' v V w'
  | [], r, _, _, hO, _ => hO.elim
  | [so], r, hwf, hfl, hO, hev => by
    obtain ⟨as, os, L, g', E, M', hv⟩ := hO
    simp only [List.all_cons, List.all_nil, Bool.and_true] at hwf hfl
    exact call_post M hm hf hsub R hok hwf hfl L E M' hv hev
  | so :: t :: ss, r, hwf, hfl, hO, hev => by
    simp only [List.all_cons, Bool.and_eq_true] at hwf hfl
    cases r with
    | inl y =>
      obtain ⟨as, os, L, g', E, M', hv⟩ := hO
      exact call_post M hm hf hsub R hok hwf.1 (hfl.imp id fun h => h.1) L E M' hv hev
    | inr y =>
      exact finish_post M hm hf hsub R hok (t :: ss) y (by simp only [List.all_cons, Bool.and_eq_true]; exact hwf.2) (hfl.imp id fun h => by simp only [List.all_cons, Bool.and_eq_true]; exact h.2) hO hev
/-! ### a call -/
theorem All2.nth {α β : Type} {R : α → β → Prop} : ∀ {l : List α} {m : List β} {i : Nat} {x : α}, All2 R l m → l[i]? = some x → ∃ y, m[i]? = some y ∧ R x y
  | [], _, i, x, _, h => by simp at h
  | a :: l, b :: m, 0, x, ⟨h1, _⟩, h => ⟨b, rfl, by simp only [List.getElem?_cons_zero, Option.some.injEq] at h; exact h ▸ h1⟩
  | a :: l, b :: m, i + 1, x, ⟨_, h2⟩, h => by simpa using All2.nth h2 (by simpa using h)
  | _ :: _, [], _, _, h, _ => h.elim
theorem args_of {s : Shape} {d : DS} {x : s.X} {xas : List (Nat × AV)} {xos hS : Heap} {args : List AV} {vs : List Value} {m : List Nat} (M : Mem mt g (hget hS) w.heap) (R : Read s m (hget hS) (nthA args) x d xas xos) (hv : All2 (AVR g w.heap) args vs) : ArgsR (gE s d g) w.heap xas vs.toArray := by
  intro i a hia
  obtain ⟨y, hy, h1, h2, h3, h4⟩ := all2_mem R.sl hia
  obtain ⟨u, hu, h5⟩ := hv.nth (nthA_nth _ _ _ h3)
  have : vs.toArray.getD i undef = u := by simp [Array.getD_eq_getD_getElem?, hu]
  rw [this]
  exact RelA.AVR M h4 h5
theorem callK_does {f : Nat} {S : FnSpec} {args : List AV} {vs : List Value} {hS : Heap} {m : MA SV} {v : SV} {H' : HF} {fp fp' : FP} (hs : Sound P f S) (M : Mem mt g H w.heap) (hm : ∀ b, w.heap.size ≤ b → mt b) (hf : ∀ n, base ≤ n → n < base + keys → g.φ n = none)
    (hsub : ∀ n o, hget hS n = some o → H n = some o) (hv : All2 (AVR g w.heap) args vs) (hk : S.callK args hS = some m) (hev : m.eval base H fp = some (v, H', fp')) :
    Answers P f vs.toArray w fun V w' => Post mt g w base H' v V w' := by
  unfold FnSpec.callK at hk
  obtain ⟨x, d, xas, xos, hk, R⟩ := Shape.decK_spec hk
  cases hok : okAsg (topKey S.ins.ob 0) hS d.asg with
  | false => rw [hok] at hk; cases hk
  | true =>
    rw [hok] at hk
    cases hfr : (noFrz d.frz || S.outs.all Shape.flat) with
    | false => rw [hfr] at hk; cases hk
    | true =>
      rw [hfr] at hk
      simp only [Option.some.injEq] at hk
      subst hk
      have hfl : d.frz = [] ∨ S.outs.all Shape.flat = true := by
        rcases Bool.or_eq_true_iff.1 hfr with h | h
        · refine .inl ?_
          cases hd : d.frz with
          | nil => rfl
          | cons _ _ => rw [hd] at h; cases h
        · exact .inr h
      cases hr : S.f x with
      | none => rw [hr] at hev; cases hev
      | some r =>
        rw [hr] at hev
        have hev : (finish (kept S.keep d.asg) d.asg S.outs r).eval base H fp = some (v, H', fp') := hev
        have MS : Mem mt g (hget hS) w.heap := M.sub hsub
        have ME : Mem (mtOf w g H d) (gE S.ins d g) (hget xos) w.heap := R.mem MS hs.wfi fun j n o Q b h1 h2 h3 h4 h5 => .inr ⟨j, n, o, Q, h1, hsub n o h2, h3, h4, h5⟩
        refine (hs.call x r hr (mtOf w g H d) (gE S.ins d g) w vs.toArray xas xos ?_ ME (fun b hb => .inl hb) (fun n hn => ?_) (args_of MS R hv)).mono fun V w' hO => ?_
        · obtain ⟨as, os, L⟩ := Shape.laid S.ins x
          obtain ⟨e1, e2⟩ := L.same R.enc0
          rw [e1, e2]
          exact L
        · have : aget d.asg n = none := by
            cases ha : aget d.asg n with
            | none => rfl
            | some y => exact absurd (okAsg_spec d.asg hok n y ha).1 (Nat.not_lt.2 hn)
          simp only [gE, this]
        · exact finish_post M hm hf hsub R hok S.outs r hs.wfo hfl hO hev
theorem tryAll_does {f : Nat} {args : List AV} {vs : List Value} {hS : Heap} {v : SV} {H' : HF} {fp fp' : FP} (M : Mem mt g H w.heap) (hm : ∀ b, w.heap.size ≤ b → mt b) (hf : ∀ n, base ≤ n → n < base + keys → g.φ n = none)
    (hsub : ∀ n o, hget hS n = some o → H n = some o) (hv : All2 (AVR g w.heap) args vs) : ∀ (ss : List FnSpec), (∀ S, S ∈ ss → Sound P f S) → (tryAll args hS ss).eval base H fp = some (v, H', fp') →
    Answers P f vs.toArray w fun V w' => Post mt g w base H' v V w'
  | [], _, h => by cases h
  | S :: ss, hss, h => by
    unfold tryAll at h
    split at h
    · rename_i m hk; exact callK_does (hss S List.mem_cons_self) M hm hf hsub hv hk h
    · exact tryAll_does M hm hf hsub hv ss (fun S hS => hss S (List.mem_cons_of_mem _ hS)) h
theorem callM_does {f : Nat} {ss : List FnSpec} {args : List AV} {vs : List Value} {v : SV} {H' : HF} {fp fp' : FP} (M : Mem mt g H w.heap) (hm : ∀ b, w.heap.size ≤ b → mt b) (hf : ∀ n, base ≤ n → n < base + keys → g.φ n = none)
    (hv : All2 (AVR g w.heap) args vs) (hss : ∀ S, S ∈ ss → Sound P f S) (h : (callM ss args).eval base H fp = some (v, H', fp')) : Answers P f vs.toArray w fun V w' => Post mt g w base H' v V w' := by
  unfold callM at h
  rw [MA.eval_bind] at h
  split at h
  · rename_i hS H2 fp2 hc
    obtain ⟨rfl, hsub⟩ := collect_eval 64 _ [] base H H2 fp fp2 hS (fun n o h => by cases h) hc
    exact tryAll_does M hm hf hsub hv ss hss h
  · cases h
end
end Go.Proofs.Ytmffnlcmklapmaa.Mx

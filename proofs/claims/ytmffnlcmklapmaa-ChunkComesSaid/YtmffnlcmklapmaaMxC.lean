/- The interpreter's heap programs: how they run, what they touch; how memory withstands them (own work). -/
import Derived.Test.YtmffnlcmklapmaaMxB
namespace Go.Proofs.Ytmffnlcmklapmaa.Mx
open Go
set_option autoImplicit false
set_option linter.unusedVariables false
abbrev HF := Nat → Option Obj
def upd (H : HF) (n : Nat) (o : Option Obj) : HF := fun m => if m = n then o else H m
theorem upd_same (H : HF) (n : Nat) (o : Option Obj) : upd H n o n = o := if_pos rfl
theorem upd_ne (H : HF) {n m : Nat} (o : Option Obj) (h : m ≠ n) : upd H n o m = H m := if_neg h
/-! ### a list of keys as a function -/
theorem beq_ne {k n : Nat} (h : k ≠ n) : Nat.beq k n = false := by
  cases hb : Nat.beq k n with
  | false => rfl
  | true => exact absurd (Nat.eq_of_beq_eq_true hb) h
theorem beq_eq {k n : Nat} (h : Nat.beq k n = true) : k = n := Nat.eq_of_beq_eq_true h
theorem beq_self (k : Nat) : Nat.beq k k = true := Nat.beq_refl k
theorem hget_cons (k : Nat) (o : Obj) (h : Heap) (n : Nat) : hget ((k, o) :: h) n = if k = n then some o else hget h n := by
  by_cases e : k = n
  · subst e; simp only [hget, beq_self, if_true]
  · simp only [hget, beq_ne e, if_neg e]
theorem hget_new (k : Nat) (o : Obj) (h : Heap) : hget ((k, o) :: h) = upd (hget h) k (some o) := by
  funext n
  rw [hget_cons, upd]
  by_cases e : k = n
  · rw [if_pos e, if_pos e.symm]
  · rw [if_neg e, if_neg (Ne.symm e)]
universe u
theorem hsetK_eq {R : Type u} : ∀ (h : Heap) (n : Nat) (o : Obj) (K : Heap → R), ∃ h', hsetK h n o K = K h' ∧ (hget h n ≠ none → hget h' = upd (hget h) n (some o))
  | [], n, o, K => ⟨[], rfl, fun h => absurd rfl h⟩
  | (k, a) :: h, n, o, K => by
    by_cases e : k = n
    · subst e
      refine ⟨(k, o) :: h, by simp only [hsetK, beq_self], fun _ => ?_⟩
      rw [hget_new, hget_new]
      funext m
      by_cases hm : m = k
      · subst hm; rw [upd_same, upd_same]
      · rw [upd_ne _ _ hm, upd_ne _ _ hm, upd_ne _ _ hm]
    · obtain ⟨h', h1, h2⟩ := hsetK_eq h n o fun h' => K ((k, a) :: h')
      refine ⟨(k, a) :: h', by simp only [hsetK, beq_ne e]; exact h1, fun hn => ?_⟩
      rw [hget_cons, if_neg e] at hn
      rw [hget_new, hget_new, h2 hn]
      funext m
      by_cases hm : m = n
      · subst hm; rw [upd_same, upd_ne _ _ (Ne.symm e), upd_same]
      · by_cases hk : m = k
        · subst hk; rw [upd_same, upd_ne _ _ hm, upd_same]
        · rw [upd_ne _ _ hk, upd_ne _ _ hm, upd_ne _ _ hm, upd_ne _ _ hk]
theorem hdelK_eq {R : Type u} : ∀ (h : Heap) (n : Nat) (K : Heap → R), ∃ h', hdelK h n K = K h' ∧ hget h' = upd (hget h) n none
  | [], n, K => ⟨[], rfl, by funext m; simp only [hget, upd]; split <;> rfl⟩
  | (k, a) :: h, n, K => by
    by_cases e : k = n
    · subst e
      obtain ⟨h', h1, h2⟩ := hdelK_eq h k K
      refine ⟨h', by simp only [hdelK, beq_self]; exact h1, ?_⟩
      rw [h2, hget_new]
      funext m
      by_cases hm : m = k
      · subst hm; rw [upd_same, upd_same]
      · rw [upd_ne _ _ hm, upd_ne _ _ hm, upd_ne _ _ hm]
    · obtain ⟨h', h1, h2⟩ := hdelK_eq h n fun h' => K ((k, a) :: h')
      refine ⟨(k, a) :: h', by simp only [hdelK, beq_ne e]; exact h1, ?_⟩
      rw [hget_new, hget_new, h2]
      funext m
      by_cases hm : m = n
      · subst hm; rw [upd_same, upd_ne _ _ (Ne.symm e), upd_same]
      · by_cases hk : m = k
        · subst hk; rw [upd_same, upd_ne _ _ hm, upd_same]
        · rw [upd_ne _ _ hk, upd_ne _ _ hm, upd_ne _ _ hm, upd_ne _ _ hk]
/-! ### heap programs, straight -/
def MA.eval {α : Type} : MA α → Nat → HF → FP → Option (α × HF × FP)
  | .pure a, _, H, fp => some (a, H, fp)
  | .fail, _, _, _ => none
  | .get n k, b, H, fp => match H n with
    | some o => (k o).eval b H ⟨n :: fp.reads, fp.writes⟩
    | none => none
  | .set n o k, b, H, fp => match H n with
    | some _ => k.eval b (upd H n (some o)) ⟨fp.reads, n :: fp.writes⟩
    | none => none
  | .del n k, b, H, fp => match H n with
    | some _ => k.eval b (upd H n none) ⟨fp.reads, n :: fp.writes⟩
    | none => none
  | .new s o k, b, H, fp => match H (b + s) with
    | some _ => none
    | none => if s < keys then k.eval b (upd H (b + s) (some o)) ⟨fp.reads, (b + s) :: fp.writes⟩ else none
  | .base k, b, H, fp => (k b).eval b H fp
  | .cond c t e, b, H, fp => if c = true then t.eval b H fp else e.eval b H fp
  | .bindO x k, b, H, fp => match x with
    | some y => (k y).eval b H fp
    | none => none
  | .sum x k l, b, H, fp => match x with
    | .inl y => (k y).eval b H fp
    | .inr y => (l y).eval b H fp
theorem MA.eval_bind {α β : Type} (f : α → MA β) : ∀ (m : MA α) (b : Nat) (H : HF) (fp : FP), (m.bind f).eval b H fp = match m.eval b H fp with
    | some (a, H', fp') => (f a).eval b H' fp'
    | none => none := by
  intro m
  induction m with
  | pure a => intro b H fp; rfl
  | fail => intro b H fp; rfl
  | get n k ih => intro b H fp; simp only [MA.bind, MA.eval]; cases H n <;> simp only [ih]
  | set n o k ih => intro b H fp; simp only [MA.bind, MA.eval]; cases H n <;> simp only [ih]
  | del n k ih => intro b H fp; simp only [MA.bind, MA.eval]; cases H n <;> simp only [ih]
  | new s o k ih =>
    intro b H fp
    simp only [MA.bind, MA.eval]
    cases H (b + s) with
    | some _ => rfl
    | none => by_cases hs : s < keys <;> simp only [hs, if_true, if_false, ih]
  | base k ih => intro b H fp; simp only [MA.bind, MA.eval]; exact ih b b H fp
  | cond c t e ih1 ih2 => intro b H fp; simp only [MA.bind, MA.eval]; by_cases h : c = true <;> simp only [h, if_true, if_false, ih1, ih2, Bool.false_eq_true]
  | bindO x k ih =>
    intro b H fp
    cases x with
    | none => rfl
    | some y => exact ih y b H fp
  | sum x k l ih1 ih2 =>
    intro b H fp
    cases x with
    | inl y => exact ih1 y b H fp
    | inr y => exact ih2 y b H fp
theorem MA.run_eval {α A : Type} : ∀ (m : MA α) (b : Nat) (h : Heap) (fp : FP) (K : α → Heap → FP → Option A) (r : A), m.run b h fp K = some r →
    ∃ a h' fp', m.eval b (hget h) fp = some (a, hget h', fp') ∧ K a h' fp' = some r := by
  intro m
  induction m with
  | pure a => intro b h fp K r hr; exact ⟨a, h, fp, rfl, hr⟩
  | fail => intro b h fp K r hr; cases hr
  | get n k ih =>
    intro b h fp K r hr
    simp only [MA.run] at hr
    simp only [MA.eval]
    cases ho : hget h n with
    | none => rw [ho] at hr; cases hr
    | some o => rw [ho] at hr; exact ih o b h _ K r hr
  | set n o k ih =>
    intro b h fp K r hr
    simp only [MA.run] at hr
    simp only [MA.eval]
    cases ho : hget h n with
    | none => rw [ho] at hr; cases hr
    | some o' =>
      rw [ho] at hr
      obtain ⟨h', h1, h2⟩ := hsetK_eq h n o fun h' => k.run b h' ⟨fp.reads, n :: fp.writes⟩ K
      simp only at hr
      rw [h1] at hr
      rw [← h2 (by rw [ho]; simp)]
      exact ih b h' _ K r hr
  | del n k ih =>
    intro b h fp K r hr
    simp only [MA.run] at hr
    simp only [MA.eval]
    cases ho : hget h n with
    | none => rw [ho] at hr; cases hr
    | some o' =>
      rw [ho] at hr
      obtain ⟨h', h1, h2⟩ := hdelK_eq h n fun h' => k.run b h' ⟨fp.reads, n :: fp.writes⟩ K
      simp only at hr
      rw [h1] at hr
      rw [← h2]
      exact ih b h' _ K r hr
  | new s o k ih =>
    intro b h fp K r hr
    simp only [MA.run] at hr
    simp only [MA.eval]
    cases ho : hget h (b + s) with
    | some o' => rw [ho] at hr; cases hr
    | none =>
      rw [ho] at hr
      simp only at hr
      by_cases hs : s < keys
      · have : Nat.blt s keys = true := by unfold Nat.blt; exact Nat.ble_eq_true_of_le hs
        rw [this] at hr
        simp only [hs, if_true]
        rw [← hget_new]
        exact ih b _ _ K r hr
      · have : Nat.blt s keys = false := by
          cases hb : Nat.blt s keys with
          | false => rfl
          | true => exact absurd (Nat.le_of_ble_eq_true hb) hs
        rw [this] at hr
        cases hr
  | base k ih => intro b h fp K r hr; exact ih b b h fp K r hr
  | cond c t e ih1 ih2 =>
    intro b h fp K r hr
    cases c with
    | true => exact ih1 b h fp K r hr
    | false => simp only [MA.eval, Bool.false_eq_true, if_false]; exact ih2 b h fp K r hr
  | bindO x k ih =>
    intro b h fp K r hr
    cases x with
    | none => cases hr
    | some y => exact ih y b h fp K r hr
  | sum x k l ih1 ih2 =>
    intro b h fp K r hr
    cases x with
    | inl y => exact ih1 y b h fp K r hr
    | inr y => exact ih2 y b h fp K r hr
/-- What a program touches tells all that it does. -/
theorem MA.eval_local {α : Type} : ∀ (m : MA α) (b : Nat) (H : HF) (fp : FP) (a : α) (H' : HF) (fp' : FP), m.eval b H fp = some (a, H', fp') →
    ∃ R W, fp' = ⟨R ++ fp.reads, W ++ fp.writes⟩ ∧ (∀ n, n ∉ W → H' n = H n) ∧
      ∀ (H2 : HF) (fp2 : FP), (∀ n, n ∈ R ∨ n ∈ W → H2 n = H n) → m.eval b H2 fp2 = some (a, (fun n => if n ∈ W then H' n else H2 n), ⟨R ++ fp2.reads, W ++ fp2.writes⟩) := by
  intro m
  induction m with
  | pure a =>
    intro b H fp a' H' fp' h
    simp only [MA.eval, Option.some.injEq, Prod.mk.injEq] at h
    obtain ⟨rfl, rfl, rfl⟩ := h
    exact ⟨[], [], rfl, fun _ _ => rfl, fun H2 fp2 _ => by simp [MA.eval]⟩
  | fail => intro b H fp a' H' fp' h; cases h
  | get n k ih =>
    intro b H fp a' H' fp' h
    simp only [MA.eval] at h
    cases ho : H n with
    | none => rw [ho] at h; cases h
    | some o =>
      rw [ho] at h
      obtain ⟨R, W, e, hW, hl⟩ := ih o b H _ a' H' fp' h
      refine ⟨R ++ [n], W, by rw [e]; simp, hW, fun H2 fp2 h2 => ?_⟩
      have hn : H2 n = some o := by rw [h2 n (.inl (by simp)), ho]
      simp only [MA.eval, hn]
      rw [hl H2 _ fun m hm => h2 m (hm.imp (fun x => by simp [x]) id)]
      simp
  | set n o k ih =>
    intro b H fp a' H' fp' h
    simp only [MA.eval] at h
    cases ho : H n with
    | none => rw [ho] at h; cases h
    | some o1 =>
      rw [ho] at h
      obtain ⟨R, W, e, hW, hl⟩ := ih b _ _ a' H' fp' h
      refine ⟨R, W ++ [n], by rw [e]; simp, fun m hm => ?_, fun H2 fp2 h2 => ?_⟩
      · simp only [List.mem_append, List.mem_singleton, not_or] at hm
        rw [hW m hm.1, upd_ne _ _ hm.2]
      · have hn : H2 n = some o1 := by rw [h2 n (.inr (by simp)), ho]
        simp only [MA.eval, hn]
        rw [hl (upd H2 n (some o)) _ ?_]
        · simp only [List.append_assoc, List.singleton_append, Option.some.injEq, Prod.mk.injEq, true_and, and_true]
          funext m
          by_cases hm : m ∈ W
          · simp [hm]
          · by_cases hmn : m = n
            · subst hmn; simp [hm, upd_same, hW m hm]
            · simp [hm, hmn, upd_ne]
        · intro m hm
          by_cases hmn : m = n
          · subst hmn; rw [upd_same, upd_same]
          · rw [upd_ne _ _ hmn, upd_ne _ _ hmn]; exact h2 m (hm.imp id fun x => by simp [x])
  | del n k ih =>
    intro b H fp a' H' fp' h
    simp only [MA.eval] at h
    cases ho : H n with
    | none => rw [ho] at h; cases h
    | some o1 =>
      rw [ho] at h
      obtain ⟨R, W, e, hW, hl⟩ := ih b _ _ a' H' fp' h
      refine ⟨R, W ++ [n], by rw [e]; simp, fun m hm => ?_, fun H2 fp2 h2 => ?_⟩
      · simp only [List.mem_append, List.mem_singleton, not_or] at hm
        rw [hW m hm.1, upd_ne _ _ hm.2]
      · have hn : H2 n = some o1 := by rw [h2 n (.inr (by simp)), ho]
        simp only [MA.eval, hn]
        rw [hl (upd H2 n none) _ ?_]
        · simp only [List.append_assoc, List.singleton_append, Option.some.injEq, Prod.mk.injEq, true_and, and_true]
          funext m
          by_cases hm : m ∈ W
          · simp [hm]
          · by_cases hmn : m = n
            · subst hmn; simp [hm, upd_same, hW m hm]
            · simp [hm, hmn, upd_ne]
        · intro m hm
          by_cases hmn : m = n
          · subst hmn; rw [upd_same, upd_same]
          · rw [upd_ne _ _ hmn, upd_ne _ _ hmn]; exact h2 m (hm.imp id fun x => by simp [x])
  | new s o k ih =>
    intro b H fp a' H' fp' h
    simp only [MA.eval] at h
    cases ho : H (b + s) with
    | some _ => rw [ho] at h; cases h
    | none =>
      rw [ho] at h
      simp only at h
      by_cases hs : s < keys
      · simp only [hs, if_true] at h
        obtain ⟨R, W, e, hW, hl⟩ := ih b _ _ a' H' fp' h
        refine ⟨R, W ++ [b + s], by rw [e]; simp, fun m hm => ?_, fun H2 fp2 h2 => ?_⟩
        · simp only [List.mem_append, List.mem_singleton, not_or] at hm
          rw [hW m hm.1, upd_ne _ _ hm.2]
        · have hn : H2 (b + s) = none := by rw [h2 (b + s) (.inr (by simp)), ho]
          simp only [MA.eval, hn, hs, if_true]
          rw [hl (upd H2 (b + s) (some o)) _ ?_]
          · simp only [List.append_assoc, List.singleton_append, Option.some.injEq, Prod.mk.injEq, true_and, and_true]
            funext m
            by_cases hm : m ∈ W
            · simp [hm]
            · by_cases hmn : m = b + s
              · subst hmn; simp [hm, upd_same, hW _ hm]
              · simp [hm, hmn, upd_ne]
          · intro m hm
            by_cases hmn : m = b + s
            · subst hmn; rw [upd_same, upd_same]
            · rw [upd_ne _ _ hmn, upd_ne _ _ hmn]; exact h2 m (hm.imp id fun x => by simp [x])
      · simp only [hs, if_false] at h
        cases h
  | base k ih => intro b H fp a' H' fp' h; exact ih b b H fp a' H' fp' h
  | cond c t e ih1 ih2 =>
    intro b H fp a' H' fp' h
    cases c with
    | true => exact ih1 b H fp a' H' fp' h
    | false =>
      simp only [MA.eval, Bool.false_eq_true, if_false] at h
      obtain ⟨R, W, e, hW, hl⟩ := ih2 b H fp a' H' fp' h
      exact ⟨R, W, e, hW, fun H2 fp2 h2 => by simp only [MA.eval, Bool.false_eq_true, if_false]; exact hl H2 fp2 h2⟩
  | bindO x k ih =>
    intro b H fp a' H' fp' h
    cases x with
    | none => cases h
    | some y => exact ih y b H fp a' H' fp' h
  | sum x k l ih1 ih2 =>
    intro b H fp a' H' fp' h
    cases x with
    | inl y => exact ih1 y b H fp a' H' fp' h
    | inr y => exact ih2 y b H fp a' H' fp' h
/-! ### steps of memory -/
structure Ext (mt : Nat → Prop) (g : Gh) (w : World) (g' : Gh) (w' : World) : Prop where
  os : w'.os = w.os
  tape : w'.tape = w.tape
  output : w'.output = w.output
  size : w.heap.size ≤ w'.heap.size
  keep : ∀ b, b < w.heap.size → (¬ mt b ∨ g.ro b) → w'.heap[b]? = w.heap[b]?
  ro : ∀ b, g.ro b → g'.ro b
  ro' : ∀ b, g'.ro b → g.ro b ∨ mt b
  phi : ∀ n P, g.φ n = some P → g'.φ n = some P
theorem Ext.refl (mt : Nat → Prop) (g : Gh) (w : World) : Ext mt g w g w := ⟨rfl, rfl, rfl, Nat.le_refl _, fun _ _ _ => rfl, fun _ h => h, fun _ h => .inl h, fun _ _ h => h⟩
theorem Ext.trans {mt : Nat → Prop} {g g' g2 : Gh} {w w' w2 : World} (a : Ext mt g w g' w') (b : Ext mt g' w' g2 w2) : Ext mt g w g2 w2 :=
  ⟨b.os.trans a.os, b.tape.trans a.tape, b.output.trans a.output, Nat.le_trans a.size b.size,
   fun c hc hk => (b.keep c (Nat.lt_of_lt_of_le hc a.size) (hk.imp id (a.ro c))).trans (a.keep c hc hk),
   fun c h => b.ro c (a.ro c h), fun c h => (b.ro' c h).elim (a.ro' c) .inr, fun n P h => b.phi n P (a.phi n P h)⟩
theorem Ext.stab {mt : Nat → Prop} {g g' : Gh} {w w' : World} (a : Ext mt g w g' w') (h : ∀ b, g.ro b → b < w.heap.size) : Stab g w.heap g' w'.heap :=
  ⟨a.ro, fun b hb => a.keep b (h b hb) (.inr hb), a.phi⟩
theorem lt_of_get {α : Type} {a : Array α} {b : Nat} {x : α} (h : a[b]? = some x) : b < a.size := by
  rcases Nat.lt_or_ge b a.size with h' | h'
  · exact h'
  · simp [Array.getElem?_eq_none h'] at h
theorem ObjR.lt {g : Gh} {hp : HP} {P : Pl} : ∀ {o : Obj}, ObjR g hp P o → ∀ b, P.blk = some b → b < hp.size
  | .box _, ⟨c, vs, t, h1, h2, _⟩, b, hb => by rw [h1] at hb; cases hb; exact lt_of_get h2
  | .arr e l, h, b, hb => by obtain ⟨_, _, _, h4⟩ := h; rw [hb] at h4; obtain ⟨_, vs, t, us, rest, h6, _⟩ := h4; exact lt_of_get h6
  | .ice e l, h, b, hb => by obtain ⟨_, _, _, h4⟩ := h; rw [hb] at h4; obtain ⟨_, vs, t, us, rest, h6, _⟩ := h4; exact lt_of_get h6
/-- Key n is laid, or laid anew, at a place whose block is nobody else's. -/
theorem Mem.put {mt : Nat → Prop} {g g' : Gh} {H : HF} {hp hp' : HP} (M : Mem mt g H hp) {n : Nat} {o : Obj} {P : Pl} (hn : g'.φ n = some P)
    (hφ : ∀ m Q, g.φ m = some Q → g'.φ m = some Q) (hro : g'.ro = g.ro) (hi : o.iced = false)
    (hb : ∀ b, P.blk = some b → mt b ∧ ¬ g.ro b ∧ ∀ m o' Q, m ≠ n → H m = some o' → g.φ m = some Q → Q.blk ≠ some b)
    (hk : ∀ c, c < hp.size → P.blk ≠ some c → hp'[c]? = hp[c]?) (hs : hp.size ≤ hp'.size) (ho : ObjR g' hp' P o) : Mem mt g' (upd H n (some o)) hp' := by
  have st : Stab g hp g' hp' := ⟨fun b h => by rw [hro]; exact h, fun b h => hk b (M.ro b h) (fun e => (hb b e).2.1 h), hφ⟩
  have old : ∀ m o', m ≠ n → H m = some o' → ∃ Q, g.φ m = some Q ∧ ObjR g hp Q o' := fun m o' _ h => M.obj m o' h
  refine ⟨fun m o' h => ?_, fun m o' Q b h hice hQ hQb => ?_, fun m o' Q b h hice hQ hQb => ?_, fun m k o1 o2 Q1 Q2 b hmk h1 h2 hq1 hq2 hb1 => ?_, fun b h => ?_⟩
  · by_cases e : m = n
    · subst e; rw [upd_same] at h; cases h; exact ⟨P, hn, ho⟩
    · rw [upd_ne _ _ e] at h
      obtain ⟨Q, hQ, hO⟩ := M.obj m o' h
      exact ⟨Q, hφ m Q hQ, hO.stab st fun b hQb => hk b (hO.lt b hQb) fun ec => (hb b ec).2.2 m o' Q e h hQ hQb⟩
  · by_cases e : m = n
    · subst e; rw [hn] at hQ; cases hQ; rw [hro]; exact ⟨(hb b hQb).1, (hb b hQb).2.1⟩
    · rw [upd_ne _ _ e] at h
      obtain ⟨Q', hQ', _⟩ := M.obj m o' h
      have : Q' = Q := by rw [hφ m Q' hQ'] at hQ; exact Option.some.inj hQ
      subst this
      rw [hro]; exact M.own m o' Q' b h hice hQ' hQb
  · by_cases e : m = n
    · subst e; rw [upd_same] at h; cases h; rw [hi] at hice; cases hice
    · rw [upd_ne _ _ e] at h
      obtain ⟨Q', hQ', _⟩ := M.obj m o' h
      have : Q' = Q := by rw [hφ m Q' hQ'] at hQ; exact Option.some.inj hQ
      subst this
      rw [hro]; exact M.ice m o' Q' b h hice hQ' hQb
  · by_cases e1 : m = n
    · subst e1
      rw [hn] at hq1; cases hq1
      rw [upd_ne _ _ (Ne.symm hmk)] at h2
      obtain ⟨Q', hQ', _⟩ := M.obj k o2 h2
      have : Q' = Q2 := by rw [hφ k Q' hQ'] at hq2; exact Option.some.inj hq2
      subst this
      exact (hb b hb1).2.2 k o2 Q' (Ne.symm hmk) h2 hQ'
    · rw [upd_ne _ _ e1] at h1
      obtain ⟨Q', hQ', _⟩ := M.obj m o1 h1
      have : Q' = Q1 := by rw [hφ m Q' hQ'] at hq1; exact Option.some.inj hq1
      subst this
      by_cases e2 : k = n
      · subst e2
        rw [hn] at hq2; cases hq2
        exact fun e => (hb b e).2.2 m o1 Q' e1 h1 hQ' hb1
      · rw [upd_ne _ _ e2] at h2
        obtain ⟨Q3, hQ3, _⟩ := M.obj k o2 h2
        have : Q3 = Q2 := by rw [hφ k Q3 hQ3] at hq2; exact Option.some.inj hq2
        subst this
        exact M.sep m k o1 o2 Q' Q3 b hmk h1 h2 hQ' hQ3 hb1
  · rw [hro] at h; exact Nat.lt_of_lt_of_le (M.ro b h) hs
theorem Mem.del {mt : Nat → Prop} {g : Gh} {H : HF} {hp : HP} (M : Mem mt g H hp) (n : Nat) : Mem mt g (upd H n none) hp := by
  have back : ∀ m o, upd H n none m = some o → m ≠ n ∧ H m = some o := fun m o h => by
    by_cases e : m = n
    · subst e; rw [upd_same] at h; cases h
    · rw [upd_ne _ _ e] at h; exact ⟨e, h⟩
  exact ⟨fun m o h => M.obj m o (back m o h).2, fun m o P b h => M.own m o P b (back m o h).2, fun m o P b h => M.ice m o P b (back m o h).2,
    fun m k o o' P Q b hmk h1 h2 => M.sep m k o o' P Q b hmk (back m o h1).2 (back k o' h2).2, M.ro⟩
/-- A row of the call's own is written to no more. -/
theorem Mem.freeze {mt : Nat → Prop} {g : Gh} {H : HF} {hp : HP} (M : Mem mt g H hp) {n : Nat} {e : Ty} {l : List e.T} {P : Pl} (hn : H n = some (.arr e l)) (hP : g.φ n = some P) :
    Mem mt ⟨g.φ, fun b => g.ro b ∨ P.blk = some b⟩ (upd H n (some (.ice e l))) hp := by
  have st : Stab g hp ⟨g.φ, fun b => g.ro b ∨ P.blk = some b⟩ hp := ⟨fun b h => .inl h, fun _ _ => rfl, fun _ _ h => h⟩
  obtain ⟨P', hP', hO⟩ := M.obj n _ hn
  have : P' = P := by rw [hP] at hP'; exact (Option.some.inj hP').symm
  subst this
  refine ⟨fun m o h => ?_, fun m o Q b h hice hQ hQb => ?_, fun m o Q b h hice hQ hQb => ?_, fun m k o1 o2 Q1 Q2 b hmk h1 h2 hq1 hq2 hb1 => ?_, fun b h => ?_⟩
  · by_cases e : m = n
    · subst e; rw [upd_same] at h; cases h
      exact ⟨P', hP, (show ObjR _ hp P' (.ice _ l) from (hO.stab st fun _ _ => rfl : ObjR _ hp P' (.arr _ l)))⟩
    · rw [upd_ne _ _ e] at h
      obtain ⟨Q, hQ, hO'⟩ := M.obj m o h
      exact ⟨Q, hQ, hO'.stab st fun _ _ => rfl⟩
  · by_cases e : m = n
    · subst e; rw [upd_same] at h; cases h; cases hice
    · rw [upd_ne _ _ e] at h
      have := M.own m o Q b h hice hQ hQb
      exact ⟨this.1, fun hr => hr.elim this.2 fun he => M.sep m n o _ Q P' b e h hn hQ hP hQb he⟩
  · by_cases e : m = n
    · subst e; rw [hP] at hQ; cases hQ; exact .inr hQb
    · rw [upd_ne _ _ e] at h
      exact .inl (M.ice m o Q b h hice hQ hQb)
  · have back : ∀ m o, upd H n (some (.ice e l)) m = some o → ∃ o', H m = some o' := fun m o h => by
      by_cases e' : m = n
      · subst e'; exact ⟨_, hn⟩
      · rw [upd_ne _ _ e'] at h; exact ⟨o, h⟩
    obtain ⟨o1', h1'⟩ := back m o1 h1
    obtain ⟨o2', h2'⟩ := back k o2 h2
    exact M.sep m k o1' o2' Q1 Q2 b hmk h1' h2' hq1 hq2 hb1
  · exact h.elim (M.ro b) fun he => hO.lt b he
end Go.Proofs.Ytmffnlcmklapmaa.Mx

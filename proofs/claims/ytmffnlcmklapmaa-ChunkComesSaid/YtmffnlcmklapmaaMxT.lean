/- The interpreter's run tells what the code does (own work). -/
import Derived.Test.YtmffnlcmklapmaaMxS
namespace Go.Proofs.Ytmffnlcmklapmaa.Mx
open Go
set_option autoImplicit false
set_option linter.unusedVariables false
set_option linter.unusedSimpArgs false
universe u
variable {P : Program}
def exitOf : Ex → Exit
  | .norm => .normal
  | .exit i => .exit i
  | .goto i => .goto i
  | .ret => .ret
def Inv (mt : Nat → Prop) (g0 : Gh) (w0 : World) (ds : List Deferred) (N : Nat) (s : St) (a : Act) (w : World) : Prop := ∃ g, After mt g0 w0 (hget s.heap) s.slots s.next ds N a w g
/-! ### slots laid -/
def layS : List (Nat × AV) → List SV → List SV
  | [], sl => sl
  | (i, a) :: r, sl => layS r (sl.set i (.v a))
theorem laySl_eq {R : Type} : ∀ (as : List (Nat × AV)) (sl : List SV) (K : List SV → R), laySl as sl K = K (layS as sl)
  | [], sl, K => rfl
  | (i, a) :: r, sl, K => by rw [laySl, setK_eq, laySl_eq r]; rfl
theorem layS_len : ∀ (as : List (Nat × AV)) (sl : List SV), (layS as sl).length = sl.length
  | [], sl => rfl
  | (i, a) :: r, sl => by rw [layS, layS_len r]; simp
theorem deads_len : ∀ n, (deads n).length = n
  | 0 => rfl
  | n + 1 => by simp [deads, deads_len n]
theorem deads_get : ∀ (n t : Nat), getS (deads n) t = .dead
  | 0, t => rfl
  | n + 1, 0 => rfl
  | n + 1, t + 1 => deads_get n t
theorem len'_eq : ∀ l : List SV, len' l = l.length
  | [] => rfl
  | _ :: l => by simp [len', len'_eq l]
theorem layS_R {g : Gh} {hp : HP} {a : Act} : ∀ (as : List (Nat × AV)) (sl : List SV), (∀ i x, (i, x) ∈ as → AVR g hp x (a.tmps.getD i undef)) → SlR g hp sl a → SlR g hp (layS as sl) a
  | [], sl, _, h => h
  | (i, x) :: r, sl, hx, h => by
    refine layS_R r _ (fun j y hj => hx j y (List.mem_cons_of_mem _ hj)) fun t => ?_
    rw [getS_set]
    by_cases e : i = t ∧ i < sl.length
    · rw [if_pos e, ← e.1]; exact hx i x List.mem_cons_self
    · rw [if_neg e]; exact h t
def laidSt (as : List (Nat × AV)) (os : Heap) (n nx : Nat) : St := ⟨layS as (deads n), os, nx⟩
theorem topKey_le : ∀ (l : List (Nat × OF)) (n : Nat), n ≤ topKey l n
  | [], n => Nat.le_refl n
  | (k, _) :: r, n => Nat.le_trans (Nat.le_max_left n (k + 1)) (topKey_le r _)
theorem keysLt_spec {m : Nat} : ∀ (l : List (Nat × Option Nat)), keysLt m l = true → ∀ j x, aget l j = some x → j < m
  | [], _, j, x, h => by cases h
  | (k, y) :: r, h, j, x, hx => by
    simp only [keysLt] at h
    cases hb : Nat.blt k m with
    | false => rw [hb] at h; cases h
    | true =>
      rw [hb] at h
      rw [aget_cons] at hx
      by_cases e : k = j
      · exact e ▸ blt_lt hb
      · rw [if_neg e] at hx; exact keysLt_spec r h j x hx
section
variable {mt : Nat → Prop} {g0 : Gh} {w0 : World} {ds : List Deferred} {N : Nat} {E : Env}
theorem Read.ext {s : Shape} {h : RH} {gA : Nat → Option AV} {x : s.X} {d : DS} {as : List (Nat × AV)} {os : Heap} {g : Gh} {w : World} {m : List Nat} (R : Read s m h gA x d as os) (e : Ext mt g0 w0 g w) (M : Mem mt g h w.heap) (hg0 : ∀ n, ¬ n ∈ m → g0.φ n = none) : Ext mt g0 w0 (gE s d g) w := by
  refine ⟨e.os, e.tape, e.output, e.size, e.keep, fun b hb => .inl (e.ro b hb), fun b hb => ?_, fun n Q hQ => ?_⟩
  · exact (R.ro M b hb).elim (e.ro' b) .inr
  · have hn : n ∈ m := by
      by_cases q : n ∈ m
      · exact q
      · rw [hg0 n q] at hQ; cases hQ
    rw [gE_some (R.ids n hn)]
    exact e.phi n Q hQ
theorem decSt_spec (hg0 : ∀ n, ¬ n ∈ E.keep → g0.φ n = none) {R : Type} {J : Shape} {s : St} {K : J.X → Option R} {r : R} (h : decSt J E.m E.keep s K = some r) :
    ∃ x as os, K x = some r ∧ (∀ {R : Type} (K' : List (Nat × AV) → Heap → R), J.encK x K' = K' as os) ∧ ∀ a w n, n ≤ N → Inv mt g0 w0 ds N s a w → Inv mt g0 w0 ds N (laidSt as os n (topKey J.ob E.m)) a w := by
  unfold decSt at h
  cases hw : J.wf with
  | false => rw [hw] at h; cases h
  | true =>
    rw [hw] at h
    obtain ⟨x, d, as, os, hk, R⟩ := Shape.decK_spec h
    cases hlt : keysLt (topKey J.ob E.m) d.asg with
    | false => rw [hlt] at hk; cases hk
    | true =>
      rw [hlt] at hk
      refine ⟨x, as, os, hk, R.enc0, fun a w n hn ⟨g, A⟩ => ⟨gE J d g, R.ext A.ext A.mem hg0, R.mem A.mem hw fun j k o Q b h1 h2 h3 h4 h5 => (A.mem.own k o Q b h2 h3 h4 h5).1, ?_, ?_, ?_, A.dfs⟩⟩
      · refine layS_R as _ (fun i y hi => ?_) (fun t => by rw [deads_get]; trivial)
        obtain ⟨z, hz, h1, a', h2, h3⟩ := all2_mem R.sl hi
        have h4 : getS s.slots i = .v a' := by
          have h2 : svA (getS s.slots i) = some a' := h2
          cases hq : getS s.slots i with
          | v b => rw [hq] at h2; simp only [svA, Option.some.injEq] at h2; rw [h2]
          | tup _ => rw [hq] at h2; cases h2
        have h5 := A.slr i
        rw [h4] at h5
        exact RelA.AVR A.mem h3 h5
      · show (layS as (deads n)).length ≤ _
        rw [layS_len, deads_len, A.dfs.2]; exact hn
      · intro k hk
        have : aget d.asg k = none := by
          cases ha : aget d.asg k with
          | none => rfl
          | some y => exact absurd (keysLt_spec d.asg hlt k y ha) (Nat.not_lt.2 hk)
        simp only [gE, this]
theorem encSt_eq {R : Type} {J : Shape} {m n : Nat} {x : J.X} {as : List (Nat × AV)} {os : Heap} (h : ∀ {R : Type} (K' : List (Nat × AV) → Heap → R), J.encK x K' = K' as os) (K : St → R) : encSt J m n x K = K (laidSt as os n (topKey J.ob m)) := by
  unfold encSt
  rw [h, laySl_eq]
  rfl
/-! ### regions -/
theorem idx_range : ∀ (n a : Nat), idx a n = List.range' a n
  | 0, a => rfl
  | n + 1, a => by rw [idx, idx_range n, List.range'_succ]
theorem Inv.drawn {s : St} {a : Act} {w : World} (h : Inv mt g0 w0 ds N s a w) : Inv mt g0 w0 ds N s a { w with drawn := w.drawn + 1 } := by
  obtain ⟨g, A⟩ := h
  exact ⟨g, ⟨A.ext.os, A.ext.tape, A.ext.output, A.ext.size, A.ext.keep, A.ext.ro, A.ext.ro', A.ext.phi⟩, A.mem, A.slr, A.len, A.nx, A.dfs⟩
theorem region_does (ok : EnvOk P E) (hord : P.follows .mixedOrders = true) (hm0 : ∀ b, w0.heap.size ≤ b → mt b) {id : Nat} {ops : Array Oper} {draw : Bool} {A : Type} {s : St} {K : Ex → St → Option A} {r : A} (h : exec E (.region id ops draw) none s K = some r) :
    ∃ s', K .norm s' = some r ∧ ∀ (Q : Exit → Act → World → Prop), (∀ a w, Inv mt g0 w0 ds N s' a w → Q .normal a w) → ∀ a w, Inv mt g0 w0 ds N s a w → (Code.region id ops draw).wp P Q a w := by
  rw [exec] at h
  obtain ⟨sl', h', l, hl, hK, hR⟩ := runOps_E (next := s.next) ops.toList 0 s.slots s.heap [] _ r (fun k o ho => by rw [Nat.zero_add]; exact ho) (by rw [Nat.mul_zero, Nat.add_zero]; exact h)
  simp only [List.append_nil, List.reverse_reverse] at hK
  have fresh : ∀ g : Gh, (∀ n, s.next ≤ n → g.φ n = none) → (∀ k, k ∈ idx 0 ops.toList.length → ∀ n, s.next + keys * k ≤ n → n < s.next + keys * k + keys → g.φ n = none) ∧ ∀ n, s.next + keys * ops.size ≤ n → g.φ n = none := fun g hg =>
    ⟨fun k _ n h1 _ => hg n (Nat.le_trans (Nat.le_add_right _ _) h1), fun n h1 => hg n (Nat.le_trans (Nat.le_add_right _ _) h1)⟩
  refine ⟨⟨sl', h', s.next + keys * ops.size⟩, ?_, fun Q hQ a w hI => ?_⟩
  · cases draw with
    | false => exact hK
    | true =>
      cases hc : allApart ops.toList (predsOf ops.toList) l 0 ops.toList l with
      | false => rw [hc] at hK; cases hK
      | true => rw [hc] at hK; exact hK
  · have hQ' : ∀ a w g, After mt g0 w0 (hget h') sl' (s.next + keys * ops.size) ds N a w g → Q .normal a w := fun a w g A => hQ a w ⟨g, A⟩
    cases draw with
    | false =>
      obtain ⟨g, A⟩ := hI
      refine wp_region ?_
      have e : List.range ops.size = idx 0 ops.toList.length := by rw [idx_range, List.range_eq_range']; simp
      rw [e]
      exact wpOps_runs ok hm0 hQ' _ a w g _ _ (by rw [idx_range]; exact List.nodup_range') (fun i hi => by have := (mem_idx _ _ _).1 hi; simpa using this.2) hR A.ext A.mem A.slr A.len A.dfs (fresh g A.nx).1 (fresh g A.nx).2
    | true =>
      obtain ⟨g, A⟩ := hI.drawn
      cases hc : allApart ops.toList (predsOf ops.toList) l 0 ops.toList l with
      | false => rw [hc] at hK; cases hK
      | true =>
        have hu : unl ops (Array.replicate ops.size false) = idx 0 ops.toList.length := by
          unfold unl
          rw [show ops.toList.length = ops.size by simp]
          refine List.filter_eq_self.2 fun k hk => ?_
          have := (mem_idx _ _ _).1 hk
          simp [Array.getD, show k < ops.size by omega]
        have spec := allApart_spec ops.toList l 0 hc
        have at_ : ∀ i o, ops[i]? = some o → ops.toList[i]? = some o ∧ ∃ p, l[i]? = some p := fun i o ho => by
          refine ⟨by rw [Array.getElem?_toList]; exact ho, ?_⟩
          have hi : i < l.length := by rw [hl]; simpa using (Array.getElem?_eq_some_iff.1 ho).1
          exact ⟨l[i], List.getElem?_eq_getElem hi⟩
        refine wp_region_any hord (wpAny_runs ok hm0 (F := fun k => l.getD (k - 0) ⟨[], []⟩) (pre := fun k j => Nat.testBit ((predsOf ops.toList).getD k 0) j = true) hQ' (fun i o ho e he hb => ?_) (fun i o ho j hj => ?_) (fun i j oi oj hoi hoj hji => ?_) ops.size _ a _ g s.slots _ (by simp) (by rw [hu, idx_range]; simp) (fun k hk hl' => ?_) (by rw [hu]; exact hR) A.ext A.mem A.slr A.len A.dfs (by rw [hu]; exact (fresh g A.nx).1) (fresh g A.nx).2)
        · obtain ⟨h1, p, h2⟩ := at_ i o ho
          have := (spec i o p h1 h2).1 e he hb
          simpa using this
        · have := (preds_spec ops.toList []).2 i o (at_ i o ho).1 j (by simpa [predsOf] using hj)
          exact this
        · obtain ⟨h1, p, h2⟩ := at_ i oi hoi
          obtain ⟨h3, q, h4⟩ := at_ j oj hoj
          have := (spec i oi p h1 h2).2 j oj q (by simpa using hji) h3 h4
          simp only [Nat.zero_add] at this
          refine this.imp (fun q => q) fun hA => ?_
          simp only [Nat.sub_zero, List.getD_eq_getElem?_getD, h2, h4, Option.getD_some]
          exact hA
        · simp [Array.getD, hk] at hl'
/-! ### code -/
def LoopP (P : Program) (c : Code) (Q : Exit → Act → World → Prop) (a : Act) (w : World) : Prop :=
  ∀ (b : Frame) (k : List Item) (cs : List Frame), ∃ e a' w', Q e a' w' ∧ Arrives P (lone (b.at a (.code c :: .inLoop c :: k)) cs w) b k cs e a' w'
theorem loop_round {c : Code} {Q : Exit → Act → World → Prop} {a : Act} {w : World} (h : c.wp P (Exit.then (LoopP P c Q) Q) a w) : LoopP P c Q a w := by
  intro b k cs
  obtain ⟨e, a₁, w₁, hq, harr⟩ := h b (.inLoop c :: k) cs
  cases e with
  | normal =>
    obtain ⟨e₂, a₂, w₂, hq₂, harr₂⟩ := hq b k cs
    exact ⟨e₂, a₂, w₂, hq₂, .of_steps (Steps.trans harr (.one step_inLoop)) harr₂⟩
  | exit id => exact ⟨_, a₁, w₁, hq, .pass (x := .inLoop c) rfl (fun _ _ => .inl (by simp)) harr⟩
  | goto l => exact ⟨_, a₁, w₁, hq, .pass (x := .inLoop c) rfl (fun _ _ => .inl (by simp)) harr⟩
  | ret => exact ⟨_, a₁, w₁, hq, .pass (x := .inLoop c) rfl (fun _ _ => .inl (by simp)) harr⟩
  | panic ch => exact ⟨_, a₁, w₁, hq, .pass (x := .inLoop c) rfl (fun _ _ => .inl (by simp)) harr⟩
  | outgrown => exact ⟨_, a₁, w₁, hq, .pass (x := .inLoop c) rfl (fun _ _ => .inl (by simp)) harr⟩
theorem loop_start {c : Code} {Q : Exit → Act → World → Prop} {a : Act} {w : World} (h : LoopP P c Q a w) : (Code.loop c).wp P Q a w := fun b k cs =>
  let ⟨e, a', w', hq, harr⟩ := h b k cs
  ⟨e, a', w', hq, .of_steps (.one step_loop) harr⟩
theorem it_spec {X B : Type} {step : (X → Option B) → X → Option B} {r : B} {G : X → Prop} (h : ∀ rec x, (∀ y, rec y = some r → G y) → step rec x = some r → G x) : ∀ (n : Nat) (x : X), it step n x = some r → G x
  | 0, x, hx => by rw [it_zero] at hx; cases hx
  | n + 1, x, hx => h (it step n) x (fun y hy => it_spec h n y hy) (by rw [it_succ] at hx; exact hx)
/-! ### scopes -/
def ScopeP (P : Program) (body rest : Code) (Q : Exit → Act → World → Prop) (a : Act) (w : World) : Prop :=
  ∀ (b : Frame) (k : List Item) (cs : List Frame), ∃ e a' w', Q e a' w' ∧ Arrives P (lone (b.at a (.code rest :: .inScope body :: k)) cs w) b k cs e a' w'
theorem step_inScope {P : Program} {b : Frame} {a : Act} {k : List Item} {cs : List Frame} {w : World} {body : Code} : step P (lone (b.at a (.inScope body :: k)) cs w) = .next (lone (b.at a k) cs w) :=
  step_lone_go (by simp [stepG, stepG.exec, Frame.at])
theorem step_scope {P : Program} {b : Frame} {a : Act} {k : List Item} {cs : List Frame} {w : World} {body : Code} : step P (lone (b.at a (.code (.scope body) :: k)) cs w) = .next (lone (b.at a (.code body :: .inScope body :: k)) cs w) :=
  step_lone_go (by simp [stepG, stepG.exec, Frame.at])
def Exit.inScope (P : Program) (body : Code) (Q : Exit → Act → World → Prop) : Exit → Act → World → Prop
  | .goto l, a, w => match findLabel body l with
    | some rest => ScopeP P body rest Q a w
    | none => Q (.goto l) a w
  | e, a, w => Q e a w
theorem scope_round {body rest : Code} {Q : Exit → Act → World → Prop} {a : Act} {w : World} (h : rest.wp P (Exit.inScope P body Q) a w) : ScopeP P body rest Q a w := by
  intro b k cs
  obtain ⟨e, a₁, w₁, hq, harr⟩ := h b (.inScope body :: k) cs
  cases e with
  | normal => exact ⟨.normal, a₁, w₁, hq, Steps.trans harr (.one step_inScope)⟩
  | exit id => exact ⟨.exit id, a₁, w₁, hq, fun k' hk => harr k' (by simp [exitTo, hk])⟩
  | goto l =>
    cases hl : findLabel body l with
    | none =>
      simp only [Exit.inScope, hl] at hq
      exact ⟨.goto l, a₁, w₁, hq, fun k' hk => harr k' (by simp [gotoIn, hl, hk])⟩
    | some rest' =>
      simp only [Exit.inScope, hl] at hq
      obtain ⟨e₂, a₂, w₂, hq₂, harr₂⟩ := hq b k cs
      exact ⟨e₂, a₂, w₂, hq₂, .of_steps (harr (.code rest' :: .inScope body :: k) (by simp [gotoIn, hl])) harr₂⟩
  | ret => exact ⟨.ret, a₁, w₁, hq, harr⟩
  | panic ch => exact ⟨.panic ch, a₁, w₁, hq, harr⟩
  | outgrown => exact ⟨.outgrown, a₁, w₁, hq, harr⟩
theorem scope_start {body : Code} {Q : Exit → Act → World → Prop} {a : Act} {w : World} (h : ScopeP P body body Q a w) : (Code.scope body).wp P Q a w := fun b k cs =>
  let ⟨e, a', w', hq, harr⟩ := h b k cs
  ⟨e, a', w', hq, .of_steps (.one step_scope) harr⟩
theorem hasLabel_find : ∀ (c : Code) (l : Nat), hasLabel c l = (findLabel c l).isSome
  | .seq a b, l => by
    rw [hasLabel, findLabel, hasLabel_find a l, hasLabel_find b l]
    cases findLabel a l <;> simp
  | .label l', l => by
    simp only [hasLabel, findLabel]
    by_cases e : l' = l
    · subst e; simp [beq_self]
    · rw [beq_ne e]; simp [e]
  | .skip, _ => rfl
  | .region _ _ _, _ => rfl
  | .cond _ _ _, _ => rfl
  | .block _ _, _ => rfl
  | .loop _, _ => rfl
  | .exit _, _ => rfl
  | .goto _, _ => rfl
  | .ret, _ => rfl
  | .scope _, _ => rfl
  | .rangeFunc _ _ _ _, _ => rfl
  | .refuse _, _ => rfl
theorem exec_does (ok : EnvOk P E) (hord : P.follows .mixedOrders = true) (hm0 : ∀ b, w0.heap.size ≤ b → mt b) (hg0 : ∀ n, ¬ n ∈ E.keep → g0.φ n = none) : ∀ (c : Code),
    (∀ {A : Type} (s : St) (K : Ex → St → Option A) (r : A), exec E c none s K = some r → ∀ (Q : Exit → Act → World → Prop), (∀ e s', K e s' = some r → ∀ a w, Inv mt g0 w0 ds N s' a w → Q (exitOf e) a w) → ∀ a w, Inv mt g0 w0 ds N s a w → c.wp P Q a w) ∧
    (∀ (l : Nat) {A : Type} (s : St) (K : Ex → St → Option A) (r : A), exec E c (some l) s K = some r → ∃ rest, findLabel c l = some rest ∧ ∀ (Q : Exit → Act → World → Prop), (∀ e s', K e s' = some r → ∀ a w, Inv mt g0 w0 ds N s' a w → Q (exitOf e) a w) → ∀ a w, Inv mt g0 w0 ds N s a w → rest.wp P Q a w) := by
  have lenN : ∀ (s : St) (a : Act) (w : World), Inv mt g0 w0 ds N s a w → len' s.slots ≤ N := fun s a w ⟨g, hA⟩ => by
    rw [len'_eq, ← hA.dfs.2]; exact hA.len
  intro c
  induction c with
  | skip => exact ⟨fun s K r h Q hQ a w hI => wp_skip (hQ .norm s h a w hI), fun l A s K r h => by cases h⟩
  | region id ops draw =>
    refine ⟨fun s K r h Q hQ a w hI => ?_, fun l A s K r h => by cases h⟩
    obtain ⟨s', h1, h2⟩ := region_does (mt := mt) (g0 := g0) (w0 := w0) (ds := ds) (N := N) ok hord hm0 h
    exact h2 Q (fun a w hI' => hQ .norm s' h1 a w hI') a w hI
  | seq x y ihx ihy =>
    refine ⟨fun {A} s K r h Q hQ a w hI => ?_, fun l A s K r h => ?_⟩
    · rw [exec] at h
      refine wp_seq ?_
      split at h
      · refine ihx.1 s _ r h _ (fun e s' hk a w hI' => ?_) a w hI
        cases e with
        | norm => exact ihy.1 s' K r hk Q hQ a w hI'
        | exit i => exact hQ (.exit i) s' hk a w hI'
        | goto i => exact hQ (.goto i) s' hk a w hI'
        | ret => exact hQ .ret s' hk a w hI'
      · rename_i J hJ
        obtain ⟨z, hx, h⟩ := Option.bind_eq_some_iff.1 h
        have h : Sum.elim (fun x => encSt J E.m (len' s.slots) x fun s' => exec E y none s' K) some z = some r := h
        have hlen := lenN s a w hI
        refine ihx.1 s _ z hx _ (fun e s' hk a w hI' => ?_) a w hI
        have leave : ∀ (o : Option A) , noExit (B := A) (R := J.X ⊕ A) Sum.inr o = some z → o = some r := fun o ho => by
          cases o with
          | none => cases ho
          | some q =>
            simp only [noExit, Option.some.injEq] at ho
            subst ho
            exact h
        cases e with
        | norm =>
          obtain ⟨x', as, os, h1, h2, h3⟩ := decSt_spec (N := N) (ds := ds) (w0 := w0) (mt := mt) hg0 hk
          simp only [Option.some.injEq] at h1
          subst h1
          have h : encSt J E.m (len' s.slots) x' (fun s' => exec E y none s' K) = some r := h
          rw [encSt_eq h2] at h
          exact ihy.1 _ K r h Q hQ a w (h3 a w _ hlen hI')
        | exit i => exact hQ (.exit i) s' (leave _ hk) a w hI'
        | goto i => exact hQ (.goto i) s' (leave _ hk) a w hI'
        | ret => exact hQ .ret s' (leave _ hk) a w hI'
    · rw [exec] at h
      cases hl : hasLabel x l with
      | false =>
        rw [hl] at h
        obtain ⟨rest, h1, h2⟩ := ihy.2 l s K r h
        refine ⟨rest, ?_, h2⟩
        have : findLabel x l = none := by
          rw [hasLabel_find] at hl
          simpa using hl
        rw [findLabel, this]
        exact h1
      | true =>
        rw [hl] at h
        obtain ⟨rest, h1, h2⟩ := ihx.2 l s _ r h
        refine ⟨.seq rest y, by rw [findLabel, h1], fun Q hQ a w hI => wp_seq (h2 _ (fun e s' hk a w hI' => ?_) a w hI)⟩
        cases e with
        | norm => exact ihy.1 s' K r hk Q hQ a w hI'
        | exit i => exact hQ (.exit i) s' hk a w hI'
        | goto i => exact hQ (.goto i) s' hk a w hI'
        | ret => exact hQ .ret s' hk a w hI'
  | cond c t e iht ihe =>
    refine ⟨fun s K r h Q hQ a w hI => ?_, fun l A s K r h => by cases h⟩
    rw [exec] at h
    split at h
    · rename_i b hb
      obtain ⟨g, hA⟩ := hI
      have h1 := rd_SVR hA.slr c
      rw [hb] at h1
      have h1 : a.eval c = .bool b := h1
      cases b with
      | false => exact wp_cond_false h1 (ihe.1 s K r h Q hQ a w ⟨g, hA⟩)
      | true => exact wp_cond_true h1 (iht.1 s K r h Q hQ a w ⟨g, hA⟩)
    · cases h
  | block id b ih =>
    refine ⟨fun {A} s K r h Q hQ a w hI => ?_, fun l A s K r h => by cases h⟩
    rw [exec] at h
    refine wp_block (ih.1 s _ r h _ (fun e s' hk a w hI' => ?_) a w hI)
    cases e with
    | norm => exact hQ .norm s' hk a w hI'
    | goto i => exact hQ (.goto i) s' hk a w hI'
    | ret => exact hQ .ret s' hk a w hI'
    | exit i =>
      have hk : (Bool.casesOn (Nat.beq i id) (K (.exit i) s') (K .norm s') : Option A) = some r := hk
      show Exit.inBlock id Q (.exit i) a w
      unfold Exit.inBlock
      simp only
      by_cases e : i = id
      · subst e
        rw [if_pos rfl]
        rw [beq_self] at hk
        exact hQ .norm s' hk a w hI'
      · rw [if_neg e]
        rw [beq_ne e] at hk
        exact hQ (.exit i) s' hk a w hI'
  | loop b ih =>
    refine ⟨fun s K r h Q hQ a w hI => ?_, fun l A s K r h => by cases h⟩
    rw [exec] at h
    split at h
    · cases h
    · rename_i J hJ
      obtain ⟨x, as, os, h1, h2, h3⟩ := decSt_spec (N := N) (ds := ds) (w0 := w0) (mt := mt) hg0 h
      have hlen := lenN s a w hI
      refine loop_start ?_
      have one : ∀ (J : Shape) (x : J.X), it (fun rec2 x2 => encSt J E.m (len' s.slots) x2 fun s3 => exec E b none s3 fun e2 s4 => match e2 with
          | .norm => decSt J E.m E.keep s4 rec2
          | .exit i => K (.exit i) s4
          | .goto i => K (.goto i) s4
          | .ret => K .ret s4) E.fuel x = some r → ∀ as os, (∀ {R : Type} (K' : List (Nat × AV) → Heap → R), J.encK x K' = K' as os) → ∀ a w, Inv mt g0 w0 ds N (laidSt as os (len' s.slots) (topKey J.ob E.m)) a w → LoopP P b Q a w := fun J x h1 =>
        it_spec (r := r) (G := fun x => ∀ as os, (∀ {R : Type} (K' : List (Nat × AV) → Heap → R), J.encK x K' = K' as os) → ∀ a w, Inv mt g0 w0 ds N (laidSt as os (len' s.slots) (topKey J.ob E.m)) a w → LoopP P b Q a w) (fun rec x hrec hx as os henc a w hI' => by
        rw [encSt_eq henc] at hx
        refine loop_round (ih.1 _ _ r hx _ (fun e s2 hk a w hI2 => ?_) a w hI')
        cases e with
        | norm =>
          obtain ⟨x2, as2, os2, k1, k2, k3⟩ := decSt_spec (N := N) (ds := ds) (w0 := w0) (mt := mt) hg0 hk
          exact hrec x2 k1 as2 os2 k2 a w (k3 a w _ hlen hI2)
        | exit i => exact hQ (.exit i) s2 hk a w hI2
        | goto i => exact hQ (.goto i) s2 hk a w hI2
        | ret => exact hQ .ret s2 hk a w hI2) E.fuel x h1
      have key := it_spec (r := r) (G := fun x => ∀ as os, (∀ {R : Type} (K' : List (Nat × AV) → Heap → R), J.encK x K' = K' as os) → ∀ a w, Inv mt g0 w0 ds N (laidSt as os (len' s.slots) (topKey J.ob E.m)) a w → LoopP P b Q a w) (fun rec x hrec hx as os henc a w hI' => ?_) E.fuel x h1
      · exact key as os h2 a w (h3 a w _ hlen hI)
      · rw [encSt_eq henc] at hx
        refine loop_round (ih.1 _ _ r hx _ (fun e s2 hk a w hI2 => ?_) a w hI')
        cases e with
        | norm =>
          cases hb : leaves E (fid b) J s2 with
          | false =>
            have hk : (Bool.casesOn (leaves E (fid b) J s2) (decSt J E.m E.keep s2 rec) _ : Option _) = some r := hk
            rw [hb] at hk
            obtain ⟨x2, as2, os2, k1, k2, k3⟩ := decSt_spec (N := N) (ds := ds) (w0 := w0) (mt := mt) hg0 hk
            exact hrec x2 k1 as2 os2 k2 a w (k3 a w _ hlen hI2)
          | true =>
            have hk : (Bool.casesOn (leaves E (fid b) J s2) (decSt J E.m E.keep s2 rec) _ : Option _) = some r := hk
            rw [hb] at hk
            dsimp only at hk
            split at hk
            · cases hk
            · rename_i H2 hH2
              obtain ⟨x2, as2, os2, k1, k2, k3⟩ := decSt_spec (N := N) (ds := ds) (w0 := w0) (mt := mt) hg0 hk
              exact one H2 x2 k1 as2 os2 k2 a w (k3 a w _ hlen hI2)
        | exit i => exact hQ (.exit i) s2 hk a w hI2
        | goto i => exact hQ (.goto i) s2 hk a w hI2
        | ret => exact hQ .ret s2 hk a w hI2
  | exit i => exact ⟨fun s K r h Q hQ a w hI => wp_exit (hQ (.exit i) s h a w hI), fun l A s K r h => by cases h⟩
  | label l' =>
    refine ⟨fun s K r h Q hQ a w hI => wp_label (hQ .norm s h a w hI), fun l A s K r h => ?_⟩
    rw [exec] at h
    cases hb : Nat.beq l' l with
    | false => rw [hb] at h; cases h
    | true =>
      rw [hb] at h
      exact ⟨.skip, by rw [findLabel, beq_eq hb]; simp, fun Q hQ a w hI => wp_skip (hQ .norm s h a w hI)⟩
  | goto l' => exact ⟨fun s K r h Q hQ a w hI => wp_goto (hQ (.goto l') s h a w hI), fun l A s K r h => by cases h⟩
  | ret => exact ⟨fun s K r h Q hQ a w hI => wp_ret (hQ .ret s h a w hI), fun l A s K r h => by cases h⟩
  | scope b ih =>
    refine ⟨fun {A} s K r h Q hQ a w hI => ?_, fun l A s K r h => by cases h⟩
    rw [exec] at h
    refine scope_start (scope_round (ih.1 s _ r h _ (fun e s' hk a w hI' => ?_) a w hI))
    cases e with
    | norm => exact hQ .norm s' hk a w hI'
    | exit i => exact hQ (.exit i) s' hk a w hI'
    | ret => exact hQ .ret s' hk a w hI'
    | goto l =>
      cases hl : hasLabel b l with
      | false =>
        simp only [hl] at hk
        have hf : findLabel b l = none := by rw [hasLabel_find] at hl; simpa using hl
        show Exit.inScope P b Q (.goto l) a w
        simp only [Exit.inScope, hf]
        exact hQ (.goto l) s' hk a w hI'
      | true =>
        simp only [hl] at hk
        obtain ⟨rest, hf⟩ := Option.isSome_iff_exists.1 ((hasLabel_find b l).symm.trans hl)
        show Exit.inScope P b Q (.goto l) a w
        simp only [Exit.inScope, hf]
        split at hk
        · cases hk
        · rename_i J hJ
          obtain ⟨x, as, os, h1, h2, h3⟩ := decSt_spec (N := N) (ds := ds) (w0 := w0) (mt := mt) hg0 hk
          have hlen : len' s.slots ≤ N := lenN s _ _ hI
          have key := it_spec (r := r) (G := fun x => ∀ as os, (∀ {R : Type} (K' : List (Nat × AV) → Heap → R), J.encK x K' = K' as os) → ∀ a w, Inv mt g0 w0 ds N (laidSt as os (len' s.slots) (topKey J.ob E.m)) a w → ScopeP P b rest Q a w) (fun rec x hrec hx as os henc a w hI' => ?_) E.fuel x h1
          · exact key as os h2 a w (h3 a w _ hlen hI')
          · rw [encSt_eq henc] at hx
            obtain ⟨rest', hf', hw⟩ := ih.2 l _ _ r hx
            rw [hf] at hf'
            cases hf'
            refine scope_round (hw _ (fun e s3 hk a w hI3 => ?_) a w hI')
            cases e with
            | norm => exact hQ .norm s3 hk a w hI3
            | exit i => exact hQ (.exit i) s3 hk a w hI3
            | ret => exact hQ .ret s3 hk a w hI3
            | goto l2 =>
              cases hb : Nat.beq l2 l with
              | true =>
                obtain rfl := beq_eq hb
                simp only [hb] at hk
                obtain ⟨x2, as2, os2, k1, k2, k3⟩ := decSt_spec (N := N) (ds := ds) (w0 := w0) (mt := mt) hg0 hk
                show Exit.inScope P b Q (.goto l2) a w
                simp only [Exit.inScope, hf]
                exact hrec x2 k1 as2 os2 k2 a w (k3 a w _ hlen hI3)
              | false =>
                simp only [hb] at hk
                cases hl2 : hasLabel b l2 with
                | true => simp only [hl2] at hk; cases hk
                | false =>
                  simp only [hl2] at hk
                  have hf2 : findLabel b l2 = none := by rw [hasLabel_find] at hl2; simpa using hl2
                  show Exit.inScope P b Q (.goto l2) a w
                  simp only [Exit.inScope, hf2]
                  exact hQ (.goto l2) s3 hk a w hI3
  | _ => exact ⟨fun s K r h => (by cases h), fun l A s K r h => (by cases h)⟩
end
end Go.Proofs.Ytmffnlcmklapmaa.Mx

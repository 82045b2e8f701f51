/- Calls of functions told by their shapes do what the model's do (own work). -/
import Derived.Test.YtmffnlcmklapmaaMxN
namespace Go.Proofs.Ytmffnlcmklapmaa.Mx
open Go
set_option autoImplicit false
set_option linter.unusedVariables false
set_option linter.unusedSimpArgs false
universe u
variable {P : Program}
/-! ### what a format lays -/
def FitC : CF → CV → Prop
  | .int k, c => ∃ n, c = .int k n
  | .bool, c => ∃ n, c = .bool n
  | .str, c => ∃ n, c = .str n
  | .fint, c => ∃ n, c = .fint n
  | .cint, c => ∃ n m, c = .cint n m
  | .row e, c => ∃ l, c = .row e l
  | .nilp, c => c = .nilp
  | .nilf, c => c = .nilf
  | .nili, c => c = .nili
  | .nils, c => c = .nils
  | .own j, c => c = .own j
  | .ptr j o, c => c = .ptr j o
  | .eptr j o, c => ∃ i, c = .eptr j i o
  | .fn f js, c => c = .fn f js
  | .bptr e, c => ∃ x, c = .rptr e [x] 0 0
  | .dead, c => c = .dead
def FitA : AF → AV → Prop
  | .c x, .c y => FitC x y
  | .agg xs, .agg ys => All2 FitC xs ys
  | _, _ => False
def FitO : OF → Obj → Prop
  | .box cs, .box vs => All2 FitC cs vs
  | .arr e, .arr e' _ => e' = e
  | _, _ => False
def LaidK {α β γ : Type} (enc : {R : Type 1} → β → (γ → α → R) → R) (enc0 : {R : Type} → β → (γ → α → R) → R) (x : β) (c : γ) (y : α) : Prop :=
  (∀ {R : Type 1} (K : γ → α → R), enc x K = K c y) ∧ ∀ {R : Type} (K : γ → α → R), enc0 x K = K c y
theorem CF.laid {α : Type} (c : CF) (x : c.P α) : ∃ v y, LaidK (fun {R} => c.encK (R := R)) (fun {R} => c.encK (R := R)) x v y ∧ FitC c v := by
  cases c with
  | int k => exact ⟨.int k x.1, x.2, ⟨fun _ => rfl, fun _ => rfl⟩, _, rfl⟩
  | bool => exact ⟨.bool x.1, x.2, ⟨fun _ => rfl, fun _ => rfl⟩, _, rfl⟩
  | str => exact ⟨.str x.1, x.2, ⟨fun _ => rfl, fun _ => rfl⟩, _, rfl⟩
  | fint => exact ⟨.fint x.1, x.2, ⟨fun _ => rfl, fun _ => rfl⟩, _, rfl⟩
  | cint => exact ⟨.cint x.1 x.2.1, x.2.2, ⟨fun _ => rfl, fun _ => rfl⟩, _, _, rfl⟩
  | row e => exact ⟨.row e x.1, x.2, ⟨fun _ => rfl, fun _ => rfl⟩, _, rfl⟩
  | nilp => exact ⟨_, x, ⟨fun _ => rfl, fun _ => rfl⟩, rfl⟩
  | nilf => exact ⟨_, x, ⟨fun _ => rfl, fun _ => rfl⟩, rfl⟩
  | nili => exact ⟨_, x, ⟨fun _ => rfl, fun _ => rfl⟩, rfl⟩
  | nils => exact ⟨_, x, ⟨fun _ => rfl, fun _ => rfl⟩, rfl⟩
  | own j => exact ⟨_, x, ⟨fun _ => rfl, fun _ => rfl⟩, rfl⟩
  | ptr j o => exact ⟨_, x, ⟨fun _ => rfl, fun _ => rfl⟩, rfl⟩
  | eptr j o => exact ⟨.eptr j x.1 o, x.2, ⟨fun _ => rfl, fun _ => rfl⟩, _, rfl⟩
  | fn f js => exact ⟨_, x, ⟨fun _ => rfl, fun _ => rfl⟩, rfl⟩
  | bptr e => exact ⟨.rptr e [x.1] 0 0, x.2, ⟨fun _ => rfl, fun _ => rfl⟩, _, rfl⟩
  | dead => exact ⟨_, x, ⟨fun _ => rfl, fun _ => rfl⟩, rfl⟩
theorem encCs_laid {α : Type} : ∀ (cs : List CF) (x : csT cs α), ∃ vs y, LaidK (fun {R} => encCsK (R := R) cs) (fun {R} => encCsK (R := R) cs) x vs y ∧ All2 FitC cs vs
  | [], x => ⟨[], x, ⟨fun _ => rfl, fun _ => rfl⟩, trivial⟩
  | c :: cs, x => by
    obtain ⟨v, y, h1, h2⟩ := CF.laid c x
    obtain ⟨vs, z, k1, k2⟩ := encCs_laid cs y
    exact ⟨v :: vs, z, ⟨fun K => (h1.1 _).trans (k1.1 _), fun K => (h1.2 _).trans (k1.2 _)⟩, h2, k2⟩
theorem AF.laid {α : Type} (a : AF) (x : a.P α) : ∃ v y, LaidK (fun {R} => a.encK (R := R)) (fun {R} => a.encK (R := R)) x v y ∧ FitA a v := by
  cases a with
  | c c =>
    obtain ⟨v, y, h1, h2⟩ := CF.laid c x
    exact ⟨.c v, y, ⟨fun K => h1.1 _, fun K => h1.2 _⟩, h2⟩
  | agg cs =>
    obtain ⟨v, y, h1, h2⟩ := encCs_laid cs x
    exact ⟨.agg v, y, ⟨fun K => h1.1 _, fun K => h1.2 _⟩, h2⟩
theorem OF.laid {α : Type} (a : OF) (x : a.P α) : ∃ v y, LaidK (fun {R} => a.encK (R := R)) (fun {R} => a.encK (R := R)) x v y ∧ FitO a v := by
  cases a with
  | box cs =>
    obtain ⟨v, y, h1, h2⟩ := encCs_laid cs x
    exact ⟨.box v, y, ⟨fun K => h1.1 _, fun K => h1.2 _⟩, h2⟩
  | arr e => exact ⟨.arr e x.1, x.2, ⟨fun _ => rfl, fun _ => rfl⟩, rfl⟩
theorem encSl_laid {α : Type} : ∀ (ss : List (Nat × AF)) (x : slT ss α), ∃ as y, LaidK (fun {R} => encSlK (R := R) ss) (fun {R} => encSlK (R := R) ss) x as y ∧ All2 (fun a b => a.1 = b.1 ∧ FitA a.2 b.2) ss as
  | [], x => ⟨[], x, ⟨fun _ => rfl, fun _ => rfl⟩, trivial⟩
  | c :: cs, x => by
    obtain ⟨v, y, h1, h2⟩ := AF.laid c.2 x
    obtain ⟨vs, z, k1, k2⟩ := encSl_laid cs y
    exact ⟨(c.1, v) :: vs, z, ⟨fun K => (h1.1 _).trans (k1.1 _), fun K => (h1.2 _).trans (k1.2 _)⟩, ⟨rfl, h2⟩, k2⟩
theorem encOb_laid {α : Type} : ∀ (ss : List (Nat × OF)) (x : obT ss α), ∃ os y, LaidK (fun {R} => encObK (R := R) ss) (fun {R} => encObK (R := R) ss) x os y ∧ All2 (fun a b => a.1 = b.1 ∧ FitO a.2 b.2) ss os
  | [], x => ⟨[], x, ⟨fun _ => rfl, fun _ => rfl⟩, trivial⟩
  | c :: cs, x => by
    obtain ⟨v, y, h1, h2⟩ := OF.laid c.2 x
    obtain ⟨vs, z, k1, k2⟩ := encOb_laid cs y
    exact ⟨(c.1, v) :: vs, z, ⟨fun K => (h1.1 _).trans (k1.1 _), fun K => (h1.2 _).trans (k1.2 _)⟩, ⟨rfl, h2⟩, k2⟩
/-- What a shape lays for x. -/
structure Laid (s : Shape) (x : s.X) (as : List (Nat × AV)) (os : Heap) : Prop where
  enc1 : ∀ {R : Type 1} (K : List (Nat × AV) → Heap → R), s.encK x K = K as os
  enc0 : ∀ {R : Type} (K : List (Nat × AV) → Heap → R), s.encK x K = K as os
  sl : All2 (fun a b => a.1 = b.1 ∧ FitA a.2 b.2) s.sl as
  ob : All2 (fun a b => a.1 = b.1 ∧ FitO a.2 b.2) s.ob os
theorem Shape.laid (s : Shape) (x : s.X) : ∃ as os, Laid s x as os := by
  obtain ⟨as, y, h1, h2⟩ := encSl_laid s.sl x
  obtain ⟨os, z, k1, k2⟩ := encOb_laid s.ob y
  exact ⟨as, os, fun K => (h1.1 _).trans (k1.1 _), fun K => (h1.2 _).trans (k1.2 _), h2, k2⟩
theorem Laid.same {s : Shape} {x : s.X} {as as' : List (Nat × AV)} {os os' : Heap} (L : Laid s x as os) (h : ∀ {R : Type} (K : List (Nat × AV) → Heap → R), s.encK x K = K as' os') : as' = as ∧ os' = os := by
  have := (h fun a b => (a, b)).symm.trans (L.enc0 fun a b => (a, b))
  simp only [Prod.mk.injEq] at this
  exact this
/-! ### what functions do -/
def ArgsR (g : Gh) (hp : HP) (as : List (Nat × AV)) (vs : Array Value) : Prop := ∀ i a, (i, a) ∈ as → AVR g hp a (vs.getD i undef)
/-- A function comes to a value. -/
def Answers (P : Program) (f : Nat) (args : Array Value) (w : World) (R : Value → World → Prop) : Prop :=
  ((callFunc f args).run P w = .ok (.enter f args) w ∧ Calls P f args w fun e w2 => ∃ V, e = .returned V ∧ R V w2) ∨ ∃ V w', (callFunc f args).run P w = .ok (.value V) w' ∧ R V w'
theorem Answers.mono {f : Nat} {args : Array Value} {w : World} {R R' : Value → World → Prop} (h : Answers P f args w R) (k : ∀ V w', R V w' → R' V w') : Answers P f args w R' :=
  h.imp (fun ⟨a, b⟩ => ⟨a, Calls.mono b fun _ _ ⟨V, e, q⟩ => ⟨V, e, k _ _ q⟩⟩) fun ⟨V, w', a, b⟩ => ⟨V, w', a, k _ _ b⟩
/-- The result, by one of the shapes. -/
def Outs : (ss : List Shape) → sumX ss → (Shape → List (Nat × AV) → Heap → Prop) → Prop
  | [], _, _ => False
  | [s], r, Q => ∃ as os, Laid s r as os ∧ Q s as os
  | s :: t :: r, x, Q => match (x : s.X ⊕ sumX (t :: r)) with
    | .inl y => ∃ as os, Laid s y as os ∧ Q s as os
    | .inr y => Outs (t :: r) y Q
/-- The places of the keys that are kept alone. -/
def gK (keep : List Nat) (g : Gh) : Gh := ⟨fun n => if n ∈ keep then g.φ n else none, g.ro⟩
structure Sound (P : Program) (f : Nat) (S : FnSpec) : Prop where
  wfi : S.ins.wf = true
  wfo : (S.outs.all Shape.wf) = true
  call : ∀ (x : S.ins.X) (r : sumX S.outs), S.f x = some r → ∀ (mt : Nat → Prop) (g : Gh) (w : World) (vs : Array Value) (as : List (Nat × AV)) (os : Heap), Laid S.ins x as os →
    Mem mt g (hget os) w.heap → (∀ b, w.heap.size ≤ b → mt b) → (∀ n, topKey S.ins.ob 0 ≤ n → g.φ n = none) → ArgsR g w.heap as vs →
    Answers P f vs w fun V w' => Outs S.outs r fun _ as' os' => ∃ g', Ext mt (gK S.keep g) w g' w' ∧ Mem mt g' (hget os') w'.heap ∧ SVR g' w'.heap (mkRes as') V
/-! ### names changed -/
def plainC : CV → Bool
  | .row _ _ => false
  | .rptr _ _ _ _ => false
  | _ => true
theorem ren_ptrs {g g' : Gh} {μ : Nat → Nat} {p : Nat → Prop} (h : ∀ j Q, p j → g.φ j = some Q → g'.φ (μ j) = some Q) : ∀ (js : List Nat) (us : List Value), (∀ j, j ∈ js → p j) → All2 (IsPtr g) js us → All2 (IsPtr g') (js.map μ) us
  | [], [], _, _ => trivial
  | j :: js, u :: us, hp, ⟨⟨Q, b, h1, h2⟩, hr⟩ => ⟨⟨Q, b, h j Q (hp j List.mem_cons_self) h1, h2⟩, ren_ptrs h js us (fun k hk => hp k (List.mem_cons_of_mem _ hk)) hr⟩
  | [], _ :: _, _, h => h.elim
  | _ :: _, [], _, h => h.elim
theorem VR.ren {g g' : Gh} {hp : HP} {μ : Nat → Nat} {c : CV} {v : Value} (h : ∀ j Q, j ∈ refs c → g.φ j = some Q → g'.φ (μ j) = some Q) (hro : plainC c = true ∨ g'.ro = g.ro) (hv : VR g hp c v) : VR g' hp (renC μ c) v := by
  cases c with
  | ptr n o => obtain ⟨Q, b, h1, h2⟩ := hv; exact ⟨Q, b, h n Q (by simp [refs]) h1, h2⟩
  | eptr n i o => obtain ⟨Q, b, h1, h2⟩ := hv; exact ⟨Q, b, h n Q (by simp [refs]) h1, h2⟩
  | aptr n _ _ _ _ _ => obtain ⟨Q, b, h1, h2⟩ := hv; exact ⟨Q, b, h n Q (by simp [refs]) h1, h2⟩
  | own n => obtain ⟨Q, h1, h2⟩ := hv; exact ⟨Q, h n Q (by simp [refs]) h1, h2⟩
  | sub n _ _ => obtain ⟨Q, A, c, h1, h2⟩ := hv; exact ⟨Q, A, c, h n Q (by simp [refs]) h1, h2⟩
  | bsub n _ _ _ _ _ => obtain ⟨Q, b, A, c, h1, h2⟩ := hv; exact ⟨Q, b, A, c, h n Q (by simp [refs]) h1, h2⟩
  | fn f js => obtain ⟨us, h1, h2⟩ := hv; exact ⟨us, h1, ren_ptrs (p := fun j => j ∈ js) h js us (fun _ h => h) h2⟩
  | row e l =>
    rcases hro with hro | hro
    · cases hro
    · exact Rd.stab (fun b h => by rw [hro]; exact h) (fun _ _ => rfl) (.row e) l [v] hv
  | rptr e l i o =>
    rcases hro with hro | hro
    · cases hro
    · obtain ⟨b, o, cs, t, fz, us, rest, q1, q2, q3, q4, q5, q6⟩ := hv
      exact ⟨b, o, cs, t, fz, us, rest, q1, by rw [hro]; exact q2, q3, q4, RdL.mono (fun x vs => Rd.stab (fun b h => by rw [hro]; exact h) (fun _ _ => rfl) e x vs) l us q5, q6⟩
  | int _ _ => exact hv
  | bool _ => exact hv
  | str _ => exact hv
  | fint _ => exact hv
  | cint _ _ => exact hv
  | nilp => exact hv
  | nilf => exact hv
  | nili => exact hv
  | nils => exact hv
  | ifc _ _ _ => exact hv
  | dead => exact hv
theorem VRs.ren {g g' : Gh} {hp : HP} {μ : Nat → Nat} : ∀ {cs : List CV} {vs : List Value}, (∀ j Q, j ∈ cs.flatMap refs → g.φ j = some Q → g'.φ (μ j) = some Q) → (cs.all plainC = true ∨ g'.ro = g.ro) → All2 (VR g hp) cs vs → All2 (VR g' hp) (cs.map (renC μ)) vs
  | [], [], _, _, _ => trivial
  | c :: cs, v :: vs, h, hro, ⟨h1, h2⟩ => ⟨VR.ren (fun j Q hj => h j Q (by simp [hj])) (hro.imp (fun q => by simp only [List.all_cons, Bool.and_eq_true] at q; exact q.1) id) h1,
      VRs.ren (fun j Q hj => h j Q (by simp only [List.flatMap_cons, List.mem_append]; exact .inr hj)) (hro.imp (fun q => by simp only [List.all_cons, Bool.and_eq_true] at q; exact q.2) id) h2⟩
  | [], _ :: _, _, _, h => h.elim
  | _ :: _, [], _, _, h => h.elim
def plainA : AV → Bool
  | .c x => plainC x
  | .agg xs => xs.all plainC
theorem AVR.ren {g g' : Gh} {hp : HP} {μ : Nat → Nat} {a : AV} {v : Value} (h : ∀ j Q, j ∈ refsA a → g.φ j = some Q → g'.φ (μ j) = some Q) (hro : plainA a = true ∨ g'.ro = g.ro) (hv : AVR g hp a v) : AVR g' hp (renA μ a) v := by
  cases a with
  | c x => exact VR.ren h hro hv
  | agg xs => obtain ⟨vs, h1, h2⟩ := hv; exact ⟨vs, h1, VRs.ren h hro h2⟩
def plainO : Obj → Bool
  | .box cs => cs.all plainC
  | .arr e _ => e.flat
  | .ice e _ => e.flat
theorem Rd.flat {ro ro' : Nat → Prop} {hp hp' : HP} : ∀ (e : Ty) (x : e.T) (vs : List Value), e.flat = true → Rd ro hp e x vs → Rd ro' hp' e x vs
  | .int _, _, _, _, h => h
  | .bool, _, _, _, h => h
  | .str, _, _, _, h => h
  | .row _, _, _, hf, _ => by cases hf
  | .prod a b, x, vs, hf, ⟨u, v, hv, hu, hw⟩ => by
    simp only [Ty.flat, Bool.and_eq_true] at hf
    exact ⟨u, v, hv, Rd.flat a x.1 u hf.1 hu, Rd.flat b x.2 v hf.2 hw⟩
theorem ObjR.ren {g g' : Gh} {hp : HP} {μ : Nat → Nat} {Q : Pl} {o : Obj} (h : ∀ j Q, j ∈ refsO o → g.φ j = some Q → g'.φ (μ j) = some Q) (hro : plainO o = true ∨ g'.ro = g.ro) (hv : ObjR g hp Q o) : ObjR g' hp Q (renO μ o) := by
  have arr : ∀ (e : Ty) (l : List e.T), (e.flat = true ∨ g'.ro = g.ro) → ArrR g hp Q e l → ArrR g' hp Q e l := fun e l hro hA => by
    obtain ⟨a1, a2, a3, a4⟩ := hA
    refine ⟨a1, a2, a3, ?_⟩
    cases hb : Q.blk with
    | none => rw [hb] at a4; exact a4
    | some b =>
      rw [hb] at a4
      obtain ⟨a5, vs, t, us, rest, a6, a7, a8, a9⟩ := a4
      refine ⟨a5, vs, t, us, rest, a6, a7, ?_, a9⟩
      rcases hro with hro | hro
      · exact RdL.mono (fun x vs => Rd.flat e x vs hro) l us a8
      · rw [hro]; exact a8
  cases o with
  | box cs => obtain ⟨b, vs, t, h1, h2, h3⟩ := hv; exact ⟨b, vs, t, h1, h2, VRs.ren h hro h3⟩
  | arr e l => exact arr e l hro hv
  | ice e l => exact arr e l hro hv
/-! ### formats and their checks -/
theorem FitC.refs {c : CF} {v : CV} (h : FitC c v) (hc : cfOk c = true) : ∀ j, j ∈ Mx.refs v → j < keys := by
  intro j hj
  have hlt : ∀ k, Nat.blt k keys = true → k < keys := fun k hk => Nat.le_of_ble_eq_true hk
  cases c with
  | own n => obtain rfl : v = _ := h; simp only [Mx.refs, List.mem_singleton] at hj; subst hj; simp only [cfOk, refsF, List.all_cons, List.all_nil, Bool.and_true] at hc; exact hlt _ hc
  | ptr n o => obtain rfl : v = _ := h; simp only [Mx.refs, List.mem_singleton] at hj; subst hj; simp only [cfOk, refsF, List.all_cons, List.all_nil, Bool.and_true] at hc; exact hlt _ hc
  | eptr n o => obtain ⟨i, rfl⟩ := h; simp only [Mx.refs, List.mem_singleton] at hj; subst hj; simp only [cfOk, refsF, List.all_cons, List.all_nil, Bool.and_true] at hc; exact hlt _ hc
  | fn f js => obtain rfl : v = _ := h; simp only [Mx.refs] at hj; simp only [cfOk, refsF, List.all_eq_true] at hc; exact hlt _ (hc j hj)
  | int k => obtain ⟨n, rfl⟩ := h; simp [Mx.refs] at hj
  | bool => obtain ⟨n, rfl⟩ := h; simp [Mx.refs] at hj
  | str => obtain ⟨n, rfl⟩ := h; simp [Mx.refs] at hj
  | fint => obtain ⟨n, rfl⟩ := h; simp [Mx.refs] at hj
  | cint => obtain ⟨n, m, rfl⟩ := h; simp [Mx.refs] at hj
  | row e => obtain ⟨n, rfl⟩ := h; simp [Mx.refs] at hj
  | bptr e => obtain ⟨n, rfl⟩ := h; simp [Mx.refs] at hj
  | nilp => obtain rfl : v = _ := h; simp [Mx.refs] at hj
  | nilf => obtain rfl : v = _ := h; simp [Mx.refs] at hj
  | nili => obtain rfl : v = _ := h; simp [Mx.refs] at hj
  | nils => obtain rfl : v = _ := h; simp [Mx.refs] at hj
  | dead => obtain rfl : v = _ := h; simp [Mx.refs] at hj
theorem FitC.plain {c : CF} {v : CV} (h : FitC c v) (hc : flatCF c = true) : plainC v = true := by
  cases c with
  | row e => cases hc
  | bptr e => cases hc
  | own n => obtain rfl : v = _ := h; rfl
  | ptr n o => obtain rfl : v = _ := h; rfl
  | eptr n o => obtain ⟨i, rfl⟩ := h; rfl
  | fn f js => obtain rfl : v = _ := h; rfl
  | int k => obtain ⟨n, rfl⟩ := h; rfl
  | bool => obtain ⟨n, rfl⟩ := h; rfl
  | str => obtain ⟨n, rfl⟩ := h; rfl
  | fint => obtain ⟨n, rfl⟩ := h; rfl
  | cint => obtain ⟨n, m, rfl⟩ := h; rfl
  | nilp => obtain rfl : v = _ := h; rfl
  | nilf => obtain rfl : v = _ := h; rfl
  | nili => obtain rfl : v = _ := h; rfl
  | nils => obtain rfl : v = _ := h; rfl
  | dead => obtain rfl : v = _ := h; rfl
theorem FitCs.refs : ∀ {cs : List CF} {vs : List CV}, All2 FitC cs vs → cs.all cfOk = true → ∀ j, j ∈ vs.flatMap Mx.refs → j < keys
  | [], [], _, _, j, hj => by simp at hj
  | c :: cs, v :: vs, ⟨h1, h2⟩, hc, j, hj => by
    simp only [List.all_cons, Bool.and_eq_true] at hc
    simp only [List.flatMap_cons, List.mem_append] at hj
    exact hj.elim (h1.refs hc.1 j) (FitCs.refs h2 hc.2 j)
  | [], _ :: _, h, _, _, _ => h.elim
  | _ :: _, [], h, _, _, _ => h.elim
theorem FitCs.plain : ∀ {cs : List CF} {vs : List CV}, All2 FitC cs vs → cs.all flatCF = true → vs.all plainC = true
  | [], [], _, _ => rfl
  | c :: cs, v :: vs, ⟨h1, h2⟩, hc => by
    simp only [List.all_cons, Bool.and_eq_true] at hc ⊢
    exact ⟨h1.plain hc.1, FitCs.plain h2 hc.2⟩
  | [], _ :: _, h, _ => h.elim
  | _ :: _, [], h, _ => h.elim
theorem FitA.refs {a : AF} {v : AV} (h : FitA a v) (hc : afOk a = true) : ∀ j, j ∈ refsA v → j < keys := by
  cases a with
  | c x => cases v with
    | c y => exact FitC.refs h hc
    | agg _ => exact h.elim
  | agg xs => cases v with
    | c y => exact h.elim
    | agg ys => exact FitCs.refs h hc
theorem FitA.plain {a : AF} {v : AV} (h : FitA a v) (hc : flatAF a = true) : plainA v = true := by
  cases a with
  | c x => cases v with
    | c y => exact FitC.plain h hc
    | agg _ => exact h.elim
  | agg xs => cases v with
    | c y => exact h.elim
    | agg ys => exact FitCs.plain h hc
theorem FitO.refs {a : OF} {v : Obj} (h : FitO a v) (hc : ofOk a = true) : ∀ j, j ∈ refsO v → j < keys := by
  cases a with
  | box cs => cases v with
    | box vs => exact FitCs.refs h hc
    | arr _ _ => exact h.elim
    | ice _ _ => exact h.elim
  | arr e => cases v with
    | box vs => exact h.elim
    | arr _ _ => intro j hj; simp [refsO] at hj
    | ice _ _ => exact h.elim
theorem FitO.plain {a : OF} {v : Obj} (h : FitO a v) (hc : flatOF a = true) : plainO v = true := by
  cases a with
  | box cs => cases v with
    | box vs => exact FitCs.plain h hc
    | arr _ _ => exact h.elim
    | ice _ _ => exact h.elim
  | arr e => cases v with
    | box vs => exact h.elim
    | arr e' _ => obtain rfl : e' = e := h; exact hc
    | ice _ _ => exact h.elim
theorem FitO.live {a : OF} {v : Obj} (h : FitO a v) : v.iced = false := by
  cases a with
  | box cs => cases v with
    | ice _ _ => exact h.elim
    | _ => rfl
  | arr e => cases v with
    | ice _ _ => exact h.elim
    | _ => rfl
theorem all2_mem {α β : Type} {R : α → β → Prop} : ∀ {l : List α} {m : List β} {y : β}, All2 R l m → y ∈ m → ∃ x, x ∈ l ∧ R x y
  | [], [], y, _, h => by cases h
  | a :: l, b :: m, y, ⟨h1, h2⟩, h => by
    rcases List.mem_cons.1 h with rfl | h
    · exact ⟨a, List.mem_cons_self, h1⟩
    · obtain ⟨x, k1, k2⟩ := all2_mem h2 h
      exact ⟨x, List.mem_cons_of_mem _ k1, k2⟩
  | [], _ :: _, _, h, _ => h.elim
  | _ :: _, [], _, h, _ => h.elim
theorem hget_mem : ∀ {os : Heap} {j : Nat} {o : Obj}, hget os j = some o → (j, o) ∈ os
  | [], j, o, h => by cases h
  | (k, o') :: os, j, o, h => by
    rw [hget_cons] at h
    by_cases e : k = j
    · rw [if_pos e] at h; cases h; subst e; exact List.mem_cons_self
    · rw [if_neg e] at h; exact List.mem_cons_of_mem _ (hget_mem h)
theorem mem_hget : ∀ {ss : List (Nat × OF)} {os : Heap} {j : Nat} {o : Obj}, nodupK ss = true → All2 (fun a b => a.1 = b.1 ∧ FitO a.2 b.2) ss os → (j, o) ∈ os → hget os j = some o
  | [], [], j, o, _, _, h => by cases h
  | (k, f) :: ss, (k', o') :: os, j, o, hn, ⟨h1, h2⟩, h => by
    obtain rfl : k = k' := h1.1
    simp only [nodupK, Bool.and_eq_true, Bool.not_eq_true', List.any_eq_false] at hn
    rw [hget_cons]
    rcases List.mem_cons.1 h with h | h
    · cases h; rw [if_pos rfl]
    · have hk : k ≠ j := fun e => by
        obtain ⟨x, hx, hxe, _⟩ := all2_mem h2 h
        have := hn.1 x hx
        rw [hxe] at this
        simp only at this
        rw [e] at this
        simp [beq_self] at this
      rw [if_neg hk]
      exact mem_hget hn.2 h2 h
  | [], _ :: _, _, _, _, h, _ => h.elim
  | _ :: _, [], _, _, _, h, _ => h.elim
end Go.Proofs.Ytmffnlcmklapmaa.Mx

/- What the interpreter's values and keys stand for in the model's memory, and what that withstands (own work). -/
import Derived.Test.YtmffnlcmklapmaaMxA
import Derived.Test.YtmffnlcmklapmaaFloat
namespace Go.Proofs.Ytmffnlcmklapmaa.Mx
open Go
set_option autoImplicit false
set_option linter.unusedVariables false
abbrev HP := Array Go.Obj
/-- A key's place: its block (none: a slice without elements), the slice's base, its length, its capacity, an element's cells. -/
structure Pl where
  blk : Option Nat
  base : Option Addr
  len : Nat
  cap : Nat
  size : Nat
structure Gh where
  φ : Nat → Option Pl
  ro : Nat → Prop
def RdL {α : Type} (R : α → List Value → Prop) : List α → List Value → Prop
  | [], vs => vs = []
  | x :: l, vs => ∃ u v, vs = u ++ v ∧ R x u ∧ RdL R l v
def RowAt {α : Type} (ro : Nat → Prop) (hp : HP) (R : α → List Value → Prop) (A : Option Addr) (l : List α) : Prop :=
  l ≠ [] → ∃ b o cs t fz us rest, A = some ⟨b, o, none⟩ ∧ ro b ∧ hp[b]? = some (.cells cs t fz) ∧ cs.toList.drop o = us ++ rest ∧ RdL R l us
/-- Cells that read as an element. -/
def Rd (ro : Nat → Prop) (hp : HP) : (e : Ty) → e.T → List Value → Prop
  | .int k, n, vs => vs = [.int k n]
  | .bool, b, vs => vs = [.bool b]
  | .str, s, vs => vs = [.string s]
  | .row e, l, vs => ∃ A c, vs = [.slice A (List.length l) c] ∧ List.length l ≤ c ∧ RowAt ro hp (Rd ro hp e) A l
  | .prod a b, x, vs => ∃ u v, vs = u ++ v ∧ Rd ro hp a x.1 u ∧ Rd ro hp b x.2 v
def All2 {α β : Type} (R : α → β → Prop) : List α → List β → Prop
  | [], [] => True
  | x :: l, y :: m => R x y ∧ All2 R l m
  | _, _ => False
def IsPtr (g : Gh) (j : Nat) (u : Value) : Prop := ∃ P b, g.φ j = some P ∧ P.blk = some b ∧ u = .pointer (some ⟨b, 0, none⟩)
def VR (g : Gh) (hp : HP) : CV → Value → Prop
  | .int k n, v => v = .int k n
  | .bool b, v => v = .bool b
  | .str s, v => v = .string s
  | .fint n, v => ∃ b, v = .float .f64 b ∧ YtmffnlcmklapmaaF.Rep b n
  | .cint x y, v => ∃ a b, v = .complex .f64 a b ∧ YtmffnlcmklapmaaF.Rep a x ∧ YtmffnlcmklapmaaF.Rep b y
  | .nilp, v => v = .pointer none
  | .nilf, v => v = .nilFunc
  | .nili, v => v = .nilIface
  | .nils, v => v = .slice none 0 0
  | .ptr n off, v => ∃ P b, g.φ n = some P ∧ P.blk = some b ∧ v = .pointer (some ⟨b, off, none⟩)
  | .eptr n i off, v => ∃ P b, g.φ n = some P ∧ P.blk = some b ∧ i < P.len ∧ v = .pointer (some ⟨b, i * P.size + off, none⟩)
  | .aptr n off len stride i o, v => ∃ P b, g.φ n = some P ∧ P.blk = some b ∧ i < len ∧ v = .pointer (some ⟨b, off + i * stride + o, none⟩)
  | .own n, v => ∃ P, g.φ n = some P ∧ v = .slice P.base P.len P.cap
  | .sub n lo hi, v => ∃ P A c, g.φ n = some P ∧ lo ≤ hi ∧ hi ≤ P.len ∧ hi - lo ≤ c ∧ v = .slice A (hi - lo) c ∧ (lo < hi → ∃ b, P.blk = some b ∧ A = some ⟨b, lo * P.size, none⟩)
  | .bsub n off len stride lo hi, v => ∃ P b A c, g.φ n = some P ∧ P.blk = some b ∧ lo ≤ hi ∧ hi ≤ len ∧ hi - lo ≤ c ∧ v = .slice A (hi - lo) c ∧ (lo < hi → A = some ⟨b, off + lo * stride, none⟩)
  | .row e l, v => Rd g.ro hp (.row e) l [v]
  | .rptr e l i off, v => ∃ b o cs t fz us rest, v = .pointer (some ⟨b, o + i * e.size + off, none⟩) ∧ g.ro b ∧ hp[b]? = some (.cells cs t fz) ∧ cs.toList.drop o = us ++ rest ∧ RdL (Rd g.ro hp e) l us ∧ i < l.length
  | .fn f js, v => ∃ vs : List Value, v = .func (.func f) #[] vs.toArray ∧ All2 (IsPtr g) js vs
  | .ifc t k ns, v => v = .iface t (.agg (ns.map (Value.int k)).toArray)
  | .dead, _ => True
def AVR (g : Gh) (hp : HP) : AV → Value → Prop
  | .c x, v => VR g hp x v
  | .agg xs, v => ∃ vs : List Value, v = .agg vs.toArray ∧ All2 (VR g hp) xs vs
def SVR (g : Gh) (hp : HP) : SV → Value → Prop
  | .v a, v => AVR g hp a v
  | .tup xs, v => ∃ vs : List Value, v = .tuple vs.toArray ∧ All2 (AVR g hp) xs vs
/-- A row of elements at its place; own: it lies in a block that may be written. -/
def ArrR (g : Gh) (hp : HP) (P : Pl) (e : Ty) (l : List e.T) : Prop :=
  P.len = l.length ∧ P.size = e.size ∧ P.len ≤ P.cap ∧
    match P.blk with
    | none => P.len = 0 ∧ P.cap = 0 ∧ P.base = none
    | some b => P.base = some ⟨b, 0, none⟩ ∧ ∃ vs t us rest, hp[b]? = some (.cells vs t (0, 0)) ∧ vs.toList = us ++ rest ∧ RdL (Rd g.ro hp e) l us ∧ P.cap * P.size ≤ vs.size
def ObjR (g : Gh) (hp : HP) (P : Pl) : Obj → Prop
  | .box cs => ∃ b vs t, P.blk = some b ∧ hp[b]? = some (.cells vs t (0, 0)) ∧ All2 (VR g hp) cs vs.toList
  | .arr e l => ArrR g hp P e l
  | .ice e l => ArrR g hp P e l
def Obj.iced : Obj → Bool
  | .ice _ _ => true
  | _ => false
structure Mem (mt : Nat → Prop) (g : Gh) (H : Nat → Option Obj) (hp : HP) : Prop where
  obj : ∀ n o, H n = some o → ∃ P, g.φ n = some P ∧ ObjR g hp P o
  own : ∀ n o P b, H n = some o → o.iced = false → g.φ n = some P → P.blk = some b → mt b ∧ ¬ g.ro b
  ice : ∀ n o P b, H n = some o → o.iced = true → g.φ n = some P → P.blk = some b → g.ro b
  sep : ∀ n m o o' P Q b, n ≠ m → H n = some o → H m = some o' → g.φ n = some P → g.φ m = some Q → P.blk = some b → Q.blk ≠ some b
  ro : ∀ b, g.ro b → b < hp.size
/-! ### what the relations withstand -/
structure Stab (g : Gh) (hp : HP) (g' : Gh) (hp' : HP) : Prop where
  ro : ∀ b, g.ro b → g'.ro b
  hp : ∀ b, g.ro b → hp'[b]? = hp[b]?
  phi : ∀ n P, g.φ n = some P → g'.φ n = some P
theorem Stab.refl (g : Gh) (hp : HP) : Stab g hp g hp := ⟨fun _ h => h, fun _ _ => rfl, fun _ _ h => h⟩
theorem RdL.mono {α : Type} {R R' : α → List Value → Prop} (h : ∀ x vs, R x vs → R' x vs) : ∀ (l : List α) (vs : List Value), RdL R l vs → RdL R' l vs
  | [], _, hv => hv
  | _ :: l, _, ⟨u, v, e, hx, hl⟩ => ⟨u, v, e, h _ _ hx, RdL.mono h l v hl⟩
theorem Rd.stab {ro ro' : Nat → Prop} {hp hp' : HP} (h1 : ∀ b, ro b → ro' b) (h2 : ∀ b, ro b → hp'[b]? = hp[b]?) : ∀ (e : Ty) (x : e.T) (vs : List Value), Rd ro hp e x vs → Rd ro' hp' e x vs
  | .int _, _, _, h => h
  | .bool, _, _, h => h
  | .str, _, _, h => h
  | .row e, l, vs, ⟨A, c, hv, hc, hr⟩ => ⟨A, c, hv, hc, fun hl => by
      obtain ⟨b, o, cs, t, fz, us, rest, hA, hb, hh, hd, hR⟩ := hr hl
      exact ⟨b, o, cs, t, fz, us, rest, hA, h1 b hb, (h2 b hb).trans hh, hd, RdL.mono (fun x vs => Rd.stab h1 h2 e x vs) l us hR⟩⟩
  | .prod a b, x, vs, ⟨u, v, hv, hu, hw⟩ => ⟨u, v, hv, Rd.stab h1 h2 a x.1 u hu, Rd.stab h1 h2 b x.2 v hw⟩
theorem All2.mono {α β : Type} {R R' : α → β → Prop} (h : ∀ x y, R x y → R' x y) : ∀ (l : List α) (m : List β), All2 R l m → All2 R' l m
  | [], [], _ => trivial
  | _ :: l, _ :: m, ⟨hx, hl⟩ => ⟨h _ _ hx, All2.mono h l m hl⟩
  | [], _ :: _, h => h.elim
  | _ :: _, [], h => h.elim
theorem IsPtr.stab {g g' : Gh} (h : ∀ n P, g.φ n = some P → g'.φ n = some P) (j : Nat) (u : Value) : IsPtr g j u → IsPtr g' j u := fun ⟨P, b, hp, hb, hu⟩ => ⟨P, b, h j P hp, hb, hu⟩
theorem VR.stab {g g' : Gh} {hp hp' : HP} (s : Stab g hp g' hp') : ∀ (x : CV) (v : Value), VR g hp x v → VR g' hp' x v
  | .int _ _, _, h => h
  | .bool _, _, h => h
  | .str _, _, h => h
  | .fint _, _, h => h
  | .cint _ _, _, h => h
  | .nilp, _, h => h
  | .nilf, _, h => h
  | .nili, _, h => h
  | .nils, _, h => h
  | .ptr _ _, _, ⟨P, b, h, r⟩ => ⟨P, b, s.phi _ _ h, r⟩
  | .eptr _ _ _, _, ⟨P, b, h, r⟩ => ⟨P, b, s.phi _ _ h, r⟩
  | .aptr _ _ _ _ _ _, _, ⟨P, b, h, r⟩ => ⟨P, b, s.phi _ _ h, r⟩
  | .own _, _, ⟨P, h, r⟩ => ⟨P, s.phi _ _ h, r⟩
  | .sub _ _ _, _, ⟨P, A, c, h, r⟩ => ⟨P, A, c, s.phi _ _ h, r⟩
  | .bsub _ _ _ _ _ _, _, ⟨P, b, A, c, h, r⟩ => ⟨P, b, A, c, s.phi _ _ h, r⟩
  | .row e l, v, h => Rd.stab s.ro s.hp (.row e) l [v] h
  | .rptr e l _ _, _, ⟨b, o, cs, t, fz, us, rest, hv, hb, hh, hd, hR, hi⟩ => ⟨b, o, cs, t, fz, us, rest, hv, s.ro b hb, (s.hp b hb).trans hh, hd, RdL.mono (fun x vs => Rd.stab s.ro s.hp e x vs) l us hR, hi⟩
  | .fn _ _, _, ⟨vs, hv, h⟩ => ⟨vs, hv, All2.mono (IsPtr.stab s.phi) _ _ h⟩
  | .ifc _ _ _, _, h => h
  | .dead, _, _ => trivial
theorem AVR.stab {g g' : Gh} {hp hp' : HP} (s : Stab g hp g' hp') : ∀ (x : AV) (v : Value), AVR g hp x v → AVR g' hp' x v
  | .c x, v, h => VR.stab s x v h
  | .agg xs, _, ⟨vs, hv, h⟩ => ⟨vs, hv, All2.mono (VR.stab s) _ _ h⟩
theorem SVR.stab {g g' : Gh} {hp hp' : HP} (s : Stab g hp g' hp') : ∀ (x : SV) (v : Value), SVR g hp x v → SVR g' hp' x v
  | .v x, v, h => AVR.stab s x v h
  | .tup xs, _, ⟨vs, hv, h⟩ => ⟨vs, hv, All2.mono (AVR.stab s) _ _ h⟩
/-- An object's place withstands what leaves its block alone. -/
theorem ObjR.stab {g g' : Gh} {hp hp' : HP} (s : Stab g hp g' hp') {P : Pl} (hb : ∀ b, P.blk = some b → hp'[b]? = hp[b]?) : ∀ (o : Obj), ObjR g hp P o → ObjR g' hp' P o
  | .box cs, ⟨b, vs, t, h1, h2, h3⟩ => ⟨b, vs, t, h1, (hb b h1).trans h2, All2.mono (VR.stab s) _ _ h3⟩
  | .arr e l, h => by
    obtain ⟨h1, h2, h3, h4⟩ := h
    refine ⟨h1, h2, h3, ?_⟩
    cases hB : P.blk with
    | none => rw [hB] at h4; exact h4
    | some b =>
      rw [hB] at h4
      obtain ⟨h5, vs, t, us, rest, h6, h7, h8, h9⟩ := h4
      exact ⟨h5, vs, t, us, rest, (hb b hB).trans h6, h7, RdL.mono (fun x vs => Rd.stab s.ro s.hp e x vs) l us h8, h9⟩
  | .ice e l, h => by
    obtain ⟨h1, h2, h3, h4⟩ := h
    refine ⟨h1, h2, h3, ?_⟩
    cases hB : P.blk with
    | none => rw [hB] at h4; exact h4
    | some b =>
      rw [hB] at h4
      obtain ⟨h5, vs, t, us, rest, h6, h7, h8, h9⟩ := h4
      exact ⟨h5, vs, t, us, rest, (hb b hB).trans h6, h7, RdL.mono (fun x vs => Rd.stab s.ro s.hp e x vs) l us h8, h9⟩
/-! ### lengths -/
theorem Ty.size_pos : ∀ e : Ty, 0 < e.size
  | .int _ => Nat.one_pos
  | .bool => Nat.one_pos
  | .str => Nat.one_pos
  | .row _ => Nat.one_pos
  | .prod a b => by have := Ty.size_pos a; simp only [Ty.size]; omega
theorem Rd.length {ro : Nat → Prop} {hp : HP} : ∀ (e : Ty) (x : e.T) (vs : List Value), Rd ro hp e x vs → vs.length = e.size
  | .int _, _, _, h => by rw [show _ = _ from h]; rfl
  | .bool, _, _, h => by rw [show _ = _ from h]; rfl
  | .str, _, _, h => by rw [show _ = _ from h]; rfl
  | .row e, l, vs, ⟨A, c, hv, _⟩ => by rw [hv]; rfl
  | .prod a b, x, vs, ⟨u, v, hv, hu, hw⟩ => by rw [hv, List.length_append, Rd.length a _ _ hu, Rd.length b _ _ hw]; rfl
theorem RdL.length {ro : Nat → Prop} {hp : HP} {e : Ty} : ∀ (l : List e.T) (vs : List Value), RdL (Rd ro hp e) l vs → vs.length = l.length * e.size
  | [], vs, h => by rw [show vs = [] from h]; simp
  | x :: l, vs, ⟨u, v, hv, hx, hl⟩ => by rw [hv, List.length_append, Rd.length e _ _ hx, RdL.length l v hl, List.length_cons, Nat.add_mul, Nat.one_mul, Nat.add_comm]
theorem RdL.append {α : Type} {R : α → List Value → Prop} : ∀ (l m : List α) (u v : List Value), RdL R l u → RdL R m v → RdL R (l ++ m) (u ++ v)
  | [], m, u, v, hu, hv => by rw [show u = [] from hu]; exact hv
  | x :: l, m, u, v, ⟨a, b, e, hx, hl⟩, hv => ⟨a, b ++ v, by rw [e, List.append_assoc], hx, RdL.append l m b v hl hv⟩
/-- The i-th element's cells. -/
theorem RdL.get {ro : Nat → Prop} {hp : HP} {e : Ty} : ∀ (l : List e.T) (vs : List Value) (i : Nat) (d : e.T), RdL (Rd ro hp e) l vs → i < l.length → ∃ u, (vs.drop (i * e.size)).take e.size = u ∧ Rd ro hp e (l.getD i d) u
  | [], _, _, _, _, hi => by simp at hi
  | x :: l, vs, 0, d, ⟨u, v, hv, hx, hl⟩, hi => ⟨u, by rw [hv, Nat.zero_mul, List.drop_zero, List.take_left' (Rd.length e _ _ hx)], hx⟩
  | x :: l, vs, i + 1, d, ⟨u, v, hv, hx, hl⟩, hi => by
    obtain ⟨u', h1, h2⟩ := RdL.get l v i d hl (by simpa using hi)
    refine ⟨u', ?_, by simpa using h2⟩
    rw [hv, Nat.add_mul, Nat.one_mul, Nat.add_comm (i * e.size), ← List.drop_drop, List.drop_left' (Rd.length e _ _ hx)]
    exact h1
/-- The i-th element is written. -/
theorem RdL.set {ro : Nat → Prop} {hp : HP} {e : Ty} : ∀ (l : List e.T) (vs : List Value) (i : Nat) (x : e.T) (u : List Value), RdL (Rd ro hp e) l vs → i < l.length → Rd ro hp e x u →
    RdL (Rd ro hp e) (l.set i x) (vs.take (i * e.size) ++ u ++ vs.drop (i * e.size + e.size))
  | [], _, _, _, _, _, hi, _ => by simp at hi
  | y :: l, vs, 0, x, u, ⟨a, b, hv, hy, hl⟩, hi, hx => by
    refine ⟨u, b, ?_, hx, hl⟩
    rw [hv, Nat.zero_mul, List.take_zero, Nat.zero_add, List.drop_left' (Rd.length e _ _ hy), List.nil_append]
  | y :: l, vs, i + 1, x, u, ⟨a, b, hv, hy, hl⟩, hi, hx => by
    have ih := RdL.set l b i x u hl (by simpa using hi) hx
    refine ⟨a, _, ?_, hy, ih⟩
    have ha := Rd.length e _ _ hy
    rw [hv, Nat.add_mul, Nat.one_mul, Nat.add_comm (i * e.size)]
    rw [List.take_append, List.drop_append, ha]
    rw [List.take_of_length_le (by omega), List.drop_of_length_le (by omega)]
    rw [show e.size + i * e.size - e.size = i * e.size by omega, show e.size + i * e.size + e.size - e.size = i * e.size + e.size by omega]
    simp [Nat.add_comm (i * e.size) e.size]
theorem RdL.take_drop {ro : Nat → Prop} {hp : HP} {e : Ty} : ∀ (l : List e.T) (vs : List Value) (a b : Nat), RdL (Rd ro hp e) l vs → b ≤ l.length → RdL (Rd ro hp e) ((l.take b).drop a) ((vs.take (b * e.size)).drop (a * e.size))
  | [], vs, a, b, h, hb => by
    rw [show vs = [] from h]; simp [RdL]
  | x :: l, vs, a, 0, h, hb => by simp [RdL]
  | x :: l, vs, 0, b + 1, ⟨u, v, hv, hx, hl⟩, hb => by
    have ih := RdL.take_drop l v 0 b hl (by simpa using hb)
    have hu := Rd.length e _ _ hx
    refine ⟨u, _, ?_, hx, ih⟩
    have h1 : (u ++ v).take ((b + 1) * e.size) = u ++ v.take (b * e.size) := by
      rw [List.take_append, hu, List.take_of_length_le (by rw [hu, Nat.add_mul]; omega), Nat.add_mul, Nat.one_mul, Nat.add_sub_cancel]
    rw [hv, h1, Nat.zero_mul, List.drop_zero, List.drop_zero]
  | x :: l, vs, a + 1, b + 1, ⟨u, v, hv, hx, hl⟩, hb => by
    have ih := RdL.take_drop l v a b hl (by simpa using hb)
    have hu := Rd.length e _ _ hx
    rw [List.take_succ_cons, List.drop_succ_cons]
    have h1 : (u ++ v).take ((b + 1) * e.size) = u ++ v.take (b * e.size) := by
      rw [List.take_append, hu, List.take_of_length_le (by rw [hu, Nat.add_mul]; omega), Nat.add_mul, Nat.one_mul, Nat.add_sub_cancel]
    rw [hv, h1, Nat.add_mul, Nat.one_mul, Nat.add_comm (a * e.size), ← List.drop_drop, List.drop_left' hu]
    exact ih
end Go.Proofs.Ytmffnlcmklapmaa.Mx

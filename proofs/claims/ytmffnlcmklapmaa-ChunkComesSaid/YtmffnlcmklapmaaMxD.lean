/- The interpreter's operations do what the model's do: types, cells, loads, stores (own work). -/
import Derived.Test.YtmffnlcmklapmaaMxC
import Derived.Laws.Rows
import Derived.Laws.Cells
import Derived.Laws.CopyRow
import Derived.Laws.Append
import Derived.Laws.AppendOwn
import Derived.Laws.StructEq
import Derived.Laws.BytesString
import Derived.ChangeKeysEq
import Derived.WalkKit
namespace Go.Proofs.Ytmffnlcmklapmaa.Mx
open Go
set_option autoImplicit false
set_option linter.unusedVariables false
set_option linter.unusedSimpArgs false
/-! ### types -/
def udOf : TypeDesc → UD
  | .int k => .int k
  | .bool => .bool
  | .string => .str
  | .float k => .flt k
  | .complex k => .cpx k
  | .slice e => .slice e
  | .array n e => .arr n e
  | .struct fs => .struct (fs.toList.map fun f => (f.offset, f.type))
  | .pointer e => .ptr e
  | .interface _ => .iface
  | .tuple _ => .tuple
  | _ => .func
def rawV : CV → Value
  | .int k n => .int k n
  | .bool b => .bool b
  | .str s => .string s
  | .fint _ => .float .f64 0
  | .cint _ _ => .complex .f64 0 0
  | .nilp => .pointer none
  | .nilf => .nilFunc
  | .nili => .nilIface
  | .nils => .slice none 0 0
  | _ => undef
def plainZ : CV → Bool
  | .int _ _ | .bool _ | .str _ | .nilp | .nilf | .nili | .nils => true
  | .fint n => decide (n = 0)
  | .cint x y => decide (x = 0) && decide (y = 0)
  | _ => false
def Ty.zeroV : Ty → List Value
  | .int k => [.int k 0]
  | .bool => [.bool false]
  | .str => [.string ⟨#[]⟩]
  | .row _ => [.slice none 0 0]
  | .prod a b => a.zeroV ++ b.zeroV
structure TIok (P : Program) (t : Nat) (i : TI) : Prop where
  sz : (P.info? t).map (fun x => (x.size, x.bytes)) = some (i.size, i.bytes)
  und : (P.underlying t).map udOf = some i.und
  zero : (P.info? t).map (fun x => x.zero.map fun z => z.cells.toList) = some (some (i.zero.map rawV))
  zok : i.zero.all plainZ = true
  zlen : i.zero.length = i.size
  ty : i.ty.map Ty.zeroV = i.ty.map (fun _ => i.zero.map rawV)
  tysz : i.ty.map Ty.size = i.ty.map (fun _ => i.size)
  flds : (match i.und with | .struct fs => fs.all fun x => (P.info? x.2).isSome | .arr _ e => (P.info? e).isSome | _ => true) = true
def TIs (P : Program) (l : List (Nat × TI)) : Prop := ∀ t i, tget l t = some i → TIok P t i
theorem TIs.nil (P : Program) : TIs P [] := fun _ _ h => by cases h
theorem TIs.cons {P : Program} {t : Nat} {i : TI} {l : List (Nat × TI)} (h : TIok P t i) (hl : TIs P l) : TIs P ((t, i) :: l) := fun t' i' h' => by
  by_cases e : t = t'
  · subst e; simp only [tget, beq_self] at h'; cases h'; exact h
  · simp only [tget, beq_ne e] at h'; exact hl t' i' h'
theorem TIok.get {P : Program} {t : Nat} {i : TI} (h : TIok P t i) : ∃ x d z, P.info? t = some x ∧ x.size = i.size ∧ x.bytes = i.bytes ∧ x.zero = some z ∧ z.cells.toList = i.zero.map rawV ∧ P.underlying t = some d ∧ udOf d = i.und := by
  have h1 := h.sz
  have h2 := h.und
  have h3 := h.zero
  cases hi : P.info? t with
  | none => rw [hi] at h1; cases h1
  | some x =>
    rw [hi] at h1 h3
    cases hd : P.underlying t with
    | none => rw [hd] at h2; cases h2
    | some d =>
      rw [hd] at h2
      simp only [Option.map_some, Option.some.injEq, Prod.mk.injEq] at h1 h2 h3
      cases hz : x.zero with
      | none => rw [hz] at h3; cases h3
      | some z =>
        rw [hz] at h3
        simp only [Option.map_some, Option.some.injEq] at h3
        exact ⟨x, d, z, rfl, h1.1, h1.2, hz, h3, rfl, h2⟩
theorem zero_VR (g : Gh) (hp : HP) : ∀ (l : List CV), l.all plainZ = true → All2 (VR g hp) l (l.map rawV)
  | [], _ => trivial
  | c :: l, h => by
    simp only [List.all_cons, Bool.and_eq_true] at h
    refine ⟨?_, zero_VR g hp l h.2⟩
    have h1 := h.1
    cases c with
    | fint n => simp only [plainZ, decide_eq_true_eq] at h1; subst h1; exact ⟨0, rfl, YtmffnlcmklapmaaF.rep_zero⟩
    | cint x y => simp only [plainZ, Bool.and_eq_true, decide_eq_true_eq] at h1; obtain ⟨rfl, rfl⟩ := h1; exact ⟨0, 0, rfl, YtmffnlcmklapmaaF.rep_zero, YtmffnlcmklapmaaF.rep_zero⟩
    | int _ _ => rfl
    | bool _ => rfl
    | str _ => rfl
    | nilp => rfl
    | nilf => rfl
    | nili => rfl
    | nils => rfl
    | _ => simp [plainZ] at h1
theorem Rd.dflt (ro : Nat → Prop) (hp : HP) : ∀ e : Ty, Rd ro hp e e.dflt e.zeroV
  | .int _ => rfl
  | .bool => rfl
  | .str => rfl
  | .row e => ⟨none, 0, rfl, Nat.le_refl _, fun h => absurd rfl h⟩
  | .prod a b => ⟨_, _, rfl, Rd.dflt ro hp a, Rd.dflt ro hp b⟩
theorem RdL.replicate {ro : Nat → Prop} {hp : HP} {e : Ty} {x : e.T} {vs : List Value} (h : Rd ro hp e x vs) : ∀ n : Nat, RdL (Rd ro hp e) (List.replicate n x) (List.replicate n vs).flatten
  | 0 => rfl
  | n + 1 => ⟨vs, _, by rw [List.replicate_succ, List.flatten_cons], h, RdL.replicate h n⟩
/-! ### lists that go together -/
theorem All2.length {α β : Type} {R : α → β → Prop} : ∀ {l : List α} {m : List β}, All2 R l m → l.length = m.length
  | [], [], _ => rfl
  | _ :: l, _ :: m, ⟨_, h⟩ => by simp [All2.length h]
  | [], _ :: _, h => h.elim
  | _ :: _, [], h => h.elim
theorem All2.append {α β : Type} {R : α → β → Prop} : ∀ {l : List α} {m : List β} {l' : List α} {m' : List β}, All2 R l m → All2 R l' m' → All2 R (l ++ l') (m ++ m')
  | [], [], _, _, _, h => h
  | _ :: l, _ :: m, _, _, ⟨hx, h⟩, h' => ⟨hx, All2.append h h'⟩
  | [], _ :: _, _, _, h, _ => h.elim
  | _ :: _, [], _, _, h, _ => h.elim
theorem All2.drop {α β : Type} {R : α → β → Prop} : ∀ (n : Nat) {l : List α} {m : List β}, All2 R l m → All2 R (l.drop n) (m.drop n)
  | 0, _, _, h => h
  | n + 1, [], [], _ => trivial
  | n + 1, _ :: l, _ :: m, ⟨_, h⟩ => All2.drop n h
  | _ + 1, [], _ :: _, h => h.elim
  | _ + 1, _ :: _, [], h => h.elim
theorem All2.take {α β : Type} {R : α → β → Prop} : ∀ (n : Nat) {l : List α} {m : List β}, All2 R l m → All2 R (l.take n) (m.take n)
  | 0, _, _, h => by simp [All2]
  | n + 1, [], [], _ => trivial
  | n + 1, _ :: l, _ :: m, ⟨hx, h⟩ => ⟨hx, All2.take n h⟩
  | _ + 1, [], _ :: _, h => h.elim
  | _ + 1, _ :: _, [], h => h.elim
theorem All2.get {α β : Type} {R : α → β → Prop} : ∀ (n : Nat) {l : List α} {m : List β} {x : α}, All2 R l m → l[n]? = some x → ∃ y, m[n]? = some y ∧ R x y
  | 0, _ :: l, y :: m, x, ⟨hx, _⟩, h => by simp at h; subst h; exact ⟨y, rfl, hx⟩
  | n + 1, _ :: l, _ :: m, x, ⟨_, h⟩, hn => by simpa using All2.get n h (by simpa using hn)
  | _, [], [], _, _, h => by simp at h
  | _, [], _ :: _, _, h, _ => h.elim
  | _, _ :: _, [], _, h, _ => h.elim
theorem cutCs_eq : ∀ (cs : List CV) (off n : Nat) (l : List CV), cutCs cs off n = some l → l = (cs.drop off).take n ∧ off + n ≤ cs.length
  | cs, 0, 0, l, h => by cases cs <;> (simp only [cutCs, Option.some.injEq] at h; subst h; simp)
  | [], 0, n + 1, l, h => by simp [cutCs] at h
  | [], o + 1, n, l, h => by simp [cutCs] at h
  | c :: cs, 0, n + 1, l, h => by
    simp only [cutCs] at h
    cases hr : cutCs cs 0 n with
    | none => rw [hr] at h; cases h
    | some r =>
      rw [hr] at h
      simp only [Option.map_some, Option.some.injEq] at h
      subst h
      obtain ⟨h1, h2⟩ := cutCs_eq cs 0 n r hr
      simp only [List.drop_zero] at h1 ⊢
      exact ⟨by rw [h1]; rfl, by simp only [List.length_cons]; omega⟩
  | c :: cs, o + 1, n, l, h => by
    have h' : cutCs cs o n = some l := by cases n <;> exact h
    obtain ⟨h1, h2⟩ := cutCs_eq cs o n l h'
    exact ⟨by rw [h1]; rfl, by simp only [List.length_cons]; omega⟩
theorem cut_VR {g : Gh} {hp : HP} {cs l : List CV} {vs : List Value} {off n : Nat} (h : All2 (VR g hp) cs vs) (hc : cutCs cs off n = some l) : All2 (VR g hp) l ((vs.drop off).take n) ∧ ((vs.drop off).take n).length = n := by
  obtain ⟨rfl, hlen⟩ := cutCs_eq cs off n l hc
  refine ⟨All2.take n (All2.drop off h), ?_⟩
  have := All2.length h
  simp only [List.length_take, List.length_drop]
  omega
theorem putCs_eq : ∀ (cs : List CV) (off : Nat) (l r : List CV), putCs cs off l = some r → r = cs.take off ++ l ++ cs.drop (off + l.length) ∧ off + l.length ≤ cs.length
  | cs, 0, [], r, h => by cases cs <;> (simp only [putCs, Option.some.injEq] at h; subst h; simp)
  | [], 0, v :: vs, r, h => by simp [putCs] at h
  | [], o + 1, l, r, h => by simp [putCs] at h
  | c :: cs, 0, v :: vs, r, h => by
    simp only [putCs] at h
    cases hr : putCs cs 0 vs with
    | none => rw [hr] at h; cases h
    | some r' =>
      rw [hr] at h
      simp only [Option.map_some, Option.some.injEq] at h
      subst h
      obtain ⟨h1, h2⟩ := putCs_eq cs 0 vs r' hr
      simp only [Nat.zero_add, List.take_zero, List.nil_append] at h1 h2 ⊢
      exact ⟨by rw [h1]; simp, by simp only [List.length_cons]; omega⟩
  | c :: cs, o + 1, l, r, h => by
    have h' : (putCs cs o l).map (fun r => c :: r) = some r := by cases l <;> exact h
    cases hr : putCs cs o l with
    | none => rw [hr] at h'; cases h'
    | some r' =>
      rw [hr] at h'
      simp only [Option.map_some, Option.some.injEq] at h'
      subst h'
      obtain ⟨h1, h2⟩ := putCs_eq cs o l r' hr
      refine ⟨by rw [h1, show o + 1 + l.length = (o + l.length) + 1 by omega]; simp, by simp only [List.length_cons]; omega⟩
theorem put_VR {g : Gh} {hp : HP} {cs l r : List CV} {vs us : List Value} {off : Nat} (h : All2 (VR g hp) cs vs) (hl : All2 (VR g hp) l us) (hc : putCs cs off l = some r) :
    All2 (VR g hp) r (vs.take off ++ us ++ vs.drop (off + us.length)) ∧ off + us.length ≤ vs.length := by
  obtain ⟨rfl, hlen⟩ := putCs_eq cs off l r hc
  have h1 := All2.length h
  have h2 := All2.length hl
  rw [← h2]
  exact ⟨All2.append (All2.append (All2.take off h) hl) (All2.drop _ h), by omega⟩
/-! ### elements and cells -/
theorem Rd.enc {g : Gh} {hp : HP} : ∀ (e : Ty) (x : e.T) (u : List Value) (r : List CV) (v : List Value), Rd g.ro hp e x u → All2 (VR g hp) r v → All2 (VR g hp) (e.enc x r) (u ++ v)
  | .int _, _, _, _, _, h, hr => by rw [show _ = _ from h]; exact ⟨rfl, hr⟩
  | .bool, _, _, _, _, h, hr => by rw [show _ = _ from h]; exact ⟨rfl, hr⟩
  | .str, _, _, _, _, h, hr => by rw [show _ = _ from h]; exact ⟨rfl, hr⟩
  | .row e, l, u, r, v, h, hr => by
    have h0 := h
    obtain ⟨A, c, hu, _⟩ := h
    subst hu
    exact ⟨h0, hr⟩
  | .prod a b, x, _, r, v, ⟨u1, u2, hu, h1, h2⟩, hr => by
    rw [hu, List.append_assoc]
    exact Rd.enc a x.1 u1 _ _ h1 (Rd.enc b x.2 u2 r v h2 hr)
theorem decInt_eq {k : IntKind} {cs r : List CV} {n : Int} (h : decInt k cs = some (n, r)) : cs = .int k n :: r := by
  unfold decInt at h
  split at h
  · split at h
    · simp only [Option.some.injEq, Prod.mk.injEq] at h; obtain ⟨rfl, rfl⟩ := h; subst_vars; rfl
    · cases h
  · cases h
theorem decBool_eq {cs r : List CV} {n : Bool} (h : decBool cs = some (n, r)) : cs = .bool n :: r := by
  unfold decBool at h
  split at h
  · simp only [Option.some.injEq, Prod.mk.injEq] at h; obtain ⟨rfl, rfl⟩ := h; rfl
  · cases h
theorem decStr_eq {cs r : List CV} {n : ByteArray} (h : decStr cs = some (n, r)) : cs = .str n :: r := by
  unfold decStr at h
  split at h
  · simp only [Option.some.injEq, Prod.mk.injEq] at h; obtain ⟨rfl, rfl⟩ := h; rfl
  · cases h
theorem decRow_eq {e : Ty} {cs r : List CV} {l : List e.T} (h : decRow e cs = some (l, r)) : cs = .row e l :: r ∨ (l = [] ∧ cs = .nils :: r) := by
  unfold decRow at h
  split at h
  · split at h
    · rename_i e' l' r' q
      subst q
      simp only [Option.some.injEq, Prod.mk.injEq] at h; obtain ⟨rfl, rfl⟩ := h; exact .inl rfl
    · cases h
  · simp only [Option.some.injEq, Prod.mk.injEq] at h; obtain ⟨rfl, rfl⟩ := h; exact .inr ⟨rfl, rfl⟩
  · cases h
theorem dec_Rd {g : Gh} {hp : HP} : ∀ (e : Ty) (cs : List CV) (vs : List Value) (x : e.T) (r : List CV), All2 (VR g hp) cs vs → e.dec cs = some (x, r) → ∃ u v, vs = u ++ v ∧ Rd g.ro hp e x u ∧ All2 (VR g hp) r v
  | .int k, cs, vs, x, r, h, hd => by
    rw [decInt_eq hd] at h
    cases vs with
    | nil => exact h.elim
    | cons v vs => exact ⟨[v], vs, rfl, by rw [show v = _ from h.1]; rfl, h.2⟩
  | .bool, cs, vs, x, r, h, hd => by
    rw [decBool_eq hd] at h
    cases vs with
    | nil => exact h.elim
    | cons v vs => exact ⟨[v], vs, rfl, by rw [show v = _ from h.1]; rfl, h.2⟩
  | .str, cs, vs, x, r, h, hd => by
    rw [decStr_eq hd] at h
    cases vs with
    | nil => exact h.elim
    | cons v vs => exact ⟨[v], vs, rfl, by rw [show v = _ from h.1]; rfl, h.2⟩
  | .row e, cs, vs, x, r, h, hd => by
    rcases decRow_eq hd with he | ⟨hx, he⟩
    · rw [he] at h
      cases vs with
      | nil => exact h.elim
      | cons v vs => exact ⟨[v], vs, rfl, h.1, h.2⟩
    · rw [he] at h
      subst hx
      cases vs with
      | nil => exact h.elim
      | cons v vs => exact ⟨[v], vs, rfl, ⟨none, 0, by rw [show v = _ from h.1]; rfl, Nat.le_refl _, fun hn => absurd rfl hn⟩, h.2⟩
  | .prod a b, cs, vs, x, r, h, hd => by
    simp only [Ty.dec] at hd
    cases h1 : a.dec cs with
    | none => rw [h1] at hd; cases hd
    | some p =>
      obtain ⟨x1, r1⟩ := p
      rw [h1] at hd
      simp only at hd
      cases h2 : b.dec r1 with
      | none => rw [h2] at hd; cases hd
      | some q =>
        obtain ⟨x2, r2⟩ := q
        rw [h2] at hd
        simp only [Option.some.injEq, Prod.mk.injEq] at hd
        obtain ⟨rfl, rfl⟩ := hd
        obtain ⟨u1, v1, e1, hR1, hA1⟩ := dec_Rd a cs vs x1 r1 h h1
        obtain ⟨u2, v2, e2, hR2, hA2⟩ := dec_Rd b r1 v1 x2 r2 hA1 h2
        exact ⟨u1 ++ u2, v2, by rw [e1, e2, List.append_assoc], ⟨u1, u2, rfl, hR1, hR2⟩, hA2⟩
theorem decL_Rd {g : Gh} {hp : HP} {e : Ty} : ∀ (n : Nat) (cs : List CV) (vs : List Value) (l : List e.T), All2 (VR g hp) cs vs → e.decL n cs = some l → RdL (Rd g.ro hp e) l vs ∧ l.length = n
  | 0, [], [], l, _, h => by simp only [Ty.decL, Option.some.injEq] at h; subst h; exact ⟨rfl, rfl⟩
  | 0, [], _ :: _, l, h, _ => h.elim
  | 0, _ :: _, _, l, _, h => by simp [Ty.decL] at h
  | n + 1, cs, vs, l, h, hd => by
    simp only [Ty.decL] at hd
    cases h1 : e.dec cs with
    | none => rw [h1] at hd; cases hd
    | some p =>
      obtain ⟨x, r⟩ := p
      rw [h1] at hd
      simp only at hd
      cases h2 : e.decL n r with
      | none => rw [h2] at hd; cases hd
      | some l' =>
        rw [h2] at hd
        simp only [Option.some.injEq] at hd
        subst hd
        obtain ⟨u, v, e1, hR, hA⟩ := dec_Rd e cs vs x r h h1
        obtain ⟨h3, h4⟩ := decL_Rd n r v l' hA h2
        exact ⟨⟨u, v, e1, hR, h3⟩, by simp [h4]⟩
/-- No cell that stands for something is a struct or a tuple. -/
theorem VR.one {g : Gh} {hp : HP} : ∀ {c : CV} {v : Value}, VR g hp c v → c ≠ .dead → v.oneCell' = true
  | .int _ _, _, h, _ => by rw [show _ = _ from h]; rfl
  | .bool _, _, h, _ => by rw [show _ = _ from h]; rfl
  | .str _, _, h, _ => by rw [show _ = _ from h]; rfl
  | .fint _, _, ⟨_, h, _⟩, _ => by rw [h]; rfl
  | .cint _ _, _, ⟨_, _, h, _⟩, _ => by rw [h]; rfl
  | .nilp, _, h, _ => by rw [show _ = _ from h]; rfl
  | .nilf, _, h, _ => by rw [show _ = _ from h]; rfl
  | .nili, _, h, _ => by rw [show _ = _ from h]; rfl
  | .nils, _, h, _ => by rw [show _ = _ from h]; rfl
  | .ptr _ _, _, ⟨_, _, _, _, h⟩, _ => by rw [h]; rfl
  | .eptr _ _ _, _, ⟨_, _, _, _, _, h⟩, _ => by rw [h]; rfl
  | .aptr _ _ _ _ _ _, _, ⟨_, _, _, _, _, h⟩, _ => by rw [h]; rfl
  | .own _, _, ⟨_, _, h⟩, _ => by rw [h]; rfl
  | .sub _ _ _, _, ⟨_, _, _, _, _, _, _, h, _⟩, _ => by rw [h]; rfl
  | .bsub _ _ _ _ _ _, _, ⟨_, _, _, _, _, _, _, _, _, h, _⟩, _ => by rw [h]; rfl
  | .row _ _, v, ⟨_, _, h, _⟩, _ => by simp only [List.cons.injEq, and_true] at h; rw [h]; rfl
  | .rptr _ _ _ _, _, ⟨_, _, _, _, _, _, _, h, _⟩, _ => by rw [h]; rfl
  | .fn _ _, _, ⟨_, h, _⟩, _ => by rw [h]; rfl
  | .ifc _ _ _, _, h, _ => by rw [show _ = _ from h]; rfl
  | .dead, _, _, h => absurd rfl h
end Go.Proofs.Ytmffnlcmklapmaa.Mx

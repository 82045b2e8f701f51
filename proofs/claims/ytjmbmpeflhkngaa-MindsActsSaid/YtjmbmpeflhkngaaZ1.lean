/- An interpreter of the model's code over values with abstract keys for blocks: definitions alone (own work). -/
import Derived.Orders
import Derived.KernelRfl
import Derived.Laws.FloatArith
import Derived.Laws.ComplexArith
import Derived.Laws.Rows
import Derived.Laws.Cells
import Derived.Laws.CopyRow
import Derived.Laws.Append
import Derived.Laws.AppendOwn
import Derived.Laws.StructEq
import Derived.Laws.BytesString
import Derived.ChangeKeysEq
import Derived.WalkKit
import Derived.Laws.Cover2
import Derived.Laws.Cover3
import Derived.Laws.Small
import Derived.Laws.Pointers
import Derived.Laws.Slices
import Derived.Laws.MakeOwn
import Derived.Great.BuildSlice
namespace Go.Proofs.Ytjmbmpeflhkngaa.Mx
open Go
set_option autoImplicit false
universe u
/-! ### kinds of elements -/
inductive Ty where
  | int (k : IntKind) | bool | str | row (e : Ty) | prod (a b : Ty)
  deriving DecidableEq
@[reducible] def Ty.T : Ty → Type
  | .int _ => Int
  | .bool => Bool
  | .str => ByteArray
  | .row e => List e.T
  | .prod a b => a.T × b.T
def Ty.dflt : (e : Ty) → e.T
  | .int _ => (0 : Int)
  | .bool => false
  | .str => (⟨#[]⟩ : ByteArray)
  | .row _ => []
  | .prod a b => (a.dflt, b.dflt)
def Ty.size : Ty → Nat
  | .prod a b => a.size + b.size
  | _ => 1
/-- Holds it no row? -/
def Ty.flat : Ty → Bool
  | .row _ => false
  | .prod a b => a.flat && b.flat
  | _ => true
/-! ### values -/
/-- A cell's value. ptr: a cell of a box; eptr: of an element of a row of the call's own; aptr: of an array in a box; own, sub: slices of rows of the call's own; row: a slice that nobody writes to, by its elements. -/
inductive CV where
  | int (k : IntKind) (n : Int)
  | bool (b : Bool)
  | str (s : ByteArray)
  | fint (n : Int)
  | cint (x y : Int)
  | nilp | nilf | nili | nils
  | ptr (n off : Nat)
  | eptr (n i off : Nat)
  | aptr (n off len stride i o : Nat)
  | own (n : Nat)
  | sub (n lo hi : Nat)
  | row (e : Ty) (l : List e.T)
  | rptr (e : Ty) (l : List e.T) (i off : Nat)
  | fn (f : Nat) (js : List Nat)
  | ifc (t : Nat) (k : IntKind) (ns : List Int)
  | dead
inductive AV where
  | c (x : CV)
  | agg (xs : List CV)
inductive SV where
  | v (a : AV)
  | tup (xs : List AV)
def SV.dead : SV := .v (.c .dead)
/-- What a key stands for: a box of cells; a row of elements; one that nobody writes to any more. -/
inductive Obj where
  | box (cs : List CV)
  | arr (e : Ty) (l : List e.T)
  | ice (e : Ty) (l : List e.T)
abbrev Heap := List (Nat × Obj)
def hget : Heap → Nat → Option Obj
  | [], _ => none
  | (k, o) :: h, n => Bool.casesOn (Nat.beq k n) (hget h n) (some o)
def hsetK {R : Type u} : Heap → Nat → Obj → (Heap → R) → R
  | [], _, _, K => K []
  | (k, o) :: h, n, o', K => Bool.casesOn (Nat.beq k n) (hsetK h n o' fun h' => K ((k, o) :: h')) (K ((k, o') :: h))
def hdelK {R : Type u} : Heap → Nat → (Heap → R) → R
  | [], _, K => K []
  | (k, o) :: h, n, K => Bool.casesOn (Nat.beq k n) (hdelK h n fun h' => K ((k, o) :: h')) (hdelK h n K)
def CV.force {R : Type u} (c : CV) (K : CV → R) : R :=
  match c with
  | .int k n => K (.int k n) | .bool b => K (.bool b) | .str s => K (.str s) | .fint n => K (.fint n) | .cint x y => K (.cint x y)
  | .nilp => K .nilp | .nilf => K .nilf | .nili => K .nili | .nils => K .nils
  | .ptr n o => K (.ptr n o) | .eptr n i o => K (.eptr n i o) | .aptr n a b c d e => K (.aptr n a b c d e) | .own n => K (.own n) | .sub n a b => K (.sub n a b)
  | .row e l => K (.row e l) | .rptr e l i o => K (.rptr e l i o) | .fn f js => K (.fn f js) | .ifc t k ns => K (.ifc t k ns) | .dead => K .dead
def forceCs {R : Type u} : List CV → (List CV → R) → R
  | [], K => K []
  | c :: cs, K => c.force fun c' => forceCs cs fun cs' => K (c' :: cs')
def AV.force {R : Type u} (a : AV) (K : AV → R) : R :=
  match a with
  | .c x => x.force fun x' => K (.c x')
  | .agg xs => forceCs xs fun xs' => K (.agg xs')
def forceAs {R : Type u} : List AV → (List AV → R) → R
  | [], K => K []
  | c :: cs, K => c.force fun c' => forceAs cs fun cs' => K (c' :: cs')
def SV.force {R : Type u} (a : SV) (K : SV → R) : R :=
  match a with
  | .v x => x.force fun x' => K (.v x')
  | .tup xs => forceAs xs fun xs' => K (.tup xs')
def Obj.force {R : Type u} (o : Obj) (K : Obj → R) : R :=
  match o with
  | .box cs => forceCs cs fun cs' => K (.box cs')
  | .arr e l => K (.arr e l)
  | .ice e l => K (.ice e l)
def getS : List SV → Nat → SV
  | [], _ => .dead
  | x :: _, 0 => x
  | _ :: xs, n + 1 => getS xs n
def setK {R : Type u} : List SV → Nat → SV → (List SV → R) → R
  | [], _, _, K => K []
  | _ :: xs, 0, v, K => K (v :: xs)
  | x :: xs, n + 1, v, K => setK xs n v fun ys => K (x :: ys)
/-! ### elements and cells -/
def Ty.enc : (e : Ty) → e.T → List CV → List CV
  | .int k, n, r => .int k n :: r
  | .bool, b, r => .bool b :: r
  | .str, s, r => .str s :: r
  | .row e, l, r => .row e l :: r
  | .prod a b, x, r => a.enc x.1 (b.enc x.2 r)
def decInt (k : IntKind) : List CV → Option (Int × List CV)
  | .int k' n :: r => if k = k' then some (n, r) else none
  | _ => none
def decBool : List CV → Option (Bool × List CV)
  | .bool b :: r => some (b, r)
  | _ => none
def decStr : List CV → Option (ByteArray × List CV)
  | .str b :: r => some (b, r)
  | _ => none
def decRow (e : Ty) : List CV → Option (List e.T × List CV)
  | .row e' l :: r => if h : e' = e then some (h ▸ l, r) else none
  | .nils :: r => some ([], r)
  | _ => none
def Ty.dec : (e : Ty) → List CV → Option (e.T × List CV)
  | .int k, cs => decInt k cs
  | .bool, cs => decBool cs
  | .str, cs => decStr cs
  | .row e, cs => decRow e cs
  | .prod a b, cs =>
    match a.dec cs with
    | some (x, r) => match b.dec r with
      | some (y, r') => some ((x, y), r')
      | none => none
    | none => none
/-- A list of elements out of their cells. -/
def Ty.decL (e : Ty) : Nat → List CV → Option (List e.T)
  | 0, [] => some []
  | 0, _ :: _ => none
  | n + 1, cs => match e.dec cs with
    | some (x, r) => match e.decL n r with
      | some l => some (x :: l)
      | none => none
    | none => none
/-! ### operations as programs over a heap -/
structure FP where
  reads : List Nat
  writes : List Nat
inductive MA (α : Type) : Type 1 where
  | pure (a : α)
  | fail
  | get (n : Nat) (k : Obj → MA α)
  | set (n : Nat) (o : Obj) (k : MA α)
  | del (n : Nat) (k : MA α)
  | new (sub : Nat) (o : Obj) (k : MA α)
  | base (k : Nat → MA α)
  | cond (b : Bool) (t e : MA α)
  | bindO {β : Type} (x : Option β) (k : β → MA α)
  | sum {β γ : Type} (x : β ⊕ γ) (k : β → MA α) (l : γ → MA α)
def MA.bind {α β : Type} : MA α → (α → MA β) → MA β
  | .pure a, f => f a
  | .fail, _ => .fail
  | .get n k, f => .get n fun o => (k o).bind f
  | .set n o k, f => .set n o (k.bind f)
  | .del n k, f => .del n (k.bind f)
  | .new s o k, f => .new s o (k.bind f)
  | .base k, f => .base fun b => (k b).bind f
  | .cond b t e, f => .cond b (t.bind f) (e.bind f)
  | .bindO x k, f => .bindO x fun y => (k y).bind f
  | .sum x k l, f => .sum x (fun y => (k y).bind f) (fun y => (l y).bind f)
/-- How many keys an operation may make. -/
def keys : Nat := 16
def MA.run {α A : Type} : MA α → Nat → Heap → FP → (α → Heap → FP → Option A) → Option A
  | .pure a, _, h, fp, K => K a h fp
  | .fail, _, _, _, _ => none
  | .get n k, b, h, fp, K => match hget h n with
    | some o => (k o).run b h ⟨n :: fp.reads, fp.writes⟩ K
    | none => none
  | .set n o k, b, h, fp, K => match hget h n with
    | some _ => hsetK h n o fun h' => k.run b h' ⟨fp.reads, n :: fp.writes⟩ K
    | none => none
  | .del n k, b, h, fp, K => match hget h n with
    | some _ => hdelK h n fun h' => k.run b h' ⟨fp.reads, n :: fp.writes⟩ K
    | none => none
  | .new s o k, b, h, fp, K => match hget h (b + s) with
    | some _ => none
    | none => Bool.casesOn (Nat.blt s keys) none (k.run b ((b + s, o) :: h) ⟨fp.reads, (b + s) :: fp.writes⟩ K)
  | .base k, b, h, fp, K => (k b).run b h fp K
  | .cond c t e, b, h, fp, K => Bool.casesOn c (e.run b h fp K) (t.run b h fp K)
  | .bindO x k, b, h, fp, K => x.bind fun y => (k y).run b h fp K
  | .sum x k l, b, h, fp, K => Sum.elim (fun y => (k y).run b h fp K) (fun y => (l y).run b h fp K) x
def MA.ofO {α : Type} : Option α → MA α
  | some a => .pure a
  | none => .fail
def ret (c : CV) : MA SV := .pure (.v (.c c))
/-! ### types, as far as the code asks -/
inductive UD where
  | int (k : IntKind) | bool | str | flt (k : FloatKind) | cpx (k : FloatKind)
  | slice (e : Nat) | arr (n e : Nat) | struct (fs : List (Nat × Nat)) | ptr (e : Nat) | func | iface | tuple
/-- und: what it is by its make; zero: its zero value's cells; ty: its kind as an element, where it has one. -/
structure TI where
  und : UD
  size : Nat
  bytes : Nat
  zero : List CV
  ty : Option Ty
def TI.agg (i : TI) : Bool :=
  match i.und with
  | .struct _ | .arr _ _ => true
  | _ => false
def tget : List (Nat × TI) → Nat → Option TI
  | [], _ => none
  | (k, o) :: h, n => Bool.casesOn (Nat.beq k n) (tget h n) (some o)
/-! ### shapes: what a state looks like at a cut -/
inductive CF where
  | int (k : IntKind) | bool | str | fint | cint
  | row (e : Ty)
  | nilp | nilf | nili | nils
  | own (j : Nat)
  | ptr (j off : Nat)
  | fn (f : Nat) (js : List Nat)
  | bptr (e : Ty)
  | eptr (j off : Nat)
  | dead
def CF.P : CF → Type → Type
  | .int _, α => Int × α
  | .bool, α => Bool × α
  | .str, α => ByteArray × α
  | .fint, α => Int × α
  | .cint, α => Int × Int × α
  | .row e, α => List e.T × α
  | .bptr e, α => e.T × α
  | .eptr _ _, α => Nat × α
  | _, α => α
def csT : List CF → Type → Type
  | [], α => α
  | c :: cs, α => c.P (csT cs α)
def CF.encK {α : Type} {R : Type u} : (c : CF) → c.P α → (CV → α → R) → R
  | .int k, x, K => K (.int k x.1) x.2
  | .bool, x, K => K (.bool x.1) x.2
  | .str, x, K => K (.str x.1) x.2
  | .fint, x, K => K (.fint x.1) x.2
  | .cint, x, K => K (.cint x.1 x.2.1) x.2.2
  | .row e, x, K => K (.row e x.1) x.2
  | .nilp, x, K => K .nilp x
  | .nilf, x, K => K .nilf x
  | .nili, x, K => K .nili x
  | .nils, x, K => K .nils x
  | .own j, x, K => K (.own j) x
  | .ptr j off, x, K => K (.ptr j off) x
  | .fn f js, x, K => K (.fn f js) x
  | .bptr e, x, K => K (.rptr e [x.1] 0 0) x.2
  | .eptr j off, x, K => K (.eptr j x.1 off) x.2
  | .dead, x, K => K .dead x
def encCsK {α : Type} {R : Type u} : (cs : List CF) → csT cs α → (List CV → α → R) → R
  | [], x, K => K [] x
  | c :: cs, x, K => c.encK x fun v y => encCsK cs y fun vs z => K (v :: vs) z
inductive AF where
  | c (x : CF)
  | agg (xs : List CF)
def AF.P : AF → Type → Type
  | .c x, α => x.P α
  | .agg xs, α => csT xs α
def AF.encK {α : Type} {R : Type u} : (a : AF) → a.P α → (AV → α → R) → R
  | .c x, v, K => x.encK v fun y z => K (.c y) z
  | .agg xs, v, K => encCsK xs v fun y z => K (.agg y) z
inductive OF where
  | box (cs : List CF)
  | arr (e : Ty)
def OF.P : OF → Type → Type
  | .box cs, α => csT cs α
  | .arr e, α => List e.T × α
def OF.encK {α : Type} {R : Type u} : (o : OF) → o.P α → (Obj → α → R) → R
  | .box cs, x, K => encCsK cs x fun vs y => K (.box vs) y
  | .arr e, x, K => K (.arr e x.1) x.2
def slT : List (Nat × AF) → Type → Type
  | [], α => α
  | s :: ss, α => s.2.P (slT ss α)
def obT : List (Nat × OF) → Type → Type
  | [], α => α
  | s :: ss, α => s.2.P (obT ss α)
def encSlK {α : Type} {R : Type u} : (ss : List (Nat × AF)) → slT ss α → (List (Nat × AV) → α → R) → R
  | [], x, K => K [] x
  | s :: ss, x, K => s.2.encK x fun a y => encSlK ss y fun as z => K ((s.1, a) :: as) z
def encObK {α : Type} {R : Type u} : (ss : List (Nat × OF)) → obT ss α → (Heap → α → R) → R
  | [], x, K => K [] x
  | s :: ss, x, K => s.2.encK x fun o y => encObK ss y fun os z => K ((s.1, o) :: os) z
structure Shape where
  sl : List (Nat × AF)
  ob : List (Nat × OF)
def Shape.X (s : Shape) : Type := slT s.sl (obT s.ob Unit)
def Shape.encK {R : Type u} (s : Shape) (x : s.X) (K : List (Nat × AV) → Heap → R) : R :=
  encSlK s.sl x fun as y => encObK s.ob y fun h _ => K as h
/-- asg: which key each of the shape's keys stands for (none: the nil slice); frz: keys whose rows were taken as they read. -/
structure DS where
  asg : List (Nat × Option Nat)
  frz : List Nat
def aget : List (Nat × Option Nat) → Nat → Option (Option Nat)
  | [], _ => none
  | (k, o) :: h, n => Bool.casesOn (Nat.beq k n) (aget h n) (some o)
/-- Is a key taken? -/
def ahas : List (Nat × Option Nat) → Nat → Bool
  | [], _ => false
  | (_, some k) :: h, n => Bool.casesOn (Nat.beq k n) (ahas h n) true
  | (_, none) :: h, n => ahas h n
def bindKey {B : Type u} (d : DS) (j n : Nat) (K : DS → Option B) : Option B :=
  match aget d.asg j with
  | some (some m) => Bool.casesOn (Nat.beq m n) none (K d)
  | some none => none
  | none => Bool.casesOn (ahas d.asg n) (K ⟨(j, some n) :: d.asg, d.frz⟩) none
def bindKeys {B : Type u} (d : DS) : List Nat → List Nat → (DS → Option B) → Option B
  | [], [], K => K d
  | j :: js, n :: ns, K => bindKey d j n fun d' => bindKeys d' js ns K
  | _, _, _ => none
/-- The elements that a slice of the call's own has. -/
def rowOf (h : Nat → Option Obj) (e : Ty) (n : Nat) : Option (List e.T) :=
  match h n with
  | some (.arr e' l) => if q : e' = e then some (q ▸ l) else none
  | some (.ice e' l) => if q : e' = e then some (q ▸ l) else none
  | _ => none
/-- A cell as one reads it: a row of the call's own by its elements. -/
def thawC (h : Nat → Option Obj) : CV → Option (CV × List Nat)
  | .own k => match h k with
    | some (.arr e l) => some (.row e l, [k])
    | some (.ice e l) => some (.row e l, [k])
    | _ => none
  | .sub k lo hi => match h k with
    | some (.arr e l) => some (.row e ((l.take hi).drop lo), [k])
    | some (.ice e l) => some (.row e ((l.take hi).drop lo), [k])
    | _ => none
  | .int k n => some (.int k n, [])
  | .bool b => some (.bool b, [])
  | .str s => some (.str s, [])
  | .row e l => some (.row e l, [])
  | .nils => some (.nils, [])
  | _ => none
def thawCs (h : Nat → Option Obj) : List CV → Option (List CV × List Nat)
  | [] => some ([], [])
  | c :: cs => match thawC h c with
    | some (c', ns) => match thawCs h cs with
      | some (cs', ms) => some (c' :: cs', ns ++ ms)
      | none => none
    | none => none
/-- A box by its value, and the keys that it was read by. -/
def boxOf (h : Nat → Option Obj) (e : Ty) (n : Nat) : Option (e.T × List Nat) :=
  match h n with
  | some (.box cs) => match thawCs h cs with
    | some (cs', ns) => match e.dec cs' with
      | some (x, []) => some (x, ns)
      | _ => none
    | none => none
  | _ => none
def CF.decK {α : Type} {R : Type u} (h : Nat → Option Obj) (d : DS) : (c : CF) → CV → (DS → (α → c.P α) → Option R) → Option R
  | .int k, .int k' n, K => if k = k' then K d fun y => (n, y) else none
  | .bool, .bool b, K => K d fun y => (b, y)
  | .str, .str b, K => K d fun y => (b, y)
  | .fint, .fint n, K => K d fun y => (n, y)
  | .cint, .cint a b, K => K d fun y => (a, b, y)
  | .row e, .row e' l, K => if q : e' = e then K d fun y => (q ▸ l, y) else none
  | .row e, .nils, K => K d fun y => (([] : List e.T), y)
  | .row e, .own n, K => match rowOf h e n with
    | some l => K ⟨d.asg, n :: d.frz⟩ fun y => (l, y)
    | none => none
  | .row e, .sub n lo hi, K => match rowOf h e n with
    | some l => K ⟨d.asg, n :: d.frz⟩ fun y => ((l.take hi).drop lo, y)
    | none => none
  | .nilp, .nilp, K => K d id
  | .nilf, .nilf, K => K d id
  | .nili, .nili, K => K d id
  | .nils, .nils, K => K d id
  | .own j, .own n, K => bindKey d j n fun d' => K d' id
  | .own j, .nils, K => match aget d.asg j with
    | none => K ⟨(j, none) :: d.asg, d.frz⟩ id
    | some _ => none
  | .ptr j off, .ptr n off', K => Bool.casesOn (Nat.beq off off') none (bindKey d j n fun d' => K d' id)
  | .eptr j off, .eptr n i off', K => Bool.casesOn (Nat.beq off off') none (bindKey d j n fun d' => K d' fun y => (i, y))
  | .fn f js, .fn f' ns, K => Bool.casesOn (Nat.beq f f') none (bindKeys d js ns fun d' => K d' id)
  | .bptr e, .ptr n 0, K => match boxOf h e n with
    | some (x, ns) => K ⟨d.asg, n :: (ns ++ d.frz)⟩ fun y => (x, y)
    | none => none
  | .bptr e, .rptr e' l i 0, K => if q : e' = e then K d fun y => ((q ▸ (l.getD i e'.dflt) : e.T), y) else none
  | .dead, _, K => K d id
  | _, _, _ => none
def decCsK {α : Type} {R : Type u} (h : Nat → Option Obj) : (cs : List CF) → DS → List CV → (DS → (α → csT cs α) → Option R) → Option R
  | [], d, [], K => K d id
  | c :: cs, d, v :: vs, K => c.decK h d v fun d' p => decCsK h cs d' vs fun d2 q => K d2 fun y => p (q y)
  | [], _, _ :: _, _ => none
  | _ :: _, _, [], _ => none
def AF.decK {α : Type} {R : Type u} (h : Nat → Option Obj) (d : DS) : (a : AF) → AV → (DS → (α → a.P α) → Option R) → Option R
  | .c x, .c v, K => x.decK h d v K
  | .agg xs, .agg vs, K => decCsK h xs d vs K
  | .c _, .agg _, _ => none
  | .agg _, .c _, _ => none
def OF.decK {α : Type} {R : Type u} (h : Nat → Option Obj) (d : DS) : (o : OF) → Option Obj → (DS → (α → o.P α) → Option R) → Option R
  | .box cs, some (.box vs), K => decCsK h cs d vs K
  | .arr e, some (.arr e' l), K => if q : e' = e then K d fun y => (q ▸ l, y) else none
  | .arr e, none, K => K d fun y => (([] : List e.T), y)
  | _, _, _ => none
def decSlK {α : Type} {R : Type u} (h : Nat → Option Obj) (g : Nat → Option AV) : (ss : List (Nat × AF)) → DS → (DS → (α → slT ss α) → Option R) → Option R
  | [], d, K => K d id
  | s :: ss, d, K => match g s.1 with
    | some a => s.2.decK h d a fun d' p => decSlK h g ss d' fun d2 q => K d2 fun y => p (q y)
    | none => none
def decOb1K {α : Type} {R : Type u} (h : Nat → Option Obj) (d : DS) (o : OF) (K : DS → (α → o.P α) → Option R) : Option (Option Nat) → Option R
  | some (some n) => match h n with
    | some b => o.decK h d (some b) K
    | none => none
  | some none => o.decK h d none K
  | none => none
def decObK {α : Type} {R : Type u} (h : Nat → Option Obj) : (ss : List (Nat × OF)) → DS → (DS → (α → obT ss α) → Option R) → Option R
  | [], d, K => K d id
  | s :: ss, d, K => decOb1K h d s.2 (fun d' p => decObK h ss d' fun d2 q => K d2 fun y => p (q y)) (aget d.asg s.1)
/-- No row that was taken as it reads is held as one's own. -/
def DS.ok (d : DS) : List Nat → Bool
  | [] => true
  | n :: ns => Bool.casesOn (ahas d.asg n) (d.ok ns) false
def idAsg : List Nat → List (Nat × Option Nat)
  | [] => []
  | m :: l => (m, some m) :: idAsg l
/-- A state's data, by a shape; the keys of m stand for themselves. -/
def Shape.decK {R : Type u} (s : Shape) (m : List Nat) (h : Nat → Option Obj) (g : Nat → Option AV) (K : s.X → DS → Option R) : Option R :=
  decSlK h g s.sl ⟨idAsg m, []⟩ fun d p => decObK h s.ob d fun d' q => Bool.casesOn (d'.ok d'.frz) none (K (p (q ())) d')
/-! ### a function, told by its shapes and what it computes -/
def sumX : List Shape → Type
  | [] => Empty
  | [s] => s.X
  | s :: t :: r => s.X ⊕ sumX (t :: r)
structure FnSpec where
  ins : Shape
  outs : List Shape
  keep : List Nat
  f : ins.X → Option (sumX outs)
def refs : CV → List Nat
  | .ptr n _ | .eptr n _ _ | .aptr n _ _ _ _ _ | .own n | .sub n _ _ => [n]
  | .fn _ js => js
  | _ => []
def refsO : Obj → List Nat
  | .box cs => cs.flatMap refs
  | _ => []
def refsA : AV → List Nat
  | .c x => refs x
  | .agg xs => xs.flatMap refs
def collect : Nat → List Nat → Heap → MA Heap
  | 0, _, _ => .fail
  | _ + 1, [], acc => .pure acc
  | f + 1, n :: t, acc => match hget acc n with
    | some _ => collect f t acc
    | none => .get n fun o => collect f (refsO o ++ t) ((n, o) :: acc)
/-- The caller's key of a callee's key. -/
def mu (base : Nat) (asg : List (Nat × Option Nat)) (j : Nat) : Nat :=
  match aget asg j with
  | some (some n) => n
  | _ => base + j
def renC (μ : Nat → Nat) : CV → CV
  | .ptr n o => .ptr (μ n) o
  | .eptr n i o => .eptr (μ n) i o
  | .aptr n a b c d e => .aptr (μ n) a b c d e
  | .own n => .own (μ n)
  | .sub n a b => .sub (μ n) a b
  | .fn f js => .fn f (js.map μ)
  | c => c
def renA (μ : Nat → Nat) : AV → AV
  | .c x => .c (renC μ x)
  | .agg xs => .agg (xs.map (renC μ))
def renO (μ : Nat → Nat) : Obj → Obj
  | .box cs => .box (cs.map (renC μ))
  | o => o
def mkRes : List (Nat × AV) → SV
  | [(_, a)] => .v a
  | l => .tup (l.map (·.2))
/-- What is left of the callee's blocks: those that it got are set or struck, those that it made are laid. -/
def layObs (μ : Nat → Nat) (asg : List (Nat × Option Nat)) : Heap → MA SV → MA SV
  | [], k => k
  | (j, o) :: h, k => match aget asg j with
    | some (some n) => .set n (renO μ o) (layObs μ asg h k)
    | _ => .new j (renO μ o) (layObs μ asg h k)
def strike (kp : List (Nat × Option Nat)) (h : Heap) : List (Nat × Option Nat) → MA SV → MA SV
  | [], k => k
  | (j, some n) :: asg, k => match aget kp j, hget h j with
    | some _, some _ => strike kp h asg k
    | _, _ => .del n (strike kp h asg k)
  | (_, none) :: asg, k => strike kp h asg k
/-- The keys that are kept. -/
def kept (keep : List Nat) : List (Nat × Option Nat) → List (Nat × Option Nat)
  | [] => []
  | (j, x) :: r => Bool.casesOn (keep.any (Nat.beq j)) (kept keep r) ((j, x) :: kept keep r)
def finish1 (kp asg : List (Nat × Option Nat)) (s : Shape) (r : s.X) : MA SV :=
  .base fun b => s.encK r fun as h => strike kp h asg (layObs (mu b kp) kp h (.pure (mkRes (as.map fun a => (a.1, renA (mu b kp) a.2)))))
def finish (kp asg : List (Nat × Option Nat)) : (ss : List Shape) → sumX ss → MA SV
  | [], _ => .fail
  | [s], r => finish1 kp asg s r
  | s :: t :: r, x => .sum (β := s.X) (γ := sumX (t :: r)) x (finish1 kp asg s) (finish kp asg (t :: r))
def flatCF : CF → Bool
  | .row _ => false
  | .bptr _ => false
  | _ => true
def flatAF : AF → Bool
  | .c x => flatCF x
  | .agg xs => xs.all flatCF
def flatOF : OF → Bool
  | .box cs => cs.all flatCF
  | .arr e => e.flat
/-- Nothing that it hands back leads to what came in. -/
def Shape.flat (s : Shape) : Bool := s.sl.all (flatAF ·.2) && s.ob.all (flatOF ·.2)
def nthA : List AV → Nat → Option AV
  | [], _ => none
  | a :: _, 0 => some a
  | _ :: as, n + 1 => nthA as n
def refsF : CF → List Nat
  | .own j => [j]
  | .ptr j _ => [j]
  | .eptr j _ => [j]
  | .fn _ js => js
  | _ => []
def nodupK : List (Nat × OF) → Bool
  | [] => true
  | (k, _) :: r => !(r.any fun x => Nat.beq x.1 k) && nodupK r
def cfOk (c : CF) : Bool := (refsF c).all fun j => Nat.blt j keys
def afOk : AF → Bool
  | .c x => cfOk x
  | .agg xs => xs.all cfOk
def ofOk : OF → Bool
  | .box cs => cs.all cfOk
  | .arr _ => true
/-- No key twice, none too great. -/
def Shape.wf (s : Shape) : Bool := nodupK s.ob && (s.ob.all fun x => Nat.blt x.1 keys && ofOk x.2) && s.sl.all fun x => afOk x.2
def topKey : List (Nat × OF) → Nat → Nat
  | [], n => n
  | (k, _) :: r, n => topKey r (Nat.max n (k + 1))
def okAsg (m : Nat) (h : Heap) : List (Nat × Option Nat) → Bool
  | [] => true
  | (j, none) :: r => Bool.casesOn (Nat.blt j m) false (okAsg m h r)
  | (j, some n) :: r => match hget h n with
    | some _ => Bool.casesOn (Nat.blt j m) false (okAsg m h r)
    | none => false
def noFrz : List Nat → Bool
  | [] => true
  | _ => false
def FnSpec.callK (s : FnSpec) (args : List AV) (h : Heap) : Option (MA SV) :=
  s.ins.decK [] (hget h) (nthA args) fun x d =>
    Bool.casesOn (okAsg (topKey s.ins.ob 0) h d.asg) none <|
      Bool.casesOn (noFrz d.frz || s.outs.all Shape.flat) none (some (.bindO (s.f x) (finish (kept s.keep d.asg) d.asg s.outs)))
def tryAll (args : List AV) (h : Heap) : List FnSpec → MA SV
  | [] => .fail
  | s :: ss => match s.callK args h with
    | some m => m
    | none => tryAll args h ss
def callM (ss : List FnSpec) (args : List AV) : MA SV := (collect 64 (args.flatMap refsA) []).bind fun h => tryAll args h ss
/-! ### the environment of a function's run -/
inductive SK where
  | int (k : IntKind) | bool
def skget : List (Nat × List SK) → Nat → Option (List SK)
  | [], _ => none
  | (k, o) :: h, n => Bool.casesOn (Nat.beq k n) (skget h n) (some o)
structure Env where
  ti : List (Nat × TI)
  fns : List (Nat × FnSpec)
  eqs : List (Nat × List SK)
  cut : List (Nat × Shape)
  head : List (Nat × Shape)
  lab : List (Nat × Shape)
  m : Nat
  keep : List Nat
  fuel : Nat
def shget : List (Nat × Shape) → Nat → Option Shape
  | [], _ => none
  | (k, o) :: h, n => Bool.casesOn (Nat.beq k n) (shget h n) (some o)
def fnsOf : List (Nat × FnSpec) → Nat → List FnSpec
  | [], _ => []
  | (k, s) :: h, n => Bool.casesOn (Nat.beq k n) (fnsOf h n) (s :: fnsOf h n)
/-! ### what each operation does -/
def ofVal : Value → CV
  | .int k n => .int k n
  | .bool b => .bool b
  | .string s => .str s
  | .pointer none => .nilp
  | .slice none 0 0 => .nils
  | .nilIface => .nili
  | .nilFunc => .nilf
  | .complex .f64 0 4607182418800017408 => .cint 0 1
  | .complex .f64 0 13830554455654793216 => .cint 0 (-1)
  | _ => .dead
def rd (sl : List SV) : Operand → SV
  | .tmp t => getS sl t
  | .const v => .v (.c (ofVal v))
  | .func f => .v (.c (.fn f []))
  | .global _ => .dead
def mkAV (agg : Bool) (cs : List CV) : Option AV :=
  match agg, cs with
  | true, cs => some (.agg cs)
  | false, [c] => some (.c c)
  | false, _ => none
def svO : Option AV → MA SV
  | some a => .pure (.v a)
  | none => .fail
/-- n cells from off on. -/
def cutCs : List CV → Nat → Nat → Option (List CV)
  | _, 0, 0 => some []
  | [], _, _ => none
  | c :: cs, 0, n + 1 => (cutCs cs 0 n).map fun r => c :: r
  | _ :: cs, o + 1, n => cutCs cs o n
def putCs : List CV → Nat → List CV → Option (List CV)
  | cs, 0, [] => some cs
  | [], _, _ => none
  | _ :: cs, 0, v :: vs => (putCs cs 0 vs).map fun r => v :: r
  | c :: cs, o + 1, vs => (putCs cs o vs).map fun r => c :: r
def avCs : AV → List CV
  | .c x => [x]
  | .agg xs => xs
/-- Cells that are all whole numbers of one kind. -/
def intsOf (k : IntKind) : List CV → Option (List Int)
  | [] => some []
  | .int k' n :: r => if k' = k then (intsOf k r).map fun l => n :: l else none
  | _ => none
def boolsOf : List CV → Option (List Bool)
  | [] => some []
  | .bool b :: r => (boolsOf r).map fun l => b :: l
  | _ => none
/-- Each stride-th cell. -/
def everyCs (stride : Nat) : Nat → List CV → Option (List CV)
  | 0, _ => some []
  | n + 1, cs => match cs with
    | c :: _ => (everyCs stride n (cs.drop stride)).map fun r => c :: r
    | [] => none
def sel (cs : List CV) (i : Nat) : Option CV :=
  match cs with
  | .int k n :: r => (intsOf k (.int k n :: r)).map fun l => .int k (l.getD i 0)
  | .bool b :: r => (boolsOf (.bool b :: r)).map fun l => .bool (l.getD i false)
  | _ => none
/-- Cells o .. o + n - 1 of the i-th element of an array's cells. -/
def selN (cs : List CV) (len stride i : Nat) : Nat → Nat → Option (List CV)
  | _, 0 => some []
  | o, n + 1 => match everyCs stride len (cs.drop o) with
    | some l => match sel l i with
      | some c => (selN cs len stride i (o + 1) n).map fun r => c :: r
      | none => none
    | none => none
/-- Cell o of the i-th element of an array's cells is written; the second number: where these cells begin. -/
def putAt (stride o i : Nat) (v : CV) : Nat → List CV → Option (List CV)
  | _, [] => some []
  | q, c :: r => match putAt stride o i v (q + 1) r with
    | none => none
    | some r' => Bool.casesOn (Nat.beq (q % stride) o) (some (c :: r')) (match c, v with
      | .int k n, .int k' x => if k' = k then some (.int k (if i = q / stride then x else n) :: r') else none
      | .bool n, .bool x => some (.bool (if i = q / stride then x else n) :: r')
      | _, _ => none)
def putN (stride i : Nat) : Nat → List CV → List CV → Option (List CV)
  | _, [], cs => some cs
  | o, v :: vs, cs => match putAt stride o i v 0 cs with
    | some cs' => putN stride i (o + 1) vs cs'
    | none => none
def loadM (i : TI) : SV → MA SV
  | .v (.c (.ptr n off)) => .get n fun
    | .box cs => match cutCs cs off i.size with
      | some l => svO (mkAV i.agg l)
      | none => .fail
    | _ => .fail
  | .v (.c (.eptr n j off)) => .get n fun
    | .arr e l => match cutCs (e.enc (l.getD j e.dflt) []) off i.size with
      | some l => svO (mkAV i.agg l)
      | none => .fail
    | .ice e l => match cutCs (e.enc (l.getD j e.dflt) []) off i.size with
      | some l => svO (mkAV i.agg l)
      | none => .fail
    | _ => .fail
  | .v (.c (.rptr e l j off)) => match cutCs (e.enc (l.getD j e.dflt) []) off i.size with
    | some l => svO (mkAV i.agg l)
    | none => .fail
  | .v (.c (.aptr n off len stride j o)) => .get n fun
    | .box cs => match cutCs cs off (len * stride) with
      | some l => match selN l len stride j o i.size with
        | some r => svO (mkAV i.agg r)
        | none => .fail
      | none => .fail
    | _ => .fail
  | _ => .fail
/-- Cells as an element bears them: a slice of the call's own becomes a row that nobody writes to. -/
def rowsIn : Ty → List CV → MA (List CV × List CV)
  | .row e, .own n :: r => .get n fun
    | .arr e' l => .set n (.ice e' l) (.pure ([.row e' l], r))
    | .ice e' l => .pure ([.row e' l], r)
    | _ => .fail
  | .prod a b, cs => (rowsIn a cs).bind fun x => (rowsIn b x.2).bind fun y => .pure (x.1 ++ y.1, y.2)
  | _, c :: r => .pure ([c], r)
  | _, [] => .fail
def rowsInL (e : Ty) : Nat → List CV → MA (List CV)
  | 0, [] => .pure []
  | 0, _ :: _ => .fail
  | n + 1, cs => (rowsIn e cs).bind fun x => (rowsInL e n x.2).bind fun y => .pure (x.1 ++ y)
def live : CV → Bool
  | .dead => false
  | _ => true
/-- Cells that may be stored, as many as the type has. -/
def fits (cs : List CV) (n : Nat) : Bool := Nat.beq cs.length n && cs.all live
def storeM (i : TI) : SV → SV → MA SV
  | .v (.c (.ptr n off)), .v a => Bool.casesOn (fits (avCs a) i.size) .fail <| .get n fun
    | .box cs => match putCs cs off (avCs a) with
      | some cs' => .set n (.box cs') (.pure .dead)
      | none => .fail
    | _ => .fail
  | .v (.c (.eptr n j off)), .v a => Bool.casesOn (fits (avCs a) i.size) .fail <| .get n fun
    | .arr e l => match putCs (e.enc (l.getD j e.dflt) []) off (avCs a) with
      | some cs => match e.dec cs with
        | some (x, []) => .set n (.arr e (l.set j x)) (.pure .dead)
        | _ => .fail
      | none => .fail
    | _ => .fail
  | .v (.c (.aptr n off len stride j o)), .v a => Bool.casesOn (fits (avCs a) i.size && Nat.ble (o + (avCs a).length) stride) .fail <| .get n fun
    | .box cs => match cutCs cs off (len * stride) with
      | some l => match putN stride j o (avCs a) l with
        | some l' => match putCs cs off l' with
          | some cs' => .set n (.box cs') (.pure .dead)
          | none => .fail
        | none => .fail
      | none => .fail
    | _ => .fail
  | _, _ => .fail
def arithM (op : BinOp) (k : IntKind) (a b : Int) : MA SV :=
  match op with
  | .add => ret (.int k (k.wrap (a + b)))
  | .sub => ret (.int k (k.wrap (a - b)))
  | .mul => ret (.int k (k.wrap (a * b)))
  | .quo => .cond (decide (b = 0)) .fail (ret (.int k (k.wrap (a.tdiv b))))
  | .rem => .cond (decide (b = 0)) .fail (ret (.int k (a.tmod b)))
  | .and => ret (.int k (k.wrap ((BitVec.ofInt k.bits a &&& BitVec.ofInt k.bits b).toNat : Nat)))
  | .or => ret (.int k (k.wrap ((BitVec.ofInt k.bits a ||| BitVec.ofInt k.bits b).toNat : Nat)))
  | .xor => ret (.int k (k.wrap ((BitVec.ofInt k.bits a ^^^ BitVec.ofInt k.bits b).toNat : Nat)))
  | .eql => ret (.bool (a == b))
  | .neq => ret (.bool (a != b))
  | .lss => ret (.bool (decide (a < b)))
  | .leq => ret (.bool (decide (a ≤ b)))
  | .gtr => ret (.bool (decide (a > b)))
  | .geq => ret (.bool (decide (a ≥ b)))
  | _ => .fail
def shiftM (op : BinOp) (k : IntKind) (a b : Int) : MA SV :=
  .cond (decide (b < 0)) .fail <|
    match op with
    | .shl => ret (.int k (k.wrap (a * 2 ^ (min b.toNat k.bits))))
    | .shr => ret (.int k (a.fdiv (2 ^ (min b.toNat k.bits))))
    | _ => .fail
def eq1 : SK → CV → CV → Option Bool
  | .int k, .int k1 a, .int k2 b => if k1 = k ∧ k2 = k then some (a == b) else none
  | .bool, .bool a, .bool b => some (a == b)
  | _, _, _ => none
/-- Are structs of whole numbers and bools equal, cell by cell? -/
def eqCs : List SK → List CV → List CV → Option Bool
  | [], [], [] => some true
  | k :: ks, x :: xs, y :: ys => match eq1 k x y with
    | some b => match eqCs ks xs ys with
      | some r => some (b && r)
      | none => none
    | none => none
  | _, _, _ => none
/-- Of two values that may be nil: are they the same? -/
def nilEq (ud : UD) (x y : CV) : Option Bool :=
  match ud with
  | .ptr _ => match x, y with
    | .nilp, .nilp => some true
    | .nilp, .ptr _ _ | .ptr _ _, .nilp | .nilp, .eptr _ _ _ | .eptr _ _ _, .nilp => some false
    | _, _ => none
  | .slice _ => match x, y with
    | .nils, .nils => some true
    | _, _ => none
  | _ => none
def boolM (op : BinOp) (b : Bool) : MA SV :=
  match op with
  | .eql => ret (.bool b)
  | .neq => ret (.bool (!b))
  | _ => .fail
/-- Whole numbers that a float64 bears. -/
def small (x : Int) : Bool := decide (x.natAbs < 9007199254740992)
def isI (u v : Int) : Bool := decide (u = 0) && decide (v = 1)
def binM (tis : List (Nat × TI)) (eqs : List (Nat × List SK)) (op : BinOp) (t : Nat) : SV → SV → MA SV
  | .v (.c (.int k a)), .v (.c (.int k' b)) =>
    match op with
    | .shl => shiftM .shl k a b
    | .shr => shiftM .shr k a b
    | op => if k = k' then arithM op k a b else .fail
  | .v (.c (.str a)), .v (.c (.str b)) => boolM op (a.toList == b.toList)
  | .v (.c (.cint x y)), .v (.c (.cint u v)) =>
    match op with
    | .add => .cond (small (x + u) && small (y + v)) (ret (.cint (x + u) (y + v))) .fail
    | .mul => .cond (isI u v) (.cond (small x && small y) (ret (.cint (-y) x)) .fail) .fail
    | _ => .fail
  | .v (.agg xs), .v (.agg ys) => match skget eqs t with
    | some ks => match eqCs ks xs ys with
      | some b => boolM op b
      | none => .fail
    | none => .fail
  | .v (.c x), .v (.c y) => match tget tis t with
    | some i => match x, y with
      | .bool a, .bool b => match i.und with
        | .bool => boolM op (a == b)
        | _ => .fail
      | x, y => match nilEq i.und x y with
        | some b => boolM op b
        | none => .fail
    | none => .fail
  | _, _ => .fail
def unM (op : UnOp) : SV → MA SV
  | .v (.c (.int k n)) => match op with
    | .neg => ret (.int k (k.wrap (0 - n)))
    | _ => .fail
  | .v (.c (.bool b)) => match op with
    | .not => ret (.bool (!b))
    | _ => .fail
  | _ => .fail
/-- Whole numbers as bytes, and back. -/
def bytesOf (l : List Int) : ByteArray := ⟨(l.map fun n => UInt8.ofNat n.toNat).toArray⟩
/-- Is it a slice of bytes? -/
def isBytes (tis : List (Nat × TI)) : UD → Bool
  | .slice e => match tget tis e with
    | some i => match i.und with
      | .int .u8 => true
      | _ => false
    | none => false
  | _ => false
def convM (tis : List (Nat × TI)) (src dst : UD) : SV → MA SV
  | .v (.c (.int _ n)) => match dst with
    | .int k => ret (.int k (k.wrap n))
    | .flt .f64 => .cond (small n) (ret (.fint n)) .fail
    | _ => .fail
  | .v (.c (.fint n)) => match dst with
    | .int .i64 => .cond (small n) (ret (.int .i64 n)) .fail
    | _ => .fail
  | .v (.c (.row (.int .u8) l)) => match dst with
    | .str => Bool.casesOn (isBytes tis src) .fail (ret (.str (bytesOf l)))
    | _ => .fail
  | .v (.c .nils) => match dst with
    | .str => Bool.casesOn (isBytes tis src) .fail (ret (.str (bytesOf [])))
    | _ => .fail
  | .v (.c (.own n)) => match dst with
    | .str => Bool.casesOn (isBytes tis src) .fail <| .get n fun
      | .arr (.int .u8) l => ret (.str (bytesOf l))
      | .ice (.int .u8) l => ret (.str (bytesOf l))
      | _ => .fail
    | _ => .fail
  | _ => .fail
def inRange (z : Int) (n : Nat) : Bool := decide (0 ≤ z ∧ z < (n : Int))
def idxM (ud : UD) (esize : Nat) (x i : SV) : MA SV :=
  match i with
  | .v (.c (.int _ z)) =>
    match ud, x with
    | .slice _, .v (.c (.row e l)) => Bool.casesOn (Nat.beq e.size esize) .fail (.cond (inRange z l.length) (ret (.rptr e l z.toNat 0)) .fail)
    | .slice _, .v (.c (.own n)) => .get n fun
      | .arr e l => Bool.casesOn (Nat.beq e.size esize) .fail (.cond (inRange z l.length) (ret (.eptr n z.toNat 0)) .fail)
      | .ice e l => Bool.casesOn (Nat.beq e.size esize) .fail (.cond (inRange z l.length) (ret (.eptr n z.toNat 0)) .fail)
      | _ => .fail
    | .slice _, .v (.c (.sub n lo hi)) => .get n fun
      | .arr e _ => Bool.casesOn (Nat.beq e.size esize) .fail (.cond (inRange z (hi - lo)) (ret (.eptr n (lo + z.toNat) 0)) .fail)
      | .ice e _ => Bool.casesOn (Nat.beq e.size esize) .fail (.cond (inRange z (hi - lo)) (ret (.eptr n (lo + z.toNat) 0)) .fail)
      | _ => .fail
    | .arr len _, .v (.c (.ptr n off)) => .cond (inRange z len) (ret (.aptr n off len esize z.toNat 0)) .fail
    | _, _ => .fail
  | _ => .fail
/-- An element of an array that is a value. -/
def idxvM (ud : UD) (ei : TI) (x i : SV) : MA SV :=
  match i with
  | .v (.c (.int _ z)) =>
    match ud, x with
    | .arr len _, .v (.agg cs) => .cond (inRange z len) (match selN cs len ei.size z.toNat 0 ei.size with
      | some r => svO (mkAV ei.agg r)
      | none => .fail) .fail
    | .str, .v (.c (.str s)) => .cond (inRange z s.size) (ret (.int .u8 ((s.data.getD z.toNat 0).toNat : Nat))) .fail
    | _, _ => .fail
  | _ => .fail
def fieldM (off : Nat) : SV → MA SV
  | .v (.c (.ptr n o)) => ret (.ptr n (o + off))
  | .v (.c (.eptr n i o)) => ret (.eptr n i (o + off))
  | .v (.c (.aptr n a b c i o)) => ret (.aptr n a b c i (o + off))
  | .v (.c (.rptr e l i o)) => ret (.rptr e l i (o + off))
  | _ => .fail
def lenM (ud : UD) (x : SV) : MA SV :=
  match ud with
  | .slice _ => match x with
    | .v (.c (.row _ l)) => ret (.int .i64 (l.length : Nat))
    | .v (.c (.own n)) => .get n fun
      | .arr _ l => ret (.int .i64 (l.length : Nat))
      | .ice _ l => ret (.int .i64 (l.length : Nat))
      | _ => .fail
    | .v (.c (.sub _ lo hi)) => ret (.int .i64 (hi - lo : Nat))
    | .v (.c .nils) => ret (.int .i64 0)
    | _ => .fail
  | .str => match x with
    | .v (.c (.str s)) => ret (.int .i64 (s.size : Nat))
    | _ => .fail
  | .arr n _ => ret (.int .i64 (n : Nat))
  | _ => .fail
def minI (a b : Int) : Int := if b < a then b else a
def maxI (a b : Int) : Int := if b > a then b else a
def foldM (f : Int → Int → Int) (k : IntKind) (a : Int) : List SV → MA SV
  | [] => ret (.int k a)
  | .v (.c (.int k' b)) :: r => if k = k' then foldM f k (f a b) r else .fail
  | _ => .fail
def minmaxM (f : Int → Int → Int) : List SV → MA SV
  | .v (.c (.int k a)) :: r => foldM f k a r
  | _ => .fail
/-- A bound of a cut: none, or a whole number. -/
def bnd (d : Int) : Option SV → Option Int
  | none => some d
  | some (.v (.c (.int _ z))) => some z
  | _ => none
def sliceM (esize : Nat) (x : SV) (lo hi : Option SV) : MA SV :=
  match x with
  | .v (.c (.row e l)) => match bnd 0 lo, bnd (l.length : Nat) hi with
    | some a, some b => Bool.casesOn (Nat.beq e.size esize) .fail (.cond (decide (0 ≤ a ∧ a ≤ b ∧ b ≤ (l.length : Int))) (ret (.row e ((l.take b.toNat).drop a.toNat))) .fail)
    | _, _ => .fail
  | .v (.c (.own n)) => .get n fun
    | .arr e l => match bnd 0 lo, bnd (l.length : Nat) hi with
      | some a, some b => Bool.casesOn (Nat.beq e.size esize) .fail (.cond (decide (0 ≤ a ∧ a ≤ b ∧ b ≤ (l.length : Int))) (ret (.sub n a.toNat b.toNat)) .fail)
      | _, _ => .fail
    | _ => .fail
  | .v (.c (.sub n p q)) => .get n fun
    | .arr e l => match bnd 0 lo, bnd ((q - p : Nat) : Int) hi with
      | some a, some b => Bool.casesOn (Nat.beq e.size esize) .fail (.cond (decide (0 ≤ a ∧ a ≤ b ∧ b ≤ ((q - p : Nat) : Int))) (ret (.sub n (p + a.toNat) (p + b.toNat))) .fail)
      | _, _ => .fail
    | _ => .fail
  | _ => .fail
/-- How many elements of so many bytes a slice may hold. -/
def limit (bytes : Nat) : Nat := 140737488355328 / bytes
def makeM (e : Ty) (bytes : Nat) (len cap : SV) : MA SV :=
  match len, cap with
  | .v (.c (.int _ n)), .v (.c (.int _ c)) => .cond (decide (0 ≤ n ∧ n ≤ c ∧ c ≤ (limit bytes : Int))) (.base fun b => .new 0 (.arr e (List.replicate n.toNat e.dflt)) (ret (.own b))) .fail
  | _, _ => .fail
/-- The elements that are appended. -/
def moreM (e : Ty) : SV → MA (List e.T)
  | .v (.c (.row e' l)) => if q : e' = e then .pure (q ▸ l) else .fail
  | .v (.c .nils) => .pure []
  | .v (.c (.own n)) => .get n fun
    | .arr e' l => if q : e' = e then .pure (q ▸ l) else .fail
    | .ice e' l => if q : e' = e then .pure (q ▸ l) else .fail
    | _ => .fail
  | .v (.c (.sub n lo hi)) => .get n fun
    | .arr e' l => if q : e' = e then .pure (((q ▸ l : List e.T).take hi).drop lo) else .fail
    | .ice e' l => if q : e' = e then .pure (((q ▸ l : List e.T).take hi).drop lo) else .fail
    | _ => .fail
  | _ => .fail
def appendM (e : Ty) (bytes : Nat) (x y : SV) : MA SV :=
  (moreM e y).bind fun more =>
    match x with
    | .v (.c (.own n)) => .get n fun
      | .arr e' l => if q : e' = e then .cond (decide ((q ▸ l : List e.T).length + more.length ≤ limit bytes)) (.del n (.base fun b => .new 0 (.arr e ((q ▸ l : List e.T) ++ more)) (ret (.own b)))) .fail else .fail
      | _ => .fail
    | .v (.c .nils) => .cond (decide (more.length ≤ limit bytes)) (.base fun b => .new 0 (.arr e more) (ret (.own b))) .fail
    | _ => .fail
/-- The cells of a struct or an array that is built. -/
def fillCs (place : Nat → Option (Nat × Nat)) (cs : List CV) : List (Nat × SV) → Option (List CV)
  | [] => some cs
  | (i, .v a) :: r => match place i with
    | some (off, size) => Bool.casesOn (fits (avCs a) size) none (match putCs cs off (avCs a) with
      | some cs' => fillCs place cs' r
      | none => none)
    | none => none
  | _ => none
def nthF : List (Nat × Nat) → Nat → Option (Nat × Nat)
  | [], _ => none
  | x :: _, 0 => some x
  | _ :: r, n + 1 => nthF r n
def repCs (cs : List CV) : Nat → List CV
  | 0 => []
  | n + 1 => cs ++ repCs cs n
def placeOf (tis : List (Nat × TI)) (i : TI) (j : Nat) : Option (Nat × Nat) :=
  match i.und with
  | .struct fs => match nthF fs j with
    | some (off, t) => match tget tis t with
      | some q => some (off, q.size)
      | none => none
    | none => none
  | .arr _ e => match tget tis e with
    | some q => some (j * q.size, q.size)
    | none => none
  | _ => none
def argsOf : List SV → Option (List AV)
  | [] => some []
  | .v a :: r => (argsOf r).map fun l => a :: l
  | _ => none
def boxM (cs : List CV) : MA SV := .base fun b => .new 0 (.box cs) (ret (.ptr b 0))
def allSome {α : Type} : List (Option α) → Option (List α)
  | [] => some []
  | some x :: r => (allSome r).map fun l => x :: l
  | none :: _ => none
def pairsOf (sl : List SV) (ps : List (Nat × Operand)) : List (Nat × SV) := ps.map fun p => (p.1, rd sl p.2)
def keysOf : List SV → Option (List Nat)
  | [] => some []
  | .v (.c (.ptr n 0)) :: r => (keysOf r).map fun l => n :: l
  | _ => none
def nilCheckM : SV → MA SV
  | .v (.c (.ptr n o)) => ret (.ptr n o)
  | .v (.c (.eptr n i o)) => ret (.eptr n i o)
  | .v (.c (.rptr e l i o)) => ret (.rptr e l i o)
  | .v (.c (.aptr n a b c i o)) => ret (.aptr n a b c i o)
  | _ => .fail
def tupM (i : Nat) : SV → MA SV
  | .tup l => match nthA l i with
    | some a => .pure (.v a)
    | none => .fail
  | _ => .fail
def cpxM : List SV → MA SV
  | [.v (.c (.fint a)), .v (.c (.fint b))] => ret (.cint a b)
  | _ => .fail
def realM : List SV → MA SV
  | [.v (.c (.cint a _))] => ret (.fint a)
  | _ => .fail
def imagM : List SV → MA SV
  | [.v (.c (.cint _ b))] => ret (.fint b)
  | _ => .fail
def elemM (tis : List (Nat × TI)) (t : Nat) (k : Ty → TI → MA SV) : MA SV :=
  match tget tis t with
  | some i => match i.und with
    | .slice e => match tget tis e with
      | some j => match j.ty with
        | some ty => k ty j
        | none => .fail
      | none => .fail
    | _ => .fail
  | none => .fail
def opM (E : Env) (sl : List SV) (type : Nat) : Op → MA SV
  | .move x => .pure (rd sl x)
  | .assign x => .pure (rd sl x)
  | .pick c a b => match rd sl c with
    | .v (.c (.bool t)) => .cond t (.pure (rd sl a)) (.pure (rd sl b))
    | _ => .fail
  | .alloc elem => match tget E.ti elem with
    | some i => boxM i.zero
    | none => .fail
  | .box elem x => match tget E.ti elem, rd sl x with
    | some i, .v a => Bool.casesOn (fits (avCs a) i.size) .fail (boxM (avCs a))
    | _, _ => .fail
  | .build t ps => match tget E.ti t with
    | some i => Bool.casesOn i.agg .fail (match fillCs (placeOf E.ti i) i.zero (pairsOf sl ps.toList) with
      | some cs => .pure (.v (.agg cs))
      | none => .fail)
    | none => .fail
  | .buildSlice t n ps => elemM E.ti t fun e j => match fillCs (fun i => some (i * j.size, j.size)) (repCs j.zero n) (pairsOf sl ps.toList) with
    | some cs => Bool.casesOn (Nat.ble (n * j.size) 16777216) .fail <| (rowsInL e n cs).bind fun cs' => match e.decL n cs' with
      | some l => .base fun b => .new 0 (.arr e l) (ret (.own b))
      | none => .fail
    | none => .fail
  | .load t a => match tget E.ti t with
    | some i => loadM i (rd sl a)
    | none => .fail
  | .store t a x => match tget E.ti t with
    | some i => storeM i (rd sl a) (rd sl x)
    | none => .fail
  | .nilCheck x => nilCheckM (rd sl x)
  | .binOp op t x y _ => binM E.ti E.eqs op t (rd sl x) (rd sl y)
  | .unOp op _ x => unM op (rd sl x)
  | .convert s d x => match tget E.ti s, tget E.ti d with
    | some i, some j => convM E.ti i.und j.und (rd sl x)
    | _, _ => .fail
  | .makeFunc (.func f) first captured => match first.toList, keysOf (captured.toList.map (rd sl)) with
    | [], some ns => ret (.fn f ns)
    | _, _ => .fail
  | .makeSlice t l c => elemM E.ti t fun e j => makeM e j.bytes (rd sl l) (rd sl c)
  | .slice t x lo hi none => match tget E.ti t with
    | some i => match i.und with
      | .slice e => match tget E.ti e with
        | some j => sliceM j.size (rd sl x) (lo.map (rd sl)) (hi.map (rd sl))
        | none => .fail
      | _ => .fail
    | none => .fail
  | .fieldAddr s x f => match tget E.ti s with
    | some i => match i.und with
      | .struct fs => match nthF fs f with
        | some (off, t) => match tget E.ti t with
          | some j => Bool.casesOn (Nat.beq j.size 0) (fieldM off (rd sl x)) .fail
          | none => .fail
        | none => .fail
      | _ => .fail
    | none => .fail
  | .field s x f => match tget E.ti s with
    | some i => match i.und with
      | .struct fs => match nthF fs f with
        | some (off, t) => match tget E.ti t, rd sl x with
          | some j, .v (.agg cs) => match cutCs cs off j.size with
            | some l => svO (mkAV j.agg l)
            | none => .fail
          | _, _ => .fail
        | none => .fail
      | _ => .fail
    | none => .fail
  | .indexAddr t x i => match tget E.ti t with
    | some q => match q.und with
      | .slice e => match tget E.ti e with
        | some j => idxM q.und j.size (rd sl x) (rd sl i)
        | none => .fail
      | .arr _ e => match tget E.ti e with
        | some j => idxM q.und j.size (rd sl x) (rd sl i)
        | none => .fail
      | _ => .fail
    | none => .fail
  | .index t x i => match tget E.ti t with
    | some q => match q.und with
      | .arr _ e => match tget E.ti e with
        | some j => idxvM q.und j (rd sl x) (rd sl i)
        | none => .fail
      | .str => idxvM q.und q (rd sl x) (rd sl i)
      | _ => .fail
    | none => .fail
  | .extract t i => tupM i (rd sl t)
  | .call c => match c.callee with
    | .value f => match rd sl f, argsOf (c.args.toList.map (rd sl)) with
      | .v (.c (.fn g js)), some as => callM (fnsOf E.fns g) (as ++ js.map fun n => .c (.ptr n 0))
      | _, _ => .fail
    | .builtin .len => match c.argTypes.toList, c.args.toList with
      | [t], [x] => match tget E.ti t with
        | some i => lenM i.und (rd sl x)
        | none => .fail
      | _, _ => .fail
    | .builtin .append => match c.argTypes.toList, c.args.toList with
      | [t, t'], [x, y] => Bool.casesOn (Nat.beq t t') .fail (elemM E.ti t fun e j => appendM e j.bytes (rd sl x) (rd sl y))
      | _, _ => .fail
    | .builtin .min => minmaxM minI (c.args.toList.map (rd sl))
    | .builtin .max => minmaxM maxI (c.args.toList.map (rd sl))
    | .builtin .complex => cpxM (c.args.toList.map (rd sl))
    | .builtin .real => realM (c.args.toList.map (rd sl))
    | .builtin .imag => imagM (c.args.toList.map (rd sl))
    | _ => .fail
  | _ => .fail
/-! ### regions -/
structure St where
  slots : List SV
  heap : Heap
  next : Nat
def putDst {R : Type} (sl : List SV) : Option Nat → SV → (List SV → R) → R
  | none, _, K => K sl
  | some d, v, K => setK sl d v K
def guardSlot (ops : List Oper) (j : Nat) : Option Nat :=
  match ops[j]? with
  | some o => o.dst
  | none => none
def runOp {A : Type} (E : Env) (o : Oper) (sl : List SV) (h : Heap) (base : Nat) (K : List SV → Heap → FP → Option A) : Option A :=
  (opM E sl o.type o.op).run base h ⟨[], []⟩ fun v h' fp => v.force fun v' => putDst sl o.dst v' fun sl' => K sl' h' fp
def stepOp {A : Type} (E : Env) (ops : List Oper) (o : Oper) (sl : List SV) (h : Heap) (base : Nat) (K : List SV → Heap → FP → Option A) : Option A :=
  match o.guard with
  | none => runOp E o sl h base K
  | some (j, want) => match guardSlot ops j with
    | none => none
    | some t => match getS sl t with
      | .v (.c (.bool b)) =>
        Bool.casesOn b
          (setK sl t (.v (.c (.bool false))) fun sl' => Bool.casesOn want (runOp E o sl' h base K) (putDst sl' o.dst (.tup []) fun sl2 => K sl2 h ⟨[], []⟩))
          (setK sl t (.v (.c (.bool true))) fun sl' => Bool.casesOn want (putDst sl' o.dst (.tup []) fun sl2 => K sl2 h ⟨[], []⟩) (runOp E o sl' h base K))
      | .tup [] => putDst sl o.dst (.tup []) fun sl2 => K sl2 h ⟨[], []⟩
      | _ => none
def runOps {A : Type} (E : Env) (ops : List Oper) : List Oper → List SV → Heap → Nat → List FP → (List SV → Heap → List FP → Option A) → Option A
  | [], sl, h, _, fps, K => K sl h fps
  | o :: os, sl, h, base, fps, K => stepOp E ops o sl h base fun sl' h' fp => runOps E ops os sl' h' (base + keys) (fp :: fps) K
/-- All operations that an operation waits for, its own way or by others. -/
def maskOf (pre : List Nat) : List Edge → Nat
  | [] => 0
  | e :: es => Bool.casesOn (Region.binds .any e) (maskOf pre es) (Nat.lor (Nat.lor (Nat.shiftLeft 1 e.on) (pre.getD e.on 0)) (maskOf pre es))
def addPreds (pre : List Nat) (o : Oper) : List Nat := pre ++ [maskOf pre o.after.toList]
/-- By their bits. -/
def predsOf (ops : List Oper) : List Nat := ops.foldl addPreds []
def looks (ops : List Oper) (o : Oper) : List Nat :=
  (o.op.operands.toList.filterMap fun | .tmp t => some t | _ => none) ++ (match o.guard with | some (j, _) => (guardSlot ops j).toList | none => [])
def meets (a b : List Nat) : Bool := a.any fun x => b.any (Nat.beq x)
def dstIn (d : Option Nat) (l : List Nat) : Bool :=
  match d with
  | some x => l.any (Nat.beq x)
  | none => false
/-- May two operations change places? -/
def apart (ops : List Oper) (a b : Oper) (p q : FP) : Bool :=
  !(dstIn a.dst (looks ops b)) && !(dstIn b.dst (looks ops a)) && !(dstIn a.dst b.dst.toList) && !(meets p.writes (q.reads ++ q.writes)) && !(meets p.reads q.writes)
def apartAll (ops : List Oper) (pre : List Nat) (i : Nat) (o : Oper) (fp : FP) : Nat → List Oper → List FP → Bool
  | _, [], _ => true
  | j, b :: bs, q :: qs => (Nat.testBit (pre.getD i 0) j || apart ops b o q fp) && apartAll ops pre i o fp (j + 1) bs qs
  | _, _ :: _, [] => false
def allApart (ops : List Oper) (pre : List Nat) (fps : List FP) : Nat → List Oper → List FP → Bool
  | _, [], _ => true
  | i, o :: os, p :: ps => (o.after.toList.all fun e => Bool.casesOn (Region.binds .any e) true (Nat.blt e.on i)) && (apartAll ops pre i o p 0 (ops.take i) fps && allApart ops pre fps (i + 1) os ps)
  | _, _ :: _, [] => false
/-! ### code -/
inductive Ex where
  | norm
  | exit (id : Nat)
  | goto (l : Nat)
  | ret
def fid : Code → Nat
  | .region id _ _ => id + 1
  | .seq a b => Nat.casesOn (fid a) (fid b) fun n => n + 1
  | .cond _ a b => Nat.casesOn (fid a) (fid b) fun n => n + 1
  | .block _ a => fid a
  | .loop a => fid a
  | .scope a => fid a
  | _ => 0
def hasLabel : Code → Nat → Bool
  | .seq a b, l => hasLabel a l || hasLabel b l
  | .label l', l => Nat.beq l' l
  | _, _ => false
def it0 {X B : Type} (step : (X → Option B) → X → Option B) : Nat → X → Option B
  | 0, _ => none
  | n + 1, x => step (it0 step n) x
/-- Rounds, without a way to unfold them by mere evaluation. -/
structure ItS where
  it : {X B : Type} → ((X → Option B) → X → Option B) → Nat → X → Option B
  zero : ∀ {X B : Type} (step : (X → Option B) → X → Option B) (x : X), it step 0 x = none
  succ : ∀ {X B : Type} (step : (X → Option B) → X → Option B) (n : Nat) (x : X), it step (n + 1) x = step (it step n) x
noncomputable def itS : ItS := Classical.choice ⟨⟨it0, fun _ _ => rfl, fun _ _ _ => rfl⟩⟩
noncomputable def it {X B : Type} (step : (X → Option B) → X → Option B) (n : Nat) (x : X) : Option B := itS.it step n x
theorem it_zero {X B : Type} (step : (X → Option B) → X → Option B) (x : X) : it step 0 x = none := itS.zero step x
theorem it_succ {X B : Type} (step : (X → Option B) → X → Option B) (n : Nat) (x : X) : it step (n + 1) x = step (it step n) x := itS.succ step n x
def svA : SV → Option AV
  | .v a => some a
  | _ => none
def keysLt (m : Nat) : List (Nat × Option Nat) → Bool
  | [] => true
  | (j, _) :: r => Bool.casesOn (Nat.blt j m) false (keysLt m r)
def decSt {R : Type} (J : Shape) (m : Nat) (keep : List Nat) (s : St) (K : J.X → Option R) : Option R :=
  Bool.casesOn J.wf none (J.decK keep (hget s.heap) (fun i => svA (getS s.slots i)) fun x d => Bool.casesOn (keysLt (topKey J.ob m) d.asg) none (K x))
def hasKey : List (Nat × Shape) → Nat → Bool
  | [], _ => false
  | (k, _) :: r, n => Nat.beq k n || hasKey r n
/-- The first shape for n that a state fits. -/
def pickS (E : Env) (s : St) (n : Nat) : List (Nat × Shape) → Option Shape
  | [] => none
  | (k, H) :: r => Bool.casesOn (Nat.beq k n) (pickS E s n r) (Bool.casesOn (hasKey r n) (some H) (match decSt H E.m E.keep s (fun _ => some ()) with
    | some _ => some H
    | none => pickS E s n r))
def deads : Nat → List SV
  | 0 => []
  | n + 1 => .dead :: deads n
def laySl {R : Type} : List (Nat × AV) → List SV → (List SV → R) → R
  | [], sl, K => K sl
  | (i, a) :: r, sl, K => setK sl i (.v a) fun sl' => laySl r sl' K
def len' : List SV → Nat
  | [] => 0
  | _ :: l => len' l + 1
def encSt {R : Type} (J : Shape) (m n : Nat) (x : J.X) (K : St → R) : R :=
  J.encK x fun as h => laySl as (deads n) fun sl => K ⟨sl, h, topKey J.ob m⟩
def noExit {B R : Type} (f : B → R) : Option B → Option R
  | some b => some (f b)
  | none => none
/-- mode: from the beginning, or from a label on. -/
noncomputable def exec (E : Env) : Code → {A : Type} → Option Nat → St → (Ex → St → Option A) → Option A
  | .skip, _, none, s, K => K .norm s
  | .region _ ops draw, _, none, s, K =>
    runOps E ops.toList ops.toList s.slots s.heap s.next [] fun sl h fps =>
      Bool.casesOn draw (K .norm ⟨sl, h, s.next + keys * ops.size⟩)
        (Bool.casesOn (allApart ops.toList (predsOf ops.toList) fps.reverse 0 ops.toList fps.reverse) none (K .norm ⟨sl, h, s.next + keys * ops.size⟩))
  | .seq a b, A, none, s, K =>
    match shget E.cut (fid b) with
    | none => exec E a none s fun e s' => match e with
      | .norm => exec E b none s' K
      | .exit i => K (.exit i) s'
      | .goto i => K (.goto i) s'
      | .ret => K .ret s'
    | some J => Option.bind (exec E a (A := J.X ⊕ A) none s fun e s' => match e with
        | .norm => decSt J E.m E.keep s' fun x => some (Sum.inl x)
        | .exit i => noExit Sum.inr (K (.exit i) s')
        | .goto i => noExit Sum.inr (K (.goto i) s')
        | .ret => noExit Sum.inr (K .ret s')) (Sum.elim (fun x => encSt J E.m (len' s.slots) x fun s' => exec E b none s' K) some)
  | .seq a b, _, some l, s, K => Bool.casesOn (hasLabel a l) (exec E b (some l) s K) (exec E a (some l) s fun e s' => match e with
      | .norm => exec E b none s' K
      | .exit i => K (.exit i) s'
      | .goto i => K (.goto i) s'
      | .ret => K .ret s')
  | .cond c t e, _, none, s, K => match rd s.slots c with
    | .v (.c (.bool b)) => Bool.casesOn b (exec E e none s K) (exec E t none s K)
    | _ => none
  | .block id b, _, none, s, K => exec E b none s fun e s' => match e with
    | .norm => K .norm s'
    | .exit i => Bool.casesOn (Nat.beq i id) (K (.exit i) s') (K .norm s')
    | .goto i => K (.goto i) s'
    | .ret => K .ret s'
  | .loop b, _, none, s, K => match pickS E s (fid b) E.head with
    | none => none
    | some H => decSt H E.m E.keep s fun x => it (fun rec x => encSt H E.m (len' s.slots) x fun s' => exec E b none s' fun e s2 => match e with
      | .norm => decSt H E.m E.keep s2 rec
      | .exit i => K (.exit i) s2
      | .goto i => K (.goto i) s2
      | .ret => K .ret s2) E.fuel x
  | .exit i, _, none, s, K => K (.exit i) s
  | .label _, _, none, s, K => K .norm s
  | .label l', _, some l, s, K => Bool.casesOn (Nat.beq l' l) none (K .norm s)
  | .goto l, _, none, s, K => K (.goto l) s
  | .ret, _, none, s, K => K .ret s
  | .scope b, _, none, s, K => exec E b none s fun e s' => match e with
    | .norm => K .norm s'
    | .exit i => K (.exit i) s'
    | .ret => K .ret s'
    | .goto l => Bool.casesOn (hasLabel b l) (K (.goto l) s') (match shget E.lab l with
      | none => none
      | some H => decSt H E.m E.keep s' fun x => it (fun rec x => encSt H E.m (len' s.slots) x fun s2 => exec E b (some l) s2 fun e s3 => match e with
        | .norm => K .norm s3
        | .exit i => K (.exit i) s3
        | .goto l' => Bool.casesOn (Nat.beq l' l) (Bool.casesOn (hasLabel b l') (K (.goto l') s3) none) (decSt H E.m E.keep s3 rec)
        | .ret => K .ret s3) E.fuel x)
  | _, _, _, _, _ => none
/-! ### a function's run -/
def resAV (s : St) (tis : List (Nat × TI)) : ResultVar → Option AV
  | .tmp t => svA (getS s.slots t)
  | .cell a t => match getS s.slots a, tget tis t with
    | .v (.c (.ptr n off)), some i => match hget s.heap n with
      | some (.box cs) => match cutCs cs off i.size with
        | some l => mkAV i.agg l
        | none => none
      | _ => none
    | _, _ => none
def decOuts {R : Type} (m : List Nat) (h : Nat → Option Obj) (g : Nat → Option AV) : (ss : List Shape) → (sumX ss → R) → Option R
  | [], _ => none
  | [s], K => s.decK m h g fun x _ => some (K x)
  | s :: t :: r, K => match s.decK m h g fun x _ => some (K (Sum.inl x)) with
    | some y => some y
    | none => decOuts m h g (t :: r) fun y => K (Sum.inr y)
def nthO {α : Type} : List (Option α) → Nat → Option α
  | [], _ => none
  | a :: _, 0 => a
  | _ :: as, n + 1 => nthO as n
def seqFrom : List (Nat × AF) → Nat → Nat → Bool
  | [], i, k => Nat.beq i k
  | (j, _) :: r, i, k => Nat.beq j i && seqFrom r (i + 1) k
def fin (E : Env) (fn : Func) (outs : List Shape) (e : Ex) (s : St) : Option (sumX outs) :=
  match e with
  | .exit _ => none
  | .goto _ => none
  | _ => Bool.casesOn (outs.all fun o => seqFrom o.sl 0 fn.results.size) none (decOuts E.keep (hget s.heap) (nthO (fn.results.toList.map (resAV s E.ti))) outs id)
def start {R : Type} (S : Shape) (n : Nat) (x : S.X) (K : St → R) : R :=
  S.encK x fun as h => laySl as (deads n) fun sl => K ⟨sl, h, topKey S.ob 0⟩
/-- The whole run of a function's body. -/
noncomputable def runFn (E : Env) (fn : Func) (c : Code) (S : FnSpec) (x : S.ins.X) : Option (sumX S.outs) :=
  start S.ins fn.ntmps x fun s => exec E c none s (fin E fn S.outs)
end Go.Proofs.Ytjmbmpeflhkngaa.Mx
/- Plain law: a word of binary64 that stands for a whole number below 2^53; sums, differences and products of such words, and the way there and back, are exact. No condition beyond the bounds in each statement. -/
namespace Go.Proofs.YtjmbmpeflhkngaaF
open Ieee

/-- A number with its sign. -/
def sg (s : Bool) (m : Nat) : Int := if s then -(m : Int) else m
/-- 'sg s m * 2 ^ e' is n. -/
def Stands (s : Bool) (m : Nat) (e n : Int) : Prop := sg s m * 2 ^ e.toNat = n * 2 ^ (-e).toNat
/-- The word b stands for n. -/
def Rep (b : Nat) (n : Int) : Prop := ∃ s m e, Ieee.double.read b = .number s m e ∧ Stands s m e n

theorem sg_natAbs (s : Bool) (m : Nat) : (sg s m).natAbs = m := by unfold sg; split <;> simp
theorem pow_pos' (k : Nat) : (0 : Int) < 2 ^ k := Int.pow_pos (by decide)

theorem stands_abs {s : Bool} {m : Nat} {e n : Int} (h : Stands s m e n) : m * 2 ^ e.toNat = n.natAbs * 2 ^ (-e).toNat := by
  have := congrArg Int.natAbs h
  rw [Int.natAbs_mul, Int.natAbs_mul, sg_natAbs, Int.natAbs_pow, Int.natAbs_pow] at this
  exact this

theorem stands_sign {s : Bool} {m : Nat} {e n : Int} (h : Stands s m e n) : n = sg s n.natAbs := by
  have p := pow_pos' e.toNat
  have q := pow_pos' (-e).toNat
  unfold Stands at h
  unfold sg at h ⊢
  cases s
  · simp only [Bool.false_eq_true, if_false] at h ⊢
    have h1 : 0 ≤ n * 2 ^ (-e).toNat := by rw [← h]; exact Int.mul_nonneg (by omega) (by omega)
    have : 0 ≤ n := by
      rcases (by omega : n < 0 ∨ 0 ≤ n) with h2 | h2
      · have := Int.mul_neg_of_neg_of_pos h2 q
        omega
      · exact h2
    omega
  · simp only [if_true] at h ⊢
    have h1 : n * 2 ^ (-e).toNat ≤ 0 := by
      rw [← h, Int.neg_mul]
      have := Int.mul_nonneg (Int.natCast_nonneg m) (Int.le_of_lt p)
      omega
    have : n ≤ 0 := by
      rcases (by omega : 0 < n ∨ n ≤ 0) with h2 | h2
      · have := Int.mul_pos h2 q
        omega
      · exact h2
    omega

theorem log2_mul_pow {n : Nat} (hn : n ≠ 0) (j : Nat) : (n * 2 ^ j).log2 = n.log2 + j := by
  induction j with
  | zero => simp
  | succ j ih =>
    have h : n * 2 ^ j ≠ 0 := Nat.mul_ne_zero hn (Nat.ne_of_gt (Nat.two_pow_pos j))
    rw [Nat.pow_succ, ← Nat.mul_assoc, Nat.mul_comm _ 2, Nat.log2_two_mul h, ih]
    omega

theorem cut_zero_drop (way : Toward) (neg : Bool) (n : Nat) : way.cut neg n 0 = n := by
  unfold Toward.cut
  have h0 : min 0 (n.log2 + 2) = 0 := by omega
  rw [h0]
  cases way <;> simp [Nat.mod_one]

theorem cut_pow (way : Toward) (neg : Bool) {n : Nat} (hn : n ≠ 0) (d : Nat) : way.cut neg (n * 2 ^ d) d = n := by
  unfold Toward.cut
  have hl := log2_mul_pow hn d
  have h0 : min d ((n * 2 ^ d).log2 + 2) = d := by omega
  have hp := Nat.two_pow_pos d
  simp only [h0]
  have h1 : (1 <<< d : Nat) = 2 ^ d := by rw [Nat.shiftLeft_eq]; omega
  rw [h1, Nat.mul_div_cancel _ hp, Nat.mul_mod_left]
  cases way <;> simp <;> omega

/-- What is written of a whole number below 2^53 is that number. -/
theorem kept_is (m : Nat) (e : Int) (N : Nat) (hN : N ≠ 0) (hb : N < 2 ^ 53) (h : m * 2 ^ e.toNat = N * 2 ^ (-e).toNat) (neg : Bool) :
    m ≠ 0 ∧ max (e + m.log2 - 52) (-1074) = (N.log2 : Int) - 52 ∧
    Toward.even.cut neg (m <<< (e - ((N.log2 : Int) - 52)).toNat) (((N.log2 : Int) - 52) - e).toNat = N * 2 ^ (52 - N.log2) := by
  have hl : N.log2 ≤ 52 := by have := (Nat.log2_lt hN).2 hb; omega
  have hm : m ≠ 0 := by
    intro h0; subst h0
    rw [Nat.zero_mul] at h
    have := Nat.mul_ne_zero hN (Nat.ne_of_gt (Nat.two_pow_pos (-e).toNat))
    omega
  refine ⟨hm, ?_, ?_⟩
  · rcases (by omega : e < 0 ∨ 0 ≤ e) with he | he
    · have e0 : e.toNat = 0 := by omega
      rw [e0, Nat.pow_zero, Nat.mul_one] at h
      have := log2_mul_pow hN (-e).toNat
      rw [← h] at this
      omega
    · have e0 : (-e).toNat = 0 := by omega
      rw [e0, Nat.pow_zero, Nat.mul_one] at h
      have := log2_mul_pow hm e.toNat
      rw [h] at this
      omega
  · rw [Nat.shiftLeft_eq]
    rcases (by omega : e < (N.log2 : Int) - 52 ∨ (N.log2 : Int) - 52 ≤ e) with he | he
    · have e0 : (e - ((N.log2 : Int) - 52)).toNat = 0 := by omega
      have e1 : e.toNat = 0 := by omega
      rw [e1, Nat.pow_zero, Nat.mul_one] at h
      rw [e0, Nat.pow_zero, Nat.mul_one, h]
      have e2 : (-e).toNat = (52 - N.log2) + ((N.log2 : Int) - 52 - e).toNat := by omega
      rw [e2, Nat.pow_add, ← Nat.mul_assoc]
      exact cut_pow _ _ (Nat.mul_ne_zero hN (Nat.ne_of_gt (Nat.two_pow_pos _))) _
    · have e0 : ((N.log2 : Int) - 52 - e).toNat = 0 := by omega
      rw [e0, cut_zero_drop]
      rcases (by omega : e < 0 ∨ 0 ≤ e) with hz | hz
      · have e1 : e.toNat = 0 := by omega
        rw [e1, Nat.pow_zero, Nat.mul_one] at h
        rw [h, Nat.mul_assoc, ← Nat.pow_add]
        congr 2
        omega
      · have e1 : (-e).toNat = 0 := by omega
        rw [e1, Nat.pow_zero, Nat.mul_one] at h
        generalize N.log2 = L at hl he ⊢
        rw [← h, Nat.mul_assoc, ← Nat.pow_add]
        congr 2
        omega

theorem read_word (neg : Bool) (rung : Nat) (h : rung < 9218868437227405312) :
    Ieee.double.read (Ieee.double.word neg rung) = if rung < 4503599627370496 then .number neg rung (-1074) else .number neg (4503599627370496 + rung % 4503599627370496) (-1074 + (rung / 4503599627370496 - 1 : Nat)) := by
  have hb : Ieee.double.binade = 4503599627370496 := rfl
  have hs : Ieee.double.signWeight = 9223372036854775808 := rfl
  have hi : Ieee.double.infRung = 9218868437227405312 := rfl
  have hl : Ieee.double.leastPlace = -1074 := rfl
  unfold Ieee.Format.read Ieee.Format.word
  simp only [hb, hs, hi, hl]
  have h1 : (if neg = true then 9223372036854775808 + rung else rung) % 9223372036854775808 = rung := by split <;> omega
  have h2 : ((if neg = true then 9223372036854775808 + rung else rung) / 9223372036854775808 % 2 == 1) = neg := by
    cases neg
    · have : rung / 9223372036854775808 = 0 := by omega
      simp [this]
    · have : (9223372036854775808 + rung) / 9223372036854775808 = 1 := by omega
      simp [this]
  rw [h1, h2]
  simp only [h, if_true]

theorem write_rep {s : Bool} {m : Nat} {e n : Int} (h : Stands s m e n) (hb : n.natAbs < 9007199254740992) : Rep (Ieee.double.write (.number s m e)) n := by
  have hfb : Ieee.double.fractionBits = 52 := rfl
  have hbi : Ieee.double.binade = 4503599627370496 := rfl
  have hi : Ieee.double.infRung = 9218868437227405312 := rfl
  have hlp : Ieee.double.leastPlace = -1074 := rfl
  have ha := stands_abs h
  have hs := stands_sign h
  unfold Ieee.Format.write Ieee.Format.nearest
  by_cases hN : n.natAbs = 0
  · have hm : m = 0 := by
      rw [hN, Nat.zero_mul] at ha
      rcases Nat.mul_eq_zero.1 ha with h0 | h0
      · exact h0
      · exact absurd h0 (Nat.ne_of_gt (Nat.two_pow_pos _))
    simp only [hm, if_true]
    have hn : n = 0 := by omega
    subst hn
    refine ⟨s, 0, -1074, ?_, ?_⟩
    · rw [read_word _ _ (by decide), if_pos (by decide)]
    · unfold Stands sg; rw [Int.zero_mul]; split <;> simp
  · obtain ⟨hm, hlast, hkept⟩ := kept_is m e n.natAbs hN hb ha s
    have hl : n.natAbs.log2 ≤ 52 := by have := (Nat.log2_lt (k := 53) hN).2 hb; omega
    simp only [hm, if_false, hfb, hbi, hi, hlp]
    have hlast' : max (e + (m.log2 : Int) - ((52 : Nat) : Int)) (-1074) = (n.natAbs.log2 : Int) - 52 := hlast
    rw [hlast', hkept]
    generalize hK : n.natAbs * 2 ^ (52 - n.natAbs.log2) = K
    have hK1 : 4503599627370496 ≤ K := by
      rw [← hK]
      have h1 := Nat.mul_le_mul_right (2 ^ (52 - n.natAbs.log2)) (Nat.log2_self_le hN)
      rw [← Nat.pow_add, show n.natAbs.log2 + (52 - n.natAbs.log2) = 52 by omega] at h1
      exact h1
    have hK2 : K < 9007199254740992 := by
      rw [← hK]
      have h1 := (Nat.mul_lt_mul_right (Nat.two_pow_pos (52 - n.natAbs.log2))).2 (Nat.lt_log2_self (n := n.natAbs))
      rw [← Nat.pow_add, show n.natAbs.log2 + 1 + (52 - n.natAbs.log2) = 53 by omega] at h1
      exact h1
    have ht : ((n.natAbs.log2 : Int) - 52 - -1074).toNat = n.natAbs.log2 + 1022 := by omega
    rw [ht, Nat.min_eq_left (by omega)]
    refine ⟨s, K, (n.natAbs.log2 : Int) - 52, ?_, ?_⟩
    · rw [read_word _ _ (by omega), if_neg (by omega)]
      congr 1 <;> omega
    · unfold Stands
      have e0 : ((n.natAbs.log2 : Int) - 52).toNat = 0 := by omega
      have e1 : (-((n.natAbs.log2 : Int) - 52)).toNat = 52 - n.natAbs.log2 := by omega
      rw [e0, e1, Int.pow_zero, Int.mul_one, ← hK]
      conv => rhs; rw [hs]
      unfold sg
      cases s
      · simp
      · simp [Int.neg_mul]

theorem rep_int {b : Nat} {n : Int} (h : Rep b n) : ((FloatKind.f64.decode b).toInt .zero) = some n := by
  obtain ⟨s, m, e, hr, hs⟩ := h
  have ha := stands_abs hs
  have hg := stands_sign hs
  have hd : FloatKind.f64.decode b = .number s m e := hr
  rw [hd]
  unfold Ieee.Datum.toInt Ieee.Datum.integral
  have hc : Toward.zero.cut s (m <<< e.toNat) (-e).toNat = n.natAbs := by
    rw [Nat.shiftLeft_eq, ha]
    by_cases hN : n.natAbs = 0
    · rw [hN, Nat.zero_mul]
      unfold Toward.cut
      simp
    · exact cut_pow _ _ hN _
  simp only [hc]
  unfold Ieee.signed
  rw [Nat.shiftLeft_zero]
  conv => rhs; rw [hg]
  unfold sg
  rfl

theorem toInt_rep {b : Nat} {n : Int} (h : Rep b n) (h0 : -9223372036854775808 ≤ n) (h1 : n ≤ 9223372036854775807) : floatToIntVal .f64 b .i64 = some n := by
  unfold floatToIntVal
  rw [rep_int h]
  simp only
  rw [if_pos ⟨h0, h1⟩]

theorem ofInt_rep (n : Int) (hb : n.natAbs < 9007199254740992) : Rep (floatOfInt .f64 n) n := by
  have h : Stands (decide (n < 0)) n.natAbs 0 n := by
    unfold Stands sg
    simp
    split <;> omega
  exact write_rep h hb

theorem signed_sg (s : Bool) (m up : Nat) : Ieee.signed s m up = sg s m * 2 ^ up := by
  unfold Ieee.signed sg
  rw [Nat.shiftLeft_eq]
  split <;> simp [Int.neg_mul]

theorem shift_base {s : Bool} {m : Nat} {i x base : Int} (h : Stands s m i x) (hb : base ≤ i) : sg s m * 2 ^ (i - base).toNat * 2 ^ base.toNat = x * 2 ^ (-base).toNat := by
  unfold Stands at h
  rcases (by omega : base < 0 ∨ 0 ≤ base) with h0 | h0
  · have e0 : base.toNat = 0 := by omega
    rw [e0, Int.pow_zero, Int.mul_one]
    rcases (by omega : i < 0 ∨ 0 ≤ i) with h1 | h1
    · have e1 : i.toNat = 0 := by omega
      rw [e1, Int.pow_zero, Int.mul_one] at h
      rw [h, Int.mul_assoc, ← Int.pow_add]
      congr 2
      omega
    · have e1 : (-i).toNat = 0 := by omega
      rw [e1, Int.pow_zero, Int.mul_one] at h
      rw [show (i - base).toNat = i.toNat + (-base).toNat by omega, Int.pow_add, ← Int.mul_assoc, h]
  · have e0 : (-base).toNat = 0 := by omega
    have e1 : (-i).toNat = 0 := by omega
    rw [e1, Int.pow_zero, Int.mul_one] at h
    rw [e0, Int.pow_zero, Int.mul_one, Int.mul_assoc, ← Int.pow_add, show (i - base).toNat + base.toNat = i.toNat by omega, h]

theorem sg_of (t : Int) (b : Bool) (h : t ≠ 0 → b = decide (t < 0)) : sg b t.natAbs = t := by
  unfold sg
  by_cases h0 : t = 0
  · subst h0; simp
  · rw [h h0]
    by_cases h1 : t < 0
    · simp [h1]; omega
    · simp [h1]; omega

theorem sum_stands {s t : Bool} {m n : Nat} {i j x y : Int} (hx : Stands s m i x) (hy : Stands t n j y) :
    ∃ s' m' e', Ieee.Datum.sum (.number s m i) (.number t n j) = some (.number s' m' e') ∧ Stands s' m' e' (x + y) := by
  unfold Ieee.Datum.sum
  refine ⟨_, _, _, rfl, ?_⟩
  unfold Stands
  rw [sg_of _ _ (fun h => by rw [if_neg h]), signed_sg, signed_sg, Int.add_mul, shift_base hx (by omega), shift_base hy (by omega), Int.add_mul]

theorem product_stands {s t : Bool} {m n : Nat} {i j x y : Int} (hx : Stands s m i x) (hy : Stands t n j y) :
    ∃ s' m' e', Ieee.Datum.product (.number s m i) (.number t n j) = some (.number s' m' e') ∧ Stands s' m' e' (x * y) := by
  unfold Ieee.Datum.product
  refine ⟨_, _, _, rfl, ?_⟩
  have hsg : sg (s ^^ t) (m * n) = sg s m * sg t n := by
    unfold sg
    cases s <;> cases t <;> simp [Int.neg_mul, Int.mul_neg]
  have h : sg s m * 2 ^ i.toNat * (sg t n * 2 ^ j.toNat) = x * 2 ^ (-i).toNat * (y * 2 ^ (-j).toNat) := by rw [show sg s m * 2 ^ i.toNat = _ from hx, show sg t n * 2 ^ j.toNat = _ from hy]
  have h2 : sg s m * sg t n * 2 ^ (i.toNat + j.toNat) = x * y * 2 ^ ((-i).toNat + (-j).toNat) := by
    rw [Int.pow_add, Int.pow_add]
    calc sg s m * sg t n * (2 ^ i.toNat * 2 ^ j.toNat) = sg s m * 2 ^ i.toNat * (sg t n * 2 ^ j.toNat) := by ac_rfl
      _ = x * 2 ^ (-i).toNat * (y * 2 ^ (-j).toNat) := h
      _ = x * y * (2 ^ (-i).toNat * 2 ^ (-j).toNat) := by ac_rfl
  unfold Stands
  rw [hsg]
  have e1 : i.toNat + j.toNat = (i + j).toNat + (i.toNat + j.toNat - (i + j).toNat) := by omega
  have e2 : (-i).toNat + (-j).toNat = (-(i + j)).toNat + (i.toNat + j.toNat - (i + j).toNat) := by omega
  rw [e1, e2, Int.pow_add, Int.pow_add, ← Int.mul_assoc, ← Int.mul_assoc] at h2
  exact Int.eq_of_mul_eq_mul_right (Int.ne_of_gt (pow_pos' _)) h2

theorem opposite_stands {t : Bool} {n : Nat} {j y : Int} (hy : Stands t n j y) : Stands (!t) n j (-y) := by
  unfold Stands at hy ⊢
  have : sg (!t) n = -sg t n := by unfold sg; cases t <;> simp
  rw [this, Int.neg_mul, Int.neg_mul, hy]

theorem add_rep {a b : Nat} {x y : Int} (hx : Rep a x) (hy : Rep b y) (hb : (x + y).natAbs < 9007199254740992) : ∃ r, floatBits .add .f64 a b = some r ∧ Rep r (x + y) := by
  obtain ⟨s, m, i, hr, hs⟩ := hx
  obtain ⟨t, n, j, hq, ht⟩ := hy
  obtain ⟨s', m', e', hd, hst⟩ := sum_stands hs ht
  refine ⟨Ieee.double.write (.number s' m' e'), ?_, write_rep hst hb⟩
  show (((Ieee.double.read a).sum (Ieee.double.read b)).map Ieee.double.write) = _
  rw [hr, hq, hd]; rfl
theorem sub_rep {a b : Nat} {x y : Int} (hx : Rep a x) (hy : Rep b y) (hb : (x - y).natAbs < 9007199254740992) : ∃ r, floatBits .sub .f64 a b = some r ∧ Rep r (x - y) := by
  obtain ⟨s, m, i, hr, hs⟩ := hx
  obtain ⟨t, n, j, hq, ht⟩ := hy
  obtain ⟨s', m', e', hd, hst⟩ := sum_stands hs (opposite_stands ht)
  refine ⟨Ieee.double.write (.number s' m' e'), ?_, write_rep (by rw [Int.sub_eq_add_neg]; exact hst) hb⟩
  show (((Ieee.double.read a).sum (Ieee.double.read b).opposite).map Ieee.double.write) = _
  rw [hr, hq]
  show ((Ieee.Datum.sum (.number s m i) (.number (!t) n j)).map Ieee.double.write) = _
  rw [hd]; rfl
theorem mul_rep {a b : Nat} {x y : Int} (hx : Rep a x) (hy : Rep b y) (hb : (x * y).natAbs < 9007199254740992) : ∃ r, floatBits .mul .f64 a b = some r ∧ Rep r (x * y) := by
  obtain ⟨s, m, i, hr, hs⟩ := hx
  obtain ⟨t, n, j, hq, ht⟩ := hy
  obtain ⟨s', m', e', hd, hst⟩ := product_stands hs ht
  refine ⟨Ieee.double.write (.number s' m' e'), ?_, write_rep hst hb⟩
  show (((Ieee.double.read a).product (Ieee.double.read b)).map Ieee.double.write) = _
  rw [hr, hq, hd]; rfl

theorem rep_zero : Rep 0 0 := ⟨false, 0, -1074, by decide +kernel, by unfold Stands sg; rw [Int.zero_mul]; simp only [Bool.false_eq_true, if_false]; rw [Int.natCast_zero, Int.zero_mul]⟩
theorem rep_one : Rep 4607182418800017408 1 := by
  have h : floatOfInt .f64 1 = 4607182418800017408 := by decide +kernel
  rw [← h]; exact ofInt_rep 1 (by decide)
theorem rep_neg_one : Rep 13830554455654793216 (-1) := by
  have h : floatOfInt .f64 (-1) = 13830554455654793216 := by decide +kernel
  rw [← h]; exact ofInt_rep (-1) (by decide)

/-- A quarter: '(x + y i) * 1i'. -/
theorem quarter {a b : Nat} {x y : Int} (hx : Rep a x) (hy : Rep b y) (hbx : x.natAbs < 9007199254740992) (hby : y.natAbs < 9007199254740992) :
    ∃ re im, cMulBits a b 0 4607182418800017408 = some (re, im) ∧ Rep re (-y) ∧ Rep im x := by
  obtain ⟨ac, h1, r1⟩ := mul_rep hx rep_zero (by simp)
  obtain ⟨bd, h2, r2⟩ := mul_rep hy rep_one (by simpa using hby)
  obtain ⟨re, h3, r3⟩ := sub_rep r1 r2 (by simp; omega)
  obtain ⟨ad, h4, r4⟩ := mul_rep hx rep_one (by simpa using hbx)
  obtain ⟨bc, h5, r5⟩ := mul_rep hy rep_zero (by simp)
  obtain ⟨im, h6, r6⟩ := add_rep r4 r5 (by simpa using hbx)
  refine ⟨re, im, ?_, ?_, ?_⟩
  · unfold cMulBits
    simp only [h1, h2, h3, h4, h5, h6, Option.bind_some]
  · simpa using r3
  · simpa using r6
/-- A sum of two places. -/
theorem places {a b c d : Nat} {x y u v : Int} (hx : Rep a x) (hy : Rep b y) (hu : Rep c u) (hv : Rep d v) (h1 : (x + u).natAbs < 9007199254740992) (h2 : (y + v).natAbs < 9007199254740992) :
    ∃ re im, cSumBits .add .f64 a b c d = some (re, im) ∧ Rep re (x + u) ∧ Rep im (y + v) := by
  obtain ⟨re, e1, r1⟩ := add_rep hx hu h1
  obtain ⟨im, e2, r2⟩ := add_rep hy hv h2
  exact ⟨re, im, by unfold cSumBits; simp only [e1, e2, Option.bind_some], r1, r2⟩
end Go.Proofs.YtjmbmpeflhkngaaF
/- What the interpreter's values and keys stand for in the model's memory, and what that withstands (own work). -/
namespace Go.Proofs.Ytjmbmpeflhkngaa.Mx
open Go
set_option autoImplicit false
set_option linter.unusedVariables false
abbrev HP := Array Go.Obj
/-- A key's place: its block (none: a slice without elements), the slice's base, its length, its capacity, an element's cells. -/
structure Pl where
  blk : Option Nat
  base : Option Addr
  len : Nat
  cap : Nat
  size : Nat
structure Gh where
  φ : Nat → Option Pl
  ro : Nat → Prop
def RdL {α : Type} (R : α → List Value → Prop) : List α → List Value → Prop
  | [], vs => vs = []
  | x :: l, vs => ∃ u v, vs = u ++ v ∧ R x u ∧ RdL R l v
def RowAt {α : Type} (ro : Nat → Prop) (hp : HP) (R : α → List Value → Prop) (A : Option Addr) (l : List α) : Prop :=
  l ≠ [] → ∃ b o cs t fz us rest, A = some ⟨b, o, none⟩ ∧ ro b ∧ hp[b]? = some (.cells cs t fz) ∧ cs.toList.drop o = us ++ rest ∧ RdL R l us
/-- Cells that read as an element. -/
def Rd (ro : Nat → Prop) (hp : HP) : (e : Ty) → e.T → List Value → Prop
  | .int k, n, vs => vs = [.int k n]
  | .bool, b, vs => vs = [.bool b]
  | .str, s, vs => vs = [.string s]
  | .row e, l, vs => ∃ A c, vs = [.slice A (List.length l) c] ∧ List.length l ≤ c ∧ RowAt ro hp (Rd ro hp e) A l
  | .prod a b, x, vs => ∃ u v, vs = u ++ v ∧ Rd ro hp a x.1 u ∧ Rd ro hp b x.2 v
def All2 {α β : Type} (R : α → β → Prop) : List α → List β → Prop
  | [], [] => True
  | x :: l, y :: m => R x y ∧ All2 R l m
  | _, _ => False
def IsPtr (g : Gh) (j : Nat) (u : Value) : Prop := ∃ P b, g.φ j = some P ∧ P.blk = some b ∧ u = .pointer (some ⟨b, 0, none⟩)
def VR (g : Gh) (hp : HP) : CV → Value → Prop
  | .int k n, v => v = .int k n
  | .bool b, v => v = .bool b
  | .str s, v => v = .string s
  | .fint n, v => ∃ b, v = .float .f64 b ∧ YtjmbmpeflhkngaaF.Rep b n
  | .cint x y, v => ∃ a b, v = .complex .f64 a b ∧ YtjmbmpeflhkngaaF.Rep a x ∧ YtjmbmpeflhkngaaF.Rep b y
  | .nilp, v => v = .pointer none
  | .nilf, v => v = .nilFunc
  | .nili, v => v = .nilIface
  | .nils, v => v = .slice none 0 0
  | .ptr n off, v => ∃ P b, g.φ n = some P ∧ P.blk = some b ∧ v = .pointer (some ⟨b, off, none⟩)
  | .eptr n i off, v => ∃ P b, g.φ n = some P ∧ P.blk = some b ∧ i < P.len ∧ v = .pointer (some ⟨b, i * P.size + off, none⟩)
  | .aptr n off len stride i o, v => ∃ P b, g.φ n = some P ∧ P.blk = some b ∧ i < len ∧ v = .pointer (some ⟨b, off + i * stride + o, none⟩)
  | .own n, v => ∃ P, g.φ n = some P ∧ v = .slice P.base P.len P.cap
  | .sub n lo hi, v => ∃ P A c, g.φ n = some P ∧ lo ≤ hi ∧ hi ≤ P.len ∧ hi - lo ≤ c ∧ v = .slice A (hi - lo) c ∧ (lo < hi → ∃ b, P.blk = some b ∧ A = some ⟨b, lo * P.size, none⟩)
  | .row e l, v => Rd g.ro hp (.row e) l [v]
  | .rptr e l i off, v => ∃ b o cs t fz us rest, v = .pointer (some ⟨b, o + i * e.size + off, none⟩) ∧ g.ro b ∧ hp[b]? = some (.cells cs t fz) ∧ cs.toList.drop o = us ++ rest ∧ RdL (Rd g.ro hp e) l us ∧ i < l.length
  | .fn f js, v => ∃ vs : List Value, v = .func (.func f) #[] vs.toArray ∧ All2 (IsPtr g) js vs
  | .ifc t k ns, v => v = .iface t (.agg (ns.map (Value.int k)).toArray)
  | .dead, _ => True
def AVR (g : Gh) (hp : HP) : AV → Value → Prop
  | .c x, v => VR g hp x v
  | .agg xs, v => ∃ vs : List Value, v = .agg vs.toArray ∧ All2 (VR g hp) xs vs
def SVR (g : Gh) (hp : HP) : SV → Value → Prop
  | .v a, v => AVR g hp a v
  | .tup xs, v => ∃ vs : List Value, v = .tuple vs.toArray ∧ All2 (AVR g hp) xs vs
/-- A row of elements at its place; own: it lies in a block that may be written. -/
def ArrR (g : Gh) (hp : HP) (P : Pl) (e : Ty) (l : List e.T) : Prop :=
  P.len = l.length ∧ P.size = e.size ∧ P.len ≤ P.cap ∧
    match P.blk with
    | none => P.len = 0 ∧ P.cap = 0 ∧ P.base = none
    | some b => P.base = some ⟨b, 0, none⟩ ∧ ∃ vs t us rest, hp[b]? = some (.cells vs t (0, 0)) ∧ vs.toList = us ++ rest ∧ RdL (Rd g.ro hp e) l us ∧ P.cap * P.size ≤ vs.size
def ObjR (g : Gh) (hp : HP) (P : Pl) : Obj → Prop
  | .box cs => ∃ b vs t, P.blk = some b ∧ hp[b]? = some (.cells vs t (0, 0)) ∧ All2 (VR g hp) cs vs.toList
  | .arr e l => ArrR g hp P e l
  | .ice e l => ArrR g hp P e l
def Obj.iced : Obj → Bool
  | .ice _ _ => true
  | _ => false
structure Mem (mt : Nat → Prop) (g : Gh) (H : Nat → Option Obj) (hp : HP) : Prop where
  obj : ∀ n o, H n = some o → ∃ P, g.φ n = some P ∧ ObjR g hp P o
  own : ∀ n o P b, H n = some o → o.iced = false → g.φ n = some P → P.blk = some b → mt b ∧ ¬ g.ro b
  ice : ∀ n o P b, H n = some o → o.iced = true → g.φ n = some P → P.blk = some b → g.ro b
  sep : ∀ n m o o' P Q b, n ≠ m → H n = some o → H m = some o' → g.φ n = some P → g.φ m = some Q → P.blk = some b → Q.blk ≠ some b
  ro : ∀ b, g.ro b → b < hp.size
/-! ### what the relations withstand -/
structure Stab (g : Gh) (hp : HP) (g' : Gh) (hp' : HP) : Prop where
  ro : ∀ b, g.ro b → g'.ro b
  hp : ∀ b, g.ro b → hp'[b]? = hp[b]?
  phi : ∀ n P, g.φ n = some P → g'.φ n = some P
theorem Stab.refl (g : Gh) (hp : HP) : Stab g hp g hp := ⟨fun _ h => h, fun _ _ => rfl, fun _ _ h => h⟩
theorem RdL.mono {α : Type} {R R' : α → List Value → Prop} (h : ∀ x vs, R x vs → R' x vs) : ∀ (l : List α) (vs : List Value), RdL R l vs → RdL R' l vs
  | [], _, hv => hv
  | _ :: l, _, ⟨u, v, e, hx, hl⟩ => ⟨u, v, e, h _ _ hx, RdL.mono h l v hl⟩
theorem Rd.stab {ro ro' : Nat → Prop} {hp hp' : HP} (h1 : ∀ b, ro b → ro' b) (h2 : ∀ b, ro b → hp'[b]? = hp[b]?) : ∀ (e : Ty) (x : e.T) (vs : List Value), Rd ro hp e x vs → Rd ro' hp' e x vs
  | .int _, _, _, h => h
  | .bool, _, _, h => h
  | .str, _, _, h => h
  | .row e, l, vs, ⟨A, c, hv, hc, hr⟩ => ⟨A, c, hv, hc, fun hl => by
      obtain ⟨b, o, cs, t, fz, us, rest, hA, hb, hh, hd, hR⟩ := hr hl
      exact ⟨b, o, cs, t, fz, us, rest, hA, h1 b hb, (h2 b hb).trans hh, hd, RdL.mono (fun x vs => Rd.stab h1 h2 e x vs) l us hR⟩⟩
  | .prod a b, x, vs, ⟨u, v, hv, hu, hw⟩ => ⟨u, v, hv, Rd.stab h1 h2 a x.1 u hu, Rd.stab h1 h2 b x.2 v hw⟩
theorem All2.mono {α β : Type} {R R' : α → β → Prop} (h : ∀ x y, R x y → R' x y) : ∀ (l : List α) (m : List β), All2 R l m → All2 R' l m
  | [], [], _ => trivial
  | _ :: l, _ :: m, ⟨hx, hl⟩ => ⟨h _ _ hx, All2.mono h l m hl⟩
  | [], _ :: _, h => h.elim
  | _ :: _, [], h => h.elim
theorem IsPtr.stab {g g' : Gh} (h : ∀ n P, g.φ n = some P → g'.φ n = some P) (j : Nat) (u : Value) : IsPtr g j u → IsPtr g' j u := fun ⟨P, b, hp, hb, hu⟩ => ⟨P, b, h j P hp, hb, hu⟩
theorem VR.stab {g g' : Gh} {hp hp' : HP} (s : Stab g hp g' hp') : ∀ (x : CV) (v : Value), VR g hp x v → VR g' hp' x v
  | .int _ _, _, h => h
  | .bool _, _, h => h
  | .str _, _, h => h
  | .fint _, _, h => h
  | .cint _ _, _, h => h
  | .nilp, _, h => h
  | .nilf, _, h => h
  | .nili, _, h => h
  | .nils, _, h => h
  | .ptr _ _, _, ⟨P, b, h, r⟩ => ⟨P, b, s.phi _ _ h, r⟩
  | .eptr _ _ _, _, ⟨P, b, h, r⟩ => ⟨P, b, s.phi _ _ h, r⟩
  | .aptr _ _ _ _ _ _, _, ⟨P, b, h, r⟩ => ⟨P, b, s.phi _ _ h, r⟩
  | .own _, _, ⟨P, h, r⟩ => ⟨P, s.phi _ _ h, r⟩
  | .sub _ _ _, _, ⟨P, A, c, h, r⟩ => ⟨P, A, c, s.phi _ _ h, r⟩
  | .row e l, v, h => Rd.stab s.ro s.hp (.row e) l [v] h
  | .rptr e l _ _, _, ⟨b, o, cs, t, fz, us, rest, hv, hb, hh, hd, hR, hi⟩ => ⟨b, o, cs, t, fz, us, rest, hv, s.ro b hb, (s.hp b hb).trans hh, hd, RdL.mono (fun x vs => Rd.stab s.ro s.hp e x vs) l us hR, hi⟩
  | .fn _ _, _, ⟨vs, hv, h⟩ => ⟨vs, hv, All2.mono (IsPtr.stab s.phi) _ _ h⟩
  | .ifc _ _ _, _, h => h
  | .dead, _, _ => trivial
theorem AVR.stab {g g' : Gh} {hp hp' : HP} (s : Stab g hp g' hp') : ∀ (x : AV) (v : Value), AVR g hp x v → AVR g' hp' x v
  | .c x, v, h => VR.stab s x v h
  | .agg xs, _, ⟨vs, hv, h⟩ => ⟨vs, hv, All2.mono (VR.stab s) _ _ h⟩
theorem SVR.stab {g g' : Gh} {hp hp' : HP} (s : Stab g hp g' hp') : ∀ (x : SV) (v : Value), SVR g hp x v → SVR g' hp' x v
  | .v x, v, h => AVR.stab s x v h
  | .tup xs, _, ⟨vs, hv, h⟩ => ⟨vs, hv, All2.mono (AVR.stab s) _ _ h⟩
/-- An object's place withstands what leaves its block alone. -/
theorem ObjR.stab {g g' : Gh} {hp hp' : HP} (s : Stab g hp g' hp') {P : Pl} (hb : ∀ b, P.blk = some b → hp'[b]? = hp[b]?) : ∀ (o : Obj), ObjR g hp P o → ObjR g' hp' P o
  | .box cs, ⟨b, vs, t, h1, h2, h3⟩ => ⟨b, vs, t, h1, (hb b h1).trans h2, All2.mono (VR.stab s) _ _ h3⟩
  | .arr e l, h => by
    obtain ⟨h1, h2, h3, h4⟩ := h
    refine ⟨h1, h2, h3, ?_⟩
    cases hB : P.blk with
    | none => rw [hB] at h4; exact h4
    | some b =>
      rw [hB] at h4
      obtain ⟨h5, vs, t, us, rest, h6, h7, h8, h9⟩ := h4
      exact ⟨h5, vs, t, us, rest, (hb b hB).trans h6, h7, RdL.mono (fun x vs => Rd.stab s.ro s.hp e x vs) l us h8, h9⟩
  | .ice e l, h => by
    obtain ⟨h1, h2, h3, h4⟩ := h
    refine ⟨h1, h2, h3, ?_⟩
    cases hB : P.blk with
    | none => rw [hB] at h4; exact h4
    | some b =>
      rw [hB] at h4
      obtain ⟨h5, vs, t, us, rest, h6, h7, h8, h9⟩ := h4
      exact ⟨h5, vs, t, us, rest, (hb b hB).trans h6, h7, RdL.mono (fun x vs => Rd.stab s.ro s.hp e x vs) l us h8, h9⟩
/-! ### lengths -/
theorem Ty.size_pos : ∀ e : Ty, 0 < e.size
  | .int _ => Nat.one_pos
  | .bool => Nat.one_pos
  | .str => Nat.one_pos
  | .row _ => Nat.one_pos
  | .prod a b => by have := Ty.size_pos a; simp only [Ty.size]; omega
theorem Rd.length {ro : Nat → Prop} {hp : HP} : ∀ (e : Ty) (x : e.T) (vs : List Value), Rd ro hp e x vs → vs.length = e.size
  | .int _, _, _, h => by rw [show _ = _ from h]; rfl
  | .bool, _, _, h => by rw [show _ = _ from h]; rfl
  | .str, _, _, h => by rw [show _ = _ from h]; rfl
  | .row e, l, vs, ⟨A, c, hv, _⟩ => by rw [hv]; rfl
  | .prod a b, x, vs, ⟨u, v, hv, hu, hw⟩ => by rw [hv, List.length_append, Rd.length a _ _ hu, Rd.length b _ _ hw]; rfl
theorem RdL.length {ro : Nat → Prop} {hp : HP} {e : Ty} : ∀ (l : List e.T) (vs : List Value), RdL (Rd ro hp e) l vs → vs.length = l.length * e.size
  | [], vs, h => by rw [show vs = [] from h]; simp
  | x :: l, vs, ⟨u, v, hv, hx, hl⟩ => by rw [hv, List.length_append, Rd.length e _ _ hx, RdL.length l v hl, List.length_cons, Nat.add_mul, Nat.one_mul, Nat.add_comm]
theorem RdL.append {α : Type} {R : α → List Value → Prop} : ∀ (l m : List α) (u v : List Value), RdL R l u → RdL R m v → RdL R (l ++ m) (u ++ v)
  | [], m, u, v, hu, hv => by rw [show u = [] from hu]; exact hv
  | x :: l, m, u, v, ⟨a, b, e, hx, hl⟩, hv => ⟨a, b ++ v, by rw [e, List.append_assoc], hx, RdL.append l m b v hl hv⟩
/-- The i-th element's cells. -/
theorem RdL.get {ro : Nat → Prop} {hp : HP} {e : Ty} : ∀ (l : List e.T) (vs : List Value) (i : Nat) (d : e.T), RdL (Rd ro hp e) l vs → i < l.length → ∃ u, (vs.drop (i * e.size)).take e.size = u ∧ Rd ro hp e (l.getD i d) u
  | [], _, _, _, _, hi => by simp at hi
  | x :: l, vs, 0, d, ⟨u, v, hv, hx, hl⟩, hi => ⟨u, by rw [hv, Nat.zero_mul, List.drop_zero, List.take_left' (Rd.length e _ _ hx)], hx⟩
  | x :: l, vs, i + 1, d, ⟨u, v, hv, hx, hl⟩, hi => by
    obtain ⟨u', h1, h2⟩ := RdL.get l v i d hl (by simpa using hi)
    refine ⟨u', ?_, by simpa using h2⟩
    rw [hv, Nat.add_mul, Nat.one_mul, Nat.add_comm (i * e.size), ← List.drop_drop, List.drop_left' (Rd.length e _ _ hx)]
    exact h1
/-- The i-th element is written. -/
theorem RdL.set {ro : Nat → Prop} {hp : HP} {e : Ty} : ∀ (l : List e.T) (vs : List Value) (i : Nat) (x : e.T) (u : List Value), RdL (Rd ro hp e) l vs → i < l.length → Rd ro hp e x u →
    RdL (Rd ro hp e) (l.set i x) (vs.take (i * e.size) ++ u ++ vs.drop (i * e.size + e.size))
  | [], _, _, _, _, _, hi, _ => by simp at hi
  | y :: l, vs, 0, x, u, ⟨a, b, hv, hy, hl⟩, hi, hx => by
    refine ⟨u, b, ?_, hx, hl⟩
    rw [hv, Nat.zero_mul, List.take_zero, Nat.zero_add, List.drop_left' (Rd.length e _ _ hy), List.nil_append]
  | y :: l, vs, i + 1, x, u, ⟨a, b, hv, hy, hl⟩, hi, hx => by
    have ih := RdL.set l b i x u hl (by simpa using hi) hx
    refine ⟨a, _, ?_, hy, ih⟩
    have ha := Rd.length e _ _ hy
    rw [hv, Nat.add_mul, Nat.one_mul, Nat.add_comm (i * e.size)]
    rw [List.take_append, List.drop_append, ha]
    rw [List.take_of_length_le (by omega), List.drop_of_length_le (by omega)]
    rw [show e.size + i * e.size - e.size = i * e.size by omega, show e.size + i * e.size + e.size - e.size = i * e.size + e.size by omega]
    simp [Nat.add_comm (i * e.size) e.size]
theorem RdL.take_drop {ro : Nat → Prop} {hp : HP} {e : Ty} : ∀ (l : List e.T) (vs : List Value) (a b : Nat), RdL (Rd ro hp e) l vs → b ≤ l.length → RdL (Rd ro hp e) ((l.take b).drop a) ((vs.take (b * e.size)).drop (a * e.size))
  | [], vs, a, b, h, hb => by
    rw [show vs = [] from h]; simp [RdL]
  | x :: l, vs, a, 0, h, hb => by simp [RdL]
  | x :: l, vs, 0, b + 1, ⟨u, v, hv, hx, hl⟩, hb => by
    have ih := RdL.take_drop l v 0 b hl (by simpa using hb)
    have hu := Rd.length e _ _ hx
    refine ⟨u, _, ?_, hx, ih⟩
    have h1 : (u ++ v).take ((b + 1) * e.size) = u ++ v.take (b * e.size) := by
      rw [List.take_append, hu, List.take_of_length_le (by rw [hu, Nat.add_mul]; omega), Nat.add_mul, Nat.one_mul, Nat.add_sub_cancel]
    rw [hv, h1, Nat.zero_mul, List.drop_zero, List.drop_zero]
  | x :: l, vs, a + 1, b + 1, ⟨u, v, hv, hx, hl⟩, hb => by
    have ih := RdL.take_drop l v a b hl (by simpa using hb)
    have hu := Rd.length e _ _ hx
    rw [List.take_succ_cons, List.drop_succ_cons]
    have h1 : (u ++ v).take ((b + 1) * e.size) = u ++ v.take (b * e.size) := by
      rw [List.take_append, hu, List.take_of_length_le (by rw [hu, Nat.add_mul]; omega), Nat.add_mul, Nat.one_mul, Nat.add_sub_cancel]
    rw [hv, h1, Nat.add_mul, Nat.one_mul, Nat.add_comm (a * e.size), ← List.drop_drop, List.drop_left' hu]
    exact ih
end Go.Proofs.Ytjmbmpeflhkngaa.Mx
/- The interpreter's heap programs: how they run, what they touch; how memory withstands them (own work). -/
namespace Go.Proofs.Ytjmbmpeflhkngaa.Mx
open Go
set_option autoImplicit false
set_option linter.unusedVariables false
abbrev HF := Nat → Option Obj
def upd (H : HF) (n : Nat) (o : Option Obj) : HF := fun m => if m = n then o else H m
theorem upd_same (H : HF) (n : Nat) (o : Option Obj) : upd H n o n = o := if_pos rfl
theorem upd_ne (H : HF) {n m : Nat} (o : Option Obj) (h : m ≠ n) : upd H n o m = H m := if_neg h
/-! ### a list of keys as a function -/
theorem beq_ne {k n : Nat} (h : k ≠ n) : Nat.beq k n = false := by
  cases hb : Nat.beq k n with
  | false => rfl
  | true => exact absurd (Nat.eq_of_beq_eq_true hb) h
theorem beq_eq {k n : Nat} (h : Nat.beq k n = true) : k = n := Nat.eq_of_beq_eq_true h
theorem beq_self (k : Nat) : Nat.beq k k = true := Nat.beq_refl k
theorem hget_cons (k : Nat) (o : Obj) (h : Heap) (n : Nat) : hget ((k, o) :: h) n = if k = n then some o else hget h n := by
  by_cases e : k = n
  · subst e; simp only [hget, beq_self, if_true]
  · simp only [hget, beq_ne e, if_neg e]
theorem hget_new (k : Nat) (o : Obj) (h : Heap) : hget ((k, o) :: h) = upd (hget h) k (some o) := by
  funext n
  rw [hget_cons, upd]
  by_cases e : k = n
  · rw [if_pos e, if_pos e.symm]
  · rw [if_neg e, if_neg (Ne.symm e)]
universe u
theorem hsetK_eq {R : Type u} : ∀ (h : Heap) (n : Nat) (o : Obj) (K : Heap → R), ∃ h', hsetK h n o K = K h' ∧ (hget h n ≠ none → hget h' = upd (hget h) n (some o))
  | [], n, o, K => ⟨[], rfl, fun h => absurd rfl h⟩
  | (k, a) :: h, n, o, K => by
    by_cases e : k = n
    · subst e
      refine ⟨(k, o) :: h, by simp only [hsetK, beq_self], fun _ => ?_⟩
      rw [hget_new, hget_new]
      funext m
      by_cases hm : m = k
      · subst hm; rw [upd_same, upd_same]
      · rw [upd_ne _ _ hm, upd_ne _ _ hm, upd_ne _ _ hm]
    · obtain ⟨h', h1, h2⟩ := hsetK_eq h n o fun h' => K ((k, a) :: h')
      refine ⟨(k, a) :: h', by simp only [hsetK, beq_ne e]; exact h1, fun hn => ?_⟩
      rw [hget_cons, if_neg e] at hn
      rw [hget_new, hget_new, h2 hn]
      funext m
      by_cases hm : m = n
      · subst hm; rw [upd_same, upd_ne _ _ (Ne.symm e), upd_same]
      · by_cases hk : m = k
        · subst hk; rw [upd_same, upd_ne _ _ hm, upd_same]
        · rw [upd_ne _ _ hk, upd_ne _ _ hm, upd_ne _ _ hm, upd_ne _ _ hk]
theorem hdelK_eq {R : Type u} : ∀ (h : Heap) (n : Nat) (K : Heap → R), ∃ h', hdelK h n K = K h' ∧ hget h' = upd (hget h) n none
  | [], n, K => ⟨[], rfl, by funext m; simp only [hget, upd]; split <;> rfl⟩
  | (k, a) :: h, n, K => by
    by_cases e : k = n
    · subst e
      obtain ⟨h', h1, h2⟩ := hdelK_eq h k K
      refine ⟨h', by simp only [hdelK, beq_self]; exact h1, ?_⟩
      rw [h2, hget_new]
      funext m
      by_cases hm : m = k
      · subst hm; rw [upd_same, upd_same]
      · rw [upd_ne _ _ hm, upd_ne _ _ hm, upd_ne _ _ hm]
    · obtain ⟨h', h1, h2⟩ := hdelK_eq h n fun h' => K ((k, a) :: h')
      refine ⟨(k, a) :: h', by simp only [hdelK, beq_ne e]; exact h1, ?_⟩
      rw [hget_new, hget_new, h2]
      funext m
      by_cases hm : m = n
      · subst hm; rw [upd_same, upd_ne _ _ (Ne.symm e), upd_same]
      · by_cases hk : m = k
        · subst hk; rw [upd_same, upd_ne _ _ hm, upd_same]
        · rw [upd_ne _ _ hk, upd_ne _ _ hm, upd_ne _ _ hm, upd_ne _ _ hk]
/-! ### heap programs, straight -/
def MA.eval {α : Type} : MA α → Nat → HF → FP → Option (α × HF × FP)
  | .pure a, _, H, fp => some (a, H, fp)
  | .fail, _, _, _ => none
  | .get n k, b, H, fp => match H n with
    | some o => (k o).eval b H ⟨n :: fp.reads, fp.writes⟩
    | none => none
  | .set n o k, b, H, fp => match H n with
    | some _ => k.eval b (upd H n (some o)) ⟨fp.reads, n :: fp.writes⟩
    | none => none
  | .del n k, b, H, fp => match H n with
    | some _ => k.eval b (upd H n none) ⟨fp.reads, n :: fp.writes⟩
    | none => none
  | .new s o k, b, H, fp => match H (b + s) with
    | some _ => none
    | none => if s < keys then k.eval b (upd H (b + s) (some o)) ⟨fp.reads, (b + s) :: fp.writes⟩ else none
  | .base k, b, H, fp => (k b).eval b H fp
  | .cond c t e, b, H, fp => if c = true then t.eval b H fp else e.eval b H fp
  | .bindO x k, b, H, fp => match x with
    | some y => (k y).eval b H fp
    | none => none
  | .sum x k l, b, H, fp => match x with
    | .inl y => (k y).eval b H fp
    | .inr y => (l y).eval b H fp
theorem MA.eval_bind {α β : Type} (f : α → MA β) : ∀ (m : MA α) (b : Nat) (H : HF) (fp : FP), (m.bind f).eval b H fp = match m.eval b H fp with
    | some (a, H', fp') => (f a).eval b H' fp'
    | none => none := by
  intro m
  induction m with
  | pure a => intro b H fp; rfl
  | fail => intro b H fp; rfl
  | get n k ih => intro b H fp; simp only [MA.bind, MA.eval]; cases H n <;> simp only [ih]
  | set n o k ih => intro b H fp; simp only [MA.bind, MA.eval]; cases H n <;> simp only [ih]
  | del n k ih => intro b H fp; simp only [MA.bind, MA.eval]; cases H n <;> simp only [ih]
  | new s o k ih =>
    intro b H fp
    simp only [MA.bind, MA.eval]
    cases H (b + s) with
    | some _ => rfl
    | none => by_cases hs : s < keys <;> simp only [hs, if_true, if_false, ih]
  | base k ih => intro b H fp; simp only [MA.bind, MA.eval]; exact ih b b H fp
  | cond c t e ih1 ih2 => intro b H fp; simp only [MA.bind, MA.eval]; by_cases h : c = true <;> simp only [h, if_true, if_false, ih1, ih2, Bool.false_eq_true]
  | bindO x k ih =>
    intro b H fp
    cases x with
    | none => rfl
    | some y => exact ih y b H fp
  | sum x k l ih1 ih2 =>
    intro b H fp
    cases x with
    | inl y => exact ih1 y b H fp
    | inr y => exact ih2 y b H fp
theorem MA.run_eval {α A : Type} : ∀ (m : MA α) (b : Nat) (h : Heap) (fp : FP) (K : α → Heap → FP → Option A) (r : A), m.run b h fp K = some r →
    ∃ a h' fp', m.eval b (hget h) fp = some (a, hget h', fp') ∧ K a h' fp' = some r := by
  intro m
  induction m with
  | pure a => intro b h fp K r hr; exact ⟨a, h, fp, rfl, hr⟩
  | fail => intro b h fp K r hr; cases hr
  | get n k ih =>
    intro b h fp K r hr
    simp only [MA.run] at hr
    simp only [MA.eval]
    cases ho : hget h n with
    | none => rw [ho] at hr; cases hr
    | some o => rw [ho] at hr; exact ih o b h _ K r hr
  | set n o k ih =>
    intro b h fp K r hr
    simp only [MA.run] at hr
    simp only [MA.eval]
    cases ho : hget h n with
    | none => rw [ho] at hr; cases hr
    | some o' =>
      rw [ho] at hr
      obtain ⟨h', h1, h2⟩ := hsetK_eq h n o fun h' => k.run b h' ⟨fp.reads, n :: fp.writes⟩ K
      simp only at hr
      rw [h1] at hr
      rw [← h2 (by rw [ho]; simp)]
      exact ih b h' _ K r hr
  | del n k ih =>
    intro b h fp K r hr
    simp only [MA.run] at hr
    simp only [MA.eval]
    cases ho : hget h n with
    | none => rw [ho] at hr; cases hr
    | some o' =>
      rw [ho] at hr
      obtain ⟨h', h1, h2⟩ := hdelK_eq h n fun h' => k.run b h' ⟨fp.reads, n :: fp.writes⟩ K
      simp only at hr
      rw [h1] at hr
      rw [← h2]
      exact ih b h' _ K r hr
  | new s o k ih =>
    intro b h fp K r hr
    simp only [MA.run] at hr
    simp only [MA.eval]
    cases ho : hget h (b + s) with
    | some o' => rw [ho] at hr; cases hr
    | none =>
      rw [ho] at hr
      simp only at hr
      by_cases hs : s < keys
      · have : Nat.blt s keys = true := by unfold Nat.blt; exact Nat.ble_eq_true_of_le hs
        rw [this] at hr
        simp only [hs, if_true]
        rw [← hget_new]
        exact ih b _ _ K r hr
      · have : Nat.blt s keys = false := by
          cases hb : Nat.blt s keys with
          | false => rfl
          | true => exact absurd (Nat.le_of_ble_eq_true hb) hs
        rw [this] at hr
        cases hr
  | base k ih => intro b h fp K r hr; exact ih b b h fp K r hr
  | cond c t e ih1 ih2 =>
    intro b h fp K r hr
    cases c with
    | true => exact ih1 b h fp K r hr
    | false => simp only [MA.eval, Bool.false_eq_true, if_false]; exact ih2 b h fp K r hr
  | bindO x k ih =>
    intro b h fp K r hr
    cases x with
    | none => cases hr
    | some y => exact ih y b h fp K r hr
  | sum x k l ih1 ih2 =>
    intro b h fp K r hr
    cases x with
    | inl y => exact ih1 y b h fp K r hr
    | inr y => exact ih2 y b h fp K r hr
/-- What a program touches tells all that it does. -/
theorem MA.eval_local {α : Type} : ∀ (m : MA α) (b : Nat) (H : HF) (fp : FP) (a : α) (H' : HF) (fp' : FP), m.eval b H fp = some (a, H', fp') →
    ∃ R W, fp' = ⟨R ++ fp.reads, W ++ fp.writes⟩ ∧ (∀ n, n ∉ W → H' n = H n) ∧
      ∀ (H2 : HF) (fp2 : FP), (∀ n, n ∈ R ∨ n ∈ W → H2 n = H n) → m.eval b H2 fp2 = some (a, (fun n => if n ∈ W then H' n else H2 n), ⟨R ++ fp2.reads, W ++ fp2.writes⟩) := by
  intro m
  induction m with
  | pure a =>
    intro b H fp a' H' fp' h
    simp only [MA.eval, Option.some.injEq, Prod.mk.injEq] at h
    obtain ⟨rfl, rfl, rfl⟩ := h
    exact ⟨[], [], rfl, fun _ _ => rfl, fun H2 fp2 _ => by simp [MA.eval]⟩
  | fail => intro b H fp a' H' fp' h; cases h
  | get n k ih =>
    intro b H fp a' H' fp' h
    simp only [MA.eval] at h
    cases ho : H n with
    | none => rw [ho] at h; cases h
    | some o =>
      rw [ho] at h
      obtain ⟨R, W, e, hW, hl⟩ := ih o b H _ a' H' fp' h
      refine ⟨R ++ [n], W, by rw [e]; simp, hW, fun H2 fp2 h2 => ?_⟩
      have hn : H2 n = some o := by rw [h2 n (.inl (by simp)), ho]
      simp only [MA.eval, hn]
      rw [hl H2 _ fun m hm => h2 m (hm.imp (fun x => by simp [x]) id)]
      simp
  | set n o k ih =>
    intro b H fp a' H' fp' h
    simp only [MA.eval] at h
    cases ho : H n with
    | none => rw [ho] at h; cases h
    | some o1 =>
      rw [ho] at h
      obtain ⟨R, W, e, hW, hl⟩ := ih b _ _ a' H' fp' h
      refine ⟨R, W ++ [n], by rw [e]; simp, fun m hm => ?_, fun H2 fp2 h2 => ?_⟩
      · simp only [List.mem_append, List.mem_singleton, not_or] at hm
        rw [hW m hm.1, upd_ne _ _ hm.2]
      · have hn : H2 n = some o1 := by rw [h2 n (.inr (by simp)), ho]
        simp only [MA.eval, hn]
        rw [hl (upd H2 n (some o)) _ ?_]
        · simp only [List.append_assoc, List.singleton_append, Option.some.injEq, Prod.mk.injEq, true_and, and_true]
          funext m
          by_cases hm : m ∈ W
          · simp [hm]
          · by_cases hmn : m = n
            · subst hmn; simp [hm, upd_same, hW m hm]
            · simp [hm, hmn, upd_ne]
        · intro m hm
          by_cases hmn : m = n
          · subst hmn; rw [upd_same, upd_same]
          · rw [upd_ne _ _ hmn, upd_ne _ _ hmn]; exact h2 m (hm.imp id fun x => by simp [x])
  | del n k ih =>
    intro b H fp a' H' fp' h
    simp only [MA.eval] at h
    cases ho : H n with
    | none => rw [ho] at h; cases h
    | some o1 =>
      rw [ho] at h
      obtain ⟨R, W, e, hW, hl⟩ := ih b _ _ a' H' fp' h
      refine ⟨R, W ++ [n], by rw [e]; simp, fun m hm => ?_, fun H2 fp2 h2 => ?_⟩
      · simp only [List.mem_append, List.mem_singleton, not_or] at hm
        rw [hW m hm.1, upd_ne _ _ hm.2]
      · have hn : H2 n = some o1 := by rw [h2 n (.inr (by simp)), ho]
        simp only [MA.eval, hn]
        rw [hl (upd H2 n none) _ ?_]
        · simp only [List.append_assoc, List.singleton_append, Option.some.injEq, Prod.mk.injEq, true_and, and_true]
          funext m
          by_cases hm : m ∈ W
          · simp [hm]
          · by_cases hmn : m = n
            · subst hmn; simp [hm, upd_same, hW m hm]
            · simp [hm, hmn, upd_ne]
        · intro m hm
          by_cases hmn : m = n
          · subst hmn; rw [upd_same, upd_same]
          · rw [upd_ne _ _ hmn, upd_ne _ _ hmn]; exact h2 m (hm.imp id fun x => by simp [x])
  | new s o k ih =>
    intro b H fp a' H' fp' h
    simp only [MA.eval] at h
    cases ho : H (b + s) with
    | some _ => rw [ho] at h; cases h
    | none =>
      rw [ho] at h
      simp only at h
      by_cases hs : s < keys
      · simp only [hs, if_true] at h
        obtain ⟨R, W, e, hW, hl⟩ := ih b _ _ a' H' fp' h
        refine ⟨R, W ++ [b + s], by rw [e]; simp, fun m hm => ?_, fun H2 fp2 h2 => ?_⟩
        · simp only [List.mem_append, List.mem_singleton, not_or] at hm
          rw [hW m hm.1, upd_ne _ _ hm.2]
        · have hn : H2 (b + s) = none := by rw [h2 (b + s) (.inr (by simp)), ho]
          simp only [MA.eval, hn, hs, if_true]
          rw [hl (upd H2 (b + s) (some o)) _ ?_]
          · simp only [List.append_assoc, List.singleton_append, Option.some.injEq, Prod.mk.injEq, true_and, and_true]
            funext m
            by_cases hm : m ∈ W
            · simp [hm]
            · by_cases hmn : m = b + s
              · subst hmn; simp [hm, upd_same, hW _ hm]
              · simp [hm, hmn, upd_ne]
          · intro m hm
            by_cases hmn : m = b + s
            · subst hmn; rw [upd_same, upd_same]
            · rw [upd_ne _ _ hmn, upd_ne _ _ hmn]; exact h2 m (hm.imp id fun x => by simp [x])
      · simp only [hs, if_false] at h
        cases h
  | base k ih => intro b H fp a' H' fp' h; exact ih b b H fp a' H' fp' h
  | cond c t e ih1 ih2 =>
    intro b H fp a' H' fp' h
    cases c with
    | true => exact ih1 b H fp a' H' fp' h
    | false =>
      simp only [MA.eval, Bool.false_eq_true, if_false] at h
      obtain ⟨R, W, e, hW, hl⟩ := ih2 b H fp a' H' fp' h
      exact ⟨R, W, e, hW, fun H2 fp2 h2 => by simp only [MA.eval, Bool.false_eq_true, if_false]; exact hl H2 fp2 h2⟩
  | bindO x k ih =>
    intro b H fp a' H' fp' h
    cases x with
    | none => cases h
    | some y => exact ih y b H fp a' H' fp' h
  | sum x k l ih1 ih2 =>
    intro b H fp a' H' fp' h
    cases x with
    | inl y => exact ih1 y b H fp a' H' fp' h
    | inr y => exact ih2 y b H fp a' H' fp' h
/-! ### steps of memory -/
structure Ext (mt : Nat → Prop) (g : Gh) (w : World) (g' : Gh) (w' : World) : Prop where
  os : w'.os = w.os
  tape : w'.tape = w.tape
  output : w'.output = w.output
  size : w.heap.size ≤ w'.heap.size
  keep : ∀ b, b < w.heap.size → (¬ mt b ∨ g.ro b) → w'.heap[b]? = w.heap[b]?
  ro : ∀ b, g.ro b → g'.ro b
  ro' : ∀ b, g'.ro b → g.ro b ∨ mt b
  phi : ∀ n P, g.φ n = some P → g'.φ n = some P
theorem Ext.refl (mt : Nat → Prop) (g : Gh) (w : World) : Ext mt g w g w := ⟨rfl, rfl, rfl, Nat.le_refl _, fun _ _ _ => rfl, fun _ h => h, fun _ h => .inl h, fun _ _ h => h⟩
theorem Ext.trans {mt : Nat → Prop} {g g' g2 : Gh} {w w' w2 : World} (a : Ext mt g w g' w') (b : Ext mt g' w' g2 w2) : Ext mt g w g2 w2 :=
  ⟨b.os.trans a.os, b.tape.trans a.tape, b.output.trans a.output, Nat.le_trans a.size b.size,
   fun c hc hk => (b.keep c (Nat.lt_of_lt_of_le hc a.size) (hk.imp id (a.ro c))).trans (a.keep c hc hk),
   fun c h => b.ro c (a.ro c h), fun c h => (b.ro' c h).elim (a.ro' c) .inr, fun n P h => b.phi n P (a.phi n P h)⟩
theorem Ext.stab {mt : Nat → Prop} {g g' : Gh} {w w' : World} (a : Ext mt g w g' w') (h : ∀ b, g.ro b → b < w.heap.size) : Stab g w.heap g' w'.heap :=
  ⟨a.ro, fun b hb => a.keep b (h b hb) (.inr hb), a.phi⟩
theorem lt_of_get {α : Type} {a : Array α} {b : Nat} {x : α} (h : a[b]? = some x) : b < a.size := by
  rcases Nat.lt_or_ge b a.size with h' | h'
  · exact h'
  · simp [Array.getElem?_eq_none h'] at h
theorem ObjR.lt {g : Gh} {hp : HP} {P : Pl} : ∀ {o : Obj}, ObjR g hp P o → ∀ b, P.blk = some b → b < hp.size
  | .box _, ⟨c, vs, t, h1, h2, _⟩, b, hb => by rw [h1] at hb; cases hb; exact lt_of_get h2
  | .arr e l, h, b, hb => by obtain ⟨_, _, _, h4⟩ := h; rw [hb] at h4; obtain ⟨_, vs, t, us, rest, h6, _⟩ := h4; exact lt_of_get h6
  | .ice e l, h, b, hb => by obtain ⟨_, _, _, h4⟩ := h; rw [hb] at h4; obtain ⟨_, vs, t, us, rest, h6, _⟩ := h4; exact lt_of_get h6
/-- Key n is laid, or laid anew, at a place whose block is nobody else's. -/
theorem Mem.put {mt : Nat → Prop} {g g' : Gh} {H : HF} {hp hp' : HP} (M : Mem mt g H hp) {n : Nat} {o : Obj} {P : Pl} (hn : g'.φ n = some P)
    (hφ : ∀ m Q, g.φ m = some Q → g'.φ m = some Q) (hro : g'.ro = g.ro) (hi : o.iced = false)
    (hb : ∀ b, P.blk = some b → mt b ∧ ¬ g.ro b ∧ ∀ m o' Q, m ≠ n → H m = some o' → g.φ m = some Q → Q.blk ≠ some b)
    (hk : ∀ c, c < hp.size → P.blk ≠ some c → hp'[c]? = hp[c]?) (hs : hp.size ≤ hp'.size) (ho : ObjR g' hp' P o) : Mem mt g' (upd H n (some o)) hp' := by
  have st : Stab g hp g' hp' := ⟨fun b h => by rw [hro]; exact h, fun b h => hk b (M.ro b h) (fun e => (hb b e).2.1 h), hφ⟩
  have old : ∀ m o', m ≠ n → H m = some o' → ∃ Q, g.φ m = some Q ∧ ObjR g hp Q o' := fun m o' _ h => M.obj m o' h
  refine ⟨fun m o' h => ?_, fun m o' Q b h hice hQ hQb => ?_, fun m o' Q b h hice hQ hQb => ?_, fun m k o1 o2 Q1 Q2 b hmk h1 h2 hq1 hq2 hb1 => ?_, fun b h => ?_⟩
  · by_cases e : m = n
    · subst e; rw [upd_same] at h; cases h; exact ⟨P, hn, ho⟩
    · rw [upd_ne _ _ e] at h
      obtain ⟨Q, hQ, hO⟩ := M.obj m o' h
      exact ⟨Q, hφ m Q hQ, hO.stab st fun b hQb => hk b (hO.lt b hQb) fun ec => (hb b ec).2.2 m o' Q e h hQ hQb⟩
  · by_cases e : m = n
    · subst e; rw [hn] at hQ; cases hQ; rw [hro]; exact ⟨(hb b hQb).1, (hb b hQb).2.1⟩
    · rw [upd_ne _ _ e] at h
      obtain ⟨Q', hQ', _⟩ := M.obj m o' h
      have : Q' = Q := by rw [hφ m Q' hQ'] at hQ; exact Option.some.inj hQ
      subst this
      rw [hro]; exact M.own m o' Q' b h hice hQ' hQb
  · by_cases e : m = n
    · subst e; rw [upd_same] at h; cases h; rw [hi] at hice; cases hice
    · rw [upd_ne _ _ e] at h
      obtain ⟨Q', hQ', _⟩ := M.obj m o' h
      have : Q' = Q := by rw [hφ m Q' hQ'] at hQ; exact Option.some.inj hQ
      subst this
      rw [hro]; exact M.ice m o' Q' b h hice hQ' hQb
  · by_cases e1 : m = n
    · subst e1
      rw [hn] at hq1; cases hq1
      rw [upd_ne _ _ (Ne.symm hmk)] at h2
      obtain ⟨Q', hQ', _⟩ := M.obj k o2 h2
      have : Q' = Q2 := by rw [hφ k Q' hQ'] at hq2; exact Option.some.inj hq2
      subst this
      exact (hb b hb1).2.2 k o2 Q' (Ne.symm hmk) h2 hQ'
    · rw [upd_ne _ _ e1] at h1
      obtain ⟨Q', hQ', _⟩ := M.obj m o1 h1
      have : Q' = Q1 := by rw [hφ m Q' hQ'] at hq1; exact Option.some.inj hq1
      subst this
      by_cases e2 : k = n
      · subst e2
        rw [hn] at hq2; cases hq2
        exact fun e => (hb b e).2.2 m o1 Q' e1 h1 hQ' hb1
      · rw [upd_ne _ _ e2] at h2
        obtain ⟨Q3, hQ3, _⟩ := M.obj k o2 h2
        have : Q3 = Q2 := by rw [hφ k Q3 hQ3] at hq2; exact Option.some.inj hq2
        subst this
        exact M.sep m k o1 o2 Q' Q3 b hmk h1 h2 hQ' hQ3 hb1
  · rw [hro] at h; exact Nat.lt_of_lt_of_le (M.ro b h) hs
theorem Mem.del {mt : Nat → Prop} {g : Gh} {H : HF} {hp : HP} (M : Mem mt g H hp) (n : Nat) : Mem mt g (upd H n none) hp := by
  have back : ∀ m o, upd H n none m = some o → m ≠ n ∧ H m = some o := fun m o h => by
    by_cases e : m = n
    · subst e; rw [upd_same] at h; cases h
    · rw [upd_ne _ _ e] at h; exact ⟨e, h⟩
  exact ⟨fun m o h => M.obj m o (back m o h).2, fun m o P b h => M.own m o P b (back m o h).2, fun m o P b h => M.ice m o P b (back m o h).2,
    fun m k o o' P Q b hmk h1 h2 => M.sep m k o o' P Q b hmk (back m o h1).2 (back k o' h2).2, M.ro⟩
/-- A row of the call's own is written to no more. -/
theorem Mem.freeze {mt : Nat → Prop} {g : Gh} {H : HF} {hp : HP} (M : Mem mt g H hp) {n : Nat} {e : Ty} {l : List e.T} {P : Pl} (hn : H n = some (.arr e l)) (hP : g.φ n = some P) :
    Mem mt ⟨g.φ, fun b => g.ro b ∨ P.blk = some b⟩ (upd H n (some (.ice e l))) hp := by
  have st : Stab g hp ⟨g.φ, fun b => g.ro b ∨ P.blk = some b⟩ hp := ⟨fun b h => .inl h, fun _ _ => rfl, fun _ _ h => h⟩
  obtain ⟨P', hP', hO⟩ := M.obj n _ hn
  have : P' = P := by rw [hP] at hP'; exact (Option.some.inj hP').symm
  subst this
  refine ⟨fun m o h => ?_, fun m o Q b h hice hQ hQb => ?_, fun m o Q b h hice hQ hQb => ?_, fun m k o1 o2 Q1 Q2 b hmk h1 h2 hq1 hq2 hb1 => ?_, fun b h => ?_⟩
  · by_cases e : m = n
    · subst e; rw [upd_same] at h; cases h
      exact ⟨P', hP, (show ObjR _ hp P' (.ice _ l) from (hO.stab st fun _ _ => rfl : ObjR _ hp P' (.arr _ l)))⟩
    · rw [upd_ne _ _ e] at h
      obtain ⟨Q, hQ, hO'⟩ := M.obj m o h
      exact ⟨Q, hQ, hO'.stab st fun _ _ => rfl⟩
  · by_cases e : m = n
    · subst e; rw [upd_same] at h; cases h; cases hice
    · rw [upd_ne _ _ e] at h
      have := M.own m o Q b h hice hQ hQb
      exact ⟨this.1, fun hr => hr.elim this.2 fun he => M.sep m n o _ Q P' b e h hn hQ hP hQb he⟩
  · by_cases e : m = n
    · subst e; rw [hP] at hQ; cases hQ; exact .inr hQb
    · rw [upd_ne _ _ e] at h
      exact .inl (M.ice m o Q b h hice hQ hQb)
  · have back : ∀ m o, upd H n (some (.ice e l)) m = some o → ∃ o', H m = some o' := fun m o h => by
      by_cases e' : m = n
      · subst e'; exact ⟨_, hn⟩
      · rw [upd_ne _ _ e'] at h; exact ⟨o, h⟩
    obtain ⟨o1', h1'⟩ := back m o1 h1
    obtain ⟨o2', h2'⟩ := back k o2 h2
    exact M.sep m k o1' o2' Q1 Q2 b hmk h1' h2' hq1 hq2 hb1
  · exact h.elim (M.ro b) fun he => hO.lt b he
end Go.Proofs.Ytjmbmpeflhkngaa.Mx
/- The interpreter's operations do what the model's do: types, cells, loads, stores (own work). -/
namespace Go.Proofs.Ytjmbmpeflhkngaa.Mx
open Go
set_option autoImplicit false
set_option linter.unusedVariables false
set_option linter.unusedSimpArgs false
/-! ### types -/
def udOf : TypeDesc → UD
  | .int k => .int k
  | .bool => .bool
  | .string => .str
  | .float k => .flt k
  | .complex k => .cpx k
  | .slice e => .slice e
  | .array n e => .arr n e
  | .struct fs => .struct (fs.toList.map fun f => (f.offset, f.type))
  | .pointer e => .ptr e
  | .interface _ => .iface
  | .tuple _ => .tuple
  | _ => .func
def rawV : CV → Value
  | .int k n => .int k n
  | .bool b => .bool b
  | .str s => .string s
  | .fint _ => .float .f64 0
  | .cint _ _ => .complex .f64 0 0
  | .nilp => .pointer none
  | .nilf => .nilFunc
  | .nili => .nilIface
  | .nils => .slice none 0 0
  | _ => undef
def plainZ : CV → Bool
  | .int _ _ | .bool _ | .str _ | .nilp | .nilf | .nili | .nils => true
  | .fint n => decide (n = 0)
  | .cint x y => decide (x = 0) && decide (y = 0)
  | _ => false
def Ty.zeroV : Ty → List Value
  | .int k => [.int k 0]
  | .bool => [.bool false]
  | .str => [.string ⟨#[]⟩]
  | .row _ => [.slice none 0 0]
  | .prod a b => a.zeroV ++ b.zeroV
structure TIok (P : Program) (t : Nat) (i : TI) : Prop where
  sz : (P.info? t).map (fun x => (x.size, x.bytes)) = some (i.size, i.bytes)
  und : (P.underlying t).map udOf = some i.und
  zero : (P.info? t).map (fun x => x.zero.map fun z => z.cells.toList) = some (some (i.zero.map rawV))
  zok : i.zero.all plainZ = true
  zlen : i.zero.length = i.size
  ty : i.ty.map Ty.zeroV = i.ty.map (fun _ => i.zero.map rawV)
  tysz : i.ty.map Ty.size = i.ty.map (fun _ => i.size)
  flds : (match i.und with | .struct fs => fs.all fun x => (P.info? x.2).isSome | .arr _ e => (P.info? e).isSome | _ => true) = true
def TIs (P : Program) (l : List (Nat × TI)) : Prop := ∀ t i, tget l t = some i → TIok P t i
theorem TIs.nil (P : Program) : TIs P [] := fun _ _ h => by cases h
theorem TIs.cons {P : Program} {t : Nat} {i : TI} {l : List (Nat × TI)} (h : TIok P t i) (hl : TIs P l) : TIs P ((t, i) :: l) := fun t' i' h' => by
  by_cases e : t = t'
  · subst e; simp only [tget, beq_self] at h'; cases h'; exact h
  · simp only [tget, beq_ne e] at h'; exact hl t' i' h'
theorem TIok.get {P : Program} {t : Nat} {i : TI} (h : TIok P t i) : ∃ x d z, P.info? t = some x ∧ x.size = i.size ∧ x.bytes = i.bytes ∧ x.zero = some z ∧ z.cells.toList = i.zero.map rawV ∧ P.underlying t = some d ∧ udOf d = i.und := by
  have h1 := h.sz
  have h2 := h.und
  have h3 := h.zero
  cases hi : P.info? t with
  | none => rw [hi] at h1; cases h1
  | some x =>
    rw [hi] at h1 h3
    cases hd : P.underlying t with
    | none => rw [hd] at h2; cases h2
    | some d =>
      rw [hd] at h2
      simp only [Option.map_some, Option.some.injEq, Prod.mk.injEq] at h1 h2 h3
      cases hz : x.zero with
      | none => rw [hz] at h3; cases h3
      | some z =>
        rw [hz] at h3
        simp only [Option.map_some, Option.some.injEq] at h3
        exact ⟨x, d, z, rfl, h1.1, h1.2, hz, h3, rfl, h2⟩
theorem zero_VR (g : Gh) (hp : HP) : ∀ (l : List CV), l.all plainZ = true → All2 (VR g hp) l (l.map rawV)
  | [], _ => trivial
  | c :: l, h => by
    simp only [List.all_cons, Bool.and_eq_true] at h
    refine ⟨?_, zero_VR g hp l h.2⟩
    have h1 := h.1
    cases c with
    | fint n => simp only [plainZ, decide_eq_true_eq] at h1; subst h1; exact ⟨0, rfl, YtjmbmpeflhkngaaF.rep_zero⟩
    | cint x y => simp only [plainZ, Bool.and_eq_true, decide_eq_true_eq] at h1; obtain ⟨rfl, rfl⟩ := h1; exact ⟨0, 0, rfl, YtjmbmpeflhkngaaF.rep_zero, YtjmbmpeflhkngaaF.rep_zero⟩
    | int _ _ => rfl
    | bool _ => rfl
    | str _ => rfl
    | nilp => rfl
    | nilf => rfl
    | nili => rfl
    | nils => rfl
    | _ => simp [plainZ] at h1
theorem Rd.dflt (ro : Nat → Prop) (hp : HP) : ∀ e : Ty, Rd ro hp e e.dflt e.zeroV
  | .int _ => rfl
  | .bool => rfl
  | .str => rfl
  | .row e => ⟨none, 0, rfl, Nat.le_refl _, fun h => absurd rfl h⟩
  | .prod a b => ⟨_, _, rfl, Rd.dflt ro hp a, Rd.dflt ro hp b⟩
theorem RdL.replicate {ro : Nat → Prop} {hp : HP} {e : Ty} {x : e.T} {vs : List Value} (h : Rd ro hp e x vs) : ∀ n : Nat, RdL (Rd ro hp e) (List.replicate n x) (List.replicate n vs).flatten
  | 0 => rfl
  | n + 1 => ⟨vs, _, by rw [List.replicate_succ, List.flatten_cons], h, RdL.replicate h n⟩
/-! ### lists that go together -/
theorem All2.length {α β : Type} {R : α → β → Prop} : ∀ {l : List α} {m : List β}, All2 R l m → l.length = m.length
  | [], [], _ => rfl
  | _ :: l, _ :: m, ⟨_, h⟩ => by simp [All2.length h]
  | [], _ :: _, h => h.elim
  | _ :: _, [], h => h.elim
theorem All2.append {α β : Type} {R : α → β → Prop} : ∀ {l : List α} {m : List β} {l' : List α} {m' : List β}, All2 R l m → All2 R l' m' → All2 R (l ++ l') (m ++ m')
  | [], [], _, _, _, h => h
  | _ :: l, _ :: m, _, _, ⟨hx, h⟩, h' => ⟨hx, All2.append h h'⟩
  | [], _ :: _, _, _, h, _ => h.elim
  | _ :: _, [], _, _, h, _ => h.elim
theorem All2.drop {α β : Type} {R : α → β → Prop} : ∀ (n : Nat) {l : List α} {m : List β}, All2 R l m → All2 R (l.drop n) (m.drop n)
  | 0, _, _, h => h
  | n + 1, [], [], _ => trivial
  | n + 1, _ :: l, _ :: m, ⟨_, h⟩ => All2.drop n h
  | _ + 1, [], _ :: _, h => h.elim
  | _ + 1, _ :: _, [], h => h.elim
theorem All2.take {α β : Type} {R : α → β → Prop} : ∀ (n : Nat) {l : List α} {m : List β}, All2 R l m → All2 R (l.take n) (m.take n)
  | 0, _, _, h => by simp [All2]
  | n + 1, [], [], _ => trivial
  | n + 1, _ :: l, _ :: m, ⟨hx, h⟩ => ⟨hx, All2.take n h⟩
  | _ + 1, [], _ :: _, h => h.elim
  | _ + 1, _ :: _, [], h => h.elim
theorem All2.get {α β : Type} {R : α → β → Prop} : ∀ (n : Nat) {l : List α} {m : List β} {x : α}, All2 R l m → l[n]? = some x → ∃ y, m[n]? = some y ∧ R x y
  | 0, _ :: l, y :: m, x, ⟨hx, _⟩, h => by simp at h; subst h; exact ⟨y, rfl, hx⟩
  | n + 1, _ :: l, _ :: m, x, ⟨_, h⟩, hn => by simpa using All2.get n h (by simpa using hn)
  | _, [], [], _, _, h => by simp at h
  | _, [], _ :: _, _, h, _ => h.elim
  | _, _ :: _, [], _, h, _ => h.elim
theorem cutCs_eq : ∀ (cs : List CV) (off n : Nat) (l : List CV), cutCs cs off n = some l → l = (cs.drop off).take n ∧ off + n ≤ cs.length
  | cs, 0, 0, l, h => by cases cs <;> (simp only [cutCs, Option.some.injEq] at h; subst h; simp)
  | [], 0, n + 1, l, h => by simp [cutCs] at h
  | [], o + 1, n, l, h => by simp [cutCs] at h
  | c :: cs, 0, n + 1, l, h => by
    simp only [cutCs] at h
    cases hr : cutCs cs 0 n with
    | none => rw [hr] at h; cases h
    | some r =>
      rw [hr] at h
      simp only [Option.map_some, Option.some.injEq] at h
      subst h
      obtain ⟨h1, h2⟩ := cutCs_eq cs 0 n r hr
      simp only [List.drop_zero] at h1 ⊢
      exact ⟨by rw [h1]; rfl, by simp only [List.length_cons]; omega⟩
  | c :: cs, o + 1, n, l, h => by
    have h' : cutCs cs o n = some l := by cases n <;> exact h
    obtain ⟨h1, h2⟩ := cutCs_eq cs o n l h'
    exact ⟨by rw [h1]; rfl, by simp only [List.length_cons]; omega⟩
theorem cut_VR {g : Gh} {hp : HP} {cs l : List CV} {vs : List Value} {off n : Nat} (h : All2 (VR g hp) cs vs) (hc : cutCs cs off n = some l) : All2 (VR g hp) l ((vs.drop off).take n) ∧ ((vs.drop off).take n).length = n := by
  obtain ⟨rfl, hlen⟩ := cutCs_eq cs off n l hc
  refine ⟨All2.take n (All2.drop off h), ?_⟩
  have := All2.length h
  simp only [List.length_take, List.length_drop]
  omega
theorem putCs_eq : ∀ (cs : List CV) (off : Nat) (l r : List CV), putCs cs off l = some r → r = cs.take off ++ l ++ cs.drop (off + l.length) ∧ off + l.length ≤ cs.length
  | cs, 0, [], r, h => by cases cs <;> (simp only [putCs, Option.some.injEq] at h; subst h; simp)
  | [], 0, v :: vs, r, h => by simp [putCs] at h
  | [], o + 1, l, r, h => by simp [putCs] at h
  | c :: cs, 0, v :: vs, r, h => by
    simp only [putCs] at h
    cases hr : putCs cs 0 vs with
    | none => rw [hr] at h; cases h
    | some r' =>
      rw [hr] at h
      simp only [Option.map_some, Option.some.injEq] at h
      subst h
      obtain ⟨h1, h2⟩ := putCs_eq cs 0 vs r' hr
      simp only [Nat.zero_add, List.take_zero, List.nil_append] at h1 h2 ⊢
      exact ⟨by rw [h1]; simp, by simp only [List.length_cons]; omega⟩
  | c :: cs, o + 1, l, r, h => by
    have h' : (putCs cs o l).map (fun r => c :: r) = some r := by cases l <;> exact h
    cases hr : putCs cs o l with
    | none => rw [hr] at h'; cases h'
    | some r' =>
      rw [hr] at h'
      simp only [Option.map_some, Option.some.injEq] at h'
      subst h'
      obtain ⟨h1, h2⟩ := putCs_eq cs o l r' hr
      refine ⟨by rw [h1, show o + 1 + l.length = (o + l.length) + 1 by omega]; simp, by simp only [List.length_cons]; omega⟩
theorem put_VR {g : Gh} {hp : HP} {cs l r : List CV} {vs us : List Value} {off : Nat} (h : All2 (VR g hp) cs vs) (hl : All2 (VR g hp) l us) (hc : putCs cs off l = some r) :
    All2 (VR g hp) r (vs.take off ++ us ++ vs.drop (off + us.length)) ∧ off + us.length ≤ vs.length := by
  obtain ⟨rfl, hlen⟩ := putCs_eq cs off l r hc
  have h1 := All2.length h
  have h2 := All2.length hl
  rw [← h2]
  exact ⟨All2.append (All2.append (All2.take off h) hl) (All2.drop _ h), by omega⟩
/-! ### elements and cells -/
theorem Rd.enc {g : Gh} {hp : HP} : ∀ (e : Ty) (x : e.T) (u : List Value) (r : List CV) (v : List Value), Rd g.ro hp e x u → All2 (VR g hp) r v → All2 (VR g hp) (e.enc x r) (u ++ v)
  | .int _, _, _, _, _, h, hr => by rw [show _ = _ from h]; exact ⟨rfl, hr⟩
  | .bool, _, _, _, _, h, hr => by rw [show _ = _ from h]; exact ⟨rfl, hr⟩
  | .str, _, _, _, _, h, hr => by rw [show _ = _ from h]; exact ⟨rfl, hr⟩
  | .row e, l, u, r, v, h, hr => by
    have h0 := h
    obtain ⟨A, c, hu, _⟩ := h
    subst hu
    exact ⟨h0, hr⟩
  | .prod a b, x, _, r, v, ⟨u1, u2, hu, h1, h2⟩, hr => by
    rw [hu, List.append_assoc]
    exact Rd.enc a x.1 u1 _ _ h1 (Rd.enc b x.2 u2 r v h2 hr)
theorem decInt_eq {k : IntKind} {cs r : List CV} {n : Int} (h : decInt k cs = some (n, r)) : cs = .int k n :: r := by
  unfold decInt at h
  split at h
  · split at h
    · simp only [Option.some.injEq, Prod.mk.injEq] at h; obtain ⟨rfl, rfl⟩ := h; subst_vars; rfl
    · cases h
  · cases h
theorem decBool_eq {cs r : List CV} {n : Bool} (h : decBool cs = some (n, r)) : cs = .bool n :: r := by
  unfold decBool at h
  split at h
  · simp only [Option.some.injEq, Prod.mk.injEq] at h; obtain ⟨rfl, rfl⟩ := h; rfl
  · cases h
theorem decStr_eq {cs r : List CV} {n : ByteArray} (h : decStr cs = some (n, r)) : cs = .str n :: r := by
  unfold decStr at h
  split at h
  · simp only [Option.some.injEq, Prod.mk.injEq] at h; obtain ⟨rfl, rfl⟩ := h; rfl
  · cases h
theorem decRow_eq {e : Ty} {cs r : List CV} {l : List e.T} (h : decRow e cs = some (l, r)) : cs = .row e l :: r ∨ (l = [] ∧ cs = .nils :: r) := by
  unfold decRow at h
  split at h
  · split at h
    · rename_i e' l' r' q
      subst q
      simp only [Option.some.injEq, Prod.mk.injEq] at h; obtain ⟨rfl, rfl⟩ := h; exact .inl rfl
    · cases h
  · simp only [Option.some.injEq, Prod.mk.injEq] at h; obtain ⟨rfl, rfl⟩ := h; exact .inr ⟨rfl, rfl⟩
  · cases h
theorem dec_Rd {g : Gh} {hp : HP} : ∀ (e : Ty) (cs : List CV) (vs : List Value) (x : e.T) (r : List CV), All2 (VR g hp) cs vs → e.dec cs = some (x, r) → ∃ u v, vs = u ++ v ∧ Rd g.ro hp e x u ∧ All2 (VR g hp) r v
  | .int k, cs, vs, x, r, h, hd => by
    rw [decInt_eq hd] at h
    cases vs with
    | nil => exact h.elim
    | cons v vs => exact ⟨[v], vs, rfl, by rw [show v = _ from h.1]; rfl, h.2⟩
  | .bool, cs, vs, x, r, h, hd => by
    rw [decBool_eq hd] at h
    cases vs with
    | nil => exact h.elim
    | cons v vs => exact ⟨[v], vs, rfl, by rw [show v = _ from h.1]; rfl, h.2⟩
  | .str, cs, vs, x, r, h, hd => by
    rw [decStr_eq hd] at h
    cases vs with
    | nil => exact h.elim
    | cons v vs => exact ⟨[v], vs, rfl, by rw [show v = _ from h.1]; rfl, h.2⟩
  | .row e, cs, vs, x, r, h, hd => by
    rcases decRow_eq hd with he | ⟨hx, he⟩
    · rw [he] at h
      cases vs with
      | nil => exact h.elim
      | cons v vs => exact ⟨[v], vs, rfl, h.1, h.2⟩
    · rw [he] at h
      subst hx
      cases vs with
      | nil => exact h.elim
      | cons v vs => exact ⟨[v], vs, rfl, ⟨none, 0, by rw [show v = _ from h.1]; rfl, Nat.le_refl _, fun hn => absurd rfl hn⟩, h.2⟩
  | .prod a b, cs, vs, x, r, h, hd => by
    simp only [Ty.dec] at hd
    cases h1 : a.dec cs with
    | none => rw [h1] at hd; cases hd
    | some p =>
      obtain ⟨x1, r1⟩ := p
      rw [h1] at hd
      simp only at hd
      cases h2 : b.dec r1 with
      | none => rw [h2] at hd; cases hd
      | some q =>
        obtain ⟨x2, r2⟩ := q
        rw [h2] at hd
        simp only [Option.some.injEq, Prod.mk.injEq] at hd
        obtain ⟨rfl, rfl⟩ := hd
        obtain ⟨u1, v1, e1, hR1, hA1⟩ := dec_Rd a cs vs x1 r1 h h1
        obtain ⟨u2, v2, e2, hR2, hA2⟩ := dec_Rd b r1 v1 x2 r2 hA1 h2
        exact ⟨u1 ++ u2, v2, by rw [e1, e2, List.append_assoc], ⟨u1, u2, rfl, hR1, hR2⟩, hA2⟩
theorem decL_Rd {g : Gh} {hp : HP} {e : Ty} : ∀ (n : Nat) (cs : List CV) (vs : List Value) (l : List e.T), All2 (VR g hp) cs vs → e.decL n cs = some l → RdL (Rd g.ro hp e) l vs ∧ l.length = n
  | 0, [], [], l, _, h => by simp only [Ty.decL, Option.some.injEq] at h; subst h; exact ⟨rfl, rfl⟩
  | 0, [], _ :: _, l, h, _ => h.elim
  | 0, _ :: _, _, l, _, h => by simp [Ty.decL] at h
  | n + 1, cs, vs, l, h, hd => by
    simp only [Ty.decL] at hd
    cases h1 : e.dec cs with
    | none => rw [h1] at hd; cases hd
    | some p =>
      obtain ⟨x, r⟩ := p
      rw [h1] at hd
      simp only at hd
      cases h2 : e.decL n r with
      | none => rw [h2] at hd; cases hd
      | some l' =>
        rw [h2] at hd
        simp only [Option.some.injEq] at hd
        subst hd
        obtain ⟨u, v, e1, hR, hA⟩ := dec_Rd e cs vs x r h h1
        obtain ⟨h3, h4⟩ := decL_Rd n r v l' hA h2
        exact ⟨⟨u, v, e1, hR, h3⟩, by simp [h4]⟩
/-- No cell that stands for something is a struct or a tuple. -/
theorem VR.one {g : Gh} {hp : HP} : ∀ {c : CV} {v : Value}, VR g hp c v → c ≠ .dead → v.oneCell' = true
  | .int _ _, _, h, _ => by rw [show _ = _ from h]; rfl
  | .bool _, _, h, _ => by rw [show _ = _ from h]; rfl
  | .str _, _, h, _ => by rw [show _ = _ from h]; rfl
  | .fint _, _, ⟨_, h, _⟩, _ => by rw [h]; rfl
  | .cint _ _, _, ⟨_, _, h, _⟩, _ => by rw [h]; rfl
  | .nilp, _, h, _ => by rw [show _ = _ from h]; rfl
  | .nilf, _, h, _ => by rw [show _ = _ from h]; rfl
  | .nili, _, h, _ => by rw [show _ = _ from h]; rfl
  | .nils, _, h, _ => by rw [show _ = _ from h]; rfl
  | .ptr _ _, _, ⟨_, _, _, _, h⟩, _ => by rw [h]; rfl
  | .eptr _ _ _, _, ⟨_, _, _, _, _, h⟩, _ => by rw [h]; rfl
  | .aptr _ _ _ _ _ _, _, ⟨_, _, _, _, _, h⟩, _ => by rw [h]; rfl
  | .own _, _, ⟨_, _, h⟩, _ => by rw [h]; rfl
  | .sub _ _ _, _, ⟨_, _, _, _, _, _, _, h, _⟩, _ => by rw [h]; rfl
  | .row _ _, v, ⟨_, _, h, _⟩, _ => by simp only [List.cons.injEq, and_true] at h; rw [h]; rfl
  | .rptr _ _ _ _, _, ⟨_, _, _, _, _, _, _, h, _⟩, _ => by rw [h]; rfl
  | .fn _ _, _, ⟨_, h, _⟩, _ => by rw [h]; rfl
  | .ifc _ _ _, _, h, _ => by rw [show _ = _ from h]; rfl
  | .dead, _, _, h => absurd rfl h
end Go.Proofs.Ytjmbmpeflhkngaa.Mx
/- The interpreter's operations do what the model's do: one by one (own work). -/
namespace Go.Proofs.Ytjmbmpeflhkngaa.Mx
open Go
set_option autoImplicit false
set_option linter.unusedVariables false
set_option linter.unusedSimpArgs false
variable {P : Program}
/-- An operation comes to a value and a world of which R tells. -/
def Does (P : Program) (o : Oper) (a : Act) (w : World) (R : Value → World → Prop) : Prop :=
  ∀ (next : Act → World → Prop) (Q : Exit → Act → World → Prop), (∀ V w', R V w' → next (a.put o.dst V) w') → o.wp P a w next Q
theorem Does.value {o : Oper} {a : Act} {w w' : World} {R : Value → World → Prop} {V : Value} (h : (execOp a.eval o).run P w = .ok (.value V) w') (hr : R V w') : Does P o a w R := by
  intro next Q hn
  unfold Oper.wp
  rw [h]
  exact hn V w' hr
theorem Does.skip {o : Oper} {a : Act} {w w' : World} {R : Value → World → Prop} (h : (execOp a.eval o).run P w = .ok .skip w') (hr : R undef w') : Does P o a w R := by
  intro next Q hn
  unfold Oper.wp
  rw [h]
  exact hn undef w' hr
theorem Does.enter {o : Oper} {a : Act} {w w' : World} {R : Value → World → Prop} {f : FuncId} {args : Array Value} (h : (execOp a.eval o).run P w = .ok (.enter f args) w')
    (hr : Calls P f args w' fun e w2 => ∃ V, e = .returned V ∧ R V w2) : Does P o a w R := by
  intro next Q hn
  unfold Oper.wp
  rw [h]
  refine Calls.mono hr fun e w2 h2 => ?_
  obtain ⟨V, rfl, hR⟩ := h2
  exact hn V w2 hR
/-- What is left behind an operation. -/
def Post (mt : Nat → Prop) (g : Gh) (w : World) (base : Nat) (H' : HF) (v : SV) (V : Value) (w' : World) : Prop :=
  ∃ g', Ext mt g w g' w' ∧ (∀ n, ¬ (base ≤ n ∧ n < base + keys) → g'.φ n = g.φ n) ∧ Mem mt g' H' w'.heap ∧ SVR g' w'.heap v V
theorem Post.same {mt : Nat → Prop} {g : Gh} {w : World} {base : Nat} {H : HF} {v : SV} {V : Value} (M : Mem mt g H w.heap) (h : SVR g w.heap v V) : Post mt g w base H v V w :=
  ⟨g, Ext.refl _ _ _, fun _ _ => rfl, M, h⟩
/-- Only draws were made. -/
theorem Post.drawn {mt : Nat → Prop} {g : Gh} {w w' : World} {base : Nat} {H : HF} {v : SV} {V : Value} (h1 : w'.heap = w.heap) (h2 : w'.os = w.os) (h3 : w'.tape = w.tape) (h4 : w'.output = w.output) (M : Mem mt g H w.heap) (h : SVR g w.heap v V) : Post mt g w base H v V w' :=
  ⟨g, ⟨h2, h3, h4, by rw [h1]; exact Nat.le_refl _, fun _ _ _ => by rw [h1], fun _ h => h, fun _ h => .inl h, fun _ _ h => h⟩, fun _ _ => rfl, by rw [h1]; exact M, by rw [h1]; exact h⟩
def updφ (g : Gh) (n : Nat) (Q : Pl) : Gh := ⟨fun m => if m = n then some Q else g.φ m, g.ro⟩
theorem updφ_same (g : Gh) (n : Nat) (Q : Pl) : (updφ g n Q).φ n = some Q := if_pos rfl
theorem updφ_ne (g : Gh) {n m : Nat} (Q : Pl) (h : m ≠ n) : (updφ g n Q).φ m = g.φ m := if_neg h
theorem updφ_phi {g : Gh} {n : Nat} {Q : Pl} (hn : g.φ n = none) : ∀ m R, g.φ m = some R → (updφ g n Q).φ m = some R := fun m R h => by
  by_cases e : m = n
  · subst e; rw [hn] at h; cases h
  · rw [updφ_ne g Q e]; exact h
theorem push_new (hp : HP) (o : Go.Obj) : (hp.push o)[hp.size]? = some o := by simp
theorem push_old (hp : HP) (o : Go.Obj) (k : Nat) (h : k < hp.size) : (hp.push o)[k]? = hp[k]? := by rw [Array.getElem?_push, if_neg (by omega)]
/-- A new block under a new key. -/
theorem Post.new {mt : Nat → Prop} {g : Gh} {w w' : World} {base s : Nat} {H : HF} {v : SV} {V : Value} {o : Obj} {Q : Pl} {ob : Go.Obj} (M : Mem mt g H w.heap) (hm : ∀ b, w.heap.size ≤ b → mt b)
    (hw : w'.heap = w.heap.push ob) (h2 : w'.os = w.os) (h3 : w'.tape = w.tape) (h4 : w'.output = w.output) (hf : g.φ (base + s) = none) (hs : s < keys) (hi : o.iced = false) (hQ : Q.blk = some w.heap.size)
    (ho : ObjR (updφ g (base + s) Q) w'.heap Q o) (hv : SVR (updφ g (base + s) Q) w'.heap v V) : Post mt g w base (upd H (base + s) (some o)) v V w' := by
  have hnr : ¬ g.ro w.heap.size := fun h => absurd (M.ro _ h) (Nat.lt_irrefl _)
  refine ⟨updφ g (base + s) Q, ⟨h2, h3, h4, by rw [hw]; simp, fun b hb _ => by rw [hw, push_old _ _ _ hb], fun _ h => h, fun _ h => .inl h, updφ_phi hf⟩, fun n hn => updφ_ne g Q (by omega), ?_, hv⟩
  refine M.put (P := Q) (updφ_same g _ Q) (updφ_phi hf) rfl hi (fun b hb => ?_) (fun c hc _ => by rw [hw, push_old _ _ _ hc]) (by rw [hw]; simp) ho
  rw [hQ] at hb
  cases hb
  refine ⟨hm _ (Nat.le_refl _), hnr, fun m o' R _ hH hR hRb => ?_⟩
  obtain ⟨R', hR', hO⟩ := M.obj m o' hH
  rw [hR] at hR'
  cases hR'
  exact absurd (hO.lt _ hRb) (Nat.lt_irrefl _)
/-- A key without a block. -/
theorem Post.bare {mt : Nat → Prop} {g : Gh} {w w' : World} {base s : Nat} {H : HF} {v : SV} {V : Value} {o : Obj} {Q : Pl} (M : Mem mt g H w.heap)
    (hw : w'.heap = w.heap) (h2 : w'.os = w.os) (h3 : w'.tape = w.tape) (h4 : w'.output = w.output) (hf : g.φ (base + s) = none) (hs : s < keys) (hi : o.iced = false) (hQ : Q.blk = none)
    (ho : ObjR (updφ g (base + s) Q) w'.heap Q o) (hv : SVR (updφ g (base + s) Q) w'.heap v V) : Post mt g w base (upd H (base + s) (some o)) v V w' := by
  refine ⟨updφ g (base + s) Q, ⟨h2, h3, h4, by rw [hw]; simp, fun b hb _ => by rw [hw], fun _ h => h, fun _ h => .inl h, updφ_phi hf⟩, fun n hn => updφ_ne g Q (by omega), ?_, hv⟩
  exact M.put (P := Q) (updφ_same g _ Q) (updφ_phi hf) rfl hi (fun b hb => by rw [hQ] at hb; cases hb) (fun c hc _ => by rw [hw]) (by rw [hw]; simp) ho
theorem setRow_heap {w : World} {b : Nat} {vs us : Array Value} {t : TypeId} (h : w.heap[b]? = some (.cells vs t (0, 0))) : (w.setRow b us).heap[b]? = some (.cells us t (0, 0)) := by
  simp only [World.setRow, Array.getElem?_modify, if_true, h, Option.map_some]
theorem setRow_other {w : World} {b k : Nat} {us : Array Value} (h : k ≠ b) : (w.setRow b us).heap[k]? = w.heap[k]? := by
  simp only [World.setRow, Array.getElem?_modify]
  rw [if_neg (Ne.symm h)]
/-- A live key's block is written. -/
theorem Post.set {mt : Nat → Prop} {g : Gh} {w w' : World} {base n b : Nat} {H : HF} {v : SV} {V : Value} {o o' : Obj} {Q : Pl} (M : Mem mt g H w.heap)
    (hH : H n = some o) (hQ : g.φ n = some Q) (hi0 : o.iced = false) (hi : o'.iced = false) (hb : Q.blk = some b)
    (hk : ∀ c, c ≠ b → w'.heap[c]? = w.heap[c]?) (hs : w'.heap.size = w.heap.size) (h2 : w'.os = w.os) (h3 : w'.tape = w.tape) (h4 : w'.output = w.output)
    (ho : Stab g w.heap g w'.heap → ObjR g w'.heap Q o') (hv : Stab g w.heap g w'.heap → SVR g w'.heap v V) : Post mt g w base (upd H n (some o')) v V w' := by
  obtain ⟨hmt, hnr⟩ := M.own n o Q b hH hi0 hQ hb
  have st : Stab g w.heap g w'.heap := ⟨fun _ h => h, fun c hc => hk c fun e => hnr (e ▸ hc), fun _ _ h => h⟩
  refine ⟨g, ⟨h2, h3, h4, by rw [hs]; exact Nat.le_refl _, fun c hc hor => hk c fun e => ?_, fun _ h => h, fun _ h => .inl h, fun _ _ h => h⟩, fun _ _ => rfl, ?_, hv st⟩
  · subst e; exact hor.elim (fun h => h hmt) hnr
  · refine M.put hQ (fun _ _ h => h) rfl hi (fun c hc => ?_) (fun c _ hc => hk c fun e => hc (e ▸ hb)) (by rw [hs]; exact Nat.le_refl _) (ho st)
    rw [hb] at hc
    cases hc
    exact ⟨hmt, hnr, fun m o2 R hm hHm hR hRb => M.sep m n o2 o R Q b hm hHm hH hR hQ hRb hb⟩
/-! ### reading an operand -/
def SlR (g : Gh) (hp : HP) (sl : List SV) (a : Act) : Prop := ∀ t, SVR g hp (getS sl t) (a.tmps.getD t undef)
theorem ofVal_VR (g : Gh) (hp : HP) (v : Value) : VR g hp (ofVal v) v := by
  unfold ofVal
  split <;> first
    | rfl
    | trivial
    | exact ⟨0, _, rfl, YtjmbmpeflhkngaaF.rep_zero, YtjmbmpeflhkngaaF.rep_one⟩
    | exact ⟨0, _, rfl, YtjmbmpeflhkngaaF.rep_zero, YtjmbmpeflhkngaaF.rep_neg_one⟩
theorem rd_SVR {g : Gh} {hp : HP} {sl : List SV} {a : Act} (h : SlR g hp sl a) : ∀ x : Operand, SVR g hp (rd sl x) (a.eval x)
  | .tmp t => h t
  | .const v => ofVal_VR g hp v
  | .func f => ⟨[], rfl, trivial⟩
  | .global _ => trivial
/-! ### types at work -/
theorem isAgg_run {t : Nat} {i : TI} (h : TIok P t i) (w : World) : (isAgg t).run P w = .ok i.agg w := by
  obtain ⟨x, d, z, h1, h2, h3, h4, h5, h6, h7⟩ := h.get
  simp only [isAgg, Sem.run_bind, run_underlying h6, Result.andThen_ok]
  cases d <;> simp only [udOf] at h7 <;> simp only [TI.agg, ← h7, Sem.run_pure]
theorem sizeOf_run {t : Nat} {i : TI} (h : TIok P t i) (w : World) : (sizeOf t).run P w = .ok i.size w := by
  obtain ⟨x, d, z, h1, h2, _⟩ := h.get
  simp only [sizeOf, Sem.run_bind, run_typeInfo w h1, Result.andThen_ok, Sem.run_pure, h2]
theorem zero_run {t : Nat} {i : TI} (h : TIok P t i) (w : World) : ∃ z : Value, z.cells.toList = i.zero.map rawV ∧ (zeroValue t).run P w = .ok z w := by
  obtain ⟨x, d, z, h1, h2, h3, h4, h5, _⟩ := h.get
  exact ⟨z, h5, by simp only [zeroValue, Sem.run_bind, run_typeInfo w h1, Result.andThen_ok, h4, Sem.run_pure]⟩
theorem und_run {t : Nat} {i : TI} (h : TIok P t i) : ∃ d, P.underlying t = some d ∧ udOf d = i.und := by
  obtain ⟨x, d, z, _, _, _, _, _, h6, h7⟩ := h.get
  exact ⟨d, h6, h7⟩
theorem cells_arr (a : Array Value) : (Value.agg a).cells = a := rfl
theorem mkAV_cells {g : Gh} {hp : HP} {agg : Bool} {cs : List CV} {A : AV} {vs : List Value} (hm : mkAV agg cs = some A) (h : All2 (VR g hp) cs vs) :
    (agg = true → AVR g hp A (.agg vs.toArray)) ∧ (agg = false → ∃ v, vs = [v] ∧ AVR g hp A v) := by
  constructor
  · rintro rfl
    simp only [mkAV, Option.some.injEq] at hm
    subst hm
    exact ⟨vs, rfl, h⟩
  · rintro rfl
    match cs, vs, h with
    | [c], [v], h =>
      simp only [mkAV, Option.some.injEq] at hm
      subst hm
      exact ⟨v, rfl, h.1⟩
    | [], _, _ => simp [mkAV] at hm
    | _ :: _ :: _, _, _ => simp [mkAV] at hm
    | [_], [], h => exact h.elim
    | [_], _ :: _ :: _, h => exact h.2.elim
/-- A load of a value whose cells are known. -/
theorem load_run {g : Gh} {t : Nat} {i : TI} {w : World} {b off : Nat} {cs : List CV} {vs : List Value} {A : AV} (h : TIok P t i) (hl : vs.length = i.size)
    (hc : ∀ j v, vs[j]? = some v → w.cell? ⟨b, off + j, none⟩ = some v) (hm : mkAV i.agg cs = some A) (hv : All2 (VR g w.heap) cs vs) :
    ∃ V, (Instr.loadAt t (.pointer (some ⟨b, off, none⟩))).run P w = .ok V w ∧ AVR g w.heap A V := by
  obtain ⟨h1, h2⟩ := mkAV_cells hm hv
  have hadd : ∀ j, (⟨b, off, none⟩ : Addr).add j = ⟨b, off + j, none⟩ := fun j => by
    unfold Addr.add
    split
    · subst_vars; rfl
    · rfl
  simp only [Instr.loadAt, Instr.sureAddr, Sem.run_bind, Sem.run_pure, Result.andThen_ok, loadVar, isAgg_run h]
  cases ha : i.agg with
  | true =>
    refine ⟨.agg vs.toArray, ?_, h1 ha⟩
    simp only [if_true, Sem.run_bind, sizeOf_run h, Result.andThen_ok, ← hl]
    rw [run_loadCells_list (P := P) w ⟨b, off, none⟩ vs fun j v hj => by rw [hadd]; exact hc j v hj]
    rfl
  | false =>
    obtain ⟨v, rfl, hA⟩ := h2 ha
    refine ⟨v, ?_, hA⟩
    simp only [Bool.false_eq_true, if_false, run_load, hc 0 v rfl]
    rw [show (⟨b, off, none⟩ : Addr) = ⟨b, off + 0, none⟩ from rfl, hc 0 v rfl]
theorem oneCells {g : Gh} {hp : HP} : ∀ {cs : List CV} {vs : List Value}, All2 (VR g hp) cs vs → cs.all live = true → ∀ v ∈ vs, v.oneCell' = true
  | [], [], _, _, v, hv => by cases hv
  | c :: cs, u :: us, ⟨h, hr⟩, hl, v, hv => by
    simp only [List.all_cons, Bool.and_eq_true] at hl
    rcases List.mem_cons.1 hv with rfl | hv
    · exact VR.one h (by rintro rfl; simp [live] at hl)
    · exact oneCells hr hl.2 v hv
  | [], _ :: _, h, _, _, _ => h.elim
  | _ :: _, [], h, _, _, _ => h.elim
theorem avCs_VR {g : Gh} {hp : HP} {A : AV} {V : Value} (h : AVR g hp A V) (hl : (avCs A).all live = true) : All2 (VR g hp) (avCs A) V.cells.toList := by
  cases A with
  | agg xs => obtain ⟨vs, rfl, h⟩ := h; exact h
  | c x =>
    have h' : VR g hp x V := h
    have : V.oneCell' = true := VR.one h' (by rintro rfl; simp [avCs, live] at hl)
    refine (show All2 (VR g hp) [x] V.cells.toList from ?_)
    have e : V.cells.toList = [V] := by cases V <;> first | rfl | simp [Value.oneCell'] at this
    rw [e]
    exact ⟨h', trivial⟩
/-- A store into a block of the call's own. -/
theorem store_run {t : Nat} {i : TI} {w : World} {b off : Nat} {V : Value} {cur : Array Value} {ty : TypeId} (h : TIok P t i) (hl : V.cells.toList.length = i.size)
    (hb : w.heap[b]? = some (.cells cur ty (0, 0))) (hfit : off + V.cells.toList.length ≤ cur.size) (h1 : ∀ v ∈ V.cells.toList, v.oneCell' = true) :
    (Instr.storeAt t (.pointer (some ⟨b, off, none⟩)) V).run P w = .ok () (w.setRow b (cur.toList.take off ++ V.cells.toList ++ cur.toList.drop (off + V.cells.toList.length)).toArray) := by
  have hst := run_storeCells_at P b off ty V.cells.toList 0 cur w hb (by simpa using hfit) h1
  have hsz : V.cells.size = i.size := by simpa using hl
  simp only [Nat.add_zero] at hst
  have e0 : (⟨b, off, none⟩ : Addr).add 0 = ⟨b, off, none⟩ := rfl
  simp only [Instr.storeAt, Instr.sureAddr, Sem.run_bind, Sem.run_pure, Result.andThen_ok, storeVar, sizeOf_run h, hsz, ne_eq, not_true_eq_false, if_false, hst]
end Go.Proofs.Ytjmbmpeflhkngaa.Mx
/- The interpreter's loads and stores do what the model's do (own work). -/
namespace Go.Proofs.Ytjmbmpeflhkngaa.Mx
open Go
set_option autoImplicit false
set_option linter.unusedVariables false
set_option linter.unusedSimpArgs false
variable {P : Program}
theorem svO_eval {A : Option AV} {b : Nat} {H H' : HF} {fp fp' : FP} {v : SV} (h : (svO A).eval b H fp = some (v, H', fp')) : ∃ x, A = some x ∧ v = .v x ∧ H' = H := by
  cases A with
  | none => cases h
  | some x => simp only [svO, MA.eval, Option.some.injEq, Prod.mk.injEq] at h; exact ⟨x, rfl, h.1.symm, h.2.1.symm⟩
theorem cell_blk {w : World} {b k : Nat} {vs : Array Value} {ty : TypeId} {fz : Nat × Nat} (h : w.heap[b]? = some (.cells vs ty fz)) : w.cell? ⟨b, k, none⟩ = vs.toList[k]? := by
  rw [cell_of_row w b k vs ty fz h]; simp
theorem nth_cut {α : Type} {l : List α} {k n j : Nat} {x : α} (h : ((l.drop k).take n)[j]? = some x) : l[k + j]? = some x := by
  rw [List.getElem?_take] at h
  split at h
  · rwa [List.getElem?_drop] at h
  · cases h
theorem every_nth {stride : Nat} : ∀ (n : Nat) (cs l : List CV), everyCs stride n cs = some l → l.length = n ∧ ∀ j c, l[j]? = some c → cs[j * stride]? = some c
  | 0, cs, l, h => by simp only [everyCs, Option.some.injEq] at h; subst h; exact ⟨rfl, fun j c hc => by simp at hc⟩
  | n + 1, [], l, h => by simp [everyCs] at h
  | n + 1, c :: cs, l, h => by
    simp only [everyCs] at h
    cases hr : everyCs stride n ((c :: cs).drop stride) with
    | none => rw [hr] at h; cases h
    | some r =>
      rw [hr] at h
      simp only [Option.map_some, Option.some.injEq] at h
      subst h
      obtain ⟨h1, h2⟩ := every_nth n _ r hr
      refine ⟨by simp [h1], fun j x hx => ?_⟩
      cases j with
      | zero => simpa using hx
      | succ j =>
        have := h2 j x (by simpa using hx)
        rw [List.getElem?_drop] at this
        rwa [Nat.add_mul, Nat.one_mul, Nat.add_comm]
theorem intsOf_nth {k : IntKind} : ∀ (cs : List CV) (l : List Int), intsOf k cs = some l → l.length = cs.length ∧ ∀ j, j < cs.length → cs[j]? = some (.int k (l.getD j 0))
  | [], l, h => by simp only [intsOf, Option.some.injEq] at h; subst h; exact ⟨rfl, fun j hj => by simp at hj⟩
  | c :: cs, l, h => by
    cases c with
    | int k' n =>
      simp only [intsOf] at h
      split at h
      · rename_i he
        subst he
        cases hr : intsOf k' cs with
        | none => rw [hr] at h; cases h
        | some r =>
          rw [hr] at h
          simp only [Option.map_some, Option.some.injEq] at h
          subst h
          obtain ⟨h1, h2⟩ := intsOf_nth cs r hr
          refine ⟨by simp [h1], fun j hj => ?_⟩
          cases j with
          | zero => rfl
          | succ j => simpa using h2 j (by simpa using hj)
      · cases h
    | _ => simp [intsOf] at h
theorem boolsOf_nth : ∀ (cs : List CV) (l : List Bool), boolsOf cs = some l → l.length = cs.length ∧ ∀ j, j < cs.length → cs[j]? = some (.bool (l.getD j false))
  | [], l, h => by simp only [boolsOf, Option.some.injEq] at h; subst h; exact ⟨rfl, fun j hj => by simp at hj⟩
  | c :: cs, l, h => by
    cases c with
    | bool n =>
      simp only [boolsOf] at h
      cases hr : boolsOf cs with
      | none => rw [hr] at h; cases h
      | some r =>
        rw [hr] at h
        simp only [Option.map_some, Option.some.injEq] at h
        subst h
        obtain ⟨h1, h2⟩ := boolsOf_nth cs r hr
        refine ⟨by simp [h1], fun j hj => ?_⟩
        cases j with
        | zero => rfl
        | succ j => simpa using h2 j (by simpa using hj)
    | _ => simp [boolsOf] at h
theorem sel_nth {cs : List CV} {i : Nat} {c : CV} (h : sel cs i = some c) (hi : i < cs.length) : cs[i]? = some c := by
  cases cs with
  | nil => simp at hi
  | cons x r =>
    cases x with
    | int k n =>
      simp only [sel] at h
      cases hr : intsOf k (.int k n :: r) with
      | none => rw [hr] at h; cases h
      | some l => rw [hr] at h; simp only [Option.map_some, Option.some.injEq] at h; subst h; exact (intsOf_nth _ l hr).2 i hi
    | bool b =>
      simp only [sel] at h
      cases hr : boolsOf (.bool b :: r) with
      | none => rw [hr] at h; cases h
      | some l => rw [hr] at h; simp only [Option.map_some, Option.some.injEq] at h; subst h; exact (boolsOf_nth _ l hr).2 i hi
    | _ => simp [sel] at h
theorem selN_nth {cs : List CV} {len stride i : Nat} (hi : i < len) : ∀ (n o : Nat) (r : List CV), selN cs len stride i o n = some r → r.length = n ∧ ∀ j c, r[j]? = some c → cs[i * stride + o + j]? = some c
  | 0, o, r, h => by simp only [selN, Option.some.injEq] at h; subst h; exact ⟨rfl, fun j c hc => by simp at hc⟩
  | n + 1, o, r, h => by
    simp only [selN] at h
    cases h1 : everyCs stride len (cs.drop o) with
    | none => rw [h1] at h; cases h
    | some l =>
      rw [h1] at h
      simp only at h
      cases h2 : sel l i with
      | none => rw [h2] at h; cases h
      | some c =>
        rw [h2] at h
        simp only at h
        cases h3 : selN cs len stride i (o + 1) n with
        | none => rw [h3] at h; cases h
        | some r' =>
          rw [h3] at h
          simp only [Option.map_some, Option.some.injEq] at h
          subst h
          obtain ⟨e1, e2⟩ := every_nth len _ l h1
          obtain ⟨e3, e4⟩ := selN_nth hi n (o + 1) r' h3
          refine ⟨by simp [e3], fun j x hx => ?_⟩
          cases j with
          | zero =>
            simp only [List.getElem?_cons_zero, Option.some.injEq] at hx
            subst hx
            have := e2 i c (sel_nth h2 (by rw [e1]; exact hi))
            rw [List.getElem?_drop] at this
            rwa [Nat.add_zero, Nat.add_comm]
          | succ j =>
            have := e4 j x (by simpa using hx)
            rwa [show i * stride + o + (j + 1) = i * stride + (o + 1) + j by omega]
/-- Cells that are told one by one. -/
theorem All2.of_nth {α β : Type} {R : α → β → Prop} : ∀ (l : List α) (m : List β), (∀ (j : Nat) (x : α), l[j]? = some x → ∃ y, m[j]? = some y ∧ R x y) → l.length = m.length → All2 R l m
  | [], [], _, _ => trivial
  | [], _ :: _, _, h => by simp at h
  | _ :: _, [], _, h => by simp at h
  | x :: l, y :: m, h, hl => by
    obtain ⟨y', h1, h2⟩ := h 0 x rfl
    simp only [List.getElem?_cons_zero, Option.some.injEq] at h1
    subst h1
    exact ⟨h2, All2.of_nth l m (fun j x hx => h (j + 1) x hx) (by simpa using hl)⟩
section
variable {mt : Nat → Prop} {g : Gh} {H H' : HF} {w : World} {base : Nat} {fp fp' : FP} {v : SV} {i : TI} {t : Nat}
theorem arr_elem {Q : Pl} {e : Ty} {l : List e.T} {k b : Nat} (h : ArrR g w.heap Q e l) (hb : Q.blk = some b) (hk : k < Q.len) :
    ∃ vs ty u, w.heap[b]? = some (.cells vs ty (0, 0)) ∧ u = (vs.toList.drop (k * Q.size)).take e.size ∧ Rd g.ro w.heap e (l.getD k e.dflt) u := by
  obtain ⟨h1, h2, h3, h4⟩ := h
  rw [hb] at h4
  obtain ⟨_, vs, ty, us, rest, h5, h6, h7, h8⟩ := h4
  obtain ⟨u, h9, h10⟩ := RdL.get l us k e.dflt h7 (by omega)
  refine ⟨vs, ty, u, h5, ?_, h10⟩
  have hlen := RdL.length l us h7
  have hkl : (k + 1) * e.size ≤ l.length * e.size := Nat.mul_le_mul_right _ (by omega)
  rw [Nat.add_mul, Nat.one_mul] at hkl
  rw [← h9, h6, h2, List.drop_append_of_le_length (by omega), List.take_append_of_le_length (by rw [List.length_drop]; omega)]
/-- A load out of an element. -/
theorem load_elem {e : Ty} {x : e.T} {u : List Value} {vs : List Value} {b k off : Nat} {l : List CV} {A : AV} (ht : TIok P t i) (hu : u = (vs.drop k).take e.size) (hR : Rd g.ro w.heap e x u)
    (hc : ∀ j, w.cell? ⟨b, j, none⟩ = vs[j]?) (hcut : cutCs (e.enc x []) off i.size = some l) (hA : mkAV i.agg l = some A) :
    ∃ V, (Instr.loadAt t (.pointer (some ⟨b, k + off, none⟩))).run P w = .ok V w ∧ AVR g w.heap A V := by
  have h1 := Rd.enc e x u [] [] hR trivial
  rw [List.append_nil] at h1
  obtain ⟨h2, h3⟩ := cut_VR h1 hcut
  refine load_run ht h3 (fun j y hy => ?_) hA h2
  rw [hc, Nat.add_assoc]
  have := nth_cut hy
  rw [hu] at this
  exact nth_cut this
theorem load_does {x : SV} {X : Value} (ht : TIok P t i) (M : Mem mt g H w.heap) (hx : SVR g w.heap x X) (h : (loadM i x).eval base H fp = some (v, H', fp')) :
    ∃ V, (Instr.loadAt t X).run P w = .ok V w ∧ SVR g w.heap v V ∧ H' = H := by
  unfold loadM at h
  split at h
  · -- a cell of a box
    rename_i n off
    obtain ⟨Q, b, hQ, hb, rfl⟩ := (hx : VR g w.heap (.ptr n off) X)
    simp only [MA.eval] at h
    cases ho : H n with
    | none => rw [ho] at h; cases h
    | some o =>
      rw [ho] at h
      obtain ⟨Q', hQ', hO⟩ := M.obj n o ho
      rw [hQ] at hQ'
      cases hQ'
      cases o with
      | box cs =>
        obtain ⟨b', vs, ty, hb', hh, hA⟩ := hO
        rw [hb] at hb'
        cases hb'
        simp only at h
        split at h
        · rename_i l hl
          obtain ⟨A, hA1, rfl, rfl⟩ := svO_eval h
          obtain ⟨h1, h2⟩ := cut_VR hA hl
          obtain ⟨V, h3, h4⟩ := load_run ht h2 (fun j y hy => by rw [cell_blk hh]; exact nth_cut hy) hA1 h1
          exact ⟨V, h3, h4, rfl⟩
        · cases h
      | arr _ _ => cases h
      | ice _ _ => cases h
  · -- a cell of an element
    rename_i n k off
    obtain ⟨Q, b, hQ, hb, hk, rfl⟩ := (hx : VR g w.heap (.eptr n k off) X)
    simp only [MA.eval] at h
    cases ho : H n with
    | none => rw [ho] at h; cases h
    | some o =>
      rw [ho] at h
      obtain ⟨Q', hQ', hO⟩ := M.obj n o ho
      rw [hQ] at hQ'
      cases hQ'
      cases o with
      | box cs => cases h
      | arr e l =>
        obtain ⟨vs, ty, u, h1, h2, h3⟩ := arr_elem (hO : ArrR g w.heap Q e l) hb hk
        simp only at h
        split at h
        · rename_i l' hl
          obtain ⟨A, hA1, rfl, rfl⟩ := svO_eval h
          obtain ⟨V, h4, h5⟩ := load_elem ht h2 h3 (fun j => cell_blk h1) hl hA1
          exact ⟨V, h4, h5, rfl⟩
        · cases h
      | ice e l =>
        obtain ⟨vs, ty, u, h1, h2, h3⟩ := arr_elem (hO : ArrR g w.heap Q e l) hb hk
        simp only at h
        split at h
        · rename_i l' hl
          obtain ⟨A, hA1, rfl, rfl⟩ := svO_eval h
          obtain ⟨V, h4, h5⟩ := load_elem ht h2 h3 (fun j => cell_blk h1) hl hA1
          exact ⟨V, h4, h5, rfl⟩
        · cases h
  · -- a cell of a row that nobody writes to
    rename_i e l k off
    obtain ⟨b, o, cs, ty, fz, us, rest, rfl, hb, hh, hd, hR, hk⟩ := (hx : VR g w.heap (.rptr e l k off) X)
    split at h
    · rename_i l' hl
      obtain ⟨A, hA1, rfl, rfl⟩ := svO_eval h
      obtain ⟨u, h1, h2⟩ := RdL.get l us k e.dflt hR hk
      have hlen := RdL.length l us hR
      have hkl : (k + 1) * e.size ≤ l.length * e.size := Nat.mul_le_mul_right _ (by omega)
      rw [Nat.add_mul, Nat.one_mul] at hkl
      have h3 : u = (cs.toList.drop (o + k * e.size)).take e.size := by
        rw [← h1, ← List.drop_drop, hd, List.drop_append_of_le_length (by omega), List.take_append_of_le_length (by rw [List.length_drop]; omega)]
      obtain ⟨V, h4, h5⟩ := load_elem ht h3 h2 (fun j => cell_blk hh) hl hA1
      exact ⟨V, h4, h5, rfl⟩
    · cases h
  · -- a cell of an array in a box
    rename_i n off len stride k o
    obtain ⟨Q, b, hQ, hb, hk, rfl⟩ := (hx : VR g w.heap (.aptr n off len stride k o) X)
    simp only [MA.eval] at h
    cases ho : H n with
    | none => rw [ho] at h; cases h
    | some ob =>
      rw [ho] at h
      obtain ⟨Q', hQ', hO⟩ := M.obj n ob ho
      rw [hQ] at hQ'
      cases hQ'
      cases ob with
      | box cs =>
        obtain ⟨b', vs, ty, hb', hh, hA⟩ := hO
        rw [hb] at hb'
        cases hb'
        simp only at h
        split at h
        · rename_i l hl
          split at h
          · rename_i r hr
            obtain ⟨A, hA1, rfl, rfl⟩ := svO_eval h
            obtain ⟨h1, h2⟩ := cut_VR hA hl
            obtain ⟨h3, h4⟩ := selN_nth hk i.size o r hr
            have hle := All2.length h1
            have hall : ∀ j c, r[j]? = some c → ∃ y, (((vs.toList.drop off).take (len * stride)).drop (k * stride + o))[j]? = some y ∧ VR g w.heap c y := fun j c hc => by
              obtain ⟨y, hy1, hy2⟩ := All2.get _ h1 (h4 j c hc)
              exact ⟨y, by rw [List.getElem?_drop]; exact hy1, hy2⟩
            have hrl : i.size ≤ (((vs.toList.drop off).take (len * stride)).drop (k * stride + o)).length := by
              rcases Nat.eq_zero_or_pos i.size with hz | hz
              · omega
              · have : i.size - 1 < r.length := by omega
                obtain ⟨y, hy, _⟩ := hall (i.size - 1) _ (List.getElem?_eq_getElem this)
                have := (List.getElem?_eq_some_iff.1 hy).1
                omega
            have h5 : All2 (VR g w.heap) r ((((vs.toList.drop off).take (len * stride)).drop (k * stride + o)).take i.size) := by
              refine All2.of_nth _ _ (fun j c hc => ?_) (by rw [List.length_take]; omega)
              obtain ⟨y, hy, hv⟩ := hall j c hc
              have hj : j < i.size := by have := (List.getElem?_eq_some_iff.1 hc).1; omega
              exact ⟨y, by rw [List.getElem?_take, if_pos hj]; exact hy, hv⟩
            obtain ⟨V, h6, h7⟩ := load_run ht (by rw [List.length_take]; omega) (fun j y hy => by
              rw [cell_blk hh, show off + k * stride + o + j = off + (k * stride + o + j) by omega]
              exact nth_cut (nth_cut hy)) hA1 h5
            exact ⟨V, h6, h7, rfl⟩
          · cases h
        · cases h
      | arr _ _ => cases h
      | ice _ _ => cases h
  · cases h
/-! ### stores -/
theorem putAt_nth {stride o k : Nat} {y : CV} (hs : o < stride) : ∀ (cs : List CV) (q : Nat) (r : List CV), putAt stride o k y q cs = some r → r.length = cs.length ∧ ∀ m, r[m]? = if q + m = k * stride + o ∧ m < cs.length then some y else cs[m]?
  | [], q, r, h => by simp only [putAt, Option.some.injEq] at h; subst h; exact ⟨rfl, fun m => by simp⟩
  | c :: cs, q, r, h => by
    simp only [putAt] at h
    cases h1 : putAt stride o k y (q + 1) cs with
    | none => rw [h1] at h; cases h
    | some r' =>
      rw [h1] at h
      simp only at h
      obtain ⟨e1, e2⟩ := putAt_nth hs cs (q + 1) r' h1
      have tail : ∀ (x : CV) (m : Nat), (x :: r')[m + 1]? = if q + (m + 1) = k * stride + o ∧ m + 1 < (c :: cs).length then some y else (c :: cs)[m + 1]? := fun x m => by
        rw [List.getElem?_cons_succ, e2 m, List.getElem?_cons_succ, List.length_cons]
        by_cases hc : q + 1 + m = k * stride + o ∧ m < cs.length
        · rw [if_pos hc, if_pos ⟨by omega, by omega⟩]
        · rw [if_neg hc, if_neg (fun hh => hc ⟨by omega, by omega⟩)]
      have hmod : q % stride = o → (k = q / stride ↔ q = k * stride + o) := fun hq => by
        have hd := Nat.div_add_mod q stride
        constructor
        · intro hk; rw [hk, ← hq, Nat.mul_comm]; exact hd.symm
        · intro hk
          have : (k * stride + o) / stride = k := by rw [Nat.mul_comm, Nat.mul_add_div (by omega), Nat.div_eq_of_lt hs, Nat.add_zero]
          rw [hk, this]
      cases hb : Nat.beq (q % stride) o with
      | false =>
        rw [hb] at h
        simp only [Option.some.injEq] at h
        subst h
        refine ⟨by simp [e1], fun m => ?_⟩
        cases m with
        | zero =>
          have hne : ¬ (q + 0 = k * stride + o ∧ 0 < (c :: cs).length) := fun hh => by
            have : q % stride = o := by
              rw [show q = k * stride + o by omega, Nat.mul_comm, Nat.mul_add_mod]
              exact Nat.mod_eq_of_lt hs
            rw [this, beq_self] at hb
            cases hb
          rw [if_neg hne]
          rfl
        | succ m => exact tail c m
      | true =>
        have hq := beq_eq hb
        rw [hb] at h
        simp only at h
        have fin : ∀ x, some (x :: r') = some r → (k = q / stride → x = y) → (k ≠ q / stride → x = c) → r.length = (c :: cs).length ∧ ∀ m, r[m]? = if q + m = k * stride + o ∧ m < (c :: cs).length then some y else (c :: cs)[m]? := fun x hx h3 h4 => by
          simp only [Option.some.injEq] at hx
          subst hx
          refine ⟨by simp [e1], fun m => ?_⟩
          cases m with
          | zero =>
            by_cases hk : k = q / stride
            · rw [if_pos ⟨(hmod hq).1 hk, by simp⟩, h3 hk]; rfl
            · rw [if_neg (fun hh => hk ((hmod hq).2 hh.1)), h4 hk]; rfl
          | succ m => exact tail x m
        split at h
        · split at h
          · rename_i k1 n k2 z he
            subst he
            exact fin _ h (fun hk => by rw [if_pos hk]) (fun hk => by rw [if_neg hk])
          · cases h
        · exact fin _ h (fun hk => by rw [if_pos hk]) (fun hk => by rw [if_neg hk])
        · cases h
theorem put_nth {α : Type} (l : List α) (off : Nat) (u : List α) (q : Nat) (h : off + u.length ≤ l.length) :
    (l.take off ++ u ++ l.drop (off + u.length))[q]? = if off ≤ q ∧ q < off + u.length then u[q - off]? else l[q]? := by
  have h1 : (l.take off).length = off := by rw [List.length_take]; omega
  by_cases hq : q < off
  · rw [if_neg (by omega), List.append_assoc, List.getElem?_append_left (by omega), List.getElem?_take, if_pos hq]
  · by_cases hq2 : q < off + u.length
    · rw [if_pos ⟨by omega, hq2⟩, List.append_assoc, List.getElem?_append_right (by omega), h1, List.getElem?_append_left (by omega)]
    · rw [if_neg (by omega), List.getElem?_append_right (by rw [List.length_append]; omega), List.length_append, h1, List.getElem?_drop]
      congr 1
      omega
/-- What putN writes. -/
theorem putN_nth {stride k : Nat} : ∀ (vs : List CV) (o : Nat) (cs r : List CV), o + vs.length ≤ stride → putN stride k o vs cs = some r → r.length = cs.length ∧
    ∀ q, q < cs.length → r[q]? = if k * stride + o ≤ q ∧ q < k * stride + o + vs.length then vs[q - (k * stride + o)]? else cs[q]?
  | [], o, cs, r, _, h => by
    simp only [putN, Option.some.injEq] at h
    subst h
    exact ⟨rfl, fun q _ => by rw [if_neg (by simp only [List.length_nil]; omega)]⟩
  | y :: vs, o, cs, r, ho, h => by
    simp only [putN] at h
    cases h1 : putAt stride o k y 0 cs with
    | none => rw [h1] at h; cases h
    | some cs' =>
      rw [h1] at h
      simp only [List.length_cons] at h ho
      obtain ⟨e1, e2⟩ := putAt_nth (by omega) cs 0 cs' h1
      obtain ⟨e3, e4⟩ := putN_nth vs (o + 1) cs' r (by omega) h
      refine ⟨by omega, fun q hq => ?_⟩
      rw [e4 q (by omega), e2 q]
      simp only [List.length_cons]
      by_cases ha : q = k * stride + o
      · rw [if_neg (by omega), if_pos ⟨by omega, hq⟩, if_pos ⟨by omega, by omega⟩, ha, Nat.sub_self]; rfl
      · by_cases hb : k * stride + (o + 1) ≤ q ∧ q < k * stride + (o + 1) + vs.length
        · rw [if_pos hb, if_pos ⟨by omega, by omega⟩, show q - (k * stride + o) = (q - (k * stride + (o + 1))) + 1 by omega]; rfl
        · have hc : ¬ (0 + q = k * stride + o ∧ q < cs.length) := fun hh => ha (by omega)
          have hd : ¬ (k * stride + o ≤ q ∧ q < k * stride + o + (vs.length + 1)) := fun hh => hb ⟨by omega, by omega⟩
          rw [if_neg hb, if_neg hc, if_neg hd]
theorem fits_spec {cs : List CV} {n : Nat} (h : fits cs n = true) : cs.length = n ∧ cs.all live = true := by
  unfold fits at h
  simp only [Bool.and_eq_true] at h
  exact ⟨beq_eq h.1, h.2⟩
theorem store_does {x y : SV} {X Y : Value} (ht : TIok P t i) (M : Mem mt g H w.heap) (hx : SVR g w.heap x X) (hy : SVR g w.heap y Y) (h : (storeM i x y).eval base H fp = some (v, H', fp')) :
    ∃ w', (Instr.storeAt t X Y).run P w = .ok () w' ∧ Post mt g w base H' v undef w' := by
  unfold storeM at h
  split at h
  · -- a cell of a box
    rename_i n off a
    obtain ⟨Q, b, hQ, hb, rfl⟩ := (hx : VR g w.heap (.ptr n off) X)
    cases hf : fits (avCs a) i.size with
    | false => rw [hf] at h; cases h
    | true =>
      rw [hf] at h
      obtain ⟨f1, f2⟩ := fits_spec hf
      simp only [MA.eval] at h
      cases ho : H n with
      | none => rw [ho] at h; cases h
      | some o =>
        rw [ho] at h
        obtain ⟨Q', hQ', hO⟩ := M.obj n o ho
        rw [hQ] at hQ'
        cases hQ'
        cases o with
        | arr _ _ => cases h
        | ice _ _ => cases h
        | box cs =>
          obtain ⟨b', vs, ty, hb', hh, hA⟩ := hO
          rw [hb] at hb'
          cases hb'
          simp only at h
          split at h
          · rename_i cs' hc
            simp only [MA.eval, ho, Option.some.injEq, Prod.mk.injEq] at h
            obtain ⟨rfl, rfl, _⟩ := h
            have hv2 := avCs_VR (A := a) hy f2
            have hlen := All2.length hv2
            obtain ⟨h1, h2⟩ := put_VR hA hv2 hc
            refine ⟨_, store_run ht (by omega) hh (by simpa using h2) (oneCells hv2 f2), ?_⟩
            refine Post.set M ho hQ rfl rfl hb (fun c hc => setRow_other hc) (by simp) rfl rfl rfl (fun st => ⟨b, _, ty, hb, setRow_heap hh, ?_⟩) (fun _ => trivial)
            exact All2.mono (VR.stab st) _ _ (by simpa using h1)
          · cases h
  · -- a cell of an element
    rename_i n k off a
    obtain ⟨Q, b, hQ, hb, hk, rfl⟩ := (hx : VR g w.heap (.eptr n k off) X)
    cases hf : fits (avCs a) i.size with
    | false => rw [hf] at h; cases h
    | true =>
      rw [hf] at h
      obtain ⟨f1, f2⟩ := fits_spec hf
      simp only [MA.eval] at h
      cases ho : H n with
      | none => rw [ho] at h; cases h
      | some o =>
        rw [ho] at h
        obtain ⟨Q', hQ', hO⟩ := M.obj n o ho
        rw [hQ] at hQ'
        cases hQ'
        cases o with
        | box _ => cases h
        | ice _ _ => cases h
        | arr e l =>
          have hO0 := hO
          obtain ⟨a1, a2, a3, a4⟩ := hO
          rw [hb] at a4
          obtain ⟨a5, vs, ty, us, rest, a6, a7, a8, a9⟩ := a4
          simp only at h
          split at h
          · rename_i cs hc
            split at h
            · rename_i z hd
              simp only [MA.eval, ho, Option.some.injEq, Prod.mk.injEq] at h
              obtain ⟨rfl, rfl, _⟩ := h
              obtain ⟨u, u1, u2⟩ := RdL.get l us k e.dflt a8 (by omega)
              have hlen := RdL.length l us a8
              have hkl : (k + 1) * e.size ≤ l.length * e.size := Nat.mul_le_mul_right _ (by omega)
              rw [Nat.add_mul, Nat.one_mul] at hkl
              have hv2 := avCs_VR (A := a) hy f2
              have hlv := All2.length hv2
              have h1 := Rd.enc e _ u [] [] u2 trivial
              rw [List.append_nil] at h1
              obtain ⟨h2, h3⟩ := put_VR h1 hv2 hc
              obtain ⟨u', v', e1, e2, e3⟩ := dec_Rd e cs _ z [] h2 hd
              have hv' : v' = [] := by
                have := All2.length e3
                exact List.length_eq_zero_iff.1 (by simpa using this.symm)
              subst hv'
              rw [List.append_nil] at e1
              have hul : u.length = e.size := Rd.length e _ _ u2
              have hvs : vs.size = vs.toList.length := by simp
              have hfit : k * Q.size + off + Y.cells.toList.length ≤ vs.size := by
                rw [hvs, a7, List.length_append, a2]; omega
              refine ⟨_, store_run ht (by omega) a6 hfit (oneCells hv2 f2), ?_⟩
              refine Post.set M ho hQ rfl rfl hb (fun c hc => setRow_other hc) (by simp) rfl rfl rfl (fun st => ?_) (fun _ => trivial)
              refine ⟨by simpa using a1, a2, a3, ?_⟩
              rw [hb]
              have hset := RdL.set l us k z u' a8 (by omega) e2
              have hu' : u'.length = e.size := Rd.length e _ _ e2
              refine ⟨a5, _, ty, _, rest, setRow_heap a6, ?_, RdL.mono (fun x vs => Rd.stab st.ro st.hp e x vs) _ _ hset, ?_⟩
              · refine List.ext_getElem? fun q => ?_
                have hsz : Q.size = e.size := a2
                rw [hsz]
                simp only [hsz] at hfit
                have hL : us.length = l.length * e.size := hlen
                rw [show (vs.toList.take (k * e.size + off) ++ Y.cells.toList ++ vs.toList.drop (k * e.size + off + Y.cells.toList.length)).toArray.toList = vs.toList.take (k * e.size + off) ++ Y.cells.toList ++ vs.toList.drop (k * e.size + off + Y.cells.toList.length) from by simp]
                rw [put_nth _ _ _ _ (by rw [← hvs]; exact hfit)]
                have hU : (us.take (k * e.size) ++ u' ++ us.drop (k * e.size + e.size)).length = us.length := by
                  simp only [List.length_append, List.length_take, List.length_drop]; omega
                by_cases hq : q < us.length
                · have hpn := put_nth us (k * e.size) u' q (by omega)
                  rw [hu'] at hpn
                  rw [List.getElem?_append_left (by rw [hU]; exact hq), hpn]
                  rw [show vs.toList[q]? = us[q]? by rw [a7, List.getElem?_append_left hq]]
                  by_cases hin : k * e.size ≤ q ∧ q < k * e.size + e.size
                  · rw [if_pos hin, ← e1, put_nth u off _ _ (by omega)]
                    by_cases hw : k * e.size + off ≤ q ∧ q < k * e.size + off + Y.cells.toList.length
                    · rw [if_pos hw, if_pos (by omega)]
                      congr 1
                      omega
                    · rw [if_neg hw, if_neg (by omega), ← u1, List.getElem?_take, if_pos (by omega), List.getElem?_drop]
                      congr 1
                      omega
                  · rw [if_neg hin, if_neg (by omega)]
                · rw [List.getElem?_append_right (by omega), hU, if_neg (by omega), a7, List.getElem?_append_right (by omega)]
              · have : (vs.toList.take (k * Q.size + off) ++ Y.cells.toList ++ vs.toList.drop (k * Q.size + off + Y.cells.toList.length)).toArray.size = vs.size := by
                  simp only [List.size_toArray, List.length_append, List.length_take, List.length_drop]; omega
                rw [this]
                exact a9
            · cases h
          · cases h
  · -- a cell of an array in a box
    rename_i n off len stride k o a
    obtain ⟨Q, b, hQ, hb, hk, rfl⟩ := (hx : VR g w.heap (.aptr n off len stride k o) X)
    cases hf : (fits (avCs a) i.size && Nat.ble (o + (avCs a).length) stride) with
    | false => rw [hf] at h; cases h
    | true =>
      rw [hf] at h
      simp only [Bool.and_eq_true] at hf
      obtain ⟨f1, f2⟩ := fits_spec hf.1
      have f3 := Nat.le_of_ble_eq_true hf.2
      simp only [MA.eval] at h
      cases ho : H n with
      | none => rw [ho] at h; cases h
      | some ob =>
        rw [ho] at h
        obtain ⟨Q', hQ', hO⟩ := M.obj n ob ho
        rw [hQ] at hQ'
        cases hQ'
        cases ob with
        | arr _ _ => cases h
        | ice _ _ => cases h
        | box cs =>
          obtain ⟨b', vs, ty, hb', hh, hA⟩ := hO
          rw [hb] at hb'
          cases hb'
          simp only at h
          split at h
          · rename_i l hl
            split at h
            · rename_i l' hl'
              split at h
              · rename_i cs' hc
                simp only [MA.eval, ho, Option.some.injEq, Prod.mk.injEq] at h
                obtain ⟨rfl, rfl, _⟩ := h
                have hv2 := avCs_VR (A := a) hy f2
                have hlv := All2.length hv2
                obtain ⟨hl1, hl2⟩ := cut_VR hA hl
                obtain ⟨p1, p2⟩ := putN_nth (avCs a) o l l' f3 hl'
                have hll := All2.length hl1
                have hkl : (k + 1) * stride ≤ len * stride := Nat.mul_le_mul_right _ hk
                rw [Nat.add_mul, Nat.one_mul] at hkl
                -- the array's cells behind the store
                have hseg : All2 (VR g w.heap) l' (((vs.toList.drop off).take (len * stride)).take (k * stride + o) ++ Y.cells.toList ++ ((vs.toList.drop off).take (len * stride)).drop (k * stride + o + Y.cells.toList.length)) := by
                  have hL : (((vs.toList.drop off).take (len * stride)).take (k * stride + o) ++ Y.cells.toList ++ ((vs.toList.drop off).take (len * stride)).drop (k * stride + o + Y.cells.toList.length)).length = len * stride := by
                    simp only [List.length_append, List.length_take, List.length_drop] at hl2 ⊢; omega
                  refine All2.of_nth _ _ (fun q c hc => ?_) (by rw [hL]; omega)
                  have hq : q < l.length := by have := (List.getElem?_eq_some_iff.1 hc).1; omega
                  rw [p2 q hq] at hc
                  rw [put_nth _ _ _ _ (by omega)]
                  by_cases hin : k * stride + o ≤ q ∧ q < k * stride + o + (avCs a).length
                  · rw [if_pos hin] at hc
                    rw [if_pos (by omega)]
                    exact All2.get _ hv2 hc
                  · rw [if_neg hin] at hc
                    rw [if_neg (by omega)]
                    exact All2.get _ hl1 hc
                obtain ⟨h1, h2⟩ := put_VR hA hseg hc
                have hsl : (((vs.toList.drop off).take (len * stride)).take (k * stride + o) ++ Y.cells.toList ++ ((vs.toList.drop off).take (len * stride)).drop (k * stride + o + Y.cells.toList.length)).length = len * stride := by
                  simp only [List.length_append, List.length_take, List.length_drop] at hl2 ⊢; omega
                have hvs : vs.size = vs.toList.length := by simp
                rw [hsl] at h1 h2
                have hlist : vs.toList.take off ++ (((vs.toList.drop off).take (len * stride)).take (k * stride + o) ++ Y.cells.toList ++ ((vs.toList.drop off).take (len * stride)).drop (k * stride + o + Y.cells.toList.length)) ++ vs.toList.drop (off + len * stride) =
                    vs.toList.take (off + k * stride + o) ++ Y.cells.toList ++ vs.toList.drop (off + k * stride + o + Y.cells.toList.length) := by
                  refine List.ext_getElem? fun q => ?_
                  have e1 := put_nth vs.toList off (((vs.toList.drop off).take (len * stride)).take (k * stride + o) ++ Y.cells.toList ++ ((vs.toList.drop off).take (len * stride)).drop (k * stride + o + Y.cells.toList.length)) q (by rw [hsl]; exact h2)
                  rw [hsl] at e1
                  rw [e1, put_nth vs.toList (off + k * stride + o) _ q (by omega), put_nth _ _ _ _ (by omega)]
                  by_cases hin : off ≤ q ∧ q < off + len * stride
                  · rw [if_pos hin]
                    by_cases hw : off + k * stride + o ≤ q ∧ q < off + k * stride + o + Y.cells.toList.length
                    · rw [if_pos hw, if_pos (by omega)]
                      congr 1
                      omega
                    · rw [if_neg hw, if_neg (by omega), List.getElem?_take, if_pos (by omega), List.getElem?_drop]
                      congr 1
                      omega
                  · rw [if_neg hin, if_neg (by omega)]
                refine ⟨_, store_run ht (by omega) hh (by omega) (oneCells hv2 f2), ?_⟩
                refine Post.set M ho hQ rfl rfl hb (fun c hc => setRow_other hc) (by simp) rfl rfl rfl (fun st => ⟨b, _, ty, hb, setRow_heap hh, ?_⟩) (fun _ => trivial)
                rw [hlist] at h1
                exact All2.mono (VR.stab st) _ _ (by simpa using h1)
              · cases h
            · cases h
          · cases h
  · cases h
end
end Go.Proofs.Ytjmbmpeflhkngaa.Mx
/- The interpreter's operations on numbers, bools, floats and strings do what the model's do (own work). -/
namespace Go.Proofs.Ytjmbmpeflhkngaa.Mx
open Go
set_option autoImplicit false
set_option linter.unusedVariables false
set_option linter.unusedSimpArgs false
variable {P : Program}
/-- A computation that leaves the world alone comes to what v stands for. -/
def Gives (P : Program) (g : Gh) (H H' : HF) (w : World) (v : SV) (s : Sem Value) : Prop := ∃ V, s.run P w = .ok V w ∧ SVR g w.heap v V ∧ H' = H
section
variable {g : Gh} {H H' : HF} {w : World} {base : Nat} {fp fp' : FP} {v : SV}
theorem ret_eval {c : CV} (h : (ret c).eval base H fp = some (v, H', fp')) : v = .v (.c c) ∧ H' = H := by
  simp only [ret, MA.eval, Option.some.injEq, Prod.mk.injEq] at h
  exact ⟨h.1.symm, h.2.1.symm⟩
theorem gives_ret {c : CV} {V : Value} {s : Sem Value} (h : (ret c).eval base H fp = some (v, H', fp')) (hs : s.run P w = .ok V w) (hv : VR g w.heap c V) : Gives P g H H' w v s := by
  obtain ⟨rfl, rfl⟩ := ret_eval h
  exact ⟨V, hs, hv, rfl⟩
theorem cond_eval {α : Type} {c : Bool} {m n : MA α} {a : α} (h : (MA.cond c m n).eval base H fp = some (a, H', fp')) : (c = true ∧ m.eval base H fp = some (a, H', fp')) ∨ (c = false ∧ n.eval base H fp = some (a, H', fp')) := by
  cases c with
  | true => exact .inl ⟨rfl, by simpa [MA.eval] using h⟩
  | false => exact .inr ⟨rfl, by simpa [MA.eval] using h⟩
theorem fail_eval {α : Type} {a : α} (h : (MA.fail : MA α).eval base H fp = some (a, H', fp')) : False := by cases h
theorem arith_does {op : BinOp} {t : Nat} {k : IntKind} {a b : Int} (h1 : op ≠ .shl) (h2 : op ≠ .shr) (h : (arithM op k a b).eval base H fp = some (v, H', fp')) :
    Gives P g H H' w v (binOp op t (.int k a) (.int k b)) := by
  cases op <;> simp only [arithM] at h
  case shl => exact absurd rfl h1
  case shr => exact absurd rfl h2
  case andNot => exact (fail_eval h).elim
  case quo =>
    rcases cond_eval h with ⟨_, h⟩ | ⟨hb, h⟩
    · exact (fail_eval h).elim
    · have hb' : ¬ b = 0 := by simpa using hb
      exact gives_ret h (by simp [binOp, Op.intDiv, hb']) rfl
  case rem =>
    rcases cond_eval h with ⟨_, h⟩ | ⟨hb, h⟩
    · exact (fail_eval h).elim
    · have hb' : ¬ b = 0 := by simpa using hb
      exact gives_ret h (by simp [binOp, Op.intDiv, hb']) rfl
  case add => exact gives_ret h (by simp [binOp, Op.intArith]) rfl
  case sub => exact gives_ret h (by simp [binOp, Op.intArith]) rfl
  case mul => exact gives_ret h (by simp [binOp, Op.intArith]) rfl
  case and => exact gives_ret h (by simp only [binOp, Op.intBits, ne_eq, not_true_eq_false, if_false]; rfl) rfl
  case or => exact gives_ret h (by simp only [binOp, Op.intBits, ne_eq, not_true_eq_false, if_false]; rfl) rfl
  case xor => exact gives_ret h (by simp only [binOp, Op.intBits, ne_eq, not_true_eq_false, if_false]; rfl) rfl
  all_goals exact gives_ret h (by simp only [binOp, Op.intCmp, ne_eq, not_true_eq_false, if_false]; rfl) rfl
theorem shift_does {op : BinOp} {t : Nat} {k k' : IntKind} {a b : Int} (hop : op = .shl ∨ op = .shr) (h : (shiftM op k a b).eval base H fp = some (v, H', fp')) :
    Gives P g H H' w v (binOp op t (.int k a) (.int k' b)) := by
  unfold shiftM at h
  rcases cond_eval h with ⟨_, h⟩ | ⟨hb, h⟩
  · exact (fail_eval h).elim
  · have hb' : ¬ b < 0 := by simpa using hb
    rcases hop with rfl | rfl
    · exact gives_ret h (by simp only [binOp, Op.shift, hb', if_false]; rfl) rfl
    · exact gives_ret h (by simp only [binOp, Op.shift, hb', if_false]; rfl) rfl
theorem boolM_does {op : BinOp} {b : Bool} {s : Sem Value} (h : (boolM op b).eval base H fp = some (v, H', fp')) (h1 : op = .eql → s.run P w = .ok (.bool b) w) (h2 : op = .neq → s.run P w = .ok (.bool (!b)) w) : Gives P g H H' w v s := by
  cases op <;> simp only [boolM] at h
  case eql => exact gives_ret h (h1 rfl) rfl
  case neq => exact gives_ret h (h2 rfl) rfl
  all_goals exact (fail_eval h).elim
theorem small_lt {x : Int} (h : small x = true) : x.natAbs < 9007199254740992 := by simpa [small] using h
/-- Structs of whole numbers and bools that may be compared. -/
def SK.Of : SK → Value → Prop
  | .int k, v => ∃ n, v = .int k n
  | .bool, v => ∃ b, v = .bool b
def eqV : List Value → List Value → Bool
  | [], [] => true
  | .int _ a :: x, .int _ b :: y => (a == b) && eqV x y
  | .bool a :: x, .bool b :: y => (a == b) && eqV x y
  | _, _ => false
structure EqOk (P : Program) (t : Nat) (ks : List SK) : Prop where
  guard : P.eqGuardType P.depth t = false
  eq : ∀ (w : World) (xs ys : List Value), All2 SK.Of ks xs → All2 SK.Of ks ys → (Op.equalIn 10000 t (.agg xs.toArray) (.agg ys.toArray)).run P w = .ok (eqV xs ys) w
def EqsOk (P : Program) (l : List (Nat × List SK)) : Prop := ∀ t ks, skget l t = some ks → EqOk P t ks
theorem EqsOk.nil (P : Program) : EqsOk P [] := fun _ _ h => by cases h
theorem EqsOk.cons {t : Nat} {ks : List SK} {l : List (Nat × List SK)} (h : EqOk P t ks) (hl : EqsOk P l) : EqsOk P ((t, ks) :: l) := fun t' i' h' => by
  by_cases e : t = t'
  · subst e; simp only [skget, beq_self] at h'; cases h'; exact h
  · simp only [skget, beq_ne e] at h'; exact hl t' i' h'
theorem eq1_spec {hp : HP} {k : SK} {x y : CV} {u v : Value} {b : Bool} (hx : VR g hp x u) (hy : VR g hp y v) (h : eq1 k x y = some b) : SK.Of k u ∧ SK.Of k v ∧ ∀ us vs, eqV (u :: us) (v :: vs) = (b && eqV us vs) := by
  unfold eq1 at h
  split at h
  · split at h
    · rename_i hk
      obtain ⟨rfl, rfl⟩ := hk
      simp only [Option.some.injEq] at h
      subst h
      obtain rfl : u = _ := hx; obtain rfl : v = _ := hy
      exact ⟨⟨_, rfl⟩, ⟨_, rfl⟩, fun _ _ => rfl⟩
    · cases h
  · simp only [Option.some.injEq] at h
    subst h
    obtain rfl : u = _ := hx; obtain rfl : v = _ := hy
    exact ⟨⟨_, rfl⟩, ⟨_, rfl⟩, fun _ _ => rfl⟩
  · cases h
theorem eqCs_spec {hp : HP} : ∀ (ks : List SK) (xs ys : List CV) (us vs : List Value) (b : Bool), All2 (VR g hp) xs us → All2 (VR g hp) ys vs → eqCs ks xs ys = some b → All2 SK.Of ks us ∧ All2 SK.Of ks vs ∧ eqV us vs = b
  | [], [], [], [], [], b, _, _, h => by simp only [eqCs, Option.some.injEq] at h; subst h; exact ⟨trivial, trivial, rfl⟩
  | k :: ks, x :: xs, y :: ys, u :: us, v :: vs, b, ⟨hx, hxs⟩, ⟨hy, hys⟩, h => by
    simp only [eqCs] at h
    cases h1 : eq1 k x y with
    | none => rw [h1] at h; cases h
    | some b1 =>
      rw [h1] at h
      simp only at h
      cases h2 : eqCs ks xs ys with
      | none => rw [h2] at h; cases h
      | some r =>
        rw [h2] at h
        simp only [Option.some.injEq] at h
        obtain ⟨a1, a2, a3⟩ := eq1_spec hx hy h1
        obtain ⟨b1', b2, b3⟩ := eqCs_spec ks xs ys us vs r hxs hys h2
        exact ⟨⟨a1, b1'⟩, ⟨a2, b2⟩, by rw [a3, b3, h]⟩
  | [], [], [], _ :: _, _, _, h, _, _ => h.elim
  | [], [], [], [], _ :: _, _, _, h, _ => h.elim
  | _, _ :: _, _, [], _, _, h, _, _ => h.elim
  | _, _, _ :: _, _, [], _, _, h, _ => h.elim
  | [], _ :: _, _, _, _, _, _, _, h => by simp [eqCs] at h
  | [], [], _ :: _, _, _, _, _, _, h => by simp [eqCs] at h
  | _ :: _, [], _, _, _, _, _, _, h => by simp [eqCs] at h
  | _ :: _, _ :: _, [], _, _, _, _, _, h => by simp [eqCs] at h
theorem eqIn_nil1 {t e : Nat} (hd : P.underlying t = some (.pointer e)) (q : Option Addr) (d : Nat) (w : World) : (Op.equalIn (d + 1) t (.pointer none) (.pointer q)).run P w = .ok q.isNone w := by
  simp [Op.equalIn, run_underlying hd]
theorem eqIn_nil2 {t e : Nat} (hd : P.underlying t = some (.pointer e)) (q : Addr) (d : Nat) (w : World) : (Op.equalIn (d + 1) t (.pointer (some q)) (.pointer none)).run P w = .ok false w := by
  simp [Op.equalIn, run_underlying hd]
theorem eqIn_nils {t e : Nat} (hd : P.underlying t = some (.slice e)) (d : Nat) (w : World) : (Op.equalIn (d + 1) t (.slice none 0 0) (.slice none 0 0)).run P w = .ok true w := by
  simp [Op.equalIn, run_underlying hd]
theorem equal_nil {t : Nat} {x y : CV} {X Y : Value} {i : TI} {b : Bool} {hp : HP} (ht : TIok P t i) (hx : VR g hp x X) (hy : VR g hp y Y) (h : nilEq i.und x y = some b) (w : World) : (Op.equal t X Y).run P w = .ok b w ∧ (∀ op z1 z2, (eqGuard op t z1 z2 X Y).run P w = .ok () w) ∧ (binOp .eql t X Y = do pure (.bool (← Op.equal t X Y))) ∧ (binOp .neq t X Y = do pure (.bool (!(← Op.equal t X Y)))) := by
  obtain ⟨d, hd, hu⟩ := und_run ht
  unfold nilEq at h
  split at h
  · -- pointers
    rename_i e he
    rw [he] at hu
    cases d <;> first | (cases hu; done) | (injection hu with hu; subst hu)
    have hg : ∀ (p q : Option Addr) op z1 z2, (eqGuard op t z1 z2 (.pointer p) (.pointer q)).run P w = .ok () w := fun p q op z1 z2 => by
      cases op <;> simp [eqGuard]
    have hb : ∀ (p q : Option Addr), (binOp .eql t (.pointer p) (.pointer q) = do pure (.bool (← Op.equal t (.pointer p) (.pointer q)))) ∧ (binOp .neq t (.pointer p) (.pointer q) = do pure (.bool (!(← Op.equal t (.pointer p) (.pointer q))))) := fun p q => ⟨rfl, rfl⟩
    have e1 : ∀ q : Option Addr, (Op.equal t (.pointer none) (.pointer q)).run P w = .ok q.isNone w := fun q => eqIn_nil1 hd q 9999 w
    have e2 : ∀ q : Addr, (Op.equal t (.pointer (some q)) (.pointer none)).run P w = .ok false w := fun q => eqIn_nil2 hd q 9999 w
    split at h <;> (try simp only [Option.some.injEq] at h) <;> first | (cases h; done) | subst h
    · obtain rfl : X = _ := hx; obtain rfl : Y = _ := hy
      exact ⟨e1 none, hg _ _, hb _ _⟩
    · obtain rfl : X = _ := hx; obtain ⟨_, c, _, _, rfl⟩ := hy
      exact ⟨e1 _, hg _ _, hb _ _⟩
    · obtain ⟨_, c, _, _, rfl⟩ := hx; obtain rfl : Y = _ := hy
      exact ⟨e2 _, hg _ _, hb _ _⟩
    · obtain rfl : X = _ := hx; obtain ⟨_, c, _, _, _, rfl⟩ := hy
      exact ⟨e1 _, hg _ _, hb _ _⟩
    · obtain ⟨_, c, _, _, _, rfl⟩ := hx; obtain rfl : Y = _ := hy
      exact ⟨e2 _, hg _ _, hb _ _⟩
  · rename_i e he
    rw [he] at hu
    cases d <;> first | (cases hu; done) | (injection hu with hu; subst hu)
    split at h <;> (try simp only [Option.some.injEq] at h) <;> first | (cases h; done) | subst h
    obtain rfl : X = _ := hx; obtain rfl : Y = _ := hy
    exact ⟨eqIn_nils hd 9999 w, fun op z1 z2 => by cases op <;> simp [eqGuard], rfl, rfl⟩
  · cases h
theorem eqGuard_one (op : BinOp) (t : Nat) (z1 z2 : Operand) (X Y : Value) (h1 : ∀ c, X ≠ .agg c) (h2 : X ≠ .nilIface) (w : World) : (eqGuard op t z1 z2 X Y).run P w = .ok () w := by
  unfold eqGuard
  cases op <;> simp only [Bool.not_true, Bool.not_false, if_true, if_false, Sem.run_bind, Sem.run_pure, Result.andThen_ok, Bool.false_eq_true] <;> first
    | rfl
    | (cases X <;> first | rfl | exact absurd rfl (h1 _) | exact absurd rfl h2)
/-- Two operands under one operator. -/
theorem bin_does {tis : List (Nat × TI)} {eqs : List (Nat × List SK)} {op : BinOp} {t : Nat} {x y : SV} {X Y : Value} (T : TIs P tis) (Eq : EqsOk P eqs) (hx : SVR g w.heap x X) (hy : SVR g w.heap y Y) (z1 z2 : Operand)
    (h : (binM tis eqs op t x y).eval base H fp = some (v, H', fp')) : Gives P g H H' w v (do eqGuard op t z1 z2 X Y; binOp op t X Y) := by
  have guard : ∀ {s : Sem Value}, (eqGuard op t z1 z2 X Y).run P w = .ok () w → Gives P g H H' w v s → Gives P g H H' w v (do eqGuard op t z1 z2 X Y; s) := fun hg ⟨V, h1, h2⟩ => ⟨V, by simp only [Sem.run_bind, hg, Result.andThen_ok, h1], h2⟩
  unfold binM at h
  split at h
  · obtain rfl : X = _ := hx; obtain rfl : Y = _ := hy
    refine guard (eqGuard_one _ _ _ _ _ _ (fun _ => by simp) (by simp) w) ?_
    split at h
    · exact shift_does (.inl rfl) h
    · exact shift_does (.inr rfl) h
    · split at h
      · rename_i hk; subst hk; exact arith_does (by assumption) (by assumption) h
      · exact (fail_eval h).elim
  · obtain rfl : X = _ := hx; obtain rfl : Y = _ := hy
    refine guard (eqGuard_one _ _ _ _ _ _ (fun _ => by simp) (by simp) w) ?_
    exact boolM_does h (fun e => by subst e; simp only [binOp, Op.stringOp]; rfl) (fun e => by subst e; simp only [binOp, Op.stringOp]; rfl)
  · rename_i x1 y1 u1 v1
    obtain ⟨a, b, rfl, ra, rb⟩ := (hx : VR g w.heap (.cint x1 y1) X)
    obtain ⟨c, d, rfl, rc, rd⟩ := (hy : VR g w.heap (.cint u1 v1) Y)
    refine guard (eqGuard_one _ _ _ _ _ _ (fun _ => by simp) (by simp) w) ?_
    split at h
    · rcases cond_eval h with ⟨hb, h⟩ | ⟨_, h⟩
      · simp only [Bool.and_eq_true] at hb
        obtain ⟨re, im, hs, q1, q2⟩ := YtjmbmpeflhkngaaF.places ra rb rc rd (small_lt hb.1) (small_lt hb.2)
        exact gives_ret h (run_complex_sum (P := P) w .add (.inl rfl) t .f64 a b c d re im hs) ⟨re, im, rfl, q1, q2⟩
      · exact (fail_eval h).elim
    · rcases cond_eval h with ⟨hi, h⟩ | ⟨_, h⟩
      · rcases cond_eval h with ⟨hb, hh⟩ | ⟨_, h⟩
        · simp only [Bool.and_eq_true, isI, decide_eq_true_eq] at hb hi
          obtain ⟨rfl, rfl⟩ := hi
          have bx := small_lt hb.1
          have bY := small_lt hb.2
          obtain ⟨ac, h1, r1⟩ := YtjmbmpeflhkngaaF.mul_rep ra rc (by simp)
          obtain ⟨bd, h2, r2⟩ := YtjmbmpeflhkngaaF.mul_rep rb rd (by simpa using bY)
          obtain ⟨re, h3, r3⟩ := YtjmbmpeflhkngaaF.sub_rep r1 r2 (by simp; omega)
          obtain ⟨ad, h4, r4⟩ := YtjmbmpeflhkngaaF.mul_rep ra rd (by simpa using bx)
          obtain ⟨bc, h5, r5⟩ := YtjmbmpeflhkngaaF.mul_rep rb rc (by simp)
          obtain ⟨im, h6, r6⟩ := YtjmbmpeflhkngaaF.add_rep r4 r5 (by simpa using bx)
          refine gives_ret hh (run_complex_mul (P := P) w t a b c d re im ?_) ⟨re, im, rfl, by simpa using r3, by simpa using r6⟩
          unfold cMulBits
          simp only [h1, h2, h3, h4, h5, h6, Option.bind_some]
        · exact (fail_eval h).elim
      · exact (fail_eval h).elim
    · exact (fail_eval h).elim
  · rename_i xs ys
    obtain ⟨us, rfl, hxs⟩ := (hx : AVR g w.heap (.agg xs) X)
    obtain ⟨vs, rfl, hys⟩ := (hy : AVR g w.heap (.agg ys) Y)
    split at h
    · rename_i ks hks
      split at h
      · rename_i b hb
        obtain ⟨k1, k2, k3⟩ := eqCs_spec ks xs ys us vs b hxs hys hb
        have ok := Eq t ks hks
        refine guard (run_eqGuard_agg w op t z1 z2 _ _ ok.guard) ?_
        refine boolM_does h (fun e => ?_) (fun e => ?_)
        · subst e; rw [run_eql_struct, ok.eq w us vs k1 k2, Result.andThen_ok, k3]
        · subst e; rw [run_neq_struct, ok.eq w us vs k1 k2, Result.andThen_ok, k3]
      · exact (fail_eval h).elim
    · exact (fail_eval h).elim
  · rename_i x1 y1 _ _ _ 
    split at h
    · rename_i i hi
      have ht := T t i hi
      split at h
      · obtain rfl : X = _ := hx; obtain rfl : Y = _ := hy
        split at h
        · rename_i hu
          obtain ⟨d, hd, hu2⟩ := und_run ht
          rw [hu] at hu2
          cases d <;> first | (cases hu2; done) | skip
          refine guard (eqGuard_one _ _ _ _ _ _ (fun _ => by simp) (by simp) w) ?_
          exact boolM_does h (fun e => by subst e; exact run_eql_bool w t _ _ hd) (fun e => by subst e; exact run_neq_bool w t _ _ hd)
        · exact (fail_eval h).elim
      · split at h
        · rename_i b hb
          obtain ⟨e1, e2, e3, e4⟩ := equal_nil ht hx hy hb w
          refine guard (e2 _ _ _) ?_
          refine boolM_does h (fun e => ?_) (fun e => ?_)
          · subst e; rw [e3]; simp only [Sem.run_bind, e1, Result.andThen_ok, Sem.run_pure]
          · subst e; rw [e4]; simp only [Sem.run_bind, e1, Result.andThen_ok, Sem.run_pure]
        · exact (fail_eval h).elim
    · exact (fail_eval h).elim
  · exact (fail_eval h).elim
end
end Go.Proofs.Ytjmbmpeflhkngaa.Mx
/- The interpreter's operations that make no block do what the model's do (own work). -/
namespace Go.Proofs.Ytjmbmpeflhkngaa.Mx
open Go
set_option autoImplicit false
set_option linter.unusedVariables false
set_option linter.unusedSimpArgs false
variable {P : Program}
section
variable {mt : Nat → Prop} {g : Gh} {H H' : HF} {w : World} {base : Nat} {fp fp' : FP} {v : SV}
theorem get_eval {α : Type} {n : Nat} {k : Obj → MA α} {a : α} (h : (MA.get n k).eval base H fp = some (a, H', fp')) : ∃ o, H n = some o ∧ (k o).eval base H ⟨n :: fp.reads, fp.writes⟩ = some (a, H', fp') := by
  simp only [MA.eval] at h
  cases ho : H n with
  | none => rw [ho] at h; cases h
  | some o => rw [ho] at h; exact ⟨o, rfl, h⟩
theorem un_does {op : UnOp} {x : SV} {X : Value} (hx : SVR g w.heap x X) (h : (unM op x).eval base H fp = some (v, H', fp')) : Gives P g H H' w v (Op.unary op X) := by
  unfold unM at h
  split at h
  · obtain rfl : X = _ := hx
    split at h
    · exact gives_ret h (by simp [Op.unary, Op.intArith]) rfl
    · exact (fail_eval h).elim
  · obtain rfl : X = _ := hx
    split at h
    · exact gives_ret h (by simp [Op.unary]) rfl
    · exact (fail_eval h).elim
  · exact (fail_eval h).elim
/-- Bytes, one by one. -/
theorem bytes_read {ro : Nat → Prop} {hp : HP} : ∀ (l : List Int) (vs : List Value), RdL (Rd ro hp (.int .u8)) l vs → vs = l.map (Value.int .u8)
  | [], vs, h => h
  | x :: l, vs, ⟨u, r, h1, h2, h3⟩ => by
    obtain rfl : u = [.int .u8 x] := h2
    rw [h1, bytes_read l r h3]
    rfl
theorem foldl_bytes : ∀ (l : List Int) (s : ByteArray), l.foldl (fun r n => r.push (UInt8.ofNat n.toNat)) s = ⟨s.data ++ (l.map fun n => UInt8.ofNat n.toNat).toArray⟩
  | [], ⟨d⟩ => congrArg ByteArray.mk (Array.append_empty (xs := d)).symm
  | x :: l, ⟨d⟩ => by
    rw [List.foldl_cons, foldl_bytes l]
    refine congrArg ByteArray.mk ?_
    show (d.push _) ++ _ = _
    rw [List.map_cons, Array.push_eq_append, Array.append_assoc]
    congr 1
    simp
theorem bytesToString_run {l : List Int} {A : Option Addr} {c : Nat} (hA : l ≠ [] → ∃ b o cs t fz rest, A = some ⟨b, o, none⟩ ∧ w.heap[b]? = some (.cells cs t fz) ∧ cs.toList.drop o = l.map (Value.int .u8) ++ rest) :
    (Conv.bytesToString (.slice A l.length c)).run P w = .ok (.string (bytesOf l)) w := by
  have hb : ∀ m : List Int, m.foldl (fun r n => r.push (UInt8.ofNat n.toNat)) ByteArray.empty = bytesOf m := fun m => by
    rw [foldl_bytes]
    exact congrArg ByteArray.mk (by show (#[] : Array UInt8) ++ _ = _; exact Array.empty_append)
  cases l with
  | nil =>
    cases A with
    | none => simp only [Conv.bytesToString, Sem.run_pure]; rfl
    | some a => rw [run_bytesToString w a _ c [] (by simp [loadCells, loadCellsFrom])]; rfl
  | cons x l =>
    obtain ⟨b, o, cs, t, fz, rest, rfl, hh, hd⟩ := hA (by simp)
    have hl : (loadCells ⟨b, o, none⟩ ((x :: l).map (Value.int .u8)).length).run P w = .ok ((x :: l).map (Value.int .u8)).toArray w := by
      refine run_loadCells_list (P := P) w ⟨b, o, none⟩ _ fun j u hj => ?_
      have hadd : (⟨b, o, none⟩ : Addr).add j = ⟨b, o + j, none⟩ := by unfold Addr.add; split <;> first | (subst_vars; rfl) | rfl
      rw [hadd, cell_blk hh, ← List.getElem?_drop, hd, List.getElem?_append_left (List.getElem?_eq_some_iff.1 hj).1]
      exact hj
    rw [List.length_map] at hl
    rw [run_bytesToString w _ _ c (x :: l) hl, hb]
/-- What a row of the call's own reads as. -/
theorem arr_row {Q : Pl} {e : Ty} {l : List e.T} (h : ArrR g w.heap Q e l) : l ≠ [] → ∃ b cs t fz us rest, Q.base = some ⟨b, 0, none⟩ ∧ w.heap[b]? = some (.cells cs t fz) ∧ cs.toList = us ++ rest ∧ RdL (Rd g.ro w.heap e) l us := fun hl => by
  obtain ⟨h1, h2, h3, h4⟩ := h
  cases hb : Q.blk with
  | none => rw [hb] at h4; rw [h1] at h4; exact absurd (List.length_eq_zero_iff.1 h4.1) hl
  | some b =>
    rw [hb] at h4
    obtain ⟨h5, vs, t, us, rest, h6, h7, h8, h9⟩ := h4
    exact ⟨b, vs, t, (0, 0), us, rest, h5, h6, h7, h8⟩
theorem isBytes_spec {tis : List (Nat × TI)} (T : TIs P tis) {s : Nat} {i : TI} (hs : TIok P s i) (h : isBytes tis i.und = true) : ∃ e, P.underlying s = some (.slice e) ∧ P.underlying e = some (.int .u8) := by
  unfold isBytes at h
  split at h
  · rename_i e he
    obtain ⟨d, hd, hu⟩ := und_run hs
    rw [he] at hu
    cases d <;> first | (cases hu; done) | (injection hu with hu; subst hu)
    split at h
    · rename_i i' hi'
      split at h
      · rename_i hk
        obtain ⟨d', hd', hu'⟩ := und_run (T _ _ hi')
        rw [hk] at hu'
        cases d' <;> first | (cases hu'; done) | (injection hu' with hu'; subst hu')
        exact ⟨_, hd, hd'⟩
      · cases h
    · cases h
  · cases h
theorem conv_does {tis : List (Nat × TI)} {s d : Nat} {i j : TI} {x : SV} {X : Value} (T : TIs P tis) (hs : TIok P s i) (hd : TIok P d j) (M : Mem mt g H w.heap) (hx : SVR g w.heap x X) (h : (convM tis i.und j.und x).eval base H fp = some (v, H', fp')) :
    Gives P g H H' w v (convert s d X) := by
  obtain ⟨ds, hds, us⟩ := und_run hs
  obtain ⟨dd, hdd, ud⟩ := und_run hd
  have str : ∀ {l : List Int} {A : Option Addr} {c : Nat}, j.und = .str → isBytes tis i.und = true → (l ≠ [] → ∃ b o cs t fz rest, A = some ⟨b, o, none⟩ ∧ w.heap[b]? = some (.cells cs t fz) ∧ cs.toList.drop o = l.map (Value.int .u8) ++ rest) →
      (convert s d (.slice A l.length c)).run P w = .ok (.string (bytesOf l)) w := fun {l A c} hj hb hA => by
    obtain ⟨e, h1, h2⟩ := isBytes_spec T hs hb
    rw [hj] at ud
    cases dd <;> first | (cases ud; done) | skip
    rw [run_convert_bytes_string w s d e A _ c h1 h2 hdd]
    exact bytesToString_run hA
  unfold convM at h
  split at h
  · obtain rfl : X = _ := hx
    split at h
    · rename_i k hk
      rw [hk] at ud
      cases dd <;> first | (cases ud; done) | (injection ud with ud; subst ud)
      exact gives_ret h (by simp only [convert, Sem.run_bind, run_underlying hds, run_underlying hdd, Result.andThen_ok]; rfl) rfl
    · rename_i hk
      rw [hk] at ud
      cases dd <;> first | (cases ud; done) | (injection ud with ud; subst ud)
      rcases cond_eval h with ⟨hb, h⟩ | ⟨_, h⟩
      · exact gives_ret h (run_convert_int_float (P := P) w s d _ _ _ (by simp [hds]) hdd) ⟨_, rfl, YtjmbmpeflhkngaaF.ofInt_rep _ (small_lt hb)⟩
      · exact (fail_eval h).elim
    · exact (fail_eval h).elim
  · rename_i n
    obtain ⟨b, rfl, hr⟩ := (hx : VR g w.heap (.fint n) X)
    split at h
    · rename_i hk
      rw [hk] at ud
      cases dd <;> first | (cases ud; done) | (injection ud with ud; subst ud)
      rcases cond_eval h with ⟨hb, h⟩ | ⟨_, h⟩
      · have := small_lt hb
        exact gives_ret h (run_convert_float_int (P := P) w s d .f64 .i64 b n (by simp [hds]) hdd (YtjmbmpeflhkngaaF.toInt_rep hr (by omega) (by omega))) rfl
      · exact (fail_eval h).elim
    · exact (fail_eval h).elim
  · rename_i l
    obtain ⟨A, c, hv, hc, hr⟩ := (hx : Rd g.ro w.heap (.row (.int .u8)) l [X])
    simp only [List.cons.injEq, and_true] at hv
    subst hv
    split at h
    · rename_i hj
      cases hb : isBytes tis i.und with
      | false => rw [hb] at h; exact (fail_eval h).elim
      | true =>
        rw [hb] at h
        refine gives_ret h (str hj hb fun hl => ?_) rfl
        obtain ⟨b, o, cs, t, fz, us, rest, h1, h2, h3, h4, h5⟩ := hr hl
        exact ⟨b, o, cs, t, fz, rest, h1, h3, by rw [h4, bytes_read _ us h5]⟩
    · exact (fail_eval h).elim
  · obtain rfl : X = _ := hx
    split at h
    · rename_i hj
      cases hb : isBytes tis i.und with
      | false => rw [hb] at h; exact (fail_eval h).elim
      | true => rw [hb] at h; exact gives_ret h (str (l := []) (A := none) (c := 0) hj hb fun hl => absurd rfl hl) rfl
    · exact (fail_eval h).elim
  · rename_i n
    obtain ⟨Q, hQ, rfl⟩ := (hx : VR g w.heap (.own n) X)
    split at h
    · rename_i hj
      cases hb : isBytes tis i.und with
      | false => rw [hb] at h; exact (fail_eval h).elim
      | true =>
        rw [hb] at h
        obtain ⟨o, ho, h⟩ := get_eval h
        obtain ⟨Q', hQ', hO⟩ := M.obj n o ho
        rw [hQ] at hQ'
        cases hQ'
        have fin : ∀ l : List Int, ArrR g w.heap Q (.int .u8) l → (convert s d (.slice Q.base Q.len Q.cap)).run P w = .ok (.string (bytesOf l)) w := fun l hA => by
          rw [hA.1]
          refine str hj hb fun hl => ?_
          obtain ⟨b, cs, t, fz, us, rest, h1, h2, h3, h4⟩ := arr_row hA hl
          exact ⟨b, 0, cs, t, fz, rest, h1, h2, by rw [List.drop_zero, h3, bytes_read _ us h4]⟩
        split at h
        · exact gives_ret h (fin _ hO) rfl
        · exact gives_ret h (fin _ hO) rfl
        · exact (fail_eval h).elim
    · exact (fail_eval h).elim
  · exact (fail_eval h).elim
theorem inRange_spec {z : Int} {n : Nat} (h : inRange z n = true) : 0 ≤ z ∧ z < n := by simpa [inRange] using h
theorem idx_run {t e : Nat} {i j : TI} {z : Int} {k : IntKind} {A : Option Addr} {len cap b o : Nat} (ht : TIok P t i) (he : TIok P e j) (hu : i.und = .slice e) (hz : 0 ≤ z ∧ z < len) (hA : A = some ⟨b, o, none⟩) :
    (Instr.indexAt t (.slice A len cap) (.int k z)).run P w = .ok (.pointer (some ⟨b, o + z.toNat * j.size, none⟩)) w := by
  obtain ⟨d, hd, hu2⟩ := und_run ht
  rw [hu] at hu2
  cases d <;> first | (cases hu2; done) | (injection hu2 with hu2; subst hu2)
  subst hA
  have hadd : ∀ q, (⟨b, o, none⟩ : Addr).add q = ⟨b, o + q, none⟩ := fun q => by unfold Addr.add; split <;> first | (subst_vars; rfl) | rfl
  simp only [Instr.indexAt, asIntOf, Sem.run_bind, Sem.run_pure, Result.andThen_ok, run_underlying hd, hz, and_self, if_true, sizeOf_run he, hadd]
theorem eptr_of {n k : Nat} {Q : Pl} {e : Ty} {l : List e.T} {b s : Nat} (hQ : g.φ n = some Q) (hA : ArrR g w.heap Q e l) (hk : k < l.length) (hs : e.size = s) :
    ∃ b, Q.blk = some b ∧ Q.base = some ⟨b, 0, none⟩ ∧ VR g w.heap (.eptr n k 0) (.pointer (some ⟨b, k * s, none⟩)) := by
  obtain ⟨h1, h2, h3, h4⟩ := hA
  cases hb : Q.blk with
  | none => rw [hb] at h4; omega
  | some b =>
    rw [hb] at h4
    exact ⟨b, rfl, h4.1, Q, b, hQ, hb, by omega, by rw [h2, hs]; rfl⟩
theorem idx_does {t e : Nat} {i j : TI} {x y : SV} {X Y : Value} (ht : TIok P t i) (he : TIok P e j) (hu : i.und = .slice e ∨ ∃ n, i.und = .arr n e) (M : Mem mt g H w.heap) (hx : SVR g w.heap x X) (hy : SVR g w.heap y Y)
    (h : (idxM i.und j.size x y).eval base H fp = some (v, H', fp')) : Gives P g H H' w v (Instr.indexAt t X Y) := by
  unfold idxM at h
  split at h
  · rename_i kz z
    obtain rfl : Y = _ := hy
    split at h
    · -- a row
      rename_i e' q l hsl
      obtain rfl : e' = e := by rcases hu with hu | ⟨n, hu⟩ <;> rw [hsl] at hu <;> cases hu; rfl
      cases hb : Nat.beq q.size j.size with
      | false => rw [hb] at h; exact (fail_eval h).elim
      | true =>
        rw [hb] at h
        rcases cond_eval h with ⟨hr, h⟩ | ⟨_, h⟩
        · obtain ⟨z0, z1⟩ := inRange_spec hr
          obtain ⟨A, c, hv, hc, hrow⟩ := (hx : Rd g.ro w.heap (.row q) l [X])
          simp only [List.cons.injEq, and_true] at hv
          subst hv
          obtain ⟨b, o, cs, ty, fz, us, rest, h1, h2, h3, h4, h5⟩ := hrow (by rintro rfl; simp at z1; omega)
          refine gives_ret h (idx_run ht he hsl ⟨z0, z1⟩ h1) ⟨b, o, cs, ty, fz, us, rest, ?_, h2, h3, h4, h5, by omega⟩
          rw [beq_eq hb, Nat.add_zero]
        · exact (fail_eval h).elim
    · -- a row of the call's own
      rename_i e' n hsl
      obtain rfl : e' = e := by rcases hu with hu | ⟨n, hu⟩ <;> rw [hsl] at hu <;> cases hu; rfl
      obtain ⟨Q, hQ, rfl⟩ := (hx : VR g w.heap (.own n) X)
      obtain ⟨o, ho, h⟩ := get_eval h
      obtain ⟨Q', hQ', hO⟩ := M.obj n o ho
      rw [hQ] at hQ'
      cases hQ'
      have fin : ∀ {q : Ty} {l : List q.T} {fp : FP}, ArrR g w.heap Q q l → (Bool.casesOn (Nat.beq q.size j.size) .fail (.cond (inRange z l.length) (ret (.eptr n z.toNat 0)) .fail) : MA SV).eval base H fp = some (v, H', fp') → Gives P g H H' w v (Instr.indexAt e' (.slice Q.base Q.len Q.cap) (.int kz z)) → True := fun _ _ _ => trivial
      split at h
      · rename_i q l
        cases hb : Nat.beq q.size j.size with
        | false => rw [hb] at h; exact (fail_eval h).elim
        | true =>
          rw [hb] at h
          rcases cond_eval h with ⟨hr, h⟩ | ⟨_, h⟩
          · obtain ⟨z0, z1⟩ := inRange_spec hr
            obtain ⟨b, b1, b2, b3⟩ := eptr_of (b := 0) hQ (hO : ArrR g w.heap Q q l) (k := z.toNat) (by omega) (beq_eq hb)
            refine gives_ret h (idx_run ht he hsl ⟨z0, by have := (hO : ArrR g w.heap Q q l).1; omega⟩ b2) ?_
            rw [Nat.zero_add]; exact b3
          · exact (fail_eval h).elim
      · rename_i q l
        cases hb : Nat.beq q.size j.size with
        | false => rw [hb] at h; exact (fail_eval h).elim
        | true =>
          rw [hb] at h
          rcases cond_eval h with ⟨hr, h⟩ | ⟨_, h⟩
          · obtain ⟨z0, z1⟩ := inRange_spec hr
            obtain ⟨b, b1, b2, b3⟩ := eptr_of (b := 0) hQ (hO : ArrR g w.heap Q q l) (k := z.toNat) (by omega) (beq_eq hb)
            refine gives_ret h (idx_run ht he hsl ⟨z0, by have := (hO : ArrR g w.heap Q q l).1; omega⟩ b2) ?_
            rw [Nat.zero_add]; exact b3
          · exact (fail_eval h).elim
      · exact (fail_eval h).elim
    · -- a part of one
      rename_i e' n lo hi hsl
      obtain rfl : e' = e := by rcases hu with hu | ⟨n, hu⟩ <;> rw [hsl] at hu <;> cases hu; rfl
      obtain ⟨Q, A, c, hQ, hlo, hhi, hcap, rfl, hA⟩ := (hx : VR g w.heap (.sub n lo hi) X)
      obtain ⟨o, ho, h⟩ := get_eval h
      obtain ⟨Q', hQ', hO⟩ := M.obj n o ho
      rw [hQ] at hQ'
      cases hQ'
      split at h
      · rename_i q l
        cases hb : Nat.beq q.size j.size with
        | false => rw [hb] at h; exact (fail_eval h).elim
        | true =>
          rw [hb] at h
          rcases cond_eval h with ⟨hr, h⟩ | ⟨_, h⟩
          · obtain ⟨z0, z1⟩ := inRange_spec hr
            obtain ⟨b, hb1, hb2⟩ := hA (by omega)
            have hO' : ArrR g w.heap Q q l := hO
            refine gives_ret h (idx_run ht he hsl ⟨z0, z1⟩ hb2) ⟨Q, b, hQ, hb1, by omega, ?_⟩
            have hqs : Q.size = j.size := by rw [hO'.2.1]; exact beq_eq hb
            rw [hqs, Nat.add_mul, Nat.add_zero]
          · exact (fail_eval h).elim
      · rename_i q l
        cases hb : Nat.beq q.size j.size with
        | false => rw [hb] at h; exact (fail_eval h).elim
        | true =>
          rw [hb] at h
          rcases cond_eval h with ⟨hr, h⟩ | ⟨_, h⟩
          · obtain ⟨z0, z1⟩ := inRange_spec hr
            obtain ⟨b, hb1, hb2⟩ := hA (by omega)
            have hO' : ArrR g w.heap Q q l := hO
            refine gives_ret h (idx_run ht he hsl ⟨z0, z1⟩ hb2) ⟨Q, b, hQ, hb1, by omega, ?_⟩
            have hqs : Q.size = j.size := by rw [hO'.2.1]; exact beq_eq hb
            rw [hqs, Nat.add_mul, Nat.add_zero]
          · exact (fail_eval h).elim
      · exact (fail_eval h).elim
    · -- an array in a box
      rename_i len e' n off harr
      obtain rfl : e' = e := by rcases hu with hu | ⟨n, hu⟩ <;> rw [harr] at hu <;> cases hu; rfl
      obtain ⟨Q, b, hQ, hb, rfl⟩ := (hx : VR g w.heap (.ptr n off) X)
      rcases cond_eval h with ⟨hr, h⟩ | ⟨_, h⟩
      · obtain ⟨z0, z1⟩ := inRange_spec hr
        obtain ⟨d, hd, hu2⟩ := und_run ht
        rw [harr] at hu2
        cases d <;> first | (cases hu2; done) | (injection hu2 with hu2 hu3; subst hu2 hu3)
        have hadd : ∀ q, (⟨b, off, none⟩ : Addr).add q = ⟨b, off + q, none⟩ := fun q => by unfold Addr.add; split <;> first | (subst_vars; rfl) | rfl
        refine gives_ret h (V := .pointer (some ⟨b, off + z.toNat * j.size, none⟩)) ?_ ⟨Q, b, hQ, hb, by omega, by rw [Nat.add_zero]⟩
        simp only [Instr.indexAt, asIntOf, Instr.sureAddr, Sem.run_bind, Sem.run_pure, Result.andThen_ok, run_underlying hd, z0, z1, and_self, if_true, sizeOf_run he, hadd]
      · exact (fail_eval h).elim
    · exact (fail_eval h).elim
  · exact (fail_eval h).elim
end
end Go.Proofs.Ytjmbmpeflhkngaa.Mx
/- The interpreter's operations on addresses, lengths, cuts and arrays do what the model's do (own work). -/
namespace Go.Proofs.Ytjmbmpeflhkngaa.Mx
open Go
set_option autoImplicit false
set_option linter.unusedVariables false
set_option linter.unusedSimpArgs false
variable {P : Program}
section
variable {mt : Nat → Prop} {g : Gh} {H H' : HF} {w : World} {base : Nat} {fp fp' : FP} {v : SV}
theorem addr_add (b o q : Nat) : (⟨b, o, none⟩ : Addr).add q = ⟨b, o + q, none⟩ := by unfold Addr.add; split <;> first | (subst_vars; rfl) | rfl
theorem fields_of {t : Nat} {i : TI} {fs : List (Nat × Nat)} (ht : TIok P t i) (hu : i.und = .struct fs) : ∃ a : Array Field, P.underlying t = some (.struct a) ∧ a.toList.map (fun f => (f.offset, f.type)) = fs := by
  obtain ⟨d, hd, hu2⟩ := und_run ht
  rw [hu] at hu2
  cases d <;> first | (cases hu2; done) | (injection hu2 with hu2; subst hu2)
  exact ⟨_, hd, rfl⟩
theorem nthF_nth : ∀ (l : List (Nat × Nat)) (n : Nat) (x : Nat × Nat), nthF l n = some x → l[n]? = some x
  | [], _, _, h => by simp [nthF] at h
  | y :: _, 0, x, h => by simpa [nthF] using h
  | _ :: r, n + 1, x, h => by simpa using nthF_nth r n x h
theorem field_of {t f off ft : Nat} {i : TI} {fs : List (Nat × Nat)} (ht : TIok P t i) (hu : i.und = .struct fs) (h : nthF fs f = some (off, ft)) :
    ∃ (a : Array Field) (x : Field), P.underlying t = some (.struct a) ∧ a[f]? = some x ∧ x.offset = off ∧ x.type = ft := by
  obtain ⟨a, h1, h2⟩ := fields_of ht hu
  have := nthF_nth fs f _ h
  rw [← h2, List.getElem?_map] at this
  cases hx : a.toList[f]? with
  | none => rw [hx] at this; cases this
  | some x =>
    rw [hx] at this
    simp only [Option.map_some, Option.some.injEq, Prod.mk.injEq] at this
    exact ⟨a, x, h1, by simpa using hx, this.1, this.2⟩
theorem fieldPlace_run {j : TI} {x : Field} {b o : Nat} (hj : TIok P x.type j) (hs : Nat.beq j.size 0 = false) : (fieldPlace ⟨b, o, none⟩ x).run P w = .ok ⟨b, o + x.offset, none⟩ w := by
  have hz : ¬ j.size = 0 := fun e => by rw [e] at hs; cases hs
  simp only [fieldPlace, Sem.run_bind, sizeOf_run hj, Result.andThen_ok, hz, if_false, Sem.run_pure, addr_add]
theorem field_does {t f off ft : Nat} {i j : TI} {fs : List (Nat × Nat)} {x : SV} {X : Value} (ht : TIok P t i) (hu : i.und = .struct fs) (hf : nthF fs f = some (off, ft)) (hj : TIok P ft j) (hs : Nat.beq j.size 0 = false) (hx : SVR g w.heap x X)
    (h : (fieldM off x).eval base H fp = some (v, H', fp')) : Gives P g H H' w v (Instr.fieldAt t X f) := by
  obtain ⟨a, y, h1, h2, h3, h4⟩ := field_of ht hu hf
  subst h3 h4
  have run : ∀ b o, (Instr.fieldAt t (.pointer (some ⟨b, o, none⟩)) f).run P w = .ok (.pointer (some ⟨b, o + y.offset, none⟩)) w := fun b o => by
    simp only [Instr.fieldAt, Instr.sureAddr, Sem.run_bind, run_underlying h1, Result.andThen_ok, h2, Sem.run_pure, fieldPlace_run hj hs]
  unfold fieldM at h
  split at h
  · obtain ⟨Q, b, hQ, hb, rfl⟩ := (hx : VR g w.heap (.ptr _ _) X)
    exact gives_ret h (run _ _) ⟨Q, b, hQ, hb, rfl⟩
  · obtain ⟨Q, b, hQ, hb, hk, rfl⟩ := (hx : VR g w.heap (.eptr _ _ _) X)
    exact gives_ret h (run _ _) ⟨Q, b, hQ, hb, hk, by rw [Nat.add_assoc]⟩
  · obtain ⟨Q, b, hQ, hb, hk, rfl⟩ := (hx : VR g w.heap (.aptr _ _ _ _ _ _) X)
    exact gives_ret h (run _ _) ⟨Q, b, hQ, hb, hk, by rw [Nat.add_assoc]⟩
  · obtain ⟨b, o, cs, ty, fz, us, rest, rfl, k1, k2, k3, k4, k5⟩ := (hx : VR g w.heap (.rptr _ _ _ _) X)
    exact gives_ret h (run _ _) ⟨b, o, cs, ty, fz, us, rest, by rw [Nat.add_assoc], k1, k2, k3, k4, k5⟩
  · exact (fail_eval h).elim
/-- A part of a struct or an array that is a value. -/
theorem part_run {t : Nat} {j : TI} {cs l : List CV} {vs : List Value} {A : AV} {off : Nat} (hj : TIok P t j) (hc : All2 (VR g w.heap) cs vs) (hl : cutCs cs off j.size = some l) (hA : mkAV j.agg l = some A) :
    ∃ V, (part t vs.toArray off).run P w = .ok V w ∧ AVR g w.heap A V := by
  obtain ⟨h1, h2⟩ := cut_VR hc hl
  obtain ⟨h3, h4⟩ := mkAV_cells hA h1
  simp only [part, Sem.run_bind, isAgg_run hj, Result.andThen_ok]
  cases ha : j.agg with
  | true =>
    refine ⟨_, ?_, h3 ha⟩
    simp only [if_true, Sem.run_bind, sizeOf_run hj, Result.andThen_ok, Sem.run_pure]
    congr 2
    apply Array.ext'
    rw [Array.toList_extract, List.extract_eq_take_drop]
    simp only [Nat.add_sub_cancel_left]
  | false =>
    obtain ⟨y, h5, h6⟩ := h4 ha
    refine ⟨y, ?_, h6⟩
    have : vs[off]? = some y := by
      have := nth_cut (l := vs) (k := off) (n := j.size) (j := 0) (x := y) (by rw [h5]; rfl)
      simpa using this
    have h' : (vs.toArray)[off]? = some y := by simpa using this
    simp only [Bool.false_eq_true, if_false, h', Sem.run_pure]
theorem fieldv_does {t f off ft : Nat} {i j : TI} {fs : List (Nat × Nat)} {cs l : List CV} {X : Value} (ht : TIok P t i) (hu : i.und = .struct fs) (hf : nthF fs f = some (off, ft)) (hj : TIok P ft j) (hx : SVR g w.heap (.v (.agg cs)) X)
    (hl : cutCs cs off j.size = some l) (h : (svO (mkAV j.agg l)).eval base H fp = some (v, H', fp')) : Gives P g H H' w v (Instr.field t X f) := by
  obtain ⟨a, y, h1, h2, h3, h4⟩ := field_of ht hu hf
  subst h3 h4
  obtain ⟨A, hA, rfl, rfl⟩ := svO_eval h
  obtain ⟨vs, rfl, hv⟩ := (hx : AVR g w.heap (.agg cs) X)
  obtain ⟨V, e1, e2⟩ := part_run hj hv hl hA
  exact ⟨V, by simp only [Instr.field, Sem.run_bind, run_underlying h1, Result.andThen_ok, h2, asAgg, Sem.run_pure, e1], e2, rfl⟩
theorem nilCheck_does {x : SV} {X : Value} {s : Sem Next} (hx : SVR g w.heap x X) (hs : ∀ a, X = .pointer (some a) → s = pure (.value X)) (h : (nilCheckM x).eval base H fp = some (v, H', fp')) : ∃ V, s.run P w = .ok (.value V) w ∧ SVR g w.heap v V ∧ H' = H := by
  unfold nilCheckM at h
  split at h
  all_goals first | exact (fail_eval h).elim | skip
  all_goals
    obtain ⟨rfl, rfl⟩ := ret_eval h
    refine ⟨X, ?_, hx, rfl⟩
  · obtain ⟨Q, b, hQ, hb, rfl⟩ := (hx : VR g w.heap (.ptr _ _) X); rw [hs _ rfl]; rfl
  · obtain ⟨Q, b, hQ, hb, hk, rfl⟩ := (hx : VR g w.heap (.eptr _ _ _) X); rw [hs _ rfl]; rfl
  · obtain ⟨b, o, cs, ty, fz, us, rest, rfl, _⟩ := (hx : VR g w.heap (.rptr _ _ _ _) X); rw [hs _ rfl]; rfl
  · obtain ⟨Q, b, hQ, hb, hk, rfl⟩ := (hx : VR g w.heap (.aptr _ _ _ _ _ _) X); rw [hs _ rfl]; rfl
theorem nthA_nth : ∀ (l : List AV) (n : Nat) (x : AV), nthA l n = some x → l[n]? = some x
  | [], _, _, h => by simp [nthA] at h
  | y :: _, 0, x, h => by simpa [nthA] using h
  | _ :: r, n + 1, x, h => by simpa using nthA_nth r n x h
theorem tup_does {k : Nat} {x : SV} {X : Value} (hx : SVR g w.heap x X) (h : (tupM k x).eval base H fp = some (v, H', fp')) : Gives P g H H' w v (Instr.extract X k) := by
  unfold tupM at h
  split at h
  · rename_i l
    obtain ⟨vs, rfl, hv⟩ := (hx : SVR g w.heap (.tup l) X)
    split at h
    · rename_i a ha
      simp only [MA.eval, Option.some.injEq, Prod.mk.injEq] at h
      obtain ⟨rfl, rfl, _⟩ := h
      obtain ⟨y, h1, h2⟩ := All2.get k hv (nthA_nth l k a ha)
      have h' : (vs.toArray)[k]? = some y := by simpa using h1
      exact ⟨y, by simp only [Instr.extract, h', Sem.run_pure], h2, rfl⟩
    · exact (fail_eval h).elim
  · exact (fail_eval h).elim
theorem len_does {t ty : Nat} {i : TI} {x : SV} {X : Value} (ht : TIok P t i) (M : Mem mt g H w.heap) (hx : SVR g w.heap x X) (h : (lenM i.und x).eval base H fp = some (v, H', fp')) : Gives P g H H' w v (Builtin.len_ #[t] ty #[X]) := by
  obtain ⟨d, hd, hu⟩ := und_run ht
  unfold lenM at h
  split at h
  · rename_i e he
    rw [he] at hu
    cases d <;> first | (cases hu; done) | skip
    have sl : ∀ A n c, (Builtin.len_ #[t] ty #[.slice A n c]).run P w = .ok (.int .i64 n) w := fun A n c => by
      simp [Builtin.len_, run_underlying hd, goInt]
    split at h
    · rename_i q l
      obtain ⟨A, c, hv, hc, hrow⟩ := (hx : Rd g.ro w.heap (.row q) l [X])
      simp only [List.cons.injEq, and_true] at hv
      subst hv
      exact gives_ret h (sl _ _ _) rfl
    · rename_i n
      obtain ⟨Q, hQ, rfl⟩ := (hx : VR g w.heap (.own n) X)
      obtain ⟨o, ho, h⟩ := get_eval h
      obtain ⟨Q', hQ', hO⟩ := M.obj n o ho
      rw [hQ] at hQ'
      cases hQ'
      split at h
      · rename_i q l
        have hO' : ArrR g w.heap Q q l := hO
        exact gives_ret h (sl _ _ _) (by rw [hO'.1]; rfl)
      · rename_i q l
        have hO' : ArrR g w.heap Q q l := hO
        exact gives_ret h (sl _ _ _) (by rw [hO'.1]; rfl)
      · exact (fail_eval h).elim
    · obtain ⟨Q, A, c, hQ, hlo, hhi, hcap, rfl, hA⟩ := (hx : VR g w.heap (.sub _ _ _) X)
      exact gives_ret h (sl _ _ _) rfl
    · obtain rfl : X = _ := hx
      exact gives_ret h (sl _ _ _) rfl
    · exact (fail_eval h).elim
  · rename_i he
    rw [he] at hu
    cases d <;> first | (cases hu; done) | skip
    split at h
    · obtain rfl : X = _ := hx
      exact gives_ret h (by simp [Builtin.len_, run_underlying hd, goInt]) rfl
    · exact (fail_eval h).elim
  · rename_i n e he
    rw [he] at hu
    cases d <;> first | (cases hu; done) | (injection hu with hu hu3; subst hu)
    exact gives_ret h (V := .int .i64 _) (by simp [Builtin.len_, run_underlying hd, goInt]) rfl
  · exact (fail_eval h).elim
theorem min2_run (k k' : IntKind) (a b : Int) : (Builtin.min2 (.int k a) (.int k' b)).run P w = .ok (.int k (minI a b)) w := by simp [Builtin.min2, minI]
theorem max2_run (k k' : IntKind) (a b : Int) : (Builtin.max2 (.int k a) (.int k' b)).run P w = .ok (.int k (maxI a b)) w := by simp [Builtin.max2, maxI]
theorem foldM_does {f : Int → Int → Int} {F : Value → Value → Sem Value} (hF : ∀ k k' a b, (F (.int k a) (.int k' b)).run P w = .ok (.int k (f a b)) w) : ∀ (l : List SV) (vs : List Value) (k : IntKind) (a : Int), All2 (SVR g w.heap) l vs → (foldM f k a l).eval base H fp = some (v, H', fp') →
    ∃ V, (vs.foldlM F (.int k a)).run P w = .ok V w ∧ SVR g w.heap v V ∧ H' = H
  | [], [], k, a, _, h => by
    obtain ⟨rfl, rfl⟩ := ret_eval h
    exact ⟨_, by simp [List.foldlM], rfl, rfl⟩
  | x :: l, y :: vs, k, a, ⟨hx, hl⟩, h => by
    unfold foldM at h
    split at h
    · rename_i heq; cases heq
    · rename_i k' b r heq
      cases heq
      split at h
      · obtain rfl : y = _ := hx
        obtain ⟨V, h1, h2⟩ := foldM_does hF l vs k (f a b) hl h
        exact ⟨V, by simp only [List.foldlM_cons, Sem.run_bind, hF, Result.andThen_ok, h1], h2⟩
      · exact (fail_eval h).elim
    · exact (fail_eval h).elim
  | [], _ :: _, _, _, h, _ => h.elim
  | _ :: _, [], _, _, h, _ => h.elim
theorem min_does {l : List SV} {vs : List Value} {ts : Array Nat} {ty : Nat} (hl : All2 (SVR g w.heap) l vs) (h : (minmaxM minI l).eval base H fp = some (v, H', fp')) : Gives P g H H' w v (Builtin.min_ ts ty vs.toArray) := by
  unfold minmaxM at h
  split at h
  · rename_i k a r
    match vs, hl with
    | y :: vs, ⟨hy, hl⟩ =>
      obtain rfl : y = _ := hy
      obtain ⟨V, h1, h2⟩ := foldM_does (F := Builtin.min2) (fun _ _ _ _ => min2_run _ _ _ _) r vs k a hl h
      exact ⟨V, by simp only [Builtin.min_]; exact h1, h2⟩
  · exact (fail_eval h).elim
theorem max_does {l : List SV} {vs : List Value} {ts : Array Nat} {ty : Nat} (hl : All2 (SVR g w.heap) l vs) (h : (minmaxM maxI l).eval base H fp = some (v, H', fp')) : Gives P g H H' w v (Builtin.max_ ts ty vs.toArray) := by
  unfold minmaxM at h
  split at h
  · rename_i k a r
    match vs, hl with
    | y :: vs, ⟨hy, hl⟩ =>
      obtain rfl : y = _ := hy
      obtain ⟨V, h1, h2⟩ := foldM_does (F := Builtin.max2) (fun _ _ _ _ => max2_run _ _ _ _) r vs k a hl h
      exact ⟨V, by simp only [Builtin.max_]; exact h1, h2⟩
  · exact (fail_eval h).elim
theorem cpx_does {l : List SV} {vs : List Value} {ts : Array Nat} {ty : Nat} (hl : All2 (SVR g w.heap) l vs) (h : (cpxM l).eval base H fp = some (v, H', fp')) : Gives P g H H' w v (Builtin.complex_ ts ty vs.toArray) := by
  unfold cpxM at h
  split at h
  · rename_i a b
    match vs, hl with
    | [x, y], ⟨hx, hy, _⟩ =>
      obtain ⟨p, rfl, hp⟩ := (hx : VR g w.heap (.fint a) x)
      obtain ⟨q, rfl, hq⟩ := (hy : VR g w.heap (.fint b) y)
      exact gives_ret h (run_complex (P := P) w ts ty .f64 p q) ⟨p, q, rfl, hp, hq⟩
  · exact (fail_eval h).elim
theorem real_does {l : List SV} {vs : List Value} {ts : Array Nat} {ty : Nat} (hl : All2 (SVR g w.heap) l vs) (h : (realM l).eval base H fp = some (v, H', fp')) : Gives P g H H' w v (Builtin.real_ ts ty vs.toArray) := by
  unfold realM at h
  split at h
  · rename_i a b
    match vs, hl with
    | [x], ⟨hx, _⟩ =>
      obtain ⟨p, q, rfl, hp, hq⟩ := (hx : VR g w.heap (.cint a b) x)
      exact gives_ret h (run_real (P := P) w ts ty .f64 p q) ⟨p, rfl, hp⟩
  · exact (fail_eval h).elim
theorem imag_does {l : List SV} {vs : List Value} {ts : Array Nat} {ty : Nat} (hl : All2 (SVR g w.heap) l vs) (h : (imagM l).eval base H fp = some (v, H', fp')) : Gives P g H H' w v (Builtin.imag_ ts ty vs.toArray) := by
  unfold imagM at h
  split at h
  · rename_i a b
    match vs, hl with
    | [x], ⟨hx, _⟩ =>
      obtain ⟨p, q, rfl, hp, hq⟩ := (hx : VR g w.heap (.cint a b) x)
      exact gives_ret h (run_imag (P := P) w ts ty .f64 p q) ⟨q, rfl, hq⟩
  · exact (fail_eval h).elim
theorem bnd_spec {d : Int} {x : Option SV} {X : Option Value} {a : Int} (hX : match x, X with | none, none => True | some y, some Y => SVR g w.heap y Y | _, _ => False) (h : bnd d x = some a) :
    (x = none ∧ X = none ∧ a = d) ∨ ∃ k, X = some (.int k a) := by
  unfold bnd at h
  split at h
  · simp only [Option.some.injEq] at h
    cases X with
    | none => exact .inl ⟨rfl, rfl, h.symm⟩
    | some _ => exact hX.elim
  · simp only [Option.some.injEq] at h
    subst h
    cases X with
    | none => exact hX.elim
    | some Y => exact .inr ⟨_, by rw [show Y = _ from hX]⟩
  · cases h
/-- A cut of a slice. -/
theorem slice_run {t e : Nat} {i j : TI} {A : Option Addr} {len cap : Nat} {X1 X2 : Option Value} {a b : Int} (ht : TIok P t i) (hu : i.und = .slice e) (he : TIok P e j) (hab : 0 ≤ a ∧ a ≤ b ∧ b ≤ len) (hc : len ≤ cap)
    (h1 : (X1 = none ∧ a = 0) ∨ ∃ k, X1 = some (.int k a)) (h2 : (X2 = none ∧ b = len) ∨ ∃ k, X2 = some (.int k b)) :
    (Instr.sliceAt t (.slice A len cap) X1 X2 none).run P w = .ok (sliced A a.toNat b.toNat cap j.size) w := by
  obtain ⟨d, hd, hu2⟩ := und_run ht
  rw [hu] at hu2
  cases d <;> first | (cases hu2; done) | (injection hu2 with hu2; subst hu2)
  have hsz := sizeOf_run he w
  have sb : ∀ (k : IntKind) (z : Int) (y : Nat) (c : BoundsCode), 0 ≤ z → z ≤ y → (Instr.sliceBound (.int k z) y c).run P w = .ok z.toNat w := fun k z y c h0 h1 => run_sliceBound w k z y c h0 h1
  obtain ⟨a0, ab, bl⟩ := hab
  have eb : (b.toNat : Int) = b := Int.toNat_of_nonneg (by omega)
  rcases h1 with ⟨rfl, rfl⟩ | ⟨k1, rfl⟩ <;> rcases h2 with ⟨rfl, rfl⟩ | ⟨k2, rfl⟩
  · simp only [Instr.sliceAt, Instr.slice, Sem.run_bind, run_underlying hd, Result.andThen_ok, Instr.sliceBounds, Sem.run_pure, hsz, sliced, Int.toNat_zero, Int.toNat_natCast]
  · simp only [Instr.sliceAt, Instr.slice, Sem.run_bind, run_underlying hd, Result.andThen_ok, Instr.sliceBounds, Sem.run_pure, hsz, sliced, Int.toNat_zero, if_true, sb k2 b cap _ (by omega) (by omega)]
  · simp only [Instr.sliceAt, Instr.slice, Sem.run_bind, run_underlying hd, Result.andThen_ok, Instr.sliceBounds, Sem.run_pure, hsz, sliced, Int.toNat_natCast, Option.isSome_none, Bool.false_eq_true, if_false, sb k1 a len _ a0 (by omega)]
  · simp only [Instr.sliceAt, Instr.slice, Sem.run_bind, run_underlying hd, Result.andThen_ok, Instr.sliceBounds, Sem.run_pure, hsz, sliced, Option.isSome_none, Bool.false_eq_true, if_false, if_true, sb k2 b cap _ (by omega) (by omega), sb k1 a b.toNat _ a0 (by omega)]
theorem slice_does {t e : Nat} {i j : TI} {x : SV} {X : Value} {lo hi : Option SV} {X1 X2 : Option Value} (ht : TIok P t i) (hu : i.und = .slice e) (he : TIok P e j) (M : Mem mt g H w.heap) (hx : SVR g w.heap x X)
    (h1 : match lo, X1 with | none, none => True | some y, some Y => SVR g w.heap y Y | _, _ => False) (h2 : match hi, X2 with | none, none => True | some y, some Y => SVR g w.heap y Y | _, _ => False)
    (h : (sliceM j.size x lo hi).eval base H fp = some (v, H', fp')) : Gives P g H H' w v (Instr.sliceAt t X X1 X2 none) := by
  have b1 : ∀ {a : Int}, bnd 0 lo = some a → (X1 = none ∧ a = 0) ∨ ∃ k, X1 = some (.int k a) := fun ha => (bnd_spec h1 ha).imp (fun q => ⟨q.2.1, q.2.2⟩) id
  have b2 : ∀ {a d : Int}, bnd d hi = some a → (X2 = none ∧ a = d) ∨ ∃ k, X2 = some (.int k a) := fun ha => (bnd_spec h2 ha).imp (fun q => ⟨q.2.1, q.2.2⟩) id
  unfold sliceM at h
  split at h
  · rename_i q l
    obtain ⟨A, c, hv, hc, hrow⟩ := (hx : Rd g.ro w.heap (.row q) l [X])
    simp only [List.cons.injEq, and_true] at hv
    subst hv
    split at h
    · rename_i a b ha hb
      cases hq : Nat.beq q.size j.size with
      | false => rw [hq] at h; exact (fail_eval h).elim
      | true =>
        rw [hq] at h
        rcases cond_eval h with ⟨hr, h⟩ | ⟨_, h⟩
        · simp only [decide_eq_true_eq] at hr
          refine gives_ret h (slice_run ht hu he hr hc (b1 ha) (b2 hb)) ?_
          obtain ⟨a0, ab, bl⟩ := hr
          have hlen : ((l.take b.toNat).drop a.toNat).length = b.toNat - a.toNat := by rw [List.length_drop, List.length_take]; omega
          refine ⟨if c = a.toNat then A else A.map (·.add (a.toNat * j.size)), c - a.toNat, ?_, by rw [hlen]; omega, fun hne => ?_⟩
          · rw [hlen]; rfl
          · have hba : a.toNat < b.toNat := by
              rcases Nat.lt_or_ge a.toNat b.toNat with h' | h'
              · exact h'
              · exact absurd (List.length_eq_zero_iff.1 (by rw [hlen]; omega)) hne
            obtain ⟨bk, o, cs, ty, fz, us, rest, rfl, k2, k3, k4, k5⟩ := hrow (by rintro rfl; simp at bl; omega)
            have hm : ¬ c = a.toNat := by omega
            have hul := RdL.length l us k5
            have hbl : b.toNat * q.size ≤ l.length * q.size := Nat.mul_le_mul_right _ (by omega)
            refine ⟨bk, o + a.toNat * j.size, cs, ty, fz, (us.take (b.toNat * q.size)).drop (a.toNat * q.size), us.drop (b.toNat * q.size) ++ rest, ?_, k2, k3, ?_, RdL.take_drop l us a.toNat b.toNat k5 (by omega)⟩
            · rw [if_neg hm]; simp only [Option.map_some, addr_add]
            · rw [← List.drop_drop, k4, ← beq_eq hq]
              have hal : a.toNat * q.size ≤ b.toNat * q.size := Nat.mul_le_mul_right _ (by omega)
              conv => lhs; rw [← List.take_append_drop (b.toNat * q.size) us]
              rw [List.append_assoc, List.drop_append_of_le_length (by rw [List.length_take]; omega)]
        · exact (fail_eval h).elim
    · exact (fail_eval h).elim
  · rename_i n
    obtain ⟨Q, hQ, rfl⟩ := (hx : VR g w.heap (.own n) X)
    obtain ⟨o, ho, h⟩ := get_eval h
    obtain ⟨Q', hQ', hO⟩ := M.obj n o ho
    rw [hQ] at hQ'
    cases hQ'
    split at h
    · rename_i q l
      have hO' : ArrR g w.heap Q q l := hO
      split at h
      · rename_i a b ha hb
        cases hq : Nat.beq q.size j.size with
        | false => rw [hq] at h; exact (fail_eval h).elim
        | true =>
          rw [hq] at h
          rcases cond_eval h with ⟨hr, h⟩ | ⟨_, h⟩
          · simp only [decide_eq_true_eq] at hr
            obtain ⟨e1, e2, e3, e4⟩ := hO'
            refine gives_ret h (slice_run ht hu he (by omega) e3 (b1 ha) ((b2 hb).imp (fun z => ⟨z.1, by rw [z.2, e1]⟩) id)) ?_
            obtain ⟨a0, ab, bl⟩ := hr
            refine ⟨Q, _, Q.cap - a.toNat, hQ, by omega, by omega, by omega, rfl, fun hlt => ?_⟩
            cases hb : Q.blk with
            | none => rw [hb] at e4; omega
            | some bk =>
              rw [hb] at e4
              refine ⟨bk, rfl, ?_⟩
              rw [if_neg (by omega), e4.1]
              simp only [Option.map_some, addr_add, Nat.zero_add]
              rw [e2, beq_eq hq]
          · exact (fail_eval h).elim
      · exact (fail_eval h).elim
    · exact (fail_eval h).elim
  · rename_i n p r
    obtain ⟨Q, A, c, hQ, hlo, hhi, hcap, rfl, hA⟩ := (hx : VR g w.heap (.sub n p r) X)
    obtain ⟨o, ho, h⟩ := get_eval h
    obtain ⟨Q', hQ', hO⟩ := M.obj n o ho
    rw [hQ] at hQ'
    cases hQ'
    split at h
    · rename_i q l
      have hO' : ArrR g w.heap Q q l := hO
      split at h
      · rename_i a b ha hb
        cases hq : Nat.beq q.size j.size with
        | false => rw [hq] at h; exact (fail_eval h).elim
        | true =>
          rw [hq] at h
          rcases cond_eval h with ⟨hr, h⟩ | ⟨_, h⟩
          · simp only [decide_eq_true_eq] at hr
            refine gives_ret h (slice_run ht hu he hr hcap (b1 ha) (b2 hb)) ?_
            obtain ⟨a0, ab, bl⟩ := hr
            refine ⟨Q, if c = a.toNat then A else A.map (·.add (a.toNat * j.size)), c - a.toNat, hQ, by omega, by omega, by omega, ?_, fun hlt => ?_⟩
            · rw [show p + b.toNat - (p + a.toNat) = b.toNat - a.toNat by omega]; rfl
            · obtain ⟨bk, hb1, hb2⟩ := hA (by omega)
              refine ⟨bk, hb1, ?_⟩
              rw [if_neg (by omega), hb2]
              simp only [Option.map_some, addr_add]
              rw [hO'.2.1, beq_eq hq, Nat.add_mul]
          · exact (fail_eval h).elim
      · exact (fail_eval h).elim
    · exact (fail_eval h).elim
  · exact (fail_eval h).elim
/-- An element of an array that is a value, or of a string. -/
theorem idxv_does {t e : Nat} {i j : TI} {x y : SV} {X Y : Value} (ht : TIok P t i) (he : TIok P e j) (hu : i.und = .str ∨ ∃ n, i.und = .arr n e) (hx : SVR g w.heap x X) (hy : SVR g w.heap y Y)
    (h : (idxvM i.und j x y).eval base H fp = some (v, H', fp')) : Gives P g H H' w v (Instr.index t X Y) := by
  unfold idxvM at h
  split at h
  · rename_i kz z
    obtain rfl : Y = _ := hy
    split at h
    · rename_i len e' cs harr
      obtain rfl : e' = e := by rcases hu with hu | ⟨n, hu⟩ <;> rw [harr] at hu <;> cases hu; rfl
      obtain ⟨vs, rfl, hv⟩ := (hx : AVR g w.heap (.agg cs) X)
      rcases cond_eval h with ⟨hr, h⟩ | ⟨_, h⟩
      · obtain ⟨z0, z1⟩ := inRange_spec hr
        obtain ⟨d, hd, hu2⟩ := und_run ht
        rw [harr] at hu2
        cases d <;> first | (cases hu2; done) | (obtain ⟨rfl, rfl⟩ : len = _ ∧ e' = _ := by (injection hu2 with a b; exact ⟨a.symm, b.symm⟩))
        split at h
        · rename_i r hsel
          obtain ⟨A, hA, rfl, rfl⟩ := svO_eval h
          obtain ⟨s1, s2⟩ := selN_nth (by omega) j.size 0 r hsel
          have hall : ∀ q c, r[q]? = some c → ∃ u, (vs.drop (z.toNat * j.size))[q]? = some u ∧ VR g w.heap c u := fun q c hc => by
            have := s2 q c hc
            rw [Nat.add_zero] at this
            obtain ⟨u, hu1, hu2⟩ := All2.get _ hv this
            exact ⟨u, by rw [List.getElem?_drop]; exact hu1, hu2⟩
          have hlen : j.size ≤ (vs.drop (z.toNat * j.size)).length := by
            rcases Nat.eq_zero_or_pos j.size with h0 | h0
            · omega
            · obtain ⟨u, hu, _⟩ := hall (j.size - 1) _ (List.getElem?_eq_getElem (by omega))
              have := (List.getElem?_eq_some_iff.1 hu).1
              omega
          have h5 : All2 (VR g w.heap) r ((vs.drop (z.toNat * j.size)).take j.size) := by
            refine All2.of_nth _ _ (fun q c hc => ?_) (by rw [List.length_take]; omega)
            obtain ⟨u, hu, hv'⟩ := hall q c hc
            have hq : q < j.size := by have := (List.getElem?_eq_some_iff.1 hc).1; omega
            exact ⟨u, by rw [List.getElem?_take, if_pos hq]; exact hu, hv'⟩
          obtain ⟨h3, h4⟩ := mkAV_cells hA h5
          have run : ∀ V, (part e' vs.toArray (z.toNat * j.size)).run P w = .ok V w → (Instr.index t (.agg vs.toArray) (.int kz z)).run P w = .ok V w := fun V hV => by
            simp only [Instr.index, asIntOf, Sem.run_bind, Sem.run_pure, Result.andThen_ok, run_underlying hd, z0, z1, and_self, if_true, sizeOf_run he, hV]
          cases ha : j.agg with
          | true =>
            refine ⟨_, run _ ?_, h3 ha, rfl⟩
            simp only [part, Sem.run_bind, isAgg_run he, Result.andThen_ok, ha, if_true, sizeOf_run he, Sem.run_pure]
            congr 2
            apply Array.ext'
            rw [Array.toList_extract, List.extract_eq_take_drop]
            simp only [Nat.add_sub_cancel_left]
          | false =>
            obtain ⟨u, h6, h7⟩ := h4 ha
            refine ⟨u, run _ ?_, h7, rfl⟩
            have : vs[z.toNat * j.size]? = some u := by
              have := nth_cut (l := vs) (k := z.toNat * j.size) (n := j.size) (j := 0) (x := u) (by rw [h6]; rfl)
              simpa using this
            have h' : (vs.toArray)[z.toNat * j.size]? = some u := by simpa using this
            simp only [part, Sem.run_bind, isAgg_run he, Result.andThen_ok, ha, Bool.false_eq_true, if_false, h', Sem.run_pure]
        · exact (fail_eval h).elim
      · exact (fail_eval h).elim
    · rename_i s hs
      obtain rfl : X = _ := hx
      rcases cond_eval h with ⟨hr, h⟩ | ⟨_, h⟩
      · obtain ⟨z0, z1⟩ := inRange_spec hr
        obtain ⟨d, hd, hu2⟩ := und_run ht
        rw [hs] at hu2
        cases d <;> first | (cases hu2; done) | skip
        have hlt : z.toNat < s.size := by omega
        have hget : s[z.toNat]? = some s[z.toNat] := by rw [getElem?_pos]
        refine gives_ret h (V := .int .u8 ((s.data.getD z.toNat 0).toNat : Nat)) ?_ rfl
        simp only [Instr.index, asIntOf, Sem.run_bind, Sem.run_pure, Result.andThen_ok, run_underlying hd, z0, if_true, hget]
        congr 3
        have hlt' : z.toNat < s.data.size := hlt
        have : s.data.getD z.toNat 0 = s[z.toNat] := by
          rw [Array.getD_eq_getD_getElem?, Array.getElem?_eq_getElem hlt']; rfl
        rw [this]
      · exact (fail_eval h).elim
    · exact (fail_eval h).elim
  · exact (fail_eval h).elim
end
end Go.Proofs.Ytjmbmpeflhkngaa.Mx
/- The interpreter's operations that make blocks do what the model's do (own work). -/
namespace Go.Proofs.Ytjmbmpeflhkngaa.Mx
open Go
set_option autoImplicit false
set_option linter.unusedVariables false
set_option linter.unusedSimpArgs false
variable {P : Program}
section
variable {mt : Nat → Prop} {g : Gh} {H H' : HF} {w : World} {base : Nat} {fp fp' : FP} {v : SV}
/-- What an operation that makes something comes to. -/
def Makes (P : Program) (mt : Nat → Prop) (g : Gh) (H' : HF) (w : World) (base : Nat) (v : SV) (s : Sem Value) : Prop := ∃ V w', s.run P w = .ok V w' ∧ Post mt g w base H' v V w'
theorem Gives.makes {s : Sem Value} (M : Mem mt g H w.heap) (h : Gives P g H H' w v s) : Makes P mt g H' w base v s := by
  obtain ⟨V, h1, h2, rfl⟩ := h
  exact ⟨V, w, h1, Post.same M h2⟩
theorem keys_pos : 0 < keys := by decide
/-- A new box. -/
theorem box_does {cs : List CV} {V : Value} {t : Nat} (M : Mem mt g H w.heap) (hm : ∀ b, w.heap.size ≤ b → mt b) (hf : ∀ n, base ≤ n → n < base + keys → g.φ n = none) (hv : All2 (VR g w.heap) cs V.cells.toList)
    (h : (boxM cs).eval base H fp = some (v, H', fp')) : Makes P mt g H' w base v (do pure (.pointer (some (← newVar t V)))) := by
  simp only [boxM, MA.eval] at h
  cases ho : H (base + 0) with
  | some _ => rw [ho] at h; cases h
  | none =>
    rw [ho] at h
    simp only [keys_pos, if_true, ret, MA.eval, Option.some.injEq, Prod.mk.injEq] at h
    obtain ⟨rfl, rfl, _⟩ := h
    let Q : Pl := ⟨some w.heap.size, none, 0, 0, 0⟩
    refine ⟨.pointer (some ⟨w.heap.size, 0, none⟩), { w with heap := w.heap.push (.cells V.cells t) }, by simp only [newVar, newRow, Sem.run_bind, run_newObj, Result.andThen_ok, Sem.run_pure], ?_⟩
    have hfr := hf (base + 0) (by omega) (by have := keys_pos; omega)
    have st : Stab g w.heap (updφ g (base + 0) Q) (w.heap.push (.cells V.cells t)) := ⟨fun _ h => h, fun b hb => push_old _ _ _ (M.ro b hb), updφ_phi hfr⟩
    refine Post.new (Q := Q) M hm rfl rfl rfl rfl hfr keys_pos rfl rfl ⟨_, V.cells, t, rfl, push_new _ _, All2.mono (VR.stab st) _ _ hv⟩ ⟨Q, _, updφ_same g _ Q, rfl, rfl⟩
theorem fold_set : ∀ (vs : List Value) (k off : Nat) (cells : Array Value), off + k + vs.length ≤ cells.size →
    ((vs.zipIdx k).foldl (fun (cs : Array Value) (x : Value × Nat) => cs.setIfInBounds (off + x.2) x.1) cells).toList = cells.toList.take (off + k) ++ vs ++ cells.toList.drop (off + k + vs.length)
  | [], k, off, cells, h => by simp
  | v :: vs, k, off, cells, h => by
    simp only [List.length_cons] at h
    rw [List.zipIdx_cons, List.foldl_cons, fold_set vs (k + 1) off _ (by simp; omega)]
    simp only [Array.toList_setIfInBounds]
    refine List.ext_getElem? fun q => ?_
    have hs : cells.size = cells.toList.length := by simp
    rw [show off + (k + 1) = off + k + 1 by omega]
    have e1 := put_nth (cells.toList.set (off + k) v) (off + k + 1) vs q (by rw [List.length_set]; omega)
    have e2 := put_nth cells.toList (off + k) (v :: vs) q (by simp only [List.length_cons]; omega)
    rw [e1, e2]
    simp only [List.length_cons]
    by_cases h1 : off + k + 1 ≤ q ∧ q < off + k + 1 + vs.length
    · rw [if_pos h1, if_pos (by omega), show q - (off + k) = (q - (off + k + 1)) + 1 by omega]; rfl
    · rw [if_neg h1, List.getElem?_set]
      by_cases h2 : off + k = q
      · rw [if_pos h2, if_pos (by omega), if_pos (by omega), ← h2, Nat.sub_self]; rfl
      · rw [if_neg h2, if_neg (by omega)]
theorem fold_cells (V : Value) (off : Nat) (cells : Array Value) (h : off + V.cells.size ≤ cells.size) :
    (V.cells.zipIdx.foldl (fun cs (c, j) => cs.setIfInBounds (off + j) c) cells).toList = cells.toList.take off ++ V.cells.toList ++ cells.toList.drop (off + V.cells.toList.length) := by
  rw [← Array.foldl_toList, Array.toList_zipIdx]
  exact fold_set V.cells.toList 0 off cells (by simpa using h)
/-- Parts with their numbers. -/
def PartR (g : Gh) (hp : HP) (x : Nat × SV) (y : Nat × Value) : Prop := x.1 = y.1 ∧ SVR g hp x.2 y.2
theorem fill_does {place : Nat → Option (Nat × Nat)} {placeM : Nat → Option (Nat × Nat)} (hpl : ∀ i x, placeM i = some x → place i = some x) : ∀ (ps : List (Nat × SV)) (vs : List (Nat × Value)) (cs cs' : List CV) (cells : Array Value),
    All2 (PartR g w.heap) ps vs → All2 (VR g w.heap) cs cells.toList → fillCs placeM cs ps = some cs' → ∃ cells', Instr.fill place cells vs = some cells' ∧ All2 (VR g w.heap) cs' cells'.toList
  | [], [], cs, cs', cells, _, hc, h => by simp only [fillCs, Option.some.injEq] at h; subst h; exact ⟨cells, rfl, hc⟩
  | (i, .v a) :: ps, (i', V) :: vs, cs, cs', cells, ⟨⟨hi, hV⟩, hps⟩, hc, h => by
    simp only at hi hV
    subst hi
    simp only [fillCs] at h
    cases h1 : placeM i with
    | none => rw [h1] at h; cases h
    | some p =>
      obtain ⟨off, size⟩ := p
      rw [h1] at h
      simp only at h
      cases hf : fits (avCs a) size with
      | false => rw [hf] at h; cases h
      | true =>
        rw [hf] at h
        obtain ⟨f1, f2⟩ := fits_spec hf
        simp only at h
        split at h
        · rename_i cs2 hc2
          have hv2 := avCs_VR (A := a) hV f2
          have hlen := All2.length hv2
          obtain ⟨h3, h4⟩ := put_VR hc hv2 hc2
          have hsz : V.cells.size = size := by rw [← f1, hlen]; simp
          have hle : off + V.cells.size ≤ cells.size := by simpa using h4
          obtain ⟨cells', h5, h6⟩ := fill_does hpl ps vs cs2 cs' (V.cells.zipIdx.foldl (fun cs (c, j) => cs.setIfInBounds (off + j) c) cells) hps (by rw [fold_cells V off cells hle]; exact h3) h
          refine ⟨cells', ?_, h6⟩
          simp only [Instr.fill, hpl i _ h1]
          rw [if_neg (by simp only [hsz, ne_eq, not_true_eq_false, Bool.or_eq_true, decide_eq_true_eq, false_or]; omega)]
          exact h5
        · cases h
  | (_, .tup _) :: _, _, _, _, _, _, _, h => by simp [fillCs] at h
  | [], _ :: _, _, _, _, h, _, _ => h.elim
  | _ :: _, [], _, _, _, h, _, _ => h.elim
theorem mapM_places (fs : Array Field) (h : ∀ f ∈ fs.toList, (P.info? f.type).isSome = true) : (fs.mapM fun f => do pure (f.offset, ← sizeOf f.type) : Sem (Array (Nat × Nat))).run P w = .ok (fs.map fun f => (f.offset, P.cellsOf f.type)) w := by
  have key : ∀ l : List Field, (∀ f ∈ l, (P.info? f.type).isSome = true) → (l.mapM fun f => do pure (f.offset, ← sizeOf f.type) : Sem (List (Nat × Nat))).run P w = .ok (l.map fun f => (f.offset, P.cellsOf f.type)) w := by
    intro l
    induction l with
    | nil => intro _; rfl
    | cons f l ih =>
      intro hl
      obtain ⟨i, hi⟩ := Option.isSome_iff_exists.1 (hl f (by simp))
      simp only [List.mapM_cons, Sem.run_bind, run_sizeOf w hi, Result.andThen_ok, Sem.run_pure, ih fun f' hf' => hl f' (by simp [hf']), List.map_cons]
  rw [← Array.toArray_toList (xs := fs), List.mapM_toArray, Sem.run_map, key fs.toList h]
  simp only [Result.andThen_ok, Array.toArray_toList]
  congr 1
  apply Array.ext'
  simp
theorem build_does {tis : List (Nat × TI)} {t : Nat} {i : TI} {ps : List (Nat × SV)} {vs : List (Nat × Value)} {cs : List CV} (T : TIs P tis) (ht : TIok P t i) (hagg : i.agg = true) (hps : All2 (PartR g w.heap) ps vs) (hc : fillCs (placeOf tis i) i.zero ps = some cs) :
    ∃ V, (Instr.build t vs.toArray).run P w = .ok V w ∧ SVR g w.heap (.v (.agg cs)) V := by
  obtain ⟨z, hz1, hz2⟩ := zero_run ht w
  have hz : All2 (VR g w.heap) i.zero z.cells.toList := by rw [hz1]; exact zero_VR g w.heap i.zero ht.zok
  cases hu : i.und with
  | struct fs =>
    obtain ⟨a, ha, hfs⟩ := fields_of ht hu
    have hfl := ht.flds
    rw [hu] at hfl
    have hinfo : ∀ f ∈ a.toList, (P.info? f.type).isSome = true := fun f hf => by
      simp only [List.all_eq_true] at hfl
      exact hfl (f.offset, f.type) (by rw [← hfs]; exact List.mem_map.2 ⟨f, hf, rfl⟩)
    obtain ⟨cells, h1, h2⟩ := fill_does (place := ((a.map fun f => (f.offset, P.cellsOf f.type))[·]?)) (placeM := placeOf tis i) (fun k x hx => by
      unfold placeOf at hx
      rw [hu] at hx
      simp only at hx
      cases hn : nthF fs k with
      | none => rw [hn] at hx; cases hx
      | some p =>
        obtain ⟨off, ft⟩ := p
        rw [hn] at hx
        simp only at hx
        cases hq : tget tis ft with
        | none => rw [hq] at hx; cases hx
        | some q =>
          rw [hq] at hx
          simp only [Option.some.injEq] at hx
          subst hx
          obtain ⟨a', y, e1, e2, e3, e4⟩ := field_of ht hu hn
          rw [ha] at e1
          cases e1
          have hcell : P.cellsOf ft = q.size := by
            obtain ⟨x, d, z', k1, k2, _⟩ := (T ft q hq).get
            simp only [Program.cellsOf, k1, Option.map_some, Option.getD_some, k2]
          simp only [Array.getElem?_map, e2, Option.map_some, e3, e4, hcell]) ps vs i.zero cs z.cells hps hz hc
    refine ⟨.agg cells, ?_, cells.toList, by simp, h2⟩
    simp only [Instr.build, Sem.run_bind, hz2, Result.andThen_ok, run_underlying ha, mapM_places a hinfo, h1, Sem.run_pure]
  | arr n e =>
    obtain ⟨d, hd, hu2⟩ := und_run ht
    rw [hu] at hu2
    cases d <;> first | (cases hu2; done) | skip
    rename_i n' e'
    obtain ⟨rfl, rfl⟩ : n = n' ∧ e = e' := by (injection hu2 with a b; exact ⟨a.symm, b.symm⟩)
    have hfl := ht.flds
    rw [hu] at hfl
    obtain ⟨ie, hie⟩ := Option.isSome_iff_exists.1 hfl
    obtain ⟨cells, h1, h2⟩ := fill_does (place := fun i => some (i * P.cellsOf e, P.cellsOf e)) (placeM := placeOf tis i) (fun k x hx => by
      unfold placeOf at hx
      rw [hu] at hx
      simp only at hx
      cases hq : tget tis e with
      | none => rw [hq] at hx; cases hx
      | some q =>
        rw [hq] at hx
        simp only [Option.some.injEq] at hx
        subst hx
        have hcell : P.cellsOf e = q.size := by
          obtain ⟨x, d, z', k1, k2, _⟩ := (T e q hq).get
          simp only [Program.cellsOf, k1, Option.map_some, Option.getD_some, k2]
        rw [hcell]) ps vs i.zero cs z.cells hps hz hc
    refine ⟨.agg cells, ?_, cells.toList, by simp, h2⟩
    simp only [Instr.build, Sem.run_bind, hz2, Result.andThen_ok, run_underlying hd, run_sizeOf w hie, h1, Sem.run_pure]
  | _ => simp [TI.agg, hu] at hagg
/-- n elements of zero. -/
theorem rep_nth {k : Nat} (cs : List CV) (hk : cs.length = k) : ∀ (n q : Nat), q < n * k → (repCs cs n)[q]? = cs[q % k]?
  | 0, q, h => by simp at h
  | n + 1, q, h => by
    simp only [repCs]
    by_cases hq : q < k
    · rw [List.getElem?_append_left (by omega), Nat.mod_eq_of_lt hq]
    · have h' : q - k < n * k := by rw [Nat.add_mul, Nat.one_mul] at h; omega
      rw [List.getElem?_append_right (by omega), hk, rep_nth cs hk n (q - k) h']
      congr 1
      exact (Nat.mod_eq_sub_mod (by omega)).symm
theorem rep_len (cs : List CV) : ∀ n, (repCs cs n).length = n * cs.length
  | 0 => by simp [repCs]
  | n + 1 => by simp only [repCs, List.length_append, rep_len cs n, Nat.add_mul, Nat.one_mul]; omega
theorem made_nth (z : Array Value) (n q : Nat) (h : q < n * z.size) (hz : 0 < z.size) : (madeCells z (n * z.size)).toList[q]? = z.toList[q % z.size]? := by
  have hm : q % z.size < z.size := Nat.mod_lt _ hz
  simp only [madeCells, Array.toList_map, Array.toList_range, List.getElem?_map, List.getElem?_range h, Option.map_some]
  rw [Array.getElem?_toList, Array.getElem?_eq_getElem hm]
  simp [hm]
theorem made_VR {hp : HP} {cs : List CV} {z : Array Value} (h : All2 (VR g hp) cs z.toList) (n : Nat) (hz : 0 < z.size) : All2 (VR g hp) (repCs cs n) (madeCells z (n * z.size)).toList := by
  have hl := All2.length h
  have hl' : cs.length = z.size := by simpa using hl
  refine All2.of_nth _ _ (fun q c hc => ?_) (by rw [rep_len, hl']; simp [size_madeCells])
  have hq : q < n * z.size := by have := (List.getElem?_eq_some_iff.1 hc).1; rw [rep_len, hl'] at this; exact this
  rw [rep_nth cs hl' n q hq] at hc
  obtain ⟨y, h1, h2⟩ := All2.get _ h hc
  exact ⟨y, by rw [made_nth z n q hq hz]; exact h1, h2⟩
theorem made_RdL {ro : Nat → Prop} {hp : HP} {e : Ty} {x : e.T} {z : Array Value} (h : Rd ro hp e x z.toList) (n c : Nat) (hnc : n ≤ c) : ∃ us rest, (madeCells z (c * z.size)).toList = us ++ rest ∧ RdL (Rd ro hp e) (List.replicate n x) us := by
  have hz : z.size = e.size := by have := Rd.length e _ _ h; simpa using this
  have hpos : 0 < z.size := by rw [hz]; exact e.size_pos
  have key : ∀ n, (madeCells z (n * z.size)).toList = (List.replicate n z.toList).flatten := fun n => by
    refine List.ext_getElem? fun q => ?_
    by_cases hq : q < n * z.size
    · rw [made_nth z n q hq hpos]
      clear hnc
      induction n generalizing q with
      | zero => simp at hq
      | succ n ih =>
        rw [List.replicate_succ, List.flatten_cons]
        by_cases hq2 : q < z.size
        · rw [List.getElem?_append_left (by simpa using hq2), Nat.mod_eq_of_lt hq2]
        · have h' : q - z.size < n * z.size := by rw [Nat.add_mul, Nat.one_mul] at hq; omega
          rw [List.getElem?_append_right (by simp; omega), Array.length_toList, ← ih _ h', Nat.mod_eq_sub_mod (by omega)]
    · rw [List.getElem?_eq_none (by simp [size_madeCells]; omega), List.getElem?_eq_none (by simp; omega)]
  refine ⟨(List.replicate n z.toList).flatten, (List.replicate (c - n) z.toList).flatten, ?_, RdL.replicate h n⟩
  rw [key, ← List.flatten_append, List.replicate_append_replicate, show n + (c - n) = c by omega]
/-- A row of the call's own is handed on to elements: nobody writes to it from here on. -/
theorem Post.of_parts {w' : World} {g' : Gh} {V : Value} {H2 : HF} (a : Ext mt g w g' w) (b : ∀ n, g'.φ n = g.φ n) (c : Post mt g' w base H2 v V w') : Post mt g w base H2 v V w' := by
  obtain ⟨g2, h1, h2, h3, h4⟩ := c
  exact ⟨g2, a.trans h1, fun n hn => (h2 n hn).trans (b n), h3, h4⟩
theorem Post.of_parts' {w' : World} {g' : Gh} {V : Value} {H2 : HF} (a : Ext mt g w g' w) (b : ∀ n, g'.φ n = g.φ n) (c : Post mt g' w base H2 v V w') : Post mt g w base H2 v V w' := Post.of_parts a b c
theorem rowsIn_does : ∀ (e : Ty) (cs : List CV) (vs : List Value) (g : Gh) (H : HF) (fp : FP) (r : List CV × List CV), Mem mt g H w.heap → All2 (VR g w.heap) cs vs → (rowsIn e cs).eval base H fp = some (r, H', fp') →
    ∃ g', Ext mt g w g' w ∧ (∀ n, g'.φ n = g.φ n) ∧ Mem mt g' H' w.heap ∧ ∃ us us', vs = us ++ us' ∧ All2 (VR g' w.heap) r.1 us ∧ All2 (VR g' w.heap) r.2 us' := by
  intro e
  induction e generalizing H' fp' with
  | prod a b iha ihb =>
    intro cs vs g H fp r M hv h
    simp only [rowsIn, MA.eval_bind] at h
    cases h1 : (rowsIn a cs).eval base H fp with
    | none => rw [h1] at h; cases h
    | some x =>
      obtain ⟨x, H1, fp1⟩ := x
      rw [h1] at h
      simp only at h
      cases h2 : (rowsIn b x.2).eval base H1 fp1 with
      | none => rw [h2] at h; cases h
      | some y =>
        obtain ⟨y, H2, fp2⟩ := y
        rw [h2] at h
        simp only [MA.eval, Option.some.injEq, Prod.mk.injEq] at h
        obtain ⟨rfl, rfl, rfl⟩ := h
        obtain ⟨g1, e1, p1, M1, us, us', k1, k2, k3⟩ := iha cs vs g H fp x M hv h1
        obtain ⟨g2, e2, p2, M2, ws, ws', l1, l2, l3⟩ := ihb x.2 us' g1 H1 fp1 y M1 k3 h2
        exact ⟨g2, e1.trans e2, fun n => (p2 n).trans (p1 n), M2, us ++ ws, ws', by rw [k1, l1, List.append_assoc], All2.append (All2.mono (VR.stab (e2.stab M1.ro)) _ _ k2) l2, l3⟩
  | row e _ =>
    intro cs vs g H fp r M hv h
    have plain : ∀ c cs', cs = c :: cs' → r = ([c], cs') → H' = H → ∃ g', Ext mt g w g' w ∧ (∀ n, g'.φ n = g.φ n) ∧ Mem mt g' H' w.heap ∧ ∃ us us', vs = us ++ us' ∧ All2 (VR g' w.heap) r.1 us ∧ All2 (VR g' w.heap) r.2 us' := fun c cs' hc hr hH => by
      subst hc hr hH
      match vs, hv with
      | u :: vs, ⟨hu, hv⟩ => exact ⟨g, Ext.refl _ _ _, fun _ => rfl, M, [u], vs, rfl, ⟨hu, trivial⟩, hv⟩
    have taken : ∀ n (e' : Ty) (l : List e'.T) (u : Value) (Q : Pl), VR g w.heap (.own n) u → g.φ n = some Q → ArrR g w.heap Q e' l → (∀ b, Q.blk = some b → g.ro b) → VR g w.heap (.row e' l) u := fun n e' l u Q hu hQ hA hro => by
      obtain ⟨Q', hQ', rfl⟩ := hu
      rw [hQ] at hQ'
      cases hQ'
      refine ⟨Q.base, Q.cap, by rw [hA.1], by rw [← hA.1]; exact hA.2.2.1, fun hl => ?_⟩
      obtain ⟨b, cs, t, fz, us, rest, h1, h2, h3, h4⟩ := arr_row hA hl
      refine ⟨b, 0, cs, t, fz, us, rest, h1, ?_, h2, by rw [List.drop_zero, h3], h4⟩
      obtain ⟨a1, a2, a3, a4⟩ := hA
      cases hb : Q.blk with
      | none => rw [hb] at a4; rw [a4.2.2] at h1; cases h1
      | some b' =>
        rw [hb] at a4
        rw [a4.1] at h1
        cases h1
        exact hro b hb
    cases cs with
    | nil => simp [rowsIn, MA.eval] at h
    | cons c cs' =>
      cases c with
      | own n =>
        simp only [rowsIn] at h
        obtain ⟨o, ho, h⟩ := get_eval h
        obtain ⟨Q, hQ, hO⟩ := M.obj n o ho
        match vs, hv with
        | u :: vs, ⟨hu, hv⟩ =>
          split at h
          · rename_i e' l
            simp only [MA.eval, ho, Option.some.injEq, Prod.mk.injEq] at h
            obtain ⟨rfl, rfl, rfl⟩ := h
            have M' := M.freeze ho hQ
            have ex : Ext mt g w ⟨g.φ, fun b => g.ro b ∨ Q.blk = some b⟩ w := ⟨rfl, rfl, rfl, Nat.le_refl _, fun _ _ _ => rfl, fun _ h => .inl h, fun b hb => hb.imp id fun he => (M.own n _ Q b ho rfl hQ he).1, fun _ _ h => h⟩
            refine ⟨_, ex, fun _ => rfl, M', [u], vs, rfl, ⟨?_, trivial⟩, All2.mono (VR.stab (ex.stab M.ro)) _ _ hv⟩
            obtain ⟨Q', hQ', hO'⟩ := M'.obj n _ (upd_same _ _ _)
            have : Q' = Q := by rw [show (⟨g.φ, fun b => g.ro b ∨ Q.blk = some b⟩ : Gh).φ n = g.φ n from rfl, hQ] at hQ'; exact (Option.some.inj hQ').symm
            subst this
            have hu' : VR ⟨g.φ, fun b => g.ro b ∨ Q'.blk = some b⟩ w.heap (.own n) u := hu
            obtain ⟨Q2, hQ2, rfl⟩ := hu'
            have : Q2 = Q' := by rw [show (⟨g.φ, fun b => g.ro b ∨ Q'.blk = some b⟩ : Gh).φ n = g.φ n from rfl, hQ] at hQ2; exact (Option.some.inj hQ2).symm
            subst this
            have hA : ArrR _ w.heap Q2 e' l := hO'
            refine ⟨Q2.base, Q2.cap, by rw [hA.1], by rw [← hA.1]; exact hA.2.2.1, fun hl => ?_⟩
            obtain ⟨b, cs, t, fz, us, rest, h1, h2, h3, h4⟩ := arr_row hA hl
            refine ⟨b, 0, cs, t, fz, us, rest, h1, .inr ?_, h2, by rw [List.drop_zero, h3], h4⟩
            obtain ⟨a1, a2, a3, a4⟩ := hA
            cases hb : Q2.blk with
            | none => rw [hb] at a4; rw [a4.2.2] at h1; cases h1
            | some b' => rw [hb] at a4; rw [a4.1] at h1; cases h1; rfl
          · rename_i e' l
            simp only [MA.eval, Option.some.injEq, Prod.mk.injEq] at h
            obtain ⟨rfl, rfl, rfl⟩ := h
            exact ⟨g, Ext.refl _ _ _, fun _ => rfl, M, [u], vs, rfl, ⟨taken n e' l u Q hu hQ hO fun b hb => M.ice n _ Q b ho rfl hQ hb, trivial⟩, hv⟩
          · exact (fail_eval h).elim
      | _ => simp only [rowsIn, MA.eval, Option.some.injEq, Prod.mk.injEq] at h; exact plain _ cs' rfl h.1.symm h.2.1.symm
  | _ =>
    intro cs vs g H fp r M hv h
    cases cs with
    | nil => simp [rowsIn, MA.eval] at h
    | cons c cs' =>
      simp only [rowsIn, MA.eval, Option.some.injEq, Prod.mk.injEq] at h
      obtain ⟨rfl, rfl, rfl⟩ := h
      match vs, hv with
      | u :: vs, ⟨hu, hv⟩ => exact ⟨g, Ext.refl _ _ _, fun _ => rfl, M, [u], vs, rfl, ⟨hu, trivial⟩, hv⟩
theorem rowsInL_does (e : Ty) : ∀ (n : Nat) (cs : List CV) (vs : List Value) (g : Gh) (H H' : HF) (fp fp' : FP) (r : List CV), Mem mt g H w.heap → All2 (VR g w.heap) cs vs → (rowsInL e n cs).eval base H fp = some (r, H', fp') →
    ∃ g', Ext mt g w g' w ∧ (∀ n, g'.φ n = g.φ n) ∧ Mem mt g' H' w.heap ∧ All2 (VR g' w.heap) r vs
  | 0, [], vs, g, H, H', fp, fp', r, M, hv, h => by
    simp only [rowsInL, MA.eval, Option.some.injEq, Prod.mk.injEq] at h
    obtain ⟨rfl, rfl, rfl⟩ := h
    exact ⟨g, Ext.refl _ _ _, fun _ => rfl, M, hv⟩
  | 0, _ :: _, _, _, _, _, _, _, _, _, _, h => by simp [rowsInL, MA.eval] at h
  | n + 1, cs, vs, g, H, H', fp, fp', r, M, hv, h => by
    simp only [rowsInL, MA.eval_bind] at h
    cases h1 : (rowsIn e cs).eval base H fp with
    | none => rw [h1] at h; cases h
    | some x =>
      obtain ⟨x, H1, fp1⟩ := x
      rw [h1] at h
      simp only at h
      cases h2 : (rowsInL e n x.2).eval base H1 fp1 with
      | none => rw [h2] at h; cases h
      | some y =>
        obtain ⟨y, H2, fp2⟩ := y
        rw [h2] at h
        simp only [MA.eval, Option.some.injEq, Prod.mk.injEq] at h
        obtain ⟨rfl, rfl, rfl⟩ := h
        obtain ⟨g1, e1, p1, M1, us, us', k1, k2, k3⟩ := rowsIn_does e cs vs g H fp x M hv h1
        obtain ⟨g2, e2, p2, M2, l2⟩ := rowsInL_does e n x.2 us' g1 H1 H2 fp1 fp2 y M1 k3 h2
        exact ⟨g2, e1.trans e2, fun n => (p2 n).trans (p1 n), M2, by rw [k1]; exact All2.append (All2.mono (VR.stab (e2.stab M1.ro)) _ _ k2) l2⟩
end
end Go.Proofs.Ytjmbmpeflhkngaa.Mx
/- The interpreter's slices that are made and appended to are the model's (own work). -/
namespace Go.Proofs.Ytjmbmpeflhkngaa.Mx
open Go
set_option autoImplicit false
set_option linter.unusedVariables false
set_option linter.unusedSimpArgs false
variable {P : Program}
section
variable {mt : Nat → Prop} {g : Gh} {H H' : HF} {w : World} {base : Nat} {fp fp' : FP} {v : SV}
theorem elem_eval {tis : List (Nat × TI)} {t : Nat} {k : Ty → TI → MA SV} (T : TIs P tis) (h : (elemM tis t k).eval base H fp = some (v, H', fp')) :
    ∃ i e j ty, tget tis t = some i ∧ TIok P t i ∧ i.und = .slice e ∧ TIok P e j ∧ j.ty = some ty ∧ (k ty j).eval base H fp = some (v, H', fp') := by
  unfold elemM at h
  split at h
  · rename_i i hi
    split at h
    · rename_i e he
      split at h
      · rename_i j hj
        split at h
        · rename_i ty hty
          exact ⟨i, e, j, ty, hi, T _ _ hi, he, T _ _ hj, hty, h⟩
        · exact (fail_eval h).elim
      · exact (fail_eval h).elim
    · exact (fail_eval h).elim
  · exact (fail_eval h).elim
theorem ty_of {e : Nat} {j : TI} {ty : Ty} (hj : TIok P e j) (h : j.ty = some ty) : ty.zeroV = j.zero.map rawV ∧ ty.size = j.size := by
  have h1 := hj.ty
  have h2 := hj.tysz
  rw [h] at h1 h2
  simp only [Option.map_some, Option.some.injEq] at h1 h2
  exact ⟨h1, h2⟩
theorem slice_und {t e : Nat} {i : TI} (ht : TIok P t i) (hu : i.und = .slice e) : P.underlying t = some (.slice e) := by
  obtain ⟨d, hd, hu2⟩ := und_run ht
  rw [hu] at hu2
  cases d <;> first | (cases hu2; done) | (injection hu2 with hu2; subst hu2)
  exact hd
theorem new_eval {s : Nat} {o : Obj} {m : MA SV} (h : (MA.new s o m).eval base H fp = some (v, H', fp')) : ∃ fp2, H (base + s) = none ∧ s < keys ∧ m.eval base (upd H (base + s) (some o)) fp2 = some (v, H', fp') := by
  simp only [MA.eval] at h
  cases ho : H (base + s) with
  | some _ => rw [ho] at h; cases h
  | none =>
    rw [ho] at h
    simp only at h
    by_cases hs : s < keys
    · rw [if_pos hs] at h; exact ⟨_, rfl, hs, h⟩
    · rw [if_neg hs] at h; cases h
theorem make_does {t e : Nat} {i j : TI} {ty : Ty} {x y : SV} {X Y : Value} (ht : TIok P t i) (hu : i.und = .slice e) (he : TIok P e j) (hty : j.ty = some ty) (M : Mem mt g H w.heap) (hm : ∀ b, w.heap.size ≤ b → mt b) (hf : ∀ n, base ≤ n → n < base + keys → g.φ n = none)
    (hx : SVR g w.heap x X) (hy : SVR g w.heap y Y) (h : (makeM ty j.bytes x y).eval base H fp = some (v, H', fp')) : Makes P mt g H' w base v (Instr.makeSlice t X Y) := by
  unfold makeM at h
  split at h
  · rename_i k1 n k2 c
    obtain rfl : X = _ := hx
    obtain rfl : Y = _ := hy
    rcases cond_eval h with ⟨hr, h⟩ | ⟨_, h⟩
    · simp only [decide_eq_true_eq] at hr
      obtain ⟨n0, nc, cl⟩ := hr
      obtain ⟨info, d, z, h1, h2, h3, h4, h5, h6, h7⟩ := he.get
      obtain ⟨zv, zs⟩ := ty_of he hty
      have hzs : z.cells.size = info.size := by
        have := congrArg List.length h5
        rw [List.length_map, he.zlen] at this
        rw [h2]; simpa using this
      have hbyte : (info.bytes : Int) * c ≤ 281474976710656 := by
        rw [h3]
        have h8 : j.bytes * (140737488355328 / j.bytes) ≤ 140737488355328 := Nat.mul_div_le _ _
        have h9 : (j.bytes : Int) * c ≤ (j.bytes : Int) * ((140737488355328 / j.bytes : Nat) : Int) := Int.mul_le_mul_of_nonneg_left cl (by omega)
        have h10 : ((j.bytes * (140737488355328 / j.bytes) : Nat) : Int) ≤ 140737488355328 := by omega
        rw [Int.natCast_mul] at h10
        omega
      have hc63 : c ≤ 9223372036854775807 := by
        have : limit j.bytes ≤ 140737488355328 := Nat.div_le_self _ _
        omega
      have hrun := run_make (P := P) w t e info z (slice_und ht hu) h1 h4 k1 k2 n c n0 nc hbyte hc63
      simp only [MA.eval] at h
      obtain ⟨fp2, ho, hs, h⟩ := new_eval h
      obtain ⟨rfl, rfl⟩ := ret_eval h
      let Q : Pl := ⟨some w.heap.size, some ⟨w.heap.size, 0, none⟩, n.toNat, c.toNat, ty.size⟩
      refine ⟨_, _, hrun, ?_⟩
      have hfr := hf (base + 0) (by omega) (by have := keys_pos; omega)
      have hR : Rd g.ro w.heap ty ty.dflt z.cells.toList := by rw [h5, ← zv]; exact Rd.dflt _ _ ty
      have st : Stab g w.heap (updφ g (base + 0) Q) (w.heap.push (.cells (madeCells z.cells (c.toNat * info.size)) e)) := ⟨fun _ h => h, fun b hb => push_old _ _ _ (M.ro b hb), updφ_phi hfr⟩
      obtain ⟨us, rest, k3, k4⟩ := made_RdL (n := n.toNat) (c := c.toNat) hR (by omega)
      rw [hzs] at k3
      refine Post.new (Q := Q) M hm rfl rfl rfl rfl hfr hs rfl rfl ?_ ⟨Q, updφ_same g _ Q, rfl⟩
      refine ⟨by simp [Q], rfl, by show n.toNat ≤ c.toNat; omega, rfl, _, e, us, rest, push_new _ _, k3, RdL.mono (fun x vs => Rd.stab st.ro st.hp ty x vs) _ _ k4, ?_⟩
      show c.toNat * ty.size ≤ _
      rw [size_madeCells, h2, zs]
      exact Nat.le_refl _
    · exact (fail_eval h).elim
  · exact (fail_eval h).elim
theorem buildSlice_does {t e n : Nat} {i j : TI} {ty : Ty} {ps : List (Nat × SV)} {vs : List (Nat × Value)} {cs : List CV} (ht : TIok P t i) (hu : i.und = .slice e) (he : TIok P e j) (hty : j.ty = some ty) (M : Mem mt g H w.heap) (hm : ∀ b, w.heap.size ≤ b → mt b) (hf : ∀ n, base ≤ n → n < base + keys → g.φ n = none)
    (hps : All2 (PartR g w.heap) ps vs) (hc : fillCs (fun i => some (i * j.size, j.size)) (repCs j.zero n) ps = some cs) (hn : Nat.ble (n * j.size) 16777216 = true)
    (h : ((rowsInL ty n cs).bind fun cs' => match ty.decL n cs' with
      | some l => .base fun b => .new 0 (.arr ty l) (ret (.own b))
      | none => .fail).eval base H fp = some (v, H', fp')) : Makes P mt g H' w base v (Instr.buildSlice t n vs.toArray) := by
  obtain ⟨info, d, z, h1, h2, h3, h4, h5, h6, h7⟩ := he.get
  obtain ⟨zv, zs⟩ := ty_of he hty
  have hzs : z.cells.size = info.size := by
    have := congrArg List.length h5
    rw [List.length_map, he.zlen] at this
    rw [h2]; simpa using this
  have hpos : 0 < info.size := by rw [h2, ← zs]; exact ty.size_pos
  have hz : All2 (VR g w.heap) j.zero z.cells.toList := by rw [h5]; exact zero_VR g w.heap j.zero he.zok
  have hinit : All2 (VR g w.heap) (repCs j.zero n) (madeCells z.cells (n * info.size)).toList := by rw [← hzs]; exact made_VR hz n (by rw [hzs]; exact hpos)
  obtain ⟨cells, f1, f2⟩ := fill_does (place := fun i => some (i * info.size, info.size)) (fun k x hx => by rw [h2]; exact hx) ps vs _ cs _ hps hinit hc
  have hrun : (Instr.buildSlice t n vs.toArray).run P w = .ok (.slice (some ⟨w.heap.size, 0, none⟩) n n) (w.alloc (.cells cells e)) := by
    by_cases hn0 : n = 0
    · subst hn0
      have hf1 : Instr.fill (fun i => some (i * info.size, info.size)) #[] vs = some cells := by
        have e0 : madeCells z.cells (0 * info.size) = #[] := by simp [madeCells]
        rw [e0] at f1; exact f1
      simp only [Instr.buildSlice, Sem.run_bind, run_underlying (slice_und ht hu), Result.andThen_ok, sizeOf_run he, Nat.zero_mul, Nat.not_lt_zero, gt_iff_lt, if_false, Sem.run_pure, if_true]
      have e1 : ∀ (f : Nat → Value), (Array.range 0).map f = #[] := fun f => by simp
      rw [← h2, e1, hf1]
      simp only [newRow, Sem.run_bind, run_newObj, Result.andThen_ok, Sem.run_pure]
      rfl
    · refine run_buildSlice (P := P) w t e n vs.toArray cells info z (slice_und ht hu) h1 h4 ?_ ?_ (by exact f1)
      · have := Nat.le_of_ble_eq_true hn; rw [h2]; omega
      · intro hh
        rcases Nat.mul_eq_zero.1 hh with h' | h'
        · exact hn0 h'
        · omega
  rw [MA.eval_bind] at h
  cases hr : (rowsInL ty n cs).eval base H fp with
  | none => rw [hr] at h; cases h
  | some p =>
    obtain ⟨cs', H1, fp1⟩ := p
    rw [hr] at h
    simp only at h
    obtain ⟨g1, e1, p1, M1, hv1⟩ := rowsInL_does ty n cs _ g H H1 fp fp1 cs' M f2 hr
    split at h
    · rename_i l hl
      simp only [MA.eval] at h
      obtain ⟨fp2, ho, hs, h⟩ := new_eval h
      obtain ⟨rfl, rfl⟩ := ret_eval h
      obtain ⟨k1, k2⟩ := decL_Rd n cs' _ l hv1 hl
      let Q : Pl := ⟨some w.heap.size, some ⟨w.heap.size, 0, none⟩, n, n, ty.size⟩
      refine ⟨_, _, hrun, ?_⟩
      have hfr : g1.φ (base + 0) = none := by rw [p1]; exact hf (base + 0) (by omega) (by have := keys_pos; omega)
      have st : Stab g1 w.heap (updφ g1 (base + 0) Q) (w.heap.push (.cells cells e)) := ⟨fun _ h => h, fun b hb => push_old _ _ _ (M1.ro b hb), updφ_phi hfr⟩
      refine Post.of_parts' e1 p1 (Post.new (Q := Q) M1 hm rfl rfl rfl rfl hfr hs rfl rfl ?_ ⟨Q, updφ_same g1 _ Q, rfl⟩)
      refine ⟨by simp [Q, k2], rfl, Nat.le_refl _, rfl, _, e, cells.toList, [], push_new _ _, by simp, RdL.mono (fun x vs => Rd.stab st.ro st.hp ty x vs) _ _ k1, ?_⟩
      have := RdL.length l _ k1
      rw [k2] at this
      show n * ty.size ≤ cells.size
      rw [← this]; simp
    · exact (fail_eval h).elim
/-- What is appended, as the memory has it. -/
theorem more_does {ty : Ty} {y : SV} {Y : Value} {more : List ty.T} (M : Mem mt g H w.heap) (hy : SVR g w.heap y Y) (h : (moreM ty y).eval base H fp = some (more, H', fp')) :
    H' = H ∧ ∃ A c, Y = .slice A more.length c ∧ (more ≠ [] → ∃ b o us, A = some ⟨b, o, none⟩ ∧ (∀ q u, us[q]? = some u → w.cell? ⟨b, o + q, none⟩ = some u) ∧ RdL (Rd g.ro w.heap ty) more us) := by
  unfold moreM at h
  split at h
  · rename_i e' l
    split at h
    · rename_i q
      subst q
      simp only [MA.eval, Option.some.injEq, Prod.mk.injEq] at h
      obtain ⟨rfl, rfl, _⟩ := h
      obtain ⟨A, c, hv, hc, hrow⟩ := (hy : Rd g.ro w.heap (.row e') l [Y])
      simp only [List.cons.injEq, and_true] at hv
      refine ⟨rfl, A, c, hv, fun hl => ?_⟩
      obtain ⟨b, o, cs, t, fz, us, rest, h1, h2, h3, h4, h5⟩ := hrow hl
      exact ⟨b, o, us, h1, fun q u hu => by rw [cell_blk h3, ← List.getElem?_drop, h4, List.getElem?_append_left (List.getElem?_eq_some_iff.1 hu).1]; exact hu, h5⟩
    · cases h
  · simp only [MA.eval, Option.some.injEq, Prod.mk.injEq] at h
    obtain ⟨rfl, rfl, _⟩ := h
    obtain rfl : Y = _ := hy
    exact ⟨rfl, none, 0, rfl, fun hl => absurd rfl hl⟩
  · rename_i n
    obtain ⟨Q, hQ, rfl⟩ := (hy : VR g w.heap (.own n) Y)
    obtain ⟨o, ho, h⟩ := get_eval h
    obtain ⟨Q', hQ', hO⟩ := M.obj n o ho
    rw [hQ] at hQ'
    cases hQ'
    have fin : ∀ l : List ty.T, ArrR g w.heap Q ty l → ∃ A c, Value.slice Q.base Q.len Q.cap = .slice A l.length c ∧ (l ≠ [] → ∃ b o us, A = some ⟨b, o, none⟩ ∧ (∀ q u, us[q]? = some u → w.cell? ⟨b, o + q, none⟩ = some u) ∧ RdL (Rd g.ro w.heap ty) l us) := fun l hA => by
      refine ⟨Q.base, Q.cap, by rw [hA.1], fun hl => ?_⟩
      obtain ⟨b, cs, t, fz, us, rest, h1, h2, h3, h4⟩ := arr_row hA hl
      exact ⟨b, 0, us, h1, fun q u hu => by rw [cell_blk h2, Nat.zero_add, h3, List.getElem?_append_left (List.getElem?_eq_some_iff.1 hu).1]; exact hu, h4⟩
    split at h
    · rename_i e' l
      split at h
      · rename_i q
        subst q
        simp only [MA.eval, Option.some.injEq, Prod.mk.injEq] at h
        obtain ⟨rfl, rfl, _⟩ := h
        exact ⟨rfl, fin l hO⟩
      · cases h
    · rename_i e' l
      split at h
      · rename_i q
        subst q
        simp only [MA.eval, Option.some.injEq, Prod.mk.injEq] at h
        obtain ⟨rfl, rfl, _⟩ := h
        exact ⟨rfl, fin l hO⟩
      · cases h
    · cases h
  · rename_i n lo hi
    obtain ⟨Q, A, c, hQ, hlo, hhi, hcap, rfl, hA⟩ := (hy : VR g w.heap (.sub n lo hi) Y)
    obtain ⟨o, ho, h⟩ := get_eval h
    obtain ⟨Q', hQ', hO⟩ := M.obj n o ho
    rw [hQ] at hQ'
    cases hQ'
    have fin : ∀ l : List ty.T, ArrR g w.heap Q ty l → ∃ A' c', Value.slice A (hi - lo) c = .slice A' ((l.take hi).drop lo).length c' ∧ ((l.take hi).drop lo ≠ [] → ∃ b o us, A' = some ⟨b, o, none⟩ ∧ (∀ q u, us[q]? = some u → w.cell? ⟨b, o + q, none⟩ = some u) ∧ RdL (Rd g.ro w.heap ty) ((l.take hi).drop lo) us) := fun l hAr => by
      have hlen : ((l.take hi).drop lo).length = hi - lo := by rw [List.length_drop, List.length_take, ← hAr.1]; omega
      refine ⟨A, c, by rw [hlen], fun hl => ?_⟩
      have hlt : lo < hi := by
        rcases Nat.lt_or_ge lo hi with h' | h'
        · exact h'
        · exact absurd (List.length_eq_zero_iff.1 (by rw [hlen]; omega)) hl
      obtain ⟨b, hb1, hb2⟩ := hA hlt
      have hne : l ≠ [] := by rintro rfl; have := hAr.1; simp at this; omega
      obtain ⟨b', cs, t, fz, us, rest, h1, h2, h3, h4⟩ := arr_row hAr hne
      obtain ⟨a1, a2, a3, a4⟩ := hAr
      rw [hb1] at a4
      rw [a4.1] at h1
      cases h1
      have hul := RdL.length l us h4
      refine ⟨b, lo * Q.size, (us.take (hi * ty.size)).drop (lo * ty.size), hb2, fun q u hu => ?_, RdL.take_drop l us lo hi h4 (by omega)⟩
      rw [cell_blk h2, a2, h3, List.getElem?_append_left]
      · rw [List.getElem?_drop, List.getElem?_take] at hu
        split at hu
        · exact hu
        · cases hu
      · have := (List.getElem?_eq_some_iff.1 hu).1
        rw [List.length_drop, List.length_take] at this
        omega
    split at h
    · rename_i e' l
      split at h
      · rename_i q
        subst q
        simp only [MA.eval, Option.some.injEq, Prod.mk.injEq] at h
        obtain ⟨rfl, rfl, _⟩ := h
        exact ⟨rfl, fin l hO⟩
      · cases h
    · rename_i e' l
      split at h
      · rename_i q
        subst q
        simp only [MA.eval, Option.some.injEq, Prod.mk.injEq] at h
        obtain ⟨rfl, rfl, _⟩ := h
        exact ⟨rfl, fin l hO⟩
      · cases h
    · cases h
  · cases h
end
end Go.Proofs.Ytjmbmpeflhkngaa.Mx
/- The interpreter's append is the model's (own work). -/
namespace Go.Proofs.Ytjmbmpeflhkngaa.Mx
open Go
set_option autoImplicit false
set_option linter.unusedVariables false
set_option linter.unusedSimpArgs false
variable {P : Program}
section
variable {mt : Nat → Prop} {g : Gh} {H H' : HF} {w : World} {base : Nat} {fp fp' : FP} {v : SV}
theorem Rd.one {ro : Nat → Prop} {hp : HP} : ∀ (e : Ty) (x : e.T) (vs : List Value), Rd ro hp e x vs → ∀ u ∈ vs, u.oneCell' = true
  | .int _, _, _, h, u, hu => by rw [show _ = _ from h] at hu; simp at hu; subst hu; rfl
  | .bool, _, _, h, u, hu => by rw [show _ = _ from h] at hu; simp at hu; subst hu; rfl
  | .str, _, _, h, u, hu => by rw [show _ = _ from h] at hu; simp at hu; subst hu; rfl
  | .row e, l, _, ⟨A, c, h, _⟩, u, hu => by rw [h] at hu; simp at hu; subst hu; rfl
  | .prod a b, x, _, ⟨p, q, h, h1, h2⟩, u, hu => by
    rw [h] at hu
    rcases List.mem_append.1 hu with hu | hu
    · exact Rd.one a x.1 p h1 u hu
    · exact Rd.one b x.2 q h2 u hu
theorem RdL.one {ro : Nat → Prop} {hp : HP} {e : Ty} : ∀ (l : List e.T) (vs : List Value), RdL (Rd ro hp e) l vs → ∀ u ∈ vs, u.oneCell' = true
  | [], vs, h, u, hu => by rw [show vs = [] from h] at hu; cases hu
  | x :: l, _, ⟨p, q, h, h1, h2⟩, u, hu => by
    rw [h] at hu
    rcases List.mem_append.1 hu with hu | hu
    · exact Rd.one e x p h1 u hu
    · exact RdL.one l q h2 u hu
/-- A key's block goes on under a new key. -/
theorem Post.move {w' : World} {n s : Nat} {V : Value} {o o' : Obj} {Q Q' : Pl} (M : Mem mt g H w.heap) (hH : H n = some o) (hQ : g.φ n = some Q) (hi : o.iced = false) (hi' : o'.iced = false) (hb : ∀ b, Q'.blk = some b → Q.blk = some b)
    (hfr : g.φ (base + s) = none) (hs : s < keys) (hk : ∀ c, Q.blk ≠ some c → w'.heap[c]? = w.heap[c]?) (hsz : w'.heap.size = w.heap.size) (h2 : w'.os = w.os) (h3 : w'.tape = w.tape) (h4 : w'.output = w.output)
    (ho : Stab g w.heap (updφ g (base + s) Q') w'.heap → ObjR (updφ g (base + s) Q') w'.heap Q' o') (hv : SVR (updφ g (base + s) Q') w'.heap v V) : Post mt g w base (upd (upd H n none) (base + s) (some o')) v V w' := by
  have hown : ∀ b, Q.blk = some b → mt b ∧ ¬ g.ro b := fun b hb => M.own n o Q b hH hi hQ hb
  have st : Stab g w.heap (updφ g (base + s) Q') w'.heap := ⟨fun _ h => h, fun c hc => hk c fun e => (hown c e).2 hc, updφ_phi hfr⟩
  refine ⟨updφ g (base + s) Q', ⟨h2, h3, h4, by rw [hsz]; exact Nat.le_refl _, fun c hc hor => hk c fun e => hor.elim (fun h => h (hown c e).1) (hown c e).2, fun _ h => h, fun _ h => .inl h, updφ_phi hfr⟩, fun m hm => updφ_ne g Q' (by omega), ?_, hv⟩
  have M1 := M.del n
  -- first the memory's change at n's block, then the new key
  have M2 : Mem mt g (upd H n none) w'.heap := by
    have st0 : Stab g w.heap g w'.heap := ⟨fun _ h => h, st.hp, fun _ _ h => h⟩
    refine ⟨fun m o2 h => ?_, M1.own, M1.ice, M1.sep, fun b h => by rw [hsz]; exact M.ro b h⟩
    have hm : m ≠ n := fun e => by subst e; rw [upd_same] at h; cases h
    have hH2 : H m = some o2 := by rw [upd_ne _ _ hm] at h; exact h
    obtain ⟨R, hR, hO⟩ := M.obj m o2 hH2
    exact ⟨R, hR, hO.stab st0 fun b hRb => hk b fun e => M.sep m n o2 o R Q b hm hH2 hH hR hQ hRb e⟩
  refine M2.put (P := Q') (updφ_same g _ Q') (updφ_phi hfr) rfl hi' (fun b hb' => ?_) (fun _ _ _ => rfl) (Nat.le_refl _) (ho st)
  refine ⟨(hown b (hb b hb')).1, (hown b (hb b hb')).2, fun m o2 R hm h hR hRb => ?_⟩
  have hmn : m ≠ n := fun e => by subst e; rw [upd_same] at h; cases h
  rw [upd_ne _ _ hmn] at h
  exact M.sep m n o2 o R Q b hmn h hH hR hQ hRb (hb b hb')
theorem del_eval {α : Type} {n : Nat} {k : MA α} {a : α} (h : (MA.del n k).eval base H fp = some (a, H', fp')) : ∃ fp2, k.eval base (upd H n none) fp2 = some (a, H', fp') := by
  simp only [MA.eval] at h
  cases ho : H n with
  | none => rw [ho] at h; cases h
  | some o => rw [ho] at h; exact ⟨_, h⟩
theorem base_eval {α : Type} {k : Nat → MA α} {a : α} (h : (MA.base k).eval base H fp = some (a, H', fp')) : (k base).eval base H fp = some (a, H', fp') := h
theorem append_nothing {t ty : Nat} {e : Nat} {i : TypeInfo} (ht : P.underlying t = some (.slice e)) (hi : P.info? e = some i) (B : Option Addr) (n c : Nat) (hn : n ≤ c) (A : Option Addr) (k : Nat) :
    (Builtin.append_ #[t, t] ty #[.slice B n c, .slice A 0 k]).run P w = .ok (.slice B n c) w := by
  have hf : (Builtin.firstCells i.size 0 (.slice A 0 k)).run P w = .ok #[] w := by
    cases A with
    | none => simp [Builtin.firstCells]
    | some a => simp [Builtin.firstCells, loadCells, loadCellsFrom]
  cases B with
  | none => simp [Builtin.append_, run_underlying ht, sizeOf, typeInfo, hi, Builtin.lenOf, hn, hf]
  | some b => simp [Builtin.append_, run_underlying ht, sizeOf, typeInfo, hi, Builtin.lenOf, hn, hf, storeCells]
theorem append_room {t ty e tt : Nat} {i : TypeInfo} (ht : P.underlying t = some (.slice e)) (hi : P.info? e = some i) (b sLen sCap : Nat) (cur : Array Value) (hg : w.heap[b]? = some (.cells cur tt (0, 0)))
    (a : Addr) (m c : Nat) (news : List Value) (hl : news.length = m * i.size) (hnews : ∀ j u, news[j]? = some u → w.cell? (a.add j) = some u) (h1 : ∀ u ∈ news, u.oneCell' = true)
    (hroom : sLen + m ≤ sCap) (hfit : sLen * i.size + news.length ≤ cur.size) :
    (Builtin.append_ #[t, t] ty #[.slice (some ⟨b, 0, none⟩) sLen sCap, .slice (some a) m c]).run P w =
      .ok (.slice (some ⟨b, 0, none⟩) (sLen + m) sCap) (w.setRow b (cur.toList.take (sLen * i.size) ++ news ++ cur.toList.drop (sLen * i.size + news.length)).toArray) := by
  have hf := run_firstCells_some (P := P) w i.size m a m c news hl hnews
  have hst := run_storeCells_at P b (sLen * i.size) tt news 0 cur w hg (by simpa using hfit) h1
  simp only [Nat.add_zero] at hst
  simp [Builtin.append_, run_underlying ht, sizeOf, typeInfo, hi, Builtin.lenOf, hroom, hf, addr_add, hst]
theorem append_does {t e ty : Nat} {i j : TI} {et : Ty} {x y : SV} {X Y : Value} (ht : TIok P t i) (hu : i.und = .slice e) (he : TIok P e j) (hty : j.ty = some et) (M : Mem mt g H w.heap) (hm : ∀ b, w.heap.size ≤ b → mt b) (hf : ∀ n, base ≤ n → n < base + keys → g.φ n = none)
    (hx : SVR g w.heap x X) (hy : SVR g w.heap y Y) (h : (appendM et j.bytes x y).eval base H fp = some (v, H', fp')) : Makes P mt g H' w base v (Builtin.append_ #[t, t] ty #[X, Y]) := by
  obtain ⟨info, d, z, h1, h2, h3, h4, h5, h6, h7⟩ := he.get
  obtain ⟨zv, zs⟩ := ty_of he hty
  have hsz : info.size = et.size := by rw [h2, zs]
  have hzs : z.cells.size = info.size := by
    have := congrArg List.length h5
    rw [List.length_map, he.zlen] at this
    rw [h2]; simpa using this
  have hut := slice_und ht hu
  have hfr := hf (base + 0) (by omega) (by have := keys_pos; omega)
  have lim : ∀ k : Nat, k ≤ limit j.bytes → k * info.bytes ≤ 140737488355328 ∧ k ≤ 140737488355328 := fun k hk => by
    rw [h3]
    have h8 : 140737488355328 / j.bytes * j.bytes ≤ 140737488355328 := Nat.div_mul_le_self _ _
    exact ⟨Nat.le_trans (Nat.mul_le_mul_right _ hk) h8, Nat.le_trans hk (Nat.div_le_self _ _)⟩
  unfold appendM at h
  rw [MA.eval_bind] at h
  cases hmore : (moreM et y).eval base H fp with
  | none => rw [hmore] at h; cases h
  | some p =>
    obtain ⟨more, H1, fp1⟩ := p
    rw [hmore] at h
    simp only at h
    obtain ⟨rfl, A, c, rfl, hA⟩ := more_does M hy hmore
    split at h
    · -- onto a row of the call's own
      rename_i n
      obtain ⟨Q, hQ, rfl⟩ := (hx : VR g w.heap (.own n) X)
      obtain ⟨o, ho, h⟩ := get_eval h
      obtain ⟨Q', hQ', hO⟩ := M.obj n o ho
      rw [hQ] at hQ'
      cases hQ'
      split at h
      · rename_i e' l
        split at h
        · rename_i q
          subst q
          rcases cond_eval h with ⟨hr, h⟩ | ⟨_, h⟩
          · simp only [decide_eq_true_eq] at hr
            obtain ⟨_, h⟩ := del_eval h
            obtain ⟨fp2, hno, hs, h⟩ := new_eval (base_eval h)
            obtain ⟨rfl, rfl⟩ := ret_eval h
            have hO' : ArrR g w.heap Q e' l := hO
            obtain ⟨a1, a2, a3, a4⟩ := hO'
            obtain ⟨lb, l63⟩ := lim _ hr
            by_cases hm0 : more = []
            · -- nothing comes
              subst hm0
              refine ⟨_, w, append_nothing hut h1 Q.base Q.len Q.cap a3 A c, ?_⟩
              refine Post.move (Q' := Q) M ho hQ rfl rfl (fun _ h => h) hfr hs (fun _ _ => rfl) rfl rfl rfl rfl (fun st => ?_) ⟨Q, updφ_same g _ Q, rfl⟩
              have : ObjR (updφ g (base + 0) Q) w.heap Q (.arr e' l) := hO.stab st fun _ _ => rfl
              simpa using this
            · obtain ⟨ba, oa, us, rfl, hcell, hR⟩ := hA hm0
              have hmpos : 0 < more.length := List.length_pos_iff.2 hm0
              have hul := RdL.length more us hR
              have hul' : us.length = more.length * info.size := by rw [hsz]; exact hul
              have hcell' : ∀ q u, us[q]? = some u → w.cell? ((⟨ba, oa, none⟩ : Addr).add q) = some u := fun q u hu => by rw [addr_add]; exact hcell q u hu
              by_cases hroom : Q.len + more.length ≤ Q.cap
              · -- there is room
                cases hb : Q.blk with
                | none => rw [hb] at a4; omega
                | some b =>
                  rw [hb] at a4
                  obtain ⟨a5, vs, tt, olds, rest, a6, a7, a8, a9⟩ := a4
                  have hol := RdL.length l olds a8
                  have hvs : vs.size = vs.toList.length := by simp
                  have hfit : Q.len * info.size + us.length ≤ vs.size := by
                    rw [hul', ← Nat.add_mul]
                    refine Nat.le_trans (Nat.mul_le_mul_right _ hroom) ?_
                    rw [hsz, ← a2]; exact a9
                  have hrun := append_room (P := P) (ty := ty) hut h1 b Q.len Q.cap vs a6 ⟨ba, oa, none⟩ more.length c us hul' hcell' (RdL.one more us hR) hroom hfit
                  rw [a5]
                  let Q' : Pl := ⟨some b, some ⟨b, 0, none⟩, Q.len + more.length, Q.cap, Q.size⟩
                  refine ⟨_, _, hrun, ?_⟩
                  refine Post.move (Q' := Q') M ho hQ rfl rfl (fun c hc => by rw [hb]; exact hc) hfr hs (fun c hc => setRow_other fun e => hc (by rw [hb, e])) (by simp) rfl rfl rfl (fun st => ?_) ⟨Q', updφ_same g _ Q', rfl⟩
                  have hlo : Q.len * info.size = olds.length := by rw [hol, ← a1, hsz]
                  refine ⟨by simp [Q', a1], a2, hroom, rfl, _, tt, olds ++ us, vs.toList.drop (Q.len * info.size + us.length), setRow_heap a6, ?_, RdL.mono (fun x vs => Rd.stab st.ro st.hp e' x vs) _ _ (RdL.append l more olds us a8 hR), ?_⟩
                  · rw [List.toList_toArray, hlo, a7, List.take_left]
                  · show Q.cap * Q.size ≤ _
                    have : (vs.toList.take (Q.len * info.size) ++ us ++ vs.toList.drop (Q.len * info.size + us.length)).toArray.size = vs.size := by
                      simp only [List.size_toArray, List.length_append, List.length_take, List.length_drop]; omega
                    rw [this]; exact a9
              · -- it grows
                have M1 := M.del n
                have hneed : Q.cap < Q.len + more.length := by omega
                have hlb : (Q.len + more.length) * info.bytes ≤ 140737488355328 := by rw [a1]; exact lb
                cases hb : Q.blk with
                | none =>
                  rw [hb] at a4
                  obtain ⟨b1, b2, b3⟩ := a4
                  have hl0 : l = [] := List.length_eq_zero_iff.1 (by omega)
                  subst hl0
                  rw [b1, b2, b3]
                  simp only [List.length_nil, Nat.zero_add] at lb
                  have hrun := run_append_nil (P := P) w t ty e info z hut h1 h4 ⟨ba, oa, none⟩ more.length c us hul' hcell' hmpos (by omega) (by omega)
                  let Q' : Pl := ⟨some w.heap.size, some ⟨w.heap.size, 0, none⟩, more.length, grownCap w more.length 0 e, e'.size⟩
                  have hcap : more.length ≤ grownCap w more.length 0 e := Nat.le_add_right _ _
                  refine ⟨_, _, hrun, ?_⟩
                  have st : Stab g w.heap (updφ g (base + 0) Q') (w.heap.push (.cells (us.toArray ++ Builtin.zeroCells z.cells (grownCap w more.length 0 e - more.length)) e)) := ⟨fun _ h => h, fun b hb => push_old _ _ _ (M.ro b hb), updφ_phi hfr⟩
                  refine Post.new (Q := Q') M1 hm rfl rfl rfl rfl hfr hs rfl rfl ?_ ⟨Q', updφ_same g _ Q', rfl⟩
                  refine ⟨by simp [Q'], rfl, hcap, rfl, _, e, us, (Builtin.zeroCells z.cells (grownCap w more.length 0 e - more.length)).toList, push_new _ _, by simp, RdL.mono (fun x vs => Rd.stab st.ro st.hp e' x vs) _ _ hR, ?_⟩
                  show grownCap w more.length 0 e * e'.size ≤ _
                  rw [Array.size_append, size_zeroCells, hzs, hsz, List.size_toArray, hul, ← Nat.add_mul]
                  exact Nat.mul_le_mul_right _ (by omega)
                | some b =>
                  rw [hb] at a4
                  obtain ⟨a5, vs, tt, olds, rest, a6, a7, a8, a9⟩ := a4
                  have hol := RdL.length l olds a8
                  rw [a5]
                  have hrun := run_append_grow (P := P) w t ty e info z hut h1 h4 ⟨b, 0, none⟩ Q.len Q.cap olds (by rw [hol, ← a1, hsz]) (fun q u hq => by rw [addr_add, cell_blk a6, Nat.zero_add, a7, List.getElem?_append_left (List.getElem?_eq_some_iff.1 hq).1]; exact hq)
                    ⟨ba, oa, none⟩ more.length c us hul' hcell' hneed (by rw [a1]; omega) (growslice_fits hneed hlb)
                  let Q' : Pl := ⟨some w.heap.size, some ⟨w.heap.size, 0, none⟩, Q.len + more.length, grownCap w (Q.len + more.length) Q.cap e, e'.size⟩
                  have hcap : Q.len + more.length ≤ grownCap w (Q.len + more.length) Q.cap e := Nat.le_add_right _ _
                  refine ⟨_, _, hrun, ?_⟩
                  have st : Stab g w.heap (updφ g (base + 0) Q') (w.heap.push (.cells (olds.toArray ++ us.toArray ++ Builtin.zeroCells z.cells (grownCap w (Q.len + more.length) Q.cap e - (Q.len + more.length))) e)) := ⟨fun _ h => h, fun b hb => push_old _ _ _ (M.ro b hb), updφ_phi hfr⟩
                  refine Post.new (Q := Q') M1 hm rfl rfl rfl rfl hfr hs rfl rfl ?_ ⟨Q', updφ_same g _ Q', rfl⟩
                  refine ⟨by simp [Q', a1], rfl, hcap, rfl, _, e, olds ++ us, (Builtin.zeroCells z.cells (grownCap w (Q.len + more.length) Q.cap e - (Q.len + more.length))).toList, push_new _ _, by simp, RdL.mono (fun x vs => Rd.stab st.ro st.hp e' x vs) _ _ (RdL.append l more olds us a8 hR), ?_⟩
                  show grownCap w (Q.len + more.length) Q.cap e * e'.size ≤ _
                  have e1 : olds.length = Q.len * e'.size := by rw [hol, a1]
                  rw [Array.size_append, Array.size_append, size_zeroCells, hzs, hsz, List.size_toArray, List.size_toArray, hul, e1, ← Nat.add_mul, ← Nat.add_mul]
                  exact Nat.mul_le_mul_right _ (by omega)
          · exact (fail_eval h).elim
        · exact (fail_eval h).elim
      · exact (fail_eval h).elim
    · -- onto nothing
      obtain rfl : X = _ := hx
      rcases cond_eval h with ⟨hr, h⟩ | ⟨_, h⟩
      · simp only [decide_eq_true_eq] at hr
        obtain ⟨fp2, hno, hs, h⟩ := new_eval (base_eval h)
        obtain ⟨rfl, rfl⟩ := ret_eval h
        obtain ⟨lb, l63⟩ := lim _ hr
        by_cases hm0 : more = []
        · subst hm0
          let Q : Pl := ⟨none, none, 0, 0, et.size⟩
          refine ⟨_, w, append_nothing hut h1 none 0 0 (Nat.le_refl _) A c, ?_⟩
          exact Post.bare (Q := Q) M rfl rfl rfl rfl hfr hs rfl rfl ⟨rfl, rfl, Nat.le_refl _, rfl, rfl, rfl⟩ ⟨Q, updφ_same g _ Q, rfl⟩
        · obtain ⟨ba, oa, us, rfl, hcell, hR⟩ := hA hm0
          have hmpos : 0 < more.length := List.length_pos_iff.2 hm0
          have hul := RdL.length more us hR
          have hul' : us.length = more.length * info.size := by rw [hsz]; exact hul
          have hcell' : ∀ q u, us[q]? = some u → w.cell? ((⟨ba, oa, none⟩ : Addr).add q) = some u := fun q u hu => by rw [addr_add]; exact hcell q u hu
          have hrun := run_append_nil (P := P) w t ty e info z hut h1 h4 ⟨ba, oa, none⟩ more.length c us hul' hcell' hmpos (by omega) (by omega)
          let Q : Pl := ⟨some w.heap.size, some ⟨w.heap.size, 0, none⟩, more.length, grownCap w more.length 0 e, et.size⟩
          have hcap : more.length ≤ grownCap w more.length 0 e := Nat.le_add_right _ _
          refine ⟨_, _, hrun, ?_⟩
          have st : Stab g w.heap (updφ g (base + 0) Q) (w.heap.push (.cells (us.toArray ++ Builtin.zeroCells z.cells (grownCap w more.length 0 e - more.length)) e)) := ⟨fun _ h => h, fun b hb => push_old _ _ _ (M.ro b hb), updφ_phi hfr⟩
          refine Post.new (Q := Q) M hm rfl rfl rfl rfl hfr hs rfl rfl ?_ ⟨Q, updφ_same g _ Q, rfl⟩
          refine ⟨rfl, rfl, hcap, rfl, _, e, us, (Builtin.zeroCells z.cells (grownCap w more.length 0 e - more.length)).toList, push_new _ _, by simp, RdL.mono (fun x vs => Rd.stab st.ro st.hp et x vs) _ _ hR, ?_⟩
          show grownCap w more.length 0 e * et.size ≤ _
          rw [Array.size_append, size_zeroCells, hzs, hsz, List.size_toArray, hul, ← Nat.add_mul]
          exact Nat.mul_le_mul_right _ (by omega)
      · exact (fail_eval h).elim
    · exact (fail_eval h).elim
end
end Go.Proofs.Ytjmbmpeflhkngaa.Mx

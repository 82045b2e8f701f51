/- Functions of the program as Lean functions: printed by a tool of this session (own work). -/
import Derived.Test.YtldgilfchpfblaaProg
import Derived.Test.YtldgilfchpfblaaMxX
namespace Go.Proofs.Ytldgilfchpfblaa.Run
open Go Go.Proofs.Ytldgilfchpfblaa.Mx
set_option autoImplicit false
set_option linter.unusedVariables false
set_option maxRecDepth 100000
noncomputable section
def ty2 : TI := ⟨.int .i64, 1, 8, [.int .i64 0], some (.int .i64)⟩
def ty3 : TI := ⟨.int .i64, 1, 8, [.int .i64 0], some (.int .i64)⟩
def ty4 : TI := ⟨.bool, 1, 1, [.bool false], some .bool⟩
def ty5 : TI := ⟨.int .u8, 1, 1, [.int .u8 0], some (.int .u8)⟩
def ty23 : TI := ⟨.slice 5, 1, 24, [.nils], some (.row (.int .u8))⟩
def ty24 : TI := ⟨.slice 40, 1, 24, [.nils], some (.row (.prod (.int .i64) (.prod (.int .i64) (.prod (.int .i64) (.prod (.int .i64) (.prod (.int .i64) (.prod (.int .i64) (.prod (.int .i64) (.prod (.int .i64) (.prod (.int .i64) (.prod (.int .i64) (.int .i64))))))))))))⟩
def ty25 : TI := ⟨.slice 56, 1, 24, [.nils], some (.row (.prod (.int .i64) (.prod (.int .i64) (.prod (.int .i64) (.int .i64)))))⟩
def ty27 : TI := ⟨.struct [(0, 23), (1, 24), (2, 25)], 3, 72, [.nils, .nils, .nils], some (.prod (.row (.int .u8)) (.prod (.row (.prod (.int .i64) (.prod (.int .i64) (.prod (.int .i64) (.prod (.int .i64) (.prod (.int .i64) (.prod (.int .i64) (.prod (.int .i64) (.prod (.int .i64) (.prod (.int .i64) (.prod (.int .i64) (.int .i64)))))))))))) (.row (.prod (.int .i64) (.prod (.int .i64) (.prod (.int .i64) (.int .i64)))))))⟩
def ty30 : TI := ⟨.slice 3, 1, 24, [.nils], some (.row (.int .i64))⟩
def ty38 : TI := ⟨.slice 4, 1, 24, [.nils], some (.row .bool)⟩
def ty40 : TI := ⟨.struct [(0, 3), (1, 3), (2, 3), (3, 3), (4, 3), (5, 3), (6, 3), (7, 3), (8, 3), (9, 3), (10, 3)], 11, 88, [.int .i64 0, .int .i64 0, .int .i64 0, .int .i64 0, .int .i64 0, .int .i64 0, .int .i64 0, .int .i64 0, .int .i64 0, .int .i64 0, .int .i64 0], some (.prod (.int .i64) (.prod (.int .i64) (.prod (.int .i64) (.prod (.int .i64) (.prod (.int .i64) (.prod (.int .i64) (.prod (.int .i64) (.prod (.int .i64) (.prod (.int .i64) (.prod (.int .i64) (.int .i64)))))))))))⟩
def ty47 : TI := ⟨.arr 4 3, 4, 32, [.int .i64 0, .int .i64 0, .int .i64 0, .int .i64 0], some (.prod (.int .i64) (.prod (.int .i64) (.prod (.int .i64) (.int .i64))))⟩
def ty56 : TI := ⟨.struct [(0, 3), (1, 3), (2, 3), (3, 3)], 4, 32, [.int .i64 0, .int .i64 0, .int .i64 0, .int .i64 0], some (.prod (.int .i64) (.prod (.int .i64) (.prod (.int .i64) (.int .i64))))⟩
def ty65 : TI := ⟨.arr 6 3, 6, 48, [.int .i64 0, .int .i64 0, .int .i64 0, .int .i64 0, .int .i64 0, .int .i64 0], some (.prod (.int .i64) (.prod (.int .i64) (.prod (.int .i64) (.prod (.int .i64) (.prod (.int .i64) (.int .i64))))))⟩
def ty75 : TI := ⟨.flt .f64, 1, 8, [.fint 0], none⟩
def ty90 : TI := ⟨.struct [(0, 3), (1, 3)], 2, 16, [.int .i64 0, .int .i64 0], some (.prod (.int .i64) (.int .i64))⟩
def ty95 : TI := ⟨.int .u64, 1, 8, [.int .u64 0], some (.int .u64)⟩
def tis : List (Nat × TI) := [(2, ty2), (3, ty3), (4, ty4), (5, ty5), (23, ty23), (24, ty24), (25, ty25), (27, ty27), (30, ty30), (38, ty38), (40, ty40), (47, ty47), (56, ty56), (65, ty65), (75, ty75), (90, ty90), (95, ty95)]
theorem ty2_ok : TIok Go.Proofs.Try.prog 2 ty2 := ⟨by kernel_rfl, by kernel_rfl, by kernel_rfl, by kernel_rfl, by kernel_rfl, by kernel_rfl, by kernel_rfl, by kernel_rfl⟩
theorem ty3_ok : TIok Go.Proofs.Try.prog 3 ty3 := ⟨by kernel_rfl, by kernel_rfl, by kernel_rfl, by kernel_rfl, by kernel_rfl, by kernel_rfl, by kernel_rfl, by kernel_rfl⟩
theorem ty4_ok : TIok Go.Proofs.Try.prog 4 ty4 := ⟨by kernel_rfl, by kernel_rfl, by kernel_rfl, by kernel_rfl, by kernel_rfl, by kernel_rfl, by kernel_rfl, by kernel_rfl⟩
theorem ty5_ok : TIok Go.Proofs.Try.prog 5 ty5 := ⟨by kernel_rfl, by kernel_rfl, by kernel_rfl, by kernel_rfl, by kernel_rfl, by kernel_rfl, by kernel_rfl, by kernel_rfl⟩
theorem ty23_ok : TIok Go.Proofs.Try.prog 23 ty23 := ⟨by kernel_rfl, by kernel_rfl, by kernel_rfl, by kernel_rfl, by kernel_rfl, by kernel_rfl, by kernel_rfl, by kernel_rfl⟩
theorem ty24_ok : TIok Go.Proofs.Try.prog 24 ty24 := ⟨by kernel_rfl, by kernel_rfl, by kernel_rfl, by kernel_rfl, by kernel_rfl, by kernel_rfl, by kernel_rfl, by kernel_rfl⟩
theorem ty25_ok : TIok Go.Proofs.Try.prog 25 ty25 := ⟨by kernel_rfl, by kernel_rfl, by kernel_rfl, by kernel_rfl, by kernel_rfl, by kernel_rfl, by kernel_rfl, by kernel_rfl⟩
theorem ty27_ok : TIok Go.Proofs.Try.prog 27 ty27 := ⟨by kernel_rfl, by kernel_rfl, by kernel_rfl, by kernel_rfl, by kernel_rfl, by kernel_rfl, by kernel_rfl, by kernel_rfl⟩
theorem ty30_ok : TIok Go.Proofs.Try.prog 30 ty30 := ⟨by kernel_rfl, by kernel_rfl, by kernel_rfl, by kernel_rfl, by kernel_rfl, by kernel_rfl, by kernel_rfl, by kernel_rfl⟩
theorem ty38_ok : TIok Go.Proofs.Try.prog 38 ty38 := ⟨by kernel_rfl, by kernel_rfl, by kernel_rfl, by kernel_rfl, by kernel_rfl, by kernel_rfl, by kernel_rfl, by kernel_rfl⟩
theorem ty40_ok : TIok Go.Proofs.Try.prog 40 ty40 := ⟨by kernel_rfl, by kernel_rfl, by kernel_rfl, by kernel_rfl, by kernel_rfl, by kernel_rfl, by kernel_rfl, by kernel_rfl⟩
theorem ty47_ok : TIok Go.Proofs.Try.prog 47 ty47 := ⟨by kernel_rfl, by kernel_rfl, by kernel_rfl, by kernel_rfl, by kernel_rfl, by kernel_rfl, by kernel_rfl, by kernel_rfl⟩
theorem ty56_ok : TIok Go.Proofs.Try.prog 56 ty56 := ⟨by kernel_rfl, by kernel_rfl, by kernel_rfl, by kernel_rfl, by kernel_rfl, by kernel_rfl, by kernel_rfl, by kernel_rfl⟩
theorem ty65_ok : TIok Go.Proofs.Try.prog 65 ty65 := ⟨by kernel_rfl, by kernel_rfl, by kernel_rfl, by kernel_rfl, by kernel_rfl, by kernel_rfl, by kernel_rfl, by kernel_rfl⟩
theorem ty75_ok : TIok Go.Proofs.Try.prog 75 ty75 := ⟨by kernel_rfl, by kernel_rfl, by kernel_rfl, by kernel_rfl, by kernel_rfl, by kernel_rfl, by kernel_rfl, by kernel_rfl⟩
theorem ty90_ok : TIok Go.Proofs.Try.prog 90 ty90 := ⟨by kernel_rfl, by kernel_rfl, by kernel_rfl, by kernel_rfl, by kernel_rfl, by kernel_rfl, by kernel_rfl, by kernel_rfl⟩
theorem ty95_ok : TIok Go.Proofs.Try.prog 95 ty95 := ⟨by kernel_rfl, by kernel_rfl, by kernel_rfl, by kernel_rfl, by kernel_rfl, by kernel_rfl, by kernel_rfl, by kernel_rfl⟩
theorem tis_ok : TIs Go.Proofs.Try.prog tis := (TIs.cons ty2_ok (TIs.cons ty3_ok (TIs.cons ty4_ok (TIs.cons ty5_ok (TIs.cons ty23_ok (TIs.cons ty24_ok (TIs.cons ty25_ok (TIs.cons ty27_ok (TIs.cons ty30_ok (TIs.cons ty38_ok (TIs.cons ty40_ok (TIs.cons ty47_ok (TIs.cons ty56_ok (TIs.cons ty65_ok (TIs.cons ty75_ok (TIs.cons ty90_ok (TIs.cons ty95_ok (TIs.nil _))))))))))))))))))
theorem orders : Go.Proofs.Try.prog.follows .mixedOrders = true := by kernel_rfl
theorem eq90 : EqOk Go.Proofs.Try.prog 90 [.int .i64, .int .i64] := eqok_of (by kernel_rfl) (by kernel_rfl) (by kernel_rfl) (by kernel_rfl)
/-! f74: adit/fix.turned -/
def f74.L1 (x : Int × Int × Int × Int × Unit) : Option (Int × Int × Unit) :=
 it (X := Int × Int × Int × Int × Unit) (fun rec x =>
 bif Decidable.decide (x.snd.snd.snd.fst < x.snd.snd.fst) then
  bif small x.fst && small x.snd.fst then
   rec (-x.snd.fst, x.fst, x.snd.snd.fst, Go.IntKind.wrap Go.IntKind.i64 (x.snd.snd.snd.fst + 1), ())
  else
   none
 else
  some ((x.fst, x.snd.fst, ()))
 ) (100000000000000000000) (x)
def f74 (a0 : Int) (a1 : Int) (a2 : Int) : Option (Int × Int × Unit) :=
 f74.L1 ((a0, a1, Int.tmod (Go.IntKind.wrap Go.IntKind.i64 (Int.tmod a2 4 + 4)) 4, 0, ()))
def f74.ins : Shape := ⟨[(0, .c (.cint)), (1, .c (.int .i64))], []⟩
def f74.outs : List Shape := [⟨[(0, .c (.cint))], []⟩]
def f74.S : FnSpec := ⟨f74.ins, f74.outs, [], fun x => f74 x.1 x.2.1 x.2.2.1⟩
def f74.E (fuel : Nat) : Env := ⟨tis, [], [], [], [(3, ⟨[(0, .c (.cint)), (8, .c (.int .i64)), (9, .c (.int .i64))], []⟩)], [], 0, [], fuel⟩
theorem f74.run : ∀ x, runFn (f74.E 100000000000000000000) Go.Proofs.Try.f74 ((Go.Proofs.Try.f74.body).getD .skip) f74.S x = f74.S.f x := by intro x; kernel_rfl
theorem f74.sound : Sound Go.Proofs.Try.prog 74 f74.S := sound_of_run (fun _ => f74.E 100000000000000000000) (by kernel_rfl) (by kernel_rfl) (by kernel_rfl) orders (fun _ => ⟨tis_ok, EqsOk.nil _, FnsOk.nil⟩) (fun _ => rfl) (by kernel_rfl) (by kernel_rfl) (fun x r h => (f74.run x).trans h)
/-! f73: adit/fix.plain -/
def f73 (a0 : Int) (a1 : Int) : Option (Int × Int × Unit) :=
 bif small a0 then
  bif small a1 then
   some ((a0, a1, ()))
  else
   none
 else
  none
def f73.ins : Shape := ⟨[(0, .c (.cint))], []⟩
def f73.outs : List Shape := [⟨[(0, .c (.int .i64)), (1, .c (.int .i64))], []⟩]
def f73.S : FnSpec := ⟨f73.ins, f73.outs, [], fun x => f73 x.1 x.2.1⟩
def f73.E (fuel : Nat) : Env := ⟨tis, [], [], [], [], [], 0, [], fuel⟩
theorem f73.run : ∀ x, runFn (f73.E 100000000000000000000) Go.Proofs.Try.f73 ((Go.Proofs.Try.f73.body).getD .skip) f73.S x = f73.S.f x := by intro x; kernel_rfl
theorem f73.sound : Sound Go.Proofs.Try.prog 73 f73.S := sound_of_run (fun _ => f73.E 100000000000000000000) (by kernel_rfl) (by kernel_rfl) (by kernel_rfl) orders (fun _ => ⟨tis_ok, EqsOk.nil _, FnsOk.nil⟩) (fun _ => rfl) (by kernel_rfl) (by kernel_rfl) (fun x r h => (f73.run x).trans h)
/-! f52: adit/fix.Way -/
def f52 (a0 : Int) : Option (Int × Int × Unit) :=
 bif Decidable.decide (a0 < 1) then
  some ((0, 0, ()))
 else
  bif Decidable.decide (a0 > 4) then
   some ((0, 0, ()))
  else
   Option.bind (f74 0 (-1) (Go.IntKind.wrap Go.IntKind.i64 (a0 - 1))) fun y0 =>
    Option.bind (f73 y0.fst y0.snd.fst) fun y1 =>
     some ((y1.fst, y1.snd.fst, ()))
def f52.ins : Shape := ⟨[(0, .c (.int .i64))], []⟩
def f52.outs : List Shape := [⟨[(0, .c (.int .i64)), (1, .c (.int .i64))], []⟩]
def f52.S : FnSpec := ⟨f52.ins, f52.outs, [], fun x => f52 x.1⟩
def f52.E (fuel : Nat) : Env := ⟨tis, [(74, f74.S), (73, f73.S)], [], [], [], [], 0, [], fuel⟩
theorem f52.run : ∀ x, runFn (f52.E 100000000000000000000) Go.Proofs.Try.f52 ((Go.Proofs.Try.f52.body).getD .skip) f52.S x = f52.S.f x := by intro x; kernel_rfl
theorem f52.sound : Sound Go.Proofs.Try.prog 52 f52.S := sound_of_run (fun _ => f52.E 100000000000000000000) (by kernel_rfl) (by kernel_rfl) (by kernel_rfl) orders (fun _ => ⟨tis_ok, EqsOk.nil _, (FnsOk.cons f74.sound (FnsOk.cons f73.sound FnsOk.nil))⟩) (fun _ => rfl) (by kernel_rfl) (by kernel_rfl) (fun x r h => (f52.run x).trans h)
/-! f22: adit/nav.Beside -/
def f22.L1 (x : Int × Int × Int × Int × Int × Unit) : Option (Int × Unit) :=
 it (X := Int × Int × Int × Int × Int × Unit) (fun rec x =>
 bif Decidable.decide (x.snd.snd.snd.snd.fst ≤ 4) then
  Option.bind (f52 x.snd.snd.snd.snd.fst) fun y0 =>
   bif Go.IntKind.wrap Go.IntKind.i64 (x.snd.snd.fst - x.fst) == y0.fst then
    bif Go.IntKind.wrap Go.IntKind.i64 (x.snd.snd.snd.fst - x.snd.fst) == y0.snd.fst then
     some ((x.snd.snd.snd.snd.fst, ()))
    else
     rec (x.fst, x.snd.fst, x.snd.snd.fst, x.snd.snd.snd.fst, Go.IntKind.wrap Go.IntKind.i64 (x.snd.snd.snd.snd.fst + 1), ())
   else
    rec (x.fst, x.snd.fst, x.snd.snd.fst, x.snd.snd.snd.fst, Go.IntKind.wrap Go.IntKind.i64 (x.snd.snd.snd.snd.fst + 1), ())
 else
  some ((0, ()))
 ) (100000000000000000000) (x)
def f22 (a0 : Int) (a1 : Int) (a2 : Int) (a3 : Int) : Option (Int × Unit) :=
 f22.L1 ((a0, a1, a2, a3, 1, ()))
def f22.ins : Shape := ⟨[(0, .c (.int .i64)), (1, .c (.int .i64)), (2, .c (.int .i64)), (3, .c (.int .i64))], []⟩
def f22.outs : List Shape := [⟨[(0, .c (.int .i64))], []⟩]
def f22.S : FnSpec := ⟨f22.ins, f22.outs, [], fun x => f22 x.1 x.2.1 x.2.2.1 x.2.2.2.1⟩
def f22.E (fuel : Nat) : Env := ⟨tis, [(52, f52.S)], [], [], [(3, ⟨[(0, .c (.int .i64)), (1, .c (.int .i64)), (2, .c (.int .i64)), (3, .c (.int .i64)), (9, .c (.int .i64))], []⟩)], [], 0, [], fuel⟩
theorem f22.run : ∀ x, runFn (f22.E 100000000000000000000) Go.Proofs.Try.f22 ((Go.Proofs.Try.f22.body).getD .skip) f22.S x = f22.S.f x := by intro x; kernel_rfl
theorem f22.sound : Sound Go.Proofs.Try.prog 22 f22.S := sound_of_run (fun _ => f22.E 100000000000000000000) (by kernel_rfl) (by kernel_rfl) (by kernel_rfl) orders (fun _ => ⟨tis_ok, EqsOk.nil _, (FnsOk.cons f52.sound FnsOk.nil)⟩) (fun _ => rfl) (by kernel_rfl) (by kernel_rfl) (fun x r h => (f22.run x).trans h)
/-! f10: adit/aditlaw6.known -/
def f10 : Option (Bool × Unit) :=
 Option.bind (f22 3 3 4 3) fun y0 =>
  bif y0.fst == 2 then
   Option.bind (f22 3 3 5 3) fun y1 =>
    some ((y1.fst == 0, ()))
  else
   some ((Bool.false, ()))
def f10.ins : Shape := ⟨[], []⟩
def f10.outs : List Shape := [⟨[(0, .c (.bool))], []⟩]
def f10.S : FnSpec := ⟨f10.ins, f10.outs, [], fun _ => f10⟩
def f10.E (fuel : Nat) : Env := ⟨tis, [(22, f22.S)], [], [], [], [], 0, [], fuel⟩
theorem f10.run : ∀ x, runFn (f10.E 100000000000000000000) Go.Proofs.Try.f10 ((Go.Proofs.Try.f10.body).getD .skip) f10.S x = f10.S.f x := by intro x; kernel_rfl
theorem f10.sound : Sound Go.Proofs.Try.prog 10 f10.S := sound_of_run (fun _ => f10.E 100000000000000000000) (by kernel_rfl) (by kernel_rfl) (by kernel_rfl) orders (fun _ => ⟨tis_ok, EqsOk.nil _, (FnsOk.cons f22.sound FnsOk.nil)⟩) (fun _ => rfl) (by kernel_rfl) (by kernel_rfl) (fun x r h => (f10.run x).trans h)
/-! f12: adit/aditlaw6.within -/
def f12 (a0 : Int) (a1 : Int) : Option (Int × Unit) :=
 bif Decidable.decide (a1 = 0) then
  none
 else
  Option.bind (α := Int × Unit ⊕ Int × Unit) (
   bif Decidable.decide (Int.tmod a0 a1 < 0) then
    some (Sum.inl (Go.IntKind.wrap Go.IntKind.i64 (Int.tmod a0 a1 + a1), ()))
   else
    some (Sum.inl (Int.tmod a0 a1, ()))
  ) fun y0 =>
   Sum.elim (fun y1 =>
    some ((y1.fst, ()))
   ) (fun z2 =>
    some (z2)
   ) (y0)
def f12.ins : Shape := ⟨[(0, .c (.int .i64)), (1, .c (.int .i64))], []⟩
def f12.outs : List Shape := [⟨[(0, .c (.int .i64))], []⟩]
def f12.S : FnSpec := ⟨f12.ins, f12.outs, [], fun x => f12 x.1 x.2.1⟩
def f12.E (fuel : Nat) : Env := ⟨tis, [], [], [(5, ⟨[(5, .c (.int .i64))], []⟩)], [], [], 0, [], fuel⟩
theorem f12.run : ∀ x, runFn (f12.E 100000000000000000000) Go.Proofs.Try.f12 ((Go.Proofs.Try.f12.body).getD .skip) f12.S x = f12.S.f x := by intro x; kernel_rfl
theorem f12.sound : Sound Go.Proofs.Try.prog 12 f12.S := sound_of_run (fun _ => f12.E 100000000000000000000) (by kernel_rfl) (by kernel_rfl) (by kernel_rfl) orders (fun _ => ⟨tis_ok, EqsOk.nil _, FnsOk.nil⟩) (fun _ => rfl) (by kernel_rfl) (by kernel_rfl) (fun x r h => (f12.run x).trans h)
/-! f86: adit/aditref2.m -/
def f86 (a0 : Int) : Option (Int × Unit) :=
 some ((Go.IntKind.wrap Go.IntKind.u64 (↑(BitVec.toNat (BitVec.ofInt (Go.IntKind.bits Go.IntKind.u64) (Go.IntKind.wrap Go.IntKind.u64 (Go.IntKind.wrap Go.IntKind.u64 (↑(BitVec.toNat (BitVec.ofInt (Go.IntKind.bits Go.IntKind.u64) (Go.IntKind.wrap Go.IntKind.u64 (Go.IntKind.wrap Go.IntKind.u64 (↑(BitVec.toNat (BitVec.ofInt (Go.IntKind.bits Go.IntKind.u64) a0 ^^^ BitVec.ofInt (Go.IntKind.bits Go.IntKind.u64) (Int.fdiv a0 (2 ^ Min.min 30 (Go.IntKind.bits Go.IntKind.u64))))) : Int) * 13787848793156543929)) ^^^ BitVec.ofInt (Go.IntKind.bits Go.IntKind.u64) (Int.fdiv (Go.IntKind.wrap Go.IntKind.u64 (Go.IntKind.wrap Go.IntKind.u64 (↑(BitVec.toNat (BitVec.ofInt (Go.IntKind.bits Go.IntKind.u64) a0 ^^^ BitVec.ofInt (Go.IntKind.bits Go.IntKind.u64) (Int.fdiv a0 (2 ^ Min.min 30 (Go.IntKind.bits Go.IntKind.u64))))) : Int) * 13787848793156543929)) (2 ^ Min.min 27 (Go.IntKind.bits Go.IntKind.u64))))) : Int) * 10723151780598845931)) ^^^ BitVec.ofInt (Go.IntKind.bits Go.IntKind.u64) (Int.fdiv (Go.IntKind.wrap Go.IntKind.u64 (Go.IntKind.wrap Go.IntKind.u64 (↑(BitVec.toNat (BitVec.ofInt (Go.IntKind.bits Go.IntKind.u64) (Go.IntKind.wrap Go.IntKind.u64 (Go.IntKind.wrap Go.IntKind.u64 (↑(BitVec.toNat (BitVec.ofInt (Go.IntKind.bits Go.IntKind.u64) a0 ^^^ BitVec.ofInt (Go.IntKind.bits Go.IntKind.u64) (Int.fdiv a0 (2 ^ Min.min 30 (Go.IntKind.bits Go.IntKind.u64))))) : Int) * 13787848793156543929)) ^^^ BitVec.ofInt (Go.IntKind.bits Go.IntKind.u64) (Int.fdiv (Go.IntKind.wrap Go.IntKind.u64 (Go.IntKind.wrap Go.IntKind.u64 (↑(BitVec.toNat (BitVec.ofInt (Go.IntKind.bits Go.IntKind.u64) a0 ^^^ BitVec.ofInt (Go.IntKind.bits Go.IntKind.u64) (Int.fdiv a0 (2 ^ Min.min 30 (Go.IntKind.bits Go.IntKind.u64))))) : Int) * 13787848793156543929)) (2 ^ Min.min 27 (Go.IntKind.bits Go.IntKind.u64))))) : Int) * 10723151780598845931)) (2 ^ Min.min 31 (Go.IntKind.bits Go.IntKind.u64))))) : Int), ()))
def f86.ins : Shape := ⟨[(0, .c (.int .u64))], []⟩
def f86.outs : List Shape := [⟨[(0, .c (.int .u64))], []⟩]
def f86.S : FnSpec := ⟨f86.ins, f86.outs, [], fun x => f86 x.1⟩
def f86.E (fuel : Nat) : Env := ⟨tis, [], [], [], [], [], 0, [], fuel⟩
theorem f86.run : ∀ x, runFn (f86.E 100000000000000000000) Go.Proofs.Try.f86 ((Go.Proofs.Try.f86.body).getD .skip) f86.S x = f86.S.f x := by intro x; kernel_rfl
theorem f86.sound : Sound Go.Proofs.Try.prog 86 f86.S := sound_of_run (fun _ => f86.E 100000000000000000000) (by kernel_rfl) (by kernel_rfl) (by kernel_rfl) orders (fun _ => ⟨tis_ok, EqsOk.nil _, FnsOk.nil⟩) (fun _ => rfl) (by kernel_rfl) (by kernel_rfl) (fun x r h => (f86.run x).trans h)
/-! f80: adit/aditref2.Mix -/
def f80.L1 (x : List Int × Int × Int × Unit) : Option (Int × Unit) :=
 it (X := List Int × Int × Int × Unit) (fun rec x =>
 bif Decidable.decide (x.snd.snd.fst < (↑(List.length x.fst) : Int)) then
  bif inRange x.snd.snd.fst (List.length x.fst) then
   Option.bind (f86 (Go.IntKind.wrap Go.IntKind.u64 (Go.IntKind.wrap Go.IntKind.u64 (↑(BitVec.toNat (BitVec.ofInt (Go.IntKind.bits Go.IntKind.u64) x.snd.fst ^^^ BitVec.ofInt (Go.IntKind.bits Go.IntKind.u64) (Go.IntKind.wrap Go.IntKind.u64 (List.getD x.fst (Int.toNat x.snd.snd.fst) 0)))) : Int) + 11400714819323198485))) fun y0 =>
    rec (x.fst, y0.fst, Go.IntKind.wrap Go.IntKind.i64 (x.snd.snd.fst + 1), ())
  else
   none
 else
  some ((x.snd.fst, ()))
 ) (100000000000000000000) (x)
def f80 (a0 : Int) (a1 : List Int) : Option (Int × Unit) :=
 Option.bind (f86 (Go.IntKind.wrap Go.IntKind.u64 (Go.IntKind.wrap Go.IntKind.u64 a0 + 11400714819323198485))) fun y0 =>
  f80.L1 ((a1, y0.fst, 0, ()))
def f80.ins : Shape := ⟨[(0, .c (.int .i64)), (1, .c (.row (.int .i64)))], []⟩
def f80.outs : List Shape := [⟨[(0, .c (.int .u64))], []⟩]
def f80.S : FnSpec := ⟨f80.ins, f80.outs, [], fun x => f80 x.1 x.2.1⟩
def f80.E (fuel : Nat) : Env := ⟨tis, [(86, f86.S)], [], [], [(4, ⟨[(1, .c (.row (.int .i64))), (5, .c (.int .u64)), (6, .c (.int .i64))], []⟩)], [], 0, [], fuel⟩
theorem f80.run : ∀ x, runFn (f80.E 100000000000000000000) Go.Proofs.Try.f80 ((Go.Proofs.Try.f80.body).getD .skip) f80.S x = f80.S.f x := by intro x; kernel_rfl
theorem f80.sound : Sound Go.Proofs.Try.prog 80 f80.S := sound_of_run (fun _ => f80.E 100000000000000000000) (by kernel_rfl) (by kernel_rfl) (by kernel_rfl) orders (fun _ => ⟨tis_ok, EqsOk.nil _, (FnsOk.cons f86.sound FnsOk.nil)⟩) (fun _ => rfl) (by kernel_rfl) (by kernel_rfl) (fun x r h => (f80.run x).trans h)
/-! f62: adit/aditref2.Die -/
def f62 (a0 : Int) (a1 : Int) (a2 : List Int) : Option (Int × Unit) :=
 bif Decidable.decide (a0 < 1) then
  some ((0, ()))
 else
  Option.bind (f80 a1 a2) fun y0 =>
   bif Decidable.decide (Go.IntKind.wrap Go.IntKind.u64 a0 = 0) then
    none
   else
    some ((Go.IntKind.wrap Go.IntKind.i64 (Int.tmod y0.fst (Go.IntKind.wrap Go.IntKind.u64 a0)), ()))
def f62.ins : Shape := ⟨[(0, .c (.int .i64)), (1, .c (.int .i64)), (2, .c (.row (.int .i64)))], []⟩
def f62.outs : List Shape := [⟨[(0, .c (.int .i64))], []⟩]
def f62.S : FnSpec := ⟨f62.ins, f62.outs, [], fun x => f62 x.1 x.2.1 x.2.2.1⟩
def f62.E (fuel : Nat) : Env := ⟨tis, [(80, f80.S)], [], [], [], [], 0, [], fuel⟩
theorem f62.run : ∀ x, runFn (f62.E 100000000000000000000) Go.Proofs.Try.f62 ((Go.Proofs.Try.f62.body).getD .skip) f62.S x = f62.S.f x := by intro x; kernel_rfl
theorem f62.sound : Sound Go.Proofs.Try.prog 62 f62.S := sound_of_run (fun _ => f62.E 100000000000000000000) (by kernel_rfl) (by kernel_rfl) (by kernel_rfl) orders (fun _ => ⟨tis_ok, EqsOk.nil _, (FnsOk.cons f80.sound FnsOk.nil)⟩) (fun _ => rfl) (by kernel_rfl) (by kernel_rfl) (fun x r h => (f62.run x).trans h)
/-! f40: adit/aditref4.d -/
def f40 (a0 : Int) (a1 : Int) (a2 : Int) (a3 : Int) (a4 : Int) : Option (Int × Unit) :=
 Option.bind (f62 a4 a0 [a1, a2, a3]) fun y0 =>
  some ((y0.fst, ()))
def f40.ins : Shape := ⟨[(0, .c (.int .i64)), (1, .c (.int .i64)), (2, .c (.int .i64)), (3, .c (.int .i64)), (4, .c (.int .i64))], []⟩
def f40.outs : List Shape := [⟨[(0, .c (.int .i64))], []⟩]
def f40.S : FnSpec := ⟨f40.ins, f40.outs, [], fun x => f40 x.1 x.2.1 x.2.2.1 x.2.2.2.1 x.2.2.2.2.1⟩
def f40.E (fuel : Nat) : Env := ⟨tis, [(62, f62.S)], [], [], [], [], 0, [], fuel⟩
theorem f40.run : ∀ x, runFn (f40.E 100000000000000000000) Go.Proofs.Try.f40 ((Go.Proofs.Try.f40.body).getD .skip) f40.S x = f40.S.f x := by intro x; kernel_rfl
theorem f40.sound : Sound Go.Proofs.Try.prog 40 f40.S := sound_of_run (fun _ => f40.E 100000000000000000000) (by kernel_rfl) (by kernel_rfl) (by kernel_rfl) orders (fun _ => ⟨tis_ok, EqsOk.nil _, (FnsOk.cons f62.sound FnsOk.nil)⟩) (fun _ => rfl) (by kernel_rfl) (by kernel_rfl) (fun x r h => (f40.run x).trans h)
/-! f41: adit/aditref4.dig -/
def f41 (a0 : Int) (a1 : Int) (a2 : Bool) (a3 : List Int) : Option (Bool × List Int × Unit) :=
 bif inRange (Go.IntKind.wrap Go.IntKind.i64 (Go.IntKind.wrap Go.IntKind.i64 (a1 * 24) + a0)) (List.length a3) then
  bif List.getD a3 (Int.toNat (Go.IntKind.wrap Go.IntKind.i64 (Go.IntKind.wrap Go.IntKind.i64 (a1 * 24) + a0))) 0 != 0 then
   some ((a2, a3, ()))
  else
   bif inRange (Go.IntKind.wrap Go.IntKind.i64 (Go.IntKind.wrap Go.IntKind.i64 (a1 * 24) + a0)) (List.length a3) then
    bif !a2 then
     bif inRange (Go.IntKind.wrap Go.IntKind.i64 (Go.IntKind.wrap Go.IntKind.i64 (a1 * 24) + a0)) (List.length (List.set a3 (Int.toNat (Go.IntKind.wrap Go.IntKind.i64 (Go.IntKind.wrap Go.IntKind.i64 (a1 * 24) + a0))) 1)) then
      some ((Bool.true, List.set (List.set a3 (Int.toNat (Go.IntKind.wrap Go.IntKind.i64 (Go.IntKind.wrap Go.IntKind.i64 (a1 * 24) + a0))) 1) (Int.toNat (Go.IntKind.wrap Go.IntKind.i64 (Go.IntKind.wrap Go.IntKind.i64 (a1 * 24) + a0))) 2, ()))
     else
      none
    else
     some ((Bool.true, List.set a3 (Int.toNat (Go.IntKind.wrap Go.IntKind.i64 (Go.IntKind.wrap Go.IntKind.i64 (a1 * 24) + a0))) 1, ()))
   else
    none
 else
  none
def f41.ins : Shape := ⟨[(0, .c (.own 0)), (1, .c (.int .i64)), (2, .c (.int .i64)), (3, .c (.bool))], [(0, .arr (.int .u8))]⟩
def f41.outs : List Shape := [⟨[(0, .c (.bool))], [(0, .arr (.int .u8))]⟩]
def f41.S : FnSpec := ⟨f41.ins, f41.outs, [0], fun x => f41 x.1 x.2.1 x.2.2.1 x.2.2.2.1⟩
def f41.E (fuel : Nat) : Env := ⟨tis, [], [], [], [], [], 1, [0], fuel⟩
theorem f41.run : ∀ x, runFn (f41.E 100000000000000000000) Go.Proofs.Try.f41 ((Go.Proofs.Try.f41.body).getD .skip) f41.S x = f41.S.f x := by intro x; kernel_rfl
theorem f41.sound : Sound Go.Proofs.Try.prog 41 f41.S := sound_of_run (fun _ => f41.E 100000000000000000000) (by kernel_rfl) (by kernel_rfl) (by kernel_rfl) orders (fun _ => ⟨tis_ok, EqsOk.nil _, FnsOk.nil⟩) (fun _ => rfl) (by kernel_rfl) (by kernel_rfl) (fun x r h => (f41.run x).trans h)
/-! f42: adit/aditref4.toward -/
def f42 (a0 : Int) (a1 : Int) : Option (Int × Unit) :=
 bif Decidable.decide (a0 < a1) then
  some ((Go.IntKind.wrap Go.IntKind.i64 (a0 + 1), ()))
 else
  some ((Go.IntKind.wrap Go.IntKind.i64 (a0 - 1), ()))
def f42.ins : Shape := ⟨[(0, .c (.int .i64)), (1, .c (.int .i64))], []⟩
def f42.outs : List Shape := [⟨[(0, .c (.int .i64))], []⟩]
def f42.S : FnSpec := ⟨f42.ins, f42.outs, [], fun x => f42 x.1 x.2.1⟩
def f42.E (fuel : Nat) : Env := ⟨tis, [], [], [], [], [], 0, [], fuel⟩
theorem f42.run : ∀ x, runFn (f42.E 100000000000000000000) Go.Proofs.Try.f42 ((Go.Proofs.Try.f42.body).getD .skip) f42.S x = f42.S.f x := by intro x; kernel_rfl
theorem f42.sound : Sound Go.Proofs.Try.prog 42 f42.S := sound_of_run (fun _ => f42.E 100000000000000000000) (by kernel_rfl) (by kernel_rfl) (by kernel_rfl) orders (fun _ => ⟨tis_ok, EqsOk.nil _, FnsOk.nil⟩) (fun _ => rfl) (by kernel_rfl) (by kernel_rfl) (fun x r h => (f42.run x).trans h)
/-! f45: adit/aditref3.In -/
def f45 (a0 : Int) (a1 : Int) : Option (Bool × Unit) :=
 bif Decidable.decide (a0 ≥ 0) then
  bif Decidable.decide (a0 < 24) then
   bif Decidable.decide (a1 ≥ 0) then
    some ((Decidable.decide (a1 < 16), ()))
   else
    some ((Bool.false, ()))
  else
   some ((Bool.false, ()))
 else
  some ((Bool.false, ()))
def f45.ins : Shape := ⟨[(0, .c (.int .i64)), (1, .c (.int .i64))], []⟩
def f45.outs : List Shape := [⟨[(0, .c (.bool))], []⟩]
def f45.S : FnSpec := ⟨f45.ins, f45.outs, [], fun x => f45 x.1 x.2.1⟩
def f45.E (fuel : Nat) : Env := ⟨tis, [], [], [], [], [], 0, [], fuel⟩
theorem f45.run : ∀ x, runFn (f45.E 100000000000000000000) Go.Proofs.Try.f45 ((Go.Proofs.Try.f45.body).getD .skip) f45.S x = f45.S.f x := by intro x; kernel_rfl
theorem f45.sound : Sound Go.Proofs.Try.prog 45 f45.S := sound_of_run (fun _ => f45.E 100000000000000000000) (by kernel_rfl) (by kernel_rfl) (by kernel_rfl) orders (fun _ => ⟨tis_ok, EqsOk.nil _, FnsOk.nil⟩) (fun _ => rfl) (by kernel_rfl) (by kernel_rfl) (fun x r h => (f45.run x).trans h)
/-! f44: adit/aditref3.At -/
def f44 (a0 : List Int) (a1 : Int) (a2 : Int) : Option (Int × Unit) :=
 Option.bind (f45 a1 a2) fun y0 =>
  bif !y0.fst then
   some ((0, ()))
  else
   bif Decidable.decide (Go.IntKind.wrap Go.IntKind.i64 (Go.IntKind.wrap Go.IntKind.i64 (a2 * 24) + a1) ≥ (↑(List.length a0) : Int)) then
    some ((0, ()))
   else
    bif inRange (Go.IntKind.wrap Go.IntKind.i64 (Go.IntKind.wrap Go.IntKind.i64 (a2 * 24) + a1)) (List.length a0) then
     some ((Go.IntKind.wrap Go.IntKind.i64 (List.getD a0 (Int.toNat (Go.IntKind.wrap Go.IntKind.i64 (Go.IntKind.wrap Go.IntKind.i64 (a2 * 24) + a1))) 0), ()))
    else
     none
def f44.ins : Shape := ⟨[(0, .c (.row (.int .u8))), (1, .c (.int .i64)), (2, .c (.int .i64))], []⟩
def f44.outs : List Shape := [⟨[(0, .c (.int .i64))], []⟩]
def f44.S : FnSpec := ⟨f44.ins, f44.outs, [], fun x => f44 x.1 x.2.1 x.2.2.1⟩
def f44.E (fuel : Nat) : Env := ⟨tis, [(45, f45.S)], [], [], [], [], 0, [], fuel⟩
theorem f44.run : ∀ x, runFn (f44.E 100000000000000000000) Go.Proofs.Try.f44 ((Go.Proofs.Try.f44.body).getD .skip) f44.S x = f44.S.f x := by intro x; kernel_rfl
theorem f44.sound : Sound Go.Proofs.Try.prog 44 f44.S := sound_of_run (fun _ => f44.E 100000000000000000000) (by kernel_rfl) (by kernel_rfl) (by kernel_rfl) orders (fun _ => ⟨tis_ok, EqsOk.nil _, (FnsOk.cons f45.sound FnsOk.nil)⟩) (fun _ => rfl) (by kernel_rfl) (by kernel_rfl) (fun x r h => (f44.run x).trans h)
/-! f13: adit/aditref3.Walk -/
def f13 (a0 : Int) : Option (Bool × Unit) :=
 bif Decidable.decide (a0 ≥ 1) then
  some ((Decidable.decide (a0 ≤ 5), ()))
 else
  some ((Bool.false, ()))
def f13.ins : Shape := ⟨[(0, .c (.int .i64))], []⟩
def f13.outs : List Shape := [⟨[(0, .c (.bool))], []⟩]
def f13.S : FnSpec := ⟨f13.ins, f13.outs, [], fun x => f13 x.1⟩
def f13.E (fuel : Nat) : Env := ⟨tis, [], [], [], [], [], 0, [], fuel⟩
theorem f13.run : ∀ x, runFn (f13.E 100000000000000000000) Go.Proofs.Try.f13 ((Go.Proofs.Try.f13.body).getD .skip) f13.S x = f13.S.f x := by intro x; kernel_rfl
theorem f13.sound : Sound Go.Proofs.Try.prog 13 f13.S := sound_of_run (fun _ => f13.E 100000000000000000000) (by kernel_rfl) (by kernel_rfl) (by kernel_rfl) orders (fun _ => ⟨tis_ok, EqsOk.nil _, FnsOk.nil⟩) (fun _ => rfl) (by kernel_rfl) (by kernel_rfl) (fun x r h => (f13.run x).trans h)
/-! f14: adit/aditref3.Field -/
def f14.L1 (k0 : List Int × List Bool × Int × List Int × List Int × Unit → Option (List Int × Unit)) (x : List Int × List Bool × Int × Int × Int × List Int × List Int × Unit) : Option (List Int × Unit) :=
 it (X := List Int × List Bool × Int × Int × Int × List Int × List Int × Unit) (fun rec x =>
 bif Decidable.decide (x.snd.snd.snd.snd.fst < 4) then
  Option.bind (α := List Int × List Bool × Int × Int × Int × Int × Int × List Int × List Int × Unit ⊕ List Int × Unit) (
   bif x.snd.snd.snd.snd.fst == 0 then
    some (Sum.inl (x.fst, x.snd.fst, x.snd.snd.fst, x.snd.snd.snd.fst, x.snd.snd.snd.snd.fst, Int.tmod x.snd.snd.snd.fst 24, Go.IntKind.wrap Go.IntKind.i64 (Go.IntKind.wrap Go.IntKind.i64 (Int.tdiv x.snd.snd.snd.fst 24) - 1), x.snd.snd.snd.snd.snd.fst, x.snd.snd.snd.snd.snd.snd.fst, ()))
   else
    bif x.snd.snd.snd.snd.fst == 1 then
     some (Sum.inl (x.fst, x.snd.fst, x.snd.snd.fst, x.snd.snd.snd.fst, x.snd.snd.snd.snd.fst, Go.IntKind.wrap Go.IntKind.i64 (Int.tmod x.snd.snd.snd.fst 24 + 1), Go.IntKind.wrap Go.IntKind.i64 (Int.tdiv x.snd.snd.snd.fst 24), x.snd.snd.snd.snd.snd.fst, x.snd.snd.snd.snd.snd.snd.fst, ()))
    else
     bif x.snd.snd.snd.snd.fst == 2 then
      some (Sum.inl (x.fst, x.snd.fst, x.snd.snd.fst, x.snd.snd.snd.fst, x.snd.snd.snd.snd.fst, Int.tmod x.snd.snd.snd.fst 24, Go.IntKind.wrap Go.IntKind.i64 (Go.IntKind.wrap Go.IntKind.i64 (Int.tdiv x.snd.snd.snd.fst 24) + 1), x.snd.snd.snd.snd.snd.fst, x.snd.snd.snd.snd.snd.snd.fst, ()))
     else
      bif x.snd.snd.snd.snd.fst == 3 then
       some (Sum.inl (x.fst, x.snd.fst, x.snd.snd.fst, x.snd.snd.snd.fst, x.snd.snd.snd.snd.fst, Go.IntKind.wrap Go.IntKind.i64 (Int.tmod x.snd.snd.snd.fst 24 - 1), Go.IntKind.wrap Go.IntKind.i64 (Int.tdiv x.snd.snd.snd.fst 24), x.snd.snd.snd.snd.snd.fst, x.snd.snd.snd.snd.snd.snd.fst, ()))
      else
       some (Sum.inl (x.fst, x.snd.fst, x.snd.snd.fst, x.snd.snd.snd.fst, x.snd.snd.snd.snd.fst, Int.tmod x.snd.snd.snd.fst 24, Go.IntKind.wrap Go.IntKind.i64 (Int.tdiv x.snd.snd.snd.fst 24), x.snd.snd.snd.snd.snd.fst, x.snd.snd.snd.snd.snd.snd.fst, ()))
  ) fun y0 =>
   Sum.elim (fun y1 =>
    Option.bind (f45 y1.snd.snd.snd.snd.snd.fst y1.snd.snd.snd.snd.snd.snd.fst) fun y2 =>
     bif y2.fst then
      bif inRange (Go.IntKind.wrap Go.IntKind.i64 (Go.IntKind.wrap Go.IntKind.i64 (y1.snd.snd.snd.snd.snd.snd.fst * 24) + y1.snd.snd.snd.snd.snd.fst)) (List.length y1.snd.snd.snd.snd.snd.snd.snd.fst) then
       bif Decidable.decide (List.getD y1.snd.snd.snd.snd.snd.snd.snd.fst (Int.toNat (Go.IntKind.wrap Go.IntKind.i64 (Go.IntKind.wrap Go.IntKind.i64 (y1.snd.snd.snd.snd.snd.snd.fst * 24) + y1.snd.snd.snd.snd.snd.fst))) 0 < 0) then
        Option.bind (f44 y1.fst y1.snd.snd.snd.snd.snd.fst y1.snd.snd.snd.snd.snd.snd.fst) fun y3 =>
         Option.bind (f13 y3.fst) fun y4 =>
          bif y4.fst then
           bif Decidable.decide (Go.IntKind.wrap Go.IntKind.i64 (Go.IntKind.wrap Go.IntKind.i64 (y1.snd.snd.snd.snd.snd.snd.fst * 24) + y1.snd.snd.snd.snd.snd.fst) ≥ (↑(List.length y1.snd.fst) : Int)) then
            bif inRange y1.snd.snd.snd.fst (List.length y1.snd.snd.snd.snd.snd.snd.snd.fst) then
             bif inRange (Go.IntKind.wrap Go.IntKind.i64 (Go.IntKind.wrap Go.IntKind.i64 (y1.snd.snd.snd.snd.snd.snd.fst * 24) + y1.snd.snd.snd.snd.snd.fst)) (List.length y1.snd.snd.snd.snd.snd.snd.snd.fst) then
              bif Decidable.decide (List.length y1.snd.snd.snd.snd.snd.snd.snd.snd.fst + 1 ≤ limit 8) then
               rec (y1.fst, y1.snd.fst, y1.snd.snd.fst, y1.snd.snd.snd.fst, Go.IntKind.wrap Go.IntKind.i64 (y1.snd.snd.snd.snd.fst + 1), List.set y1.snd.snd.snd.snd.snd.snd.snd.fst (Int.toNat (Go.IntKind.wrap Go.IntKind.i64 (Go.IntKind.wrap Go.IntKind.i64 (y1.snd.snd.snd.snd.snd.snd.fst * 24) + y1.snd.snd.snd.snd.snd.fst))) (Go.IntKind.wrap Go.IntKind.i64 (List.getD y1.snd.snd.snd.snd.snd.snd.snd.fst (Int.toNat y1.snd.snd.snd.fst) 0 + 1)), y1.snd.snd.snd.snd.snd.snd.snd.snd.fst ++ [Go.IntKind.wrap Go.IntKind.i64 (Go.IntKind.wrap Go.IntKind.i64 (y1.snd.snd.snd.snd.snd.snd.fst * 24) + y1.snd.snd.snd.snd.snd.fst)], ())
              else
               none
             else
              none
            else
             none
           else
            bif inRange (Go.IntKind.wrap Go.IntKind.i64 (Go.IntKind.wrap Go.IntKind.i64 (y1.snd.snd.snd.snd.snd.snd.fst * 24) + y1.snd.snd.snd.snd.snd.fst)) (List.length y1.snd.fst) then
             bif !List.getD y1.snd.fst (Int.toNat (Go.IntKind.wrap Go.IntKind.i64 (Go.IntKind.wrap Go.IntKind.i64 (y1.snd.snd.snd.snd.snd.snd.fst * 24) + y1.snd.snd.snd.snd.snd.fst))) Bool.false then
              bif inRange y1.snd.snd.snd.fst (List.length y1.snd.snd.snd.snd.snd.snd.snd.fst) then
               bif inRange (Go.IntKind.wrap Go.IntKind.i64 (Go.IntKind.wrap Go.IntKind.i64 (y1.snd.snd.snd.snd.snd.snd.fst * 24) + y1.snd.snd.snd.snd.snd.fst)) (List.length y1.snd.snd.snd.snd.snd.snd.snd.fst) then
                bif Decidable.decide (List.length y1.snd.snd.snd.snd.snd.snd.snd.snd.fst + 1 ≤ limit 8) then
                 rec (y1.fst, y1.snd.fst, y1.snd.snd.fst, y1.snd.snd.snd.fst, Go.IntKind.wrap Go.IntKind.i64 (y1.snd.snd.snd.snd.fst + 1), List.set y1.snd.snd.snd.snd.snd.snd.snd.fst (Int.toNat (Go.IntKind.wrap Go.IntKind.i64 (Go.IntKind.wrap Go.IntKind.i64 (y1.snd.snd.snd.snd.snd.snd.fst * 24) + y1.snd.snd.snd.snd.snd.fst))) (Go.IntKind.wrap Go.IntKind.i64 (List.getD y1.snd.snd.snd.snd.snd.snd.snd.fst (Int.toNat y1.snd.snd.snd.fst) 0 + 1)), y1.snd.snd.snd.snd.snd.snd.snd.snd.fst ++ [Go.IntKind.wrap Go.IntKind.i64 (Go.IntKind.wrap Go.IntKind.i64 (y1.snd.snd.snd.snd.snd.snd.fst * 24) + y1.snd.snd.snd.snd.snd.fst)], ())
                else
                 none
               else
                none
              else
               none
             else
              rec (y1.fst, y1.snd.fst, y1.snd.snd.fst, y1.snd.snd.snd.fst, Go.IntKind.wrap Go.IntKind.i64 (y1.snd.snd.snd.snd.fst + 1), y1.snd.snd.snd.snd.snd.snd.snd.fst, y1.snd.snd.snd.snd.snd.snd.snd.snd.fst, ())
            else
             none
          else
           rec (y1.fst, y1.snd.fst, y1.snd.snd.fst, y1.snd.snd.snd.fst, Go.IntKind.wrap Go.IntKind.i64 (y1.snd.snd.snd.snd.fst + 1), y1.snd.snd.snd.snd.snd.snd.snd.fst, y1.snd.snd.snd.snd.snd.snd.snd.snd.fst, ())
       else
        rec (y1.fst, y1.snd.fst, y1.snd.snd.fst, y1.snd.snd.snd.fst, Go.IntKind.wrap Go.IntKind.i64 (y1.snd.snd.snd.snd.fst + 1), y1.snd.snd.snd.snd.snd.snd.snd.fst, y1.snd.snd.snd.snd.snd.snd.snd.snd.fst, ())
      else
       none
     else
      rec (y1.fst, y1.snd.fst, y1.snd.snd.fst, y1.snd.snd.snd.fst, Go.IntKind.wrap Go.IntKind.i64 (y1.snd.snd.snd.snd.fst + 1), y1.snd.snd.snd.snd.snd.snd.snd.fst, y1.snd.snd.snd.snd.snd.snd.snd.snd.fst, ())
   ) (fun z5 =>
    some (z5)
   ) (y0)
 else
  k0 (x.fst, x.snd.fst, Go.IntKind.wrap Go.IntKind.i64 (x.snd.snd.fst + 1), x.snd.snd.snd.snd.snd.fst, x.snd.snd.snd.snd.snd.snd.fst, ())
 ) (100000000000000000000) (x)
def f14.L2 (x : List Int × List Bool × Int × List Int × List Int × Unit) : Option (List Int × Unit) :=
 it (X := List Int × List Bool × Int × List Int × List Int × Unit) (fun rec x =>
 bif Decidable.decide (x.snd.snd.fst < (↑(List.length x.snd.snd.snd.snd.fst) : Int)) then
  bif inRange x.snd.snd.fst (List.length x.snd.snd.snd.snd.fst) then
   f14.L1 rec ((x.fst, x.snd.fst, x.snd.snd.fst, List.getD x.snd.snd.snd.snd.fst (Int.toNat x.snd.snd.fst) 0, 0, x.snd.snd.snd.fst, x.snd.snd.snd.snd.fst, ()))
  else
   none
 else
  some ((x.snd.snd.snd.fst, ()))
 ) (100000000000000000000) (x)
def f14.L3 (x : List Int × List Bool × Int × List Int × List Int × Unit) : Option (List Int × Unit) :=
 it (X := List Int × List Bool × Int × List Int × List Int × Unit) (fun rec x =>
 bif Decidable.decide (x.snd.snd.fst < 384) then
  bif inRange x.snd.snd.fst (List.length x.snd.snd.snd.fst) then
   bif List.getD x.snd.snd.snd.fst (Int.toNat x.snd.snd.fst) 0 == 0 then
    bif Decidable.decide (List.length x.snd.snd.snd.snd.fst + 1 ≤ limit 8) then
     rec (x.fst, x.snd.fst, Go.IntKind.wrap Go.IntKind.i64 (x.snd.snd.fst + 1), x.snd.snd.snd.fst, x.snd.snd.snd.snd.fst ++ [x.snd.snd.fst], ())
    else
     none
   else
    rec (x.fst, x.snd.fst, Go.IntKind.wrap Go.IntKind.i64 (x.snd.snd.fst + 1), x.snd.snd.snd.fst, x.snd.snd.snd.snd.fst, ())
  else
   none
 else
  f14.L2 ((x.fst, x.snd.fst, 0, x.snd.snd.snd.fst, x.snd.snd.snd.snd.fst, ()))
 ) (100000000000000000000) (x)
def f14.L4 (x : List Int × List Bool × List Int × Int × List Int × Unit) : Option (List Int × Unit) :=
 it (X := List Int × List Bool × List Int × Int × List Int × Unit) (fun rec x =>
 bif Decidable.decide (x.snd.snd.snd.fst < (↑(List.length x.snd.snd.fst) : Int)) then
  bif inRange x.snd.snd.snd.fst (List.length x.snd.snd.fst) then
   bif Decidable.decide (List.getD x.snd.snd.fst (Int.toNat x.snd.snd.snd.fst) 0 ≥ 0) then
    bif Decidable.decide (List.getD x.snd.snd.fst (Int.toNat x.snd.snd.snd.fst) 0 < 384) then
     Option.bind (f44 x.fst (Int.tmod (List.getD x.snd.snd.fst (Int.toNat x.snd.snd.snd.fst) 0) 24) (Go.IntKind.wrap Go.IntKind.i64 (Int.tdiv (List.getD x.snd.snd.fst (Int.toNat x.snd.snd.snd.fst) 0) 24))) fun y0 =>
      Option.bind (f13 y0.fst) fun y1 =>
       bif y1.fst then
        bif inRange (List.getD x.snd.snd.fst (Int.toNat x.snd.snd.snd.fst) 0) (List.length x.snd.snd.snd.snd.fst) then
         rec (x.fst, x.snd.fst, x.snd.snd.fst, Go.IntKind.wrap Go.IntKind.i64 (x.snd.snd.snd.fst + 1), List.set x.snd.snd.snd.snd.fst (Int.toNat (List.getD x.snd.snd.fst (Int.toNat x.snd.snd.snd.fst) 0)) 0, ())
        else
         none
       else
        rec (x.fst, x.snd.fst, x.snd.snd.fst, Go.IntKind.wrap Go.IntKind.i64 (x.snd.snd.snd.fst + 1), x.snd.snd.snd.snd.fst, ())
    else
     rec (x.fst, x.snd.fst, x.snd.snd.fst, Go.IntKind.wrap Go.IntKind.i64 (x.snd.snd.snd.fst + 1), x.snd.snd.snd.snd.fst, ())
   else
    rec (x.fst, x.snd.fst, x.snd.snd.fst, Go.IntKind.wrap Go.IntKind.i64 (x.snd.snd.snd.fst + 1), x.snd.snd.snd.snd.fst, ())
  else
   none
 else
  f14.L3 ((x.fst, x.snd.fst, 0, x.snd.snd.snd.snd.fst, [], ()))
 ) (100000000000000000000) (x)
def f14.L5 (x : List Int × List Bool × List Int × Int × List Int × Unit) : Option (List Int × Unit) :=
 it (X := List Int × List Bool × List Int × Int × List Int × Unit) (fun rec x =>
 bif Decidable.decide (x.snd.snd.snd.fst < 384) then
  bif inRange x.snd.snd.snd.fst (List.length x.snd.snd.snd.snd.fst) then
   rec (x.fst, x.snd.fst, x.snd.snd.fst, Go.IntKind.wrap Go.IntKind.i64 (x.snd.snd.snd.fst + 1), List.set x.snd.snd.snd.snd.fst (Int.toNat x.snd.snd.snd.fst) (-1), ())
  else
   none
 else
  f14.L4 ((x.fst, x.snd.fst, x.snd.snd.fst, 0, x.snd.snd.snd.snd.fst, ()))
 ) (100000000000000000000) (x)
def f14 (a0 : List Int) (a1 : List Bool) (a2 : List Int) : Option (List Int × Unit) :=
 f14.L5 ((a0, a1, a2, 0, List.replicate 384 0, ()))
def f14.ins : Shape := ⟨[(0, .c (.row (.int .u8))), (1, .c (.row .bool)), (2, .c (.row (.int .i64)))], []⟩
def f14.outs : List Shape := [⟨[(0, .c (.own 0))], [(0, .arr (.int .i64))]⟩]
def f14.S : FnSpec := ⟨f14.ins, f14.outs, [], fun x => f14 x.1 x.2.1 x.2.2.1⟩
def f14.E (fuel : Nat) : Env := ⟨tis, [(45, f45.S), (44, f44.S), (13, f13.S)], [], [(36, ⟨[(0, .c (.row (.int .u8))), (1, .c (.row .bool)), (7, .c (.own 0)), (11, .c (.own 1)), (13, .c (.int .i64)), (14, .c (.int .i64)), (15, .c (.int .i64)), (16, .c (.int .i64)), (17, .c (.int .i64))], [(0, .arr (.int .i64)), (1, .arr (.int .i64))]⟩)], [(4, ⟨[(0, .c (.row (.int .u8))), (1, .c (.row .bool)), (2, .c (.row (.int .i64))), (7, .c (.own 0)), (8, .c (.int .i64))], [(0, .arr (.int .i64))]⟩), (8, ⟨[(0, .c (.row (.int .u8))), (1, .c (.row .bool)), (2, .c (.row (.int .i64))), (7, .c (.own 0)), (9, .c (.int .i64))], [(0, .arr (.int .i64))]⟩), (15, ⟨[(0, .c (.row (.int .u8))), (1, .c (.row .bool)), (7, .c (.own 0)), (11, .c (.own 1)), (12, .c (.int .i64))], [(0, .arr (.int .i64)), (1, .arr (.int .i64))]⟩), (20, ⟨[(0, .c (.row (.int .u8))), (1, .c (.row .bool)), (7, .c (.own 0)), (11, .c (.own 1)), (13, .c (.int .i64))], [(0, .arr (.int .i64)), (1, .arr (.int .i64))]⟩), (24, ⟨[(0, .c (.row (.int .u8))), (1, .c (.row .bool)), (7, .c (.own 0)), (11, .c (.own 1)), (13, .c (.int .i64)), (14, .c (.int .i64)), (15, .c (.int .i64))], [(0, .arr (.int .i64)), (1, .arr (.int .i64))]⟩)], [], 0, [], fuel⟩
theorem f14.run : ∀ x, runFn (f14.E 100000000000000000000) Go.Proofs.Try.f14 ((Go.Proofs.Try.f14.body).getD .skip) f14.S x = f14.S.f x := by intro x; kernel_rfl
theorem f14.sound : Sound Go.Proofs.Try.prog 14 f14.S := sound_of_run (fun _ => f14.E 100000000000000000000) (by kernel_rfl) (by kernel_rfl) (by kernel_rfl) orders (fun _ => ⟨tis_ok, EqsOk.nil _, (FnsOk.cons f45.sound (FnsOk.cons f44.sound (FnsOk.cons f13.sound FnsOk.nil)))⟩) (fun _ => rfl) (by kernel_rfl) (by kernel_rfl) (fun x r h => (f14.run x).trans h)
/-! f43: adit/aditref4.pick -/
def f43.L1 (x : List Int × List Int × Int × List Bool × Int × Int × Int × Int × List Int × Unit) : Option (Int × Unit) :=
 it (X := List Int × List Int × Int × List Bool × Int × Int × Int × Int × List Int × Unit) (fun rec x =>
 bif Decidable.decide (x.snd.snd.snd.snd.snd.snd.snd.fst < 384) then
  bif inRange x.snd.snd.snd.snd.snd.snd.snd.fst (List.length x.fst) then
   bif List.getD x.fst (Int.toNat x.snd.snd.snd.snd.snd.snd.snd.fst) 0 == 1 then
    bif inRange x.snd.snd.snd.snd.snd.snd.snd.fst (List.length x.snd.fst) then
     bif Decidable.decide (List.getD x.snd.fst (Int.toNat x.snd.snd.snd.snd.snd.snd.snd.fst) 0 ≥ x.snd.snd.fst) then
      bif inRange x.snd.snd.snd.snd.snd.snd.snd.fst (List.length x.snd.snd.snd.fst) then
       bif !List.getD x.snd.snd.snd.fst (Int.toNat x.snd.snd.snd.snd.snd.snd.snd.fst) Bool.false then
        bif Decidable.decide (List.length x.snd.snd.snd.snd.snd.snd.snd.snd.fst + 1 ≤ limit 8) then
         rec (x.fst, x.snd.fst, x.snd.snd.fst, x.snd.snd.snd.fst, x.snd.snd.snd.snd.fst, x.snd.snd.snd.snd.snd.fst, x.snd.snd.snd.snd.snd.snd.fst, Go.IntKind.wrap Go.IntKind.i64 (x.snd.snd.snd.snd.snd.snd.snd.fst + 1), x.snd.snd.snd.snd.snd.snd.snd.snd.fst ++ [x.snd.snd.snd.snd.snd.snd.snd.fst], ())
        else
         none
       else
        rec (x.fst, x.snd.fst, x.snd.snd.fst, x.snd.snd.snd.fst, x.snd.snd.snd.snd.fst, x.snd.snd.snd.snd.snd.fst, x.snd.snd.snd.snd.snd.snd.fst, Go.IntKind.wrap Go.IntKind.i64 (x.snd.snd.snd.snd.snd.snd.snd.fst + 1), x.snd.snd.snd.snd.snd.snd.snd.snd.fst, ())
      else
       none
     else
      rec (x.fst, x.snd.fst, x.snd.snd.fst, x.snd.snd.snd.fst, x.snd.snd.snd.snd.fst, x.snd.snd.snd.snd.snd.fst, x.snd.snd.snd.snd.snd.snd.fst, Go.IntKind.wrap Go.IntKind.i64 (x.snd.snd.snd.snd.snd.snd.snd.fst + 1), x.snd.snd.snd.snd.snd.snd.snd.snd.fst, ())
    else
     none
   else
    rec (x.fst, x.snd.fst, x.snd.snd.fst, x.snd.snd.snd.fst, x.snd.snd.snd.snd.fst, x.snd.snd.snd.snd.snd.fst, x.snd.snd.snd.snd.snd.snd.fst, Go.IntKind.wrap Go.IntKind.i64 (x.snd.snd.snd.snd.snd.snd.snd.fst + 1), x.snd.snd.snd.snd.snd.snd.snd.snd.fst, ())
  else
   none
 else
  bif (↑(List.length x.snd.snd.snd.snd.snd.snd.snd.snd.fst) : Int) == 0 then
   some ((-1, ()))
  else
   Option.bind (f40 x.snd.snd.snd.snd.fst x.snd.snd.snd.snd.snd.fst x.snd.snd.snd.snd.snd.snd.fst 0 (↑(List.length x.snd.snd.snd.snd.snd.snd.snd.snd.fst) : Int)) fun y0 =>
    bif inRange y0.fst (List.length x.snd.snd.snd.snd.snd.snd.snd.snd.fst) then
     some ((List.getD x.snd.snd.snd.snd.snd.snd.snd.snd.fst (Int.toNat y0.fst) 0, ()))
    else
     none
 ) (100000000000000000000) (x)
def f43 (a0 : List Int) (a1 : List Int) (a2 : Int) (a3 : List Bool) (a4 : Int) (a5 : Int) (a6 : Int) : Option (Int × Unit) :=
 f43.L1 ((a0, a1, a2, a3, a4, a5, a6, 0, [], ()))
def f43.ins : Shape := ⟨[(0, .c (.row (.int .u8))), (1, .c (.row (.int .i64))), (2, .c (.int .i64)), (3, .c (.row .bool)), (4, .c (.int .i64)), (5, .c (.int .i64)), (6, .c (.int .i64))], []⟩
def f43.outs : List Shape := [⟨[(0, .c (.int .i64))], []⟩]
def f43.S : FnSpec := ⟨f43.ins, f43.outs, [], fun x => f43 x.1 x.2.1 x.2.2.1 x.2.2.2.1 x.2.2.2.2.1 x.2.2.2.2.2.1 x.2.2.2.2.2.2.1⟩
def f43.E (fuel : Nat) : Env := ⟨tis, [(40, f40.S)], [], [], [(4, ⟨[(0, .c (.row (.int .u8))), (1, .c (.row (.int .i64))), (2, .c (.int .i64)), (3, .c (.row .bool)), (4, .c (.int .i64)), (5, .c (.int .i64)), (6, .c (.int .i64)), (15, .c (.own 0)), (16, .c (.int .i64))], [(0, .arr (.int .i64))]⟩)], [], 0, [], fuel⟩
theorem f43.run : ∀ x, runFn (f43.E 100000000000000000000) Go.Proofs.Try.f43 ((Go.Proofs.Try.f43.body).getD .skip) f43.S x = f43.S.f x := by intro x; kernel_rfl
theorem f43.sound : Sound Go.Proofs.Try.prog 43 f43.S := sound_of_run (fun _ => f43.E 100000000000000000000) (by kernel_rfl) (by kernel_rfl) (by kernel_rfl) orders (fun _ => ⟨tis_ok, EqsOk.nil _, (FnsOk.cons f40.sound FnsOk.nil)⟩) (fun _ => rfl) (by kernel_rfl) (by kernel_rfl) (fun x r h => (f43.run x).trans h)
/-! f28: adit/aditref5.Stats -/
def f28 (a0 : Int) : Option (Int × Int × Int × Int × Int × Int × Int × Int × Int × Int × Int × Unit) :=
 Option.bind (α := Int × Int × Int × Int × Int × Int × Int × Int × Int × Int × Int × Int × Int × Int × Int × Unit ⊕ Int × Int × Int × Int × Int × Int × Int × Int × Int × Int × Int × Unit) (
  bif a0 == 1 then
   some (Sum.inl (a0, 20, 5, 1, 0, 0, 0, 0, 0, 0, 0, 0, 0, 0, 0, ()))
  else
   bif a0 == 2 then
    some (Sum.inl (a0, 4, 2, 0, 0, 0, 0, 0, 0, 0, 0, 0, 0, 0, 0, ()))
   else
    bif a0 == 3 then
     some (Sum.inl (a0, 9, 4, 1, 0, 0, 0, 0, 0, 0, 0, 0, 0, 0, 0, ()))
    else
     bif a0 == 4 then
      some (Sum.inl (a0, 6, 3, 0, 0, 0, 0, 0, 0, 0, 0, 0, 0, 0, 0, ()))
     else
      some (Sum.inr (0, 0, 0, 0, 0, 0, 0, 0, 0, 0, 0, ()))
 ) fun y0 =>
  Sum.elim (fun y1 =>
   some ((y1.fst, 0, 0, 0, 0, y1.snd.fst, y1.snd.fst, y1.snd.snd.fst, y1.snd.snd.snd.fst, 0, 0, ()))
  ) (fun z2 =>
   some (z2)
  ) (y0)
def f28.ins : Shape := ⟨[(0, .c (.int .i64))], []⟩
def f28.outs : List Shape := [⟨[(0, .agg [.int .i64, .int .i64, .int .i64, .int .i64, .int .i64, .int .i64, .int .i64, .int .i64, .int .i64, .int .i64, .int .i64])], []⟩]
def f28.S : FnSpec := ⟨f28.ins, f28.outs, [], fun x => f28 x.1⟩
def f28.E (fuel : Nat) : Env := ⟨tis, [], [], [(13, ⟨[(0, .c (.int .i64)), (2, .c (.ptr 0 0)), (3, .c (.int .i64)), (4, .c (.int .i64)), (5, .c (.int .i64))], [(0, .box [.int .i64, .int .i64, .int .i64, .int .i64, .int .i64, .int .i64, .int .i64, .int .i64, .int .i64, .int .i64, .int .i64])]⟩)], [], [], 0, [], fuel⟩
theorem f28.run : ∀ x, runFn (f28.E 100000000000000000000) Go.Proofs.Try.f28 ((Go.Proofs.Try.f28.body).getD .skip) f28.S x = f28.S.f x := by intro x; kernel_rfl
theorem f28.sound : Sound Go.Proofs.Try.prog 28 f28.S := sound_of_run (fun _ => f28.E 100000000000000000000) (by kernel_rfl) (by kernel_rfl) (by kernel_rfl) orders (fun _ => ⟨tis_ok, EqsOk.nil _, FnsOk.nil⟩) (fun _ => rfl) (by kernel_rfl) (by kernel_rfl) (fun x r h => (f28.run x).trans h)
/-! f11: adit/aditref4.Make -/
def f11.L1 (k0 : Int × Int × Int × Int × Int × Int × Int × Int × List Int × Int × Int × Int × Int × Int × Int × Int × Int × Int × Int × Int × Int × Unit → Option (List Int × List (Int × Int × Int × Int × Int × Int × Int × Int × Int × Int × Int) × List (Int × Int × Int × Int) × Unit)) (x : Int × Int × Int × Int × Int × Int × Int × Int × Int × List Int × Int × Int × Int × Int × Int × Int × Int × Int × Int × Int × Int × Int × Unit) : Option (List Int × List (Int × Int × Int × Int × Int × Int × Int × Int × Int × Int × Int) × List (Int × Int × Int × Int) × Unit) :=
 it (X := Int × Int × Int × Int × Int × Int × Int × Int × Int × List Int × Int × Int × Int × Int × Int × Int × Int × Int × Int × Int × Int × Int × Unit) (fun rec x =>
 bif Decidable.decide (x.snd.snd.snd.snd.snd.snd.snd.snd.fst < Go.IntKind.wrap Go.IntKind.i64 (x.snd.snd.snd.snd.snd.fst + x.snd.snd.snd.fst)) then
  bif inRange (Go.IntKind.wrap Go.IntKind.i64 (Go.IntKind.wrap Go.IntKind.i64 (x.snd.snd.snd.snd.snd.snd.snd.fst * 24) + x.snd.snd.snd.snd.snd.snd.snd.snd.fst)) (List.length x.snd.snd.snd.snd.snd.snd.snd.snd.snd.fst) then
   rec (x.fst, x.snd.fst, x.snd.snd.fst, x.snd.snd.snd.fst, x.snd.snd.snd.snd.fst, x.snd.snd.snd.snd.snd.fst, x.snd.snd.snd.snd.snd.snd.fst, x.snd.snd.snd.snd.snd.snd.snd.fst, Go.IntKind.wrap Go.IntKind.i64 (x.snd.snd.snd.snd.snd.snd.snd.snd.fst + 1), List.set x.snd.snd.snd.snd.snd.snd.snd.snd.snd.fst (Int.toNat (Go.IntKind.wrap Go.IntKind.i64 (Go.IntKind.wrap Go.IntKind.i64 (x.snd.snd.snd.snd.snd.snd.snd.fst * 24) + x.snd.snd.snd.snd.snd.snd.snd.snd.fst))) 1, x.snd.snd.snd.snd.snd.snd.snd.snd.snd.snd.fst, x.snd.snd.snd.snd.snd.snd.snd.snd.snd.snd.snd.fst, x.snd.snd.snd.snd.snd.snd.snd.snd.snd.snd.snd.snd.fst, x.snd.snd.snd.snd.snd.snd.snd.snd.snd.snd.snd.snd.snd.fst, x.snd.snd.snd.snd.snd.snd.snd.snd.snd.snd.snd.snd.snd.snd.fst, x.snd.snd.snd.snd.snd.snd.snd.snd.snd.snd.snd.snd.snd.snd.snd.fst, x.snd.snd.snd.snd.snd.snd.snd.snd.snd.snd.snd.snd.snd.snd.snd.snd.fst, x.snd.snd.snd.snd.snd.snd.snd.snd.snd.snd.snd.snd.snd.snd.snd.snd.snd.fst, x.snd.snd.snd.snd.snd.snd.snd.snd.snd.snd.snd.snd.snd.snd.snd.snd.snd.snd.fst, x.snd.snd.snd.snd.snd.snd.snd.snd.snd.snd.snd.snd.snd.snd.snd.snd.snd.snd.snd.fst, x.snd.snd.snd.snd.snd.snd.snd.snd.snd.snd.snd.snd.snd.snd.snd.snd.snd.snd.snd.snd.fst, x.snd.snd.snd.snd.snd.snd.snd.snd.snd.snd.snd.snd.snd.snd.snd.snd.snd.snd.snd.snd.snd.fst, ())
  else
   none
 else
  k0 (x.fst, x.snd.fst, x.snd.snd.fst, x.snd.snd.snd.fst, x.snd.snd.snd.snd.fst, x.snd.snd.snd.snd.snd.fst, x.snd.snd.snd.snd.snd.snd.fst, Go.IntKind.wrap Go.IntKind.i64 (x.snd.snd.snd.snd.snd.snd.snd.fst + 1), x.snd.snd.snd.snd.snd.snd.snd.snd.snd.fst, x.snd.snd.snd.snd.snd.snd.snd.snd.snd.snd.fst, x.snd.snd.snd.snd.snd.snd.snd.snd.snd.snd.snd.fst, x.snd.snd.snd.snd.snd.snd.snd.snd.snd.snd.snd.snd.fst, x.snd.snd.snd.snd.snd.snd.snd.snd.snd.snd.snd.snd.snd.fst, x.snd.snd.snd.snd.snd.snd.snd.snd.snd.snd.snd.snd.snd.snd.fst, x.snd.snd.snd.snd.snd.snd.snd.snd.snd.snd.snd.snd.snd.snd.snd.fst, x.snd.snd.snd.snd.snd.snd.snd.snd.snd.snd.snd.snd.snd.snd.snd.snd.fst, x.snd.snd.snd.snd.snd.snd.snd.snd.snd.snd.snd.snd.snd.snd.snd.snd.snd.fst, x.snd.snd.snd.snd.snd.snd.snd.snd.snd.snd.snd.snd.snd.snd.snd.snd.snd.snd.fst, x.snd.snd.snd.snd.snd.snd.snd.snd.snd.snd.snd.snd.snd.snd.snd.snd.snd.snd.snd.fst, x.snd.snd.snd.snd.snd.snd.snd.snd.snd.snd.snd.snd.snd.snd.snd.snd.snd.snd.snd.snd.fst, x.snd.snd.snd.snd.snd.snd.snd.snd.snd.snd.snd.snd.snd.snd.snd.snd.snd.snd.snd.snd.snd.fst, ())
 ) (100000000000000000000) (x)
def f11.L2 (k0 : Int × Int × Int × List Int × Int × Int × Int × Int × Int × Int × Int × Int × Int × Int × Int × Int × Unit → Option (List Int × List (Int × Int × Int × Int × Int × Int × Int × Int × Int × Int × Int) × List (Int × Int × Int × Int) × Unit)) (x : Int × Int × Int × Int × Int × Int × Int × Int × List Int × Int × Int × Int × Int × Int × Int × Int × Int × Int × Int × Int × Int × Unit) : Option (List Int × List (Int × Int × Int × Int × Int × Int × Int × Int × Int × Int × Int) × List (Int × Int × Int × Int) × Unit) :=
 it (X := Int × Int × Int × Int × Int × Int × Int × Int × List Int × Int × Int × Int × Int × Int × Int × Int × Int × Int × Int × Int × Int × Unit) (fun rec x =>
 bif Decidable.decide (x.snd.snd.snd.snd.snd.snd.snd.fst < Go.IntKind.wrap Go.IntKind.i64 (x.snd.snd.snd.snd.snd.snd.fst + x.snd.snd.snd.snd.fst)) then
  f11.L1 rec ((x.fst, x.snd.fst, x.snd.snd.fst, x.snd.snd.snd.fst, x.snd.snd.snd.snd.fst, x.snd.snd.snd.snd.snd.fst, x.snd.snd.snd.snd.snd.snd.fst, x.snd.snd.snd.snd.snd.snd.snd.fst, x.snd.snd.snd.snd.snd.fst, x.snd.snd.snd.snd.snd.snd.snd.snd.fst, x.snd.snd.snd.snd.snd.snd.snd.snd.snd.fst, x.snd.snd.snd.snd.snd.snd.snd.snd.snd.snd.fst, x.snd.snd.snd.snd.snd.snd.snd.snd.snd.snd.snd.fst, x.snd.snd.snd.snd.snd.snd.snd.snd.snd.snd.snd.snd.fst, x.snd.snd.snd.snd.snd.snd.snd.snd.snd.snd.snd.snd.snd.fst, x.snd.snd.snd.snd.snd.snd.snd.snd.snd.snd.snd.snd.snd.snd.fst, x.snd.snd.snd.snd.snd.snd.snd.snd.snd.snd.snd.snd.snd.snd.snd.fst, x.snd.snd.snd.snd.snd.snd.snd.snd.snd.snd.snd.snd.snd.snd.snd.snd.fst, x.snd.snd.snd.snd.snd.snd.snd.snd.snd.snd.snd.snd.snd.snd.snd.snd.snd.fst, x.snd.snd.snd.snd.snd.snd.snd.snd.snd.snd.snd.snd.snd.snd.snd.snd.snd.snd.fst, x.snd.snd.snd.snd.snd.snd.snd.snd.snd.snd.snd.snd.snd.snd.snd.snd.snd.snd.snd.fst, x.snd.snd.snd.snd.snd.snd.snd.snd.snd.snd.snd.snd.snd.snd.snd.snd.snd.snd.snd.snd.fst, ()))
 else
  bif inRange x.snd.snd.fst 6 then
   bif inRange x.snd.snd.fst 6 then
    k0 (x.fst, x.snd.fst, Go.IntKind.wrap Go.IntKind.i64 (x.snd.snd.fst + 1), x.snd.snd.snd.snd.snd.snd.snd.snd.fst, if Int.toNat x.snd.snd.fst = 0 / 1 then Go.IntKind.wrap Go.IntKind.i64 (x.snd.snd.snd.snd.snd.fst + Go.IntKind.wrap Go.IntKind.i64 (Int.tdiv x.snd.snd.snd.fst 2)) else x.snd.snd.snd.snd.snd.snd.snd.snd.snd.fst, if Int.toNat x.snd.snd.fst = (0 + 1) / 1 then Go.IntKind.wrap Go.IntKind.i64 (x.snd.snd.snd.snd.snd.fst + Go.IntKind.wrap Go.IntKind.i64 (Int.tdiv x.snd.snd.snd.fst 2)) else x.snd.snd.snd.snd.snd.snd.snd.snd.snd.snd.fst, if Int.toNat x.snd.snd.fst = (0 + 1 + 1) / 1 then Go.IntKind.wrap Go.IntKind.i64 (x.snd.snd.snd.snd.snd.fst + Go.IntKind.wrap Go.IntKind.i64 (Int.tdiv x.snd.snd.snd.fst 2)) else x.snd.snd.snd.snd.snd.snd.snd.snd.snd.snd.snd.fst, if Int.toNat x.snd.snd.fst = (0 + 1 + 1 + 1) / 1 then Go.IntKind.wrap Go.IntKind.i64 (x.snd.snd.snd.snd.snd.fst + Go.IntKind.wrap Go.IntKind.i64 (Int.tdiv x.snd.snd.snd.fst 2)) else x.snd.snd.snd.snd.snd.snd.snd.snd.snd.snd.snd.snd.fst, if Int.toNat x.snd.snd.fst = (0 + 1 + 1 + 1 + 1) / 1 then Go.IntKind.wrap Go.IntKind.i64 (x.snd.snd.snd.snd.snd.fst + Go.IntKind.wrap Go.IntKind.i64 (Int.tdiv x.snd.snd.snd.fst 2)) else x.snd.snd.snd.snd.snd.snd.snd.snd.snd.snd.snd.snd.snd.fst, if Int.toNat x.snd.snd.fst = (0 + 1 + 1 + 1 + 1 + 1) / 1 then Go.IntKind.wrap Go.IntKind.i64 (x.snd.snd.snd.snd.snd.fst + Go.IntKind.wrap Go.IntKind.i64 (Int.tdiv x.snd.snd.snd.fst 2)) else x.snd.snd.snd.snd.snd.snd.snd.snd.snd.snd.snd.snd.snd.snd.fst, if Int.toNat x.snd.snd.fst = 0 / 1 then Go.IntKind.wrap Go.IntKind.i64 (x.snd.snd.snd.snd.snd.snd.fst + Go.IntKind.wrap Go.IntKind.i64 (Int.tdiv x.snd.snd.snd.snd.fst 2)) else x.snd.snd.snd.snd.snd.snd.snd.snd.snd.snd.snd.snd.snd.snd.snd.fst, if Int.toNat x.snd.snd.fst = (0 + 1) / 1 then Go.IntKind.wrap Go.IntKind.i64 (x.snd.snd.snd.snd.snd.snd.fst + Go.IntKind.wrap Go.IntKind.i64 (Int.tdiv x.snd.snd.snd.snd.fst 2)) else x.snd.snd.snd.snd.snd.snd.snd.snd.snd.snd.snd.snd.snd.snd.snd.snd.fst, if Int.toNat x.snd.snd.fst = (0 + 1 + 1) / 1 then Go.IntKind.wrap Go.IntKind.i64 (x.snd.snd.snd.snd.snd.snd.fst + Go.IntKind.wrap Go.IntKind.i64 (Int.tdiv x.snd.snd.snd.snd.fst 2)) else x.snd.snd.snd.snd.snd.snd.snd.snd.snd.snd.snd.snd.snd.snd.snd.snd.snd.fst, if Int.toNat x.snd.snd.fst = (0 + 1 + 1 + 1) / 1 then Go.IntKind.wrap Go.IntKind.i64 (x.snd.snd.snd.snd.snd.snd.fst + Go.IntKind.wrap Go.IntKind.i64 (Int.tdiv x.snd.snd.snd.snd.fst 2)) else x.snd.snd.snd.snd.snd.snd.snd.snd.snd.snd.snd.snd.snd.snd.snd.snd.snd.snd.fst, if Int.toNat x.snd.snd.fst = (0 + 1 + 1 + 1 + 1) / 1 then Go.IntKind.wrap Go.IntKind.i64 (x.snd.snd.snd.snd.snd.snd.fst + Go.IntKind.wrap Go.IntKind.i64 (Int.tdiv x.snd.snd.snd.snd.fst 2)) else x.snd.snd.snd.snd.snd.snd.snd.snd.snd.snd.snd.snd.snd.snd.snd.snd.snd.snd.snd.fst, if Int.toNat x.snd.snd.fst = (0 + 1 + 1 + 1 + 1 + 1) / 1 then Go.IntKind.wrap Go.IntKind.i64 (x.snd.snd.snd.snd.snd.snd.fst + Go.IntKind.wrap Go.IntKind.i64 (Int.tdiv x.snd.snd.snd.snd.fst 2)) else x.snd.snd.snd.snd.snd.snd.snd.snd.snd.snd.snd.snd.snd.snd.snd.snd.snd.snd.snd.snd.fst, ())
   else
    none
  else
   none
 ) (100000000000000000000) (x)
def f11.L3 (k0 : Int × Int × Int × List Int × Int × Int × Int × Int × Int × Int × Int × Int × Int × Int × Int × Int × Unit → Option (List Int × List (Int × Int × Int × Int × Int × Int × Int × Int × Int × Int × Int) × List (Int × Int × Int × Int) × Unit)) (x : Int × Int × Int × Int × Int × Bool × Bool × List Int × Int × Int × Int × Int × Int × Int × Int × Int × Int × Int × Int × Int × Unit) : Option (List Int × List (Int × Int × Int × Int × Int × Int × Int × Int × Int × Int × Int) × List (Int × Int × Int × Int) × Unit) :=
 it (X := Int × Int × Int × Int × Int × Bool × Bool × List Int × Int × Int × Int × Int × Int × Int × Int × Int × Int × Int × Int × Int × Unit) (fun rec x =>
 Option.bind (α := Int × Int × Int × Int × Int × Bool × Bool × List Int × Int × Int × Int × Int × Int × Int × Int × Int × Int × Int × Int × Int × Unit ⊕ List Int × List (Int × Int × Int × Int × Int × Int × Int × Int × Int × Int × Int) × List (Int × Int × Int × Int) × Unit) (
  bif inRange x.snd.snd.fst 6 then
   bif x.snd.snd.snd.fst != List.getD [x.snd.snd.snd.snd.snd.snd.snd.snd.fst, x.snd.snd.snd.snd.snd.snd.snd.snd.snd.fst, x.snd.snd.snd.snd.snd.snd.snd.snd.snd.snd.fst, x.snd.snd.snd.snd.snd.snd.snd.snd.snd.snd.snd.fst, x.snd.snd.snd.snd.snd.snd.snd.snd.snd.snd.snd.snd.fst, x.snd.snd.snd.snd.snd.snd.snd.snd.snd.snd.snd.snd.snd.fst] (Int.toNat x.snd.snd.fst) 0 then
    some (Sum.inl (x.fst, x.snd.fst, x.snd.snd.fst, x.snd.snd.snd.fst, x.snd.snd.snd.snd.fst, x.snd.snd.snd.snd.snd.fst, x.snd.snd.snd.snd.snd.snd.fst, x.snd.snd.snd.snd.snd.snd.snd.fst, x.snd.snd.snd.snd.snd.snd.snd.snd.fst, x.snd.snd.snd.snd.snd.snd.snd.snd.snd.fst, x.snd.snd.snd.snd.snd.snd.snd.snd.snd.snd.fst, x.snd.snd.snd.snd.snd.snd.snd.snd.snd.snd.snd.fst, x.snd.snd.snd.snd.snd.snd.snd.snd.snd.snd.snd.snd.fst, x.snd.snd.snd.snd.snd.snd.snd.snd.snd.snd.snd.snd.snd.fst, x.snd.snd.snd.snd.snd.snd.snd.snd.snd.snd.snd.snd.snd.snd.fst, x.snd.snd.snd.snd.snd.snd.snd.snd.snd.snd.snd.snd.snd.snd.snd.fst, x.snd.snd.snd.snd.snd.snd.snd.snd.snd.snd.snd.snd.snd.snd.snd.snd.fst, x.snd.snd.snd.snd.snd.snd.snd.snd.snd.snd.snd.snd.snd.snd.snd.snd.snd.fst, x.snd.snd.snd.snd.snd.snd.snd.snd.snd.snd.snd.snd.snd.snd.snd.snd.snd.snd.fst, x.snd.snd.snd.snd.snd.snd.snd.snd.snd.snd.snd.snd.snd.snd.snd.snd.snd.snd.snd.fst, ()))
   else
    bif inRange x.snd.snd.fst 6 then
     bif x.snd.snd.snd.snd.fst != List.getD [x.snd.snd.snd.snd.snd.snd.snd.snd.snd.snd.snd.snd.snd.snd.fst, x.snd.snd.snd.snd.snd.snd.snd.snd.snd.snd.snd.snd.snd.snd.snd.fst, x.snd.snd.snd.snd.snd.snd.snd.snd.snd.snd.snd.snd.snd.snd.snd.snd.fst, x.snd.snd.snd.snd.snd.snd.snd.snd.snd.snd.snd.snd.snd.snd.snd.snd.snd.fst, x.snd.snd.snd.snd.snd.snd.snd.snd.snd.snd.snd.snd.snd.snd.snd.snd.snd.snd.fst, x.snd.snd.snd.snd.snd.snd.snd.snd.snd.snd.snd.snd.snd.snd.snd.snd.snd.snd.snd.fst] (Int.toNat x.snd.snd.fst) 0 then
      some (Sum.inl (x.fst, x.snd.fst, x.snd.snd.fst, x.snd.snd.snd.fst, x.snd.snd.snd.snd.fst, x.snd.snd.snd.snd.snd.fst, x.snd.snd.snd.snd.snd.snd.fst, x.snd.snd.snd.snd.snd.snd.snd.fst, x.snd.snd.snd.snd.snd.snd.snd.snd.fst, x.snd.snd.snd.snd.snd.snd.snd.snd.snd.fst, x.snd.snd.snd.snd.snd.snd.snd.snd.snd.snd.fst, x.snd.snd.snd.snd.snd.snd.snd.snd.snd.snd.snd.fst, x.snd.snd.snd.snd.snd.snd.snd.snd.snd.snd.snd.snd.fst, x.snd.snd.snd.snd.snd.snd.snd.snd.snd.snd.snd.snd.snd.fst, x.snd.snd.snd.snd.snd.snd.snd.snd.snd.snd.snd.snd.snd.snd.fst, x.snd.snd.snd.snd.snd.snd.snd.snd.snd.snd.snd.snd.snd.snd.snd.fst, x.snd.snd.snd.snd.snd.snd.snd.snd.snd.snd.snd.snd.snd.snd.snd.snd.fst, x.snd.snd.snd.snd.snd.snd.snd.snd.snd.snd.snd.snd.snd.snd.snd.snd.snd.fst, x.snd.snd.snd.snd.snd.snd.snd.snd.snd.snd.snd.snd.snd.snd.snd.snd.snd.snd.fst, x.snd.snd.snd.snd.snd.snd.snd.snd.snd.snd.snd.snd.snd.snd.snd.snd.snd.snd.snd.fst, ()))
     else
      Option.bind (k0 (x.fst, x.snd.fst, Go.IntKind.wrap Go.IntKind.i64 (x.snd.snd.fst + 1), x.snd.snd.snd.snd.snd.snd.snd.fst, x.snd.snd.snd.snd.snd.snd.snd.snd.fst, x.snd.snd.snd.snd.snd.snd.snd.snd.snd.fst, x.snd.snd.snd.snd.snd.snd.snd.snd.snd.snd.fst, x.snd.snd.snd.snd.snd.snd.snd.snd.snd.snd.snd.fst, x.snd.snd.snd.snd.snd.snd.snd.snd.snd.snd.snd.snd.fst, x.snd.snd.snd.snd.snd.snd.snd.snd.snd.snd.snd.snd.snd.fst, x.snd.snd.snd.snd.snd.snd.snd.snd.snd.snd.snd.snd.snd.snd.fst, x.snd.snd.snd.snd.snd.snd.snd.snd.snd.snd.snd.snd.snd.snd.snd.fst, x.snd.snd.snd.snd.snd.snd.snd.snd.snd.snd.snd.snd.snd.snd.snd.snd.fst, x.snd.snd.snd.snd.snd.snd.snd.snd.snd.snd.snd.snd.snd.snd.snd.snd.snd.fst, x.snd.snd.snd.snd.snd.snd.snd.snd.snd.snd.snd.snd.snd.snd.snd.snd.snd.snd.fst, x.snd.snd.snd.snd.snd.snd.snd.snd.snd.snd.snd.snd.snd.snd.snd.snd.snd.snd.snd.fst, ())) fun y0 =>
       some (Sum.inr y0)
    else
     none
  else
   none
 ) fun y1 =>
  Sum.elim (fun y2 =>
   Option.bind (α := Int × Int × Int × Int × Int × Bool × Bool × List Int × Int × Int × Int × Int × Int × Int × Int × Int × Int × Int × Int × Int × Unit ⊕ List Int × List (Int × Int × Int × Int × Int × Int × Int × Int × Int × Int × Int) × List (Int × Int × Int × Int) × Unit) (
    bif y2.snd.snd.snd.snd.snd.snd.fst then
     bif inRange y2.snd.snd.fst 6 then
      bif y2.snd.snd.snd.fst != List.getD [y2.snd.snd.snd.snd.snd.snd.snd.snd.fst, y2.snd.snd.snd.snd.snd.snd.snd.snd.snd.fst, y2.snd.snd.snd.snd.snd.snd.snd.snd.snd.snd.fst, y2.snd.snd.snd.snd.snd.snd.snd.snd.snd.snd.snd.fst, y2.snd.snd.snd.snd.snd.snd.snd.snd.snd.snd.snd.snd.fst, y2.snd.snd.snd.snd.snd.snd.snd.snd.snd.snd.snd.snd.snd.fst] (Int.toNat y2.snd.snd.fst) 0 then
       bif inRange y2.snd.snd.fst 6 then
        Option.bind (f42 y2.snd.snd.snd.fst (List.getD [y2.snd.snd.snd.snd.snd.snd.snd.snd.fst, y2.snd.snd.snd.snd.snd.snd.snd.snd.snd.fst, y2.snd.snd.snd.snd.snd.snd.snd.snd.snd.snd.fst, y2.snd.snd.snd.snd.snd.snd.snd.snd.snd.snd.snd.fst, y2.snd.snd.snd.snd.snd.snd.snd.snd.snd.snd.snd.snd.fst, y2.snd.snd.snd.snd.snd.snd.snd.snd.snd.snd.snd.snd.snd.fst] (Int.toNat y2.snd.snd.fst) 0)) fun y3 =>
         some (Sum.inl (y2.fst, y2.snd.fst, y2.snd.snd.fst, y3.fst, y2.snd.snd.snd.snd.fst, y2.snd.snd.snd.snd.snd.fst, y2.snd.snd.snd.snd.snd.snd.fst, y2.snd.snd.snd.snd.snd.snd.snd.fst, y2.snd.snd.snd.snd.snd.snd.snd.snd.fst, y2.snd.snd.snd.snd.snd.snd.snd.snd.snd.fst, y2.snd.snd.snd.snd.snd.snd.snd.snd.snd.snd.fst, y2.snd.snd.snd.snd.snd.snd.snd.snd.snd.snd.snd.fst, y2.snd.snd.snd.snd.snd.snd.snd.snd.snd.snd.snd.snd.fst, y2.snd.snd.snd.snd.snd.snd.snd.snd.snd.snd.snd.snd.snd.fst, y2.snd.snd.snd.snd.snd.snd.snd.snd.snd.snd.snd.snd.snd.snd.fst, y2.snd.snd.snd.snd.snd.snd.snd.snd.snd.snd.snd.snd.snd.snd.snd.fst, y2.snd.snd.snd.snd.snd.snd.snd.snd.snd.snd.snd.snd.snd.snd.snd.snd.fst, y2.snd.snd.snd.snd.snd.snd.snd.snd.snd.snd.snd.snd.snd.snd.snd.snd.snd.fst, y2.snd.snd.snd.snd.snd.snd.snd.snd.snd.snd.snd.snd.snd.snd.snd.snd.snd.snd.fst, y2.snd.snd.snd.snd.snd.snd.snd.snd.snd.snd.snd.snd.snd.snd.snd.snd.snd.snd.snd.fst, ()))
       else
        none
      else
       bif !y2.snd.snd.snd.snd.snd.snd.fst then
        bif inRange y2.snd.snd.fst 6 then
         bif y2.snd.snd.snd.snd.fst == List.getD [y2.snd.snd.snd.snd.snd.snd.snd.snd.snd.snd.snd.snd.snd.snd.fst, y2.snd.snd.snd.snd.snd.snd.snd.snd.snd.snd.snd.snd.snd.snd.snd.fst, y2.snd.snd.snd.snd.snd.snd.snd.snd.snd.snd.snd.snd.snd.snd.snd.snd.fst, y2.snd.snd.snd.snd.snd.snd.snd.snd.snd.snd.snd.snd.snd.snd.snd.snd.snd.fst, y2.snd.snd.snd.snd.snd.snd.snd.snd.snd.snd.snd.snd.snd.snd.snd.snd.snd.snd.fst, y2.snd.snd.snd.snd.snd.snd.snd.snd.snd.snd.snd.snd.snd.snd.snd.snd.snd.snd.snd.fst] (Int.toNat y2.snd.snd.fst) 0 then
          bif inRange y2.snd.snd.fst 6 then
           Option.bind (f42 y2.snd.snd.snd.fst (List.getD [y2.snd.snd.snd.snd.snd.snd.snd.snd.fst, y2.snd.snd.snd.snd.snd.snd.snd.snd.snd.fst, y2.snd.snd.snd.snd.snd.snd.snd.snd.snd.snd.fst, y2.snd.snd.snd.snd.snd.snd.snd.snd.snd.snd.snd.fst, y2.snd.snd.snd.snd.snd.snd.snd.snd.snd.snd.snd.snd.fst, y2.snd.snd.snd.snd.snd.snd.snd.snd.snd.snd.snd.snd.snd.fst] (Int.toNat y2.snd.snd.fst) 0)) fun y4 =>
            some (Sum.inl (y2.fst, y2.snd.fst, y2.snd.snd.fst, y4.fst, y2.snd.snd.snd.snd.fst, y2.snd.snd.snd.snd.snd.fst, y2.snd.snd.snd.snd.snd.snd.fst, y2.snd.snd.snd.snd.snd.snd.snd.fst, y2.snd.snd.snd.snd.snd.snd.snd.snd.fst, y2.snd.snd.snd.snd.snd.snd.snd.snd.snd.fst, y2.snd.snd.snd.snd.snd.snd.snd.snd.snd.snd.fst, y2.snd.snd.snd.snd.snd.snd.snd.snd.snd.snd.snd.fst, y2.snd.snd.snd.snd.snd.snd.snd.snd.snd.snd.snd.snd.fst, y2.snd.snd.snd.snd.snd.snd.snd.snd.snd.snd.snd.snd.snd.fst, y2.snd.snd.snd.snd.snd.snd.snd.snd.snd.snd.snd.snd.snd.snd.fst, y2.snd.snd.snd.snd.snd.snd.snd.snd.snd.snd.snd.snd.snd.snd.snd.fst, y2.snd.snd.snd.snd.snd.snd.snd.snd.snd.snd.snd.snd.snd.snd.snd.snd.fst, y2.snd.snd.snd.snd.snd.snd.snd.snd.snd.snd.snd.snd.snd.snd.snd.snd.snd.fst, y2.snd.snd.snd.snd.snd.snd.snd.snd.snd.snd.snd.snd.snd.snd.snd.snd.snd.snd.fst, y2.snd.snd.snd.snd.snd.snd.snd.snd.snd.snd.snd.snd.snd.snd.snd.snd.snd.snd.snd.fst, ()))
          else
           none
         else
          bif inRange y2.snd.snd.fst 6 then
           Option.bind (f42 y2.snd.snd.snd.snd.fst (List.getD [y2.snd.snd.snd.snd.snd.snd.snd.snd.snd.snd.snd.snd.snd.snd.fst, y2.snd.snd.snd.snd.snd.snd.snd.snd.snd.snd.snd.snd.snd.snd.snd.fst, y2.snd.snd.snd.snd.snd.snd.snd.snd.snd.snd.snd.snd.snd.snd.snd.snd.fst, y2.snd.snd.snd.snd.snd.snd.snd.snd.snd.snd.snd.snd.snd.snd.snd.snd.snd.fst, y2.snd.snd.snd.snd.snd.snd.snd.snd.snd.snd.snd.snd.snd.snd.snd.snd.snd.snd.fst, y2.snd.snd.snd.snd.snd.snd.snd.snd.snd.snd.snd.snd.snd.snd.snd.snd.snd.snd.snd.fst] (Int.toNat y2.snd.snd.fst) 0)) fun y5 =>
            some (Sum.inl (y2.fst, y2.snd.fst, y2.snd.snd.fst, y2.snd.snd.snd.fst, y5.fst, y2.snd.snd.snd.snd.snd.fst, y2.snd.snd.snd.snd.snd.snd.fst, y2.snd.snd.snd.snd.snd.snd.snd.fst, y2.snd.snd.snd.snd.snd.snd.snd.snd.fst, y2.snd.snd.snd.snd.snd.snd.snd.snd.snd.fst, y2.snd.snd.snd.snd.snd.snd.snd.snd.snd.snd.fst, y2.snd.snd.snd.snd.snd.snd.snd.snd.snd.snd.snd.fst, y2.snd.snd.snd.snd.snd.snd.snd.snd.snd.snd.snd.snd.fst, y2.snd.snd.snd.snd.snd.snd.snd.snd.snd.snd.snd.snd.snd.fst, y2.snd.snd.snd.snd.snd.snd.snd.snd.snd.snd.snd.snd.snd.snd.fst, y2.snd.snd.snd.snd.snd.snd.snd.snd.snd.snd.snd.snd.snd.snd.snd.fst, y2.snd.snd.snd.snd.snd.snd.snd.snd.snd.snd.snd.snd.snd.snd.snd.snd.fst, y2.snd.snd.snd.snd.snd.snd.snd.snd.snd.snd.snd.snd.snd.snd.snd.snd.snd.fst, y2.snd.snd.snd.snd.snd.snd.snd.snd.snd.snd.snd.snd.snd.snd.snd.snd.snd.snd.fst, y2.snd.snd.snd.snd.snd.snd.snd.snd.snd.snd.snd.snd.snd.snd.snd.snd.snd.snd.snd.fst, ()))
          else
           none
        else
         none
       else
        bif inRange y2.snd.snd.fst 6 then
         Option.bind (f42 y2.snd.snd.snd.snd.fst (List.getD [y2.snd.snd.snd.snd.snd.snd.snd.snd.snd.snd.snd.snd.snd.snd.fst, y2.snd.snd.snd.snd.snd.snd.snd.snd.snd.snd.snd.snd.snd.snd.snd.fst, y2.snd.snd.snd.snd.snd.snd.snd.snd.snd.snd.snd.snd.snd.snd.snd.snd.fst, y2.snd.snd.snd.snd.snd.snd.snd.snd.snd.snd.snd.snd.snd.snd.snd.snd.snd.fst, y2.snd.snd.snd.snd.snd.snd.snd.snd.snd.snd.snd.snd.snd.snd.snd.snd.snd.snd.fst, y2.snd.snd.snd.snd.snd.snd.snd.snd.snd.snd.snd.snd.snd.snd.snd.snd.snd.snd.snd.fst] (Int.toNat y2.snd.snd.fst) 0)) fun y6 =>
          some (Sum.inl (y2.fst, y2.snd.fst, y2.snd.snd.fst, y2.snd.snd.snd.fst, y6.fst, y2.snd.snd.snd.snd.snd.fst, y2.snd.snd.snd.snd.snd.snd.fst, y2.snd.snd.snd.snd.snd.snd.snd.fst, y2.snd.snd.snd.snd.snd.snd.snd.snd.fst, y2.snd.snd.snd.snd.snd.snd.snd.snd.snd.fst, y2.snd.snd.snd.snd.snd.snd.snd.snd.snd.snd.fst, y2.snd.snd.snd.snd.snd.snd.snd.snd.snd.snd.snd.fst, y2.snd.snd.snd.snd.snd.snd.snd.snd.snd.snd.snd.snd.fst, y2.snd.snd.snd.snd.snd.snd.snd.snd.snd.snd.snd.snd.snd.fst, y2.snd.snd.snd.snd.snd.snd.snd.snd.snd.snd.snd.snd.snd.snd.fst, y2.snd.snd.snd.snd.snd.snd.snd.snd.snd.snd.snd.snd.snd.snd.snd.fst, y2.snd.snd.snd.snd.snd.snd.snd.snd.snd.snd.snd.snd.snd.snd.snd.snd.fst, y2.snd.snd.snd.snd.snd.snd.snd.snd.snd.snd.snd.snd.snd.snd.snd.snd.snd.fst, y2.snd.snd.snd.snd.snd.snd.snd.snd.snd.snd.snd.snd.snd.snd.snd.snd.snd.snd.fst, y2.snd.snd.snd.snd.snd.snd.snd.snd.snd.snd.snd.snd.snd.snd.snd.snd.snd.snd.snd.fst, ()))
        else
         none
     else
      none
    else
     bif !y2.snd.snd.snd.snd.snd.snd.fst then
      bif inRange y2.snd.snd.fst 6 then
       bif y2.snd.snd.snd.snd.fst == List.getD [y2.snd.snd.snd.snd.snd.snd.snd.snd.snd.snd.snd.snd.snd.snd.fst, y2.snd.snd.snd.snd.snd.snd.snd.snd.snd.snd.snd.snd.snd.snd.snd.fst, y2.snd.snd.snd.snd.snd.snd.snd.snd.snd.snd.snd.snd.snd.snd.snd.snd.fst, y2.snd.snd.snd.snd.snd.snd.snd.snd.snd.snd.snd.snd.snd.snd.snd.snd.snd.fst, y2.snd.snd.snd.snd.snd.snd.snd.snd.snd.snd.snd.snd.snd.snd.snd.snd.snd.snd.fst, y2.snd.snd.snd.snd.snd.snd.snd.snd.snd.snd.snd.snd.snd.snd.snd.snd.snd.snd.snd.fst] (Int.toNat y2.snd.snd.fst) 0 then
        bif inRange y2.snd.snd.fst 6 then
         Option.bind (f42 y2.snd.snd.snd.fst (List.getD [y2.snd.snd.snd.snd.snd.snd.snd.snd.fst, y2.snd.snd.snd.snd.snd.snd.snd.snd.snd.fst, y2.snd.snd.snd.snd.snd.snd.snd.snd.snd.snd.fst, y2.snd.snd.snd.snd.snd.snd.snd.snd.snd.snd.snd.fst, y2.snd.snd.snd.snd.snd.snd.snd.snd.snd.snd.snd.snd.fst, y2.snd.snd.snd.snd.snd.snd.snd.snd.snd.snd.snd.snd.snd.fst] (Int.toNat y2.snd.snd.fst) 0)) fun y7 =>
          some (Sum.inl (y2.fst, y2.snd.fst, y2.snd.snd.fst, y7.fst, y2.snd.snd.snd.snd.fst, y2.snd.snd.snd.snd.snd.fst, y2.snd.snd.snd.snd.snd.snd.fst, y2.snd.snd.snd.snd.snd.snd.snd.fst, y2.snd.snd.snd.snd.snd.snd.snd.snd.fst, y2.snd.snd.snd.snd.snd.snd.snd.snd.snd.fst, y2.snd.snd.snd.snd.snd.snd.snd.snd.snd.snd.fst, y2.snd.snd.snd.snd.snd.snd.snd.snd.snd.snd.snd.fst, y2.snd.snd.snd.snd.snd.snd.snd.snd.snd.snd.snd.snd.fst, y2.snd.snd.snd.snd.snd.snd.snd.snd.snd.snd.snd.snd.snd.fst, y2.snd.snd.snd.snd.snd.snd.snd.snd.snd.snd.snd.snd.snd.snd.fst, y2.snd.snd.snd.snd.snd.snd.snd.snd.snd.snd.snd.snd.snd.snd.snd.fst, y2.snd.snd.snd.snd.snd.snd.snd.snd.snd.snd.snd.snd.snd.snd.snd.snd.fst, y2.snd.snd.snd.snd.snd.snd.snd.snd.snd.snd.snd.snd.snd.snd.snd.snd.snd.fst, y2.snd.snd.snd.snd.snd.snd.snd.snd.snd.snd.snd.snd.snd.snd.snd.snd.snd.snd.fst, y2.snd.snd.snd.snd.snd.snd.snd.snd.snd.snd.snd.snd.snd.snd.snd.snd.snd.snd.snd.fst, ()))
        else
         none
       else
        bif inRange y2.snd.snd.fst 6 then
         Option.bind (f42 y2.snd.snd.snd.snd.fst (List.getD [y2.snd.snd.snd.snd.snd.snd.snd.snd.snd.snd.snd.snd.snd.snd.fst, y2.snd.snd.snd.snd.snd.snd.snd.snd.snd.snd.snd.snd.snd.snd.snd.fst, y2.snd.snd.snd.snd.snd.snd.snd.snd.snd.snd.snd.snd.snd.snd.snd.snd.fst, y2.snd.snd.snd.snd.snd.snd.snd.snd.snd.snd.snd.snd.snd.snd.snd.snd.snd.fst, y2.snd.snd.snd.snd.snd.snd.snd.snd.snd.snd.snd.snd.snd.snd.snd.snd.snd.snd.fst, y2.snd.snd.snd.snd.snd.snd.snd.snd.snd.snd.snd.snd.snd.snd.snd.snd.snd.snd.snd.fst] (Int.toNat y2.snd.snd.fst) 0)) fun y8 =>
          some (Sum.inl (y2.fst, y2.snd.fst, y2.snd.snd.fst, y2.snd.snd.snd.fst, y8.fst, y2.snd.snd.snd.snd.snd.fst, y2.snd.snd.snd.snd.snd.snd.fst, y2.snd.snd.snd.snd.snd.snd.snd.fst, y2.snd.snd.snd.snd.snd.snd.snd.snd.fst, y2.snd.snd.snd.snd.snd.snd.snd.snd.snd.fst, y2.snd.snd.snd.snd.snd.snd.snd.snd.snd.snd.fst, y2.snd.snd.snd.snd.snd.snd.snd.snd.snd.snd.snd.fst, y2.snd.snd.snd.snd.snd.snd.snd.snd.snd.snd.snd.snd.fst, y2.snd.snd.snd.snd.snd.snd.snd.snd.snd.snd.snd.snd.snd.fst, y2.snd.snd.snd.snd.snd.snd.snd.snd.snd.snd.snd.snd.snd.snd.fst, y2.snd.snd.snd.snd.snd.snd.snd.snd.snd.snd.snd.snd.snd.snd.snd.fst, y2.snd.snd.snd.snd.snd.snd.snd.snd.snd.snd.snd.snd.snd.snd.snd.snd.fst, y2.snd.snd.snd.snd.snd.snd.snd.snd.snd.snd.snd.snd.snd.snd.snd.snd.snd.fst, y2.snd.snd.snd.snd.snd.snd.snd.snd.snd.snd.snd.snd.snd.snd.snd.snd.snd.snd.fst, y2.snd.snd.snd.snd.snd.snd.snd.snd.snd.snd.snd.snd.snd.snd.snd.snd.snd.snd.snd.fst, ()))
        else
         none
      else
       none
     else
      bif inRange y2.snd.snd.fst 6 then
       Option.bind (f42 y2.snd.snd.snd.snd.fst (List.getD [y2.snd.snd.snd.snd.snd.snd.snd.snd.snd.snd.snd.snd.snd.snd.fst, y2.snd.snd.snd.snd.snd.snd.snd.snd.snd.snd.snd.snd.snd.snd.snd.fst, y2.snd.snd.snd.snd.snd.snd.snd.snd.snd.snd.snd.snd.snd.snd.snd.snd.fst, y2.snd.snd.snd.snd.snd.snd.snd.snd.snd.snd.snd.snd.snd.snd.snd.snd.snd.fst, y2.snd.snd.snd.snd.snd.snd.snd.snd.snd.snd.snd.snd.snd.snd.snd.snd.snd.snd.fst, y2.snd.snd.snd.snd.snd.snd.snd.snd.snd.snd.snd.snd.snd.snd.snd.snd.snd.snd.snd.fst] (Int.toNat y2.snd.snd.fst) 0)) fun y9 =>
        some (Sum.inl (y2.fst, y2.snd.fst, y2.snd.snd.fst, y2.snd.snd.snd.fst, y9.fst, y2.snd.snd.snd.snd.snd.fst, y2.snd.snd.snd.snd.snd.snd.fst, y2.snd.snd.snd.snd.snd.snd.snd.fst, y2.snd.snd.snd.snd.snd.snd.snd.snd.fst, y2.snd.snd.snd.snd.snd.snd.snd.snd.snd.fst, y2.snd.snd.snd.snd.snd.snd.snd.snd.snd.snd.fst, y2.snd.snd.snd.snd.snd.snd.snd.snd.snd.snd.snd.fst, y2.snd.snd.snd.snd.snd.snd.snd.snd.snd.snd.snd.snd.fst, y2.snd.snd.snd.snd.snd.snd.snd.snd.snd.snd.snd.snd.snd.fst, y2.snd.snd.snd.snd.snd.snd.snd.snd.snd.snd.snd.snd.snd.snd.fst, y2.snd.snd.snd.snd.snd.snd.snd.snd.snd.snd.snd.snd.snd.snd.snd.fst, y2.snd.snd.snd.snd.snd.snd.snd.snd.snd.snd.snd.snd.snd.snd.snd.snd.fst, y2.snd.snd.snd.snd.snd.snd.snd.snd.snd.snd.snd.snd.snd.snd.snd.snd.snd.fst, y2.snd.snd.snd.snd.snd.snd.snd.snd.snd.snd.snd.snd.snd.snd.snd.snd.snd.snd.fst, y2.snd.snd.snd.snd.snd.snd.snd.snd.snd.snd.snd.snd.snd.snd.snd.snd.snd.snd.snd.fst, ()))
      else
       none
   ) fun y10 =>
    Sum.elim (fun y11 =>
     Option.bind (f41 y11.snd.snd.snd.fst y11.snd.snd.snd.snd.fst y11.snd.snd.snd.snd.snd.fst y11.snd.snd.snd.snd.snd.snd.snd.fst) fun y12 =>
      rec (y11.fst, y11.snd.fst, y11.snd.snd.fst, y11.snd.snd.snd.fst, y11.snd.snd.snd.snd.fst, y12.fst, y11.snd.snd.snd.snd.snd.snd.fst, y12.snd.fst, y11.snd.snd.snd.snd.snd.snd.snd.snd.fst, y11.snd.snd.snd.snd.snd.snd.snd.snd.snd.fst, y11.snd.snd.snd.snd.snd.snd.snd.snd.snd.snd.fst, y11.snd.snd.snd.snd.snd.snd.snd.snd.snd.snd.snd.fst, y11.snd.snd.snd.snd.snd.snd.snd.snd.snd.snd.snd.snd.fst, y11.snd.snd.snd.snd.snd.snd.snd.snd.snd.snd.snd.snd.snd.fst, y11.snd.snd.snd.snd.snd.snd.snd.snd.snd.snd.snd.snd.snd.snd.fst, y11.snd.snd.snd.snd.snd.snd.snd.snd.snd.snd.snd.snd.snd.snd.snd.fst, y11.snd.snd.snd.snd.snd.snd.snd.snd.snd.snd.snd.snd.snd.snd.snd.snd.fst, y11.snd.snd.snd.snd.snd.snd.snd.snd.snd.snd.snd.snd.snd.snd.snd.snd.snd.fst, y11.snd.snd.snd.snd.snd.snd.snd.snd.snd.snd.snd.snd.snd.snd.snd.snd.snd.snd.fst, y11.snd.snd.snd.snd.snd.snd.snd.snd.snd.snd.snd.snd.snd.snd.snd.snd.snd.snd.snd.fst, ())
    ) (fun z13 =>
     some (z13)
    ) (y10)
  ) (fun z14 =>
   some (z14)
  ) (y1)
 ) (100000000000000000000) (x)
def f11.L4 (x : Int × Int × Int × Bool × Int × List Int × List Int × Unit) : Option (Int × Int × Bool × List Int × List Int × Unit ⊕ List Int × List (Int × Int × Int × Int × Int × Int × Int × Int × Int × Int × Int) × List (Int × Int × Int × Int) × Unit) :=
 it (X := Int × Int × Int × Bool × Int × List Int × List Int × Unit) (fun rec x =>
 bif Decidable.decide (x.snd.snd.snd.snd.fst < 384) then
  bif !x.snd.snd.snd.fst then
   bif inRange x.snd.snd.snd.snd.fst (List.length x.snd.snd.snd.snd.snd.fst) then
    bif List.getD x.snd.snd.snd.snd.snd.fst (Int.toNat x.snd.snd.snd.snd.fst) 0 == 1 then
     bif inRange x.snd.snd.snd.snd.fst (List.length x.snd.snd.snd.snd.snd.snd.fst) then
      bif inRange x.snd.snd.fst (List.length x.snd.snd.snd.snd.snd.snd.fst) then
       bif List.getD x.snd.snd.snd.snd.snd.snd.fst (Int.toNat x.snd.snd.snd.snd.fst) 0 == Go.IntKind.wrap Go.IntKind.i64 (Int.tdiv (List.getD x.snd.snd.snd.snd.snd.snd.fst (Int.toNat x.snd.snd.fst) 0) 2) then
        bif inRange x.snd.snd.snd.snd.fst (List.length x.snd.snd.snd.snd.snd.fst) then
         rec (x.fst, x.snd.fst, x.snd.snd.fst, Bool.true, Go.IntKind.wrap Go.IntKind.i64 (x.snd.snd.snd.snd.fst + 1), List.set x.snd.snd.snd.snd.snd.fst (Int.toNat x.snd.snd.snd.snd.fst) 5, x.snd.snd.snd.snd.snd.snd.fst, ())
        else
         none
       else
        rec (x.fst, x.snd.fst, x.snd.snd.fst, x.snd.snd.snd.fst, Go.IntKind.wrap Go.IntKind.i64 (x.snd.snd.snd.snd.fst + 1), x.snd.snd.snd.snd.snd.fst, x.snd.snd.snd.snd.snd.snd.fst, ())
      else
       none
     else
      none
    else
     rec (x.fst, x.snd.fst, x.snd.snd.fst, x.snd.snd.snd.fst, Go.IntKind.wrap Go.IntKind.i64 (x.snd.snd.snd.snd.fst + 1), x.snd.snd.snd.snd.snd.fst, x.snd.snd.snd.snd.snd.snd.fst, ())
   else
    none
  else
   some (Sum.inl (x.fst, x.snd.fst, x.snd.snd.snd.fst, x.snd.snd.snd.snd.snd.fst, x.snd.snd.snd.snd.snd.snd.fst, ()))
 else
  some (Sum.inl (x.fst, x.snd.fst, x.snd.snd.snd.fst, x.snd.snd.snd.snd.snd.fst, x.snd.snd.snd.snd.snd.snd.fst, ()))
 ) (100000000000000000000) (x)
def f11.L5 (x : Int × Int × Bool × Int × List Int × List Int × List Bool × List (Int × Int × Int × Int × Int × Int × Int × Int × Int × Int × Int) × Unit) : Option (Int × Int × Bool × List Int × List Int × List (Int × Int × Int × Int × Int × Int × Int × Int × Int × Int × Int) × Unit ⊕ List Int × List (Int × Int × Int × Int × Int × Int × Int × Int × Int × Int × Int) × List (Int × Int × Int × Int) × Unit) :=
 it (X := Int × Int × Bool × Int × List Int × List Int × List Bool × List (Int × Int × Int × Int × Int × Int × Int × Int × Int × Int × Int) × Unit) (fun rec x =>
 bif Decidable.decide (x.snd.snd.snd.fst ≤ Go.IntKind.wrap Go.IntKind.i64 (x.snd.fst + 1)) then
  Option.bind (f43 x.snd.snd.snd.snd.fst x.snd.snd.snd.snd.snd.fst 4 x.snd.snd.snd.snd.snd.snd.fst x.fst x.snd.fst (Go.IntKind.wrap Go.IntKind.i64 (7 + x.snd.snd.snd.fst))) fun y0 =>
   bif Decidable.decide (y0.fst < 0) then
    some (Sum.inl (x.fst, x.snd.fst, x.snd.snd.fst, x.snd.snd.snd.snd.fst, x.snd.snd.snd.snd.snd.fst, x.snd.snd.snd.snd.snd.snd.snd.fst, ()))
   else
    bif inRange y0.fst (List.length x.snd.snd.snd.snd.snd.snd.fst) then
     Option.bind (f40 x.fst x.snd.fst (Go.IntKind.wrap Go.IntKind.i64 (16 + x.snd.snd.snd.fst)) 1 (minI (Go.IntKind.wrap Go.IntKind.i64 (x.snd.fst + 1)) 3)) fun y1 =>
      Option.bind (f28 (Go.IntKind.wrap Go.IntKind.i64 (2 + y1.fst))) fun y2 =>
       bif Decidable.decide (List.length x.snd.snd.snd.snd.snd.snd.snd.fst + 1 ≤ limit 88) then
        rec (x.fst, x.snd.fst, x.snd.snd.fst, Go.IntKind.wrap Go.IntKind.i64 (x.snd.snd.snd.fst + 1), x.snd.snd.snd.snd.fst, x.snd.snd.snd.snd.snd.fst, List.set x.snd.snd.snd.snd.snd.snd.fst (Int.toNat y0.fst) Bool.true, x.snd.snd.snd.snd.snd.snd.snd.fst ++ [(y2.fst, y2.snd.fst, y2.snd.snd.fst, Int.tmod y0.fst 24, Go.IntKind.wrap Go.IntKind.i64 (Int.tdiv y0.fst 24), y2.snd.snd.snd.snd.snd.fst, y2.snd.snd.snd.snd.snd.snd.fst, y2.snd.snd.snd.snd.snd.snd.snd.fst, y2.snd.snd.snd.snd.snd.snd.snd.snd.fst, y2.snd.snd.snd.snd.snd.snd.snd.snd.snd.fst, y2.snd.snd.snd.snd.snd.snd.snd.snd.snd.snd.fst)], ())
       else
        none
    else
     none
 else
  some (Sum.inl (x.fst, x.snd.fst, x.snd.snd.fst, x.snd.snd.snd.snd.fst, x.snd.snd.snd.snd.snd.fst, x.snd.snd.snd.snd.snd.snd.snd.fst, ()))
 ) (100000000000000000000) (x)
def f11.L6 (x : Int × Int × Bool × Int × List Int × List (Int × Int × Int × Int × Int × Int × Int × Int × Int × Int × Int) × List (Int × Int × Int × Int) × Unit) : Option (List Int × List (Int × Int × Int × Int × Int × Int × Int × Int × Int × Int × Int) × List (Int × Int × Int × Int) × Unit ⊕ List Int × List (Int × Int × Int × Int × Int × Int × Int × Int × Int × Int × Int) × List (Int × Int × Int × Int) × Unit) :=
 it (X := Int × Int × Bool × Int × List Int × List (Int × Int × Int × Int × Int × Int × Int × Int × Int × Int × Int) × List (Int × Int × Int × Int) × Unit) (fun rec x =>
 bif Decidable.decide (x.snd.snd.snd.fst < 3) then
  bif x.snd.snd.fst then
   Option.bind (f40 x.fst x.snd.fst (Go.IntKind.wrap Go.IntKind.i64 (50 + x.snd.snd.snd.fst)) 1 3) fun y0 =>
    bif Decidable.decide (List.length x.snd.snd.snd.snd.snd.snd.fst + 1 ≤ limit 32) then
     rec (x.fst, x.snd.fst, x.snd.snd.fst, Go.IntKind.wrap Go.IntKind.i64 (x.snd.snd.snd.fst + 1), x.snd.snd.snd.snd.fst, x.snd.snd.snd.snd.snd.fst, x.snd.snd.snd.snd.snd.snd.fst ++ [(Go.IntKind.wrap Go.IntKind.i64 (1 + y0.fst), 4, x.snd.snd.snd.fst, 0)], ())
    else
     none
  else
   some (Sum.inl (x.snd.snd.snd.snd.fst, x.snd.snd.snd.snd.snd.fst, x.snd.snd.snd.snd.snd.snd.fst, ()))
 else
  some (Sum.inl (x.snd.snd.snd.snd.fst, x.snd.snd.snd.snd.snd.fst, x.snd.snd.snd.snd.snd.snd.fst, ()))
 ) (100000000000000000000) (x)
def f11.L7 (x : Int × Int × Bool × Int × List Int × List Int × List Bool × List (Int × Int × Int × Int × Int × Int × Int × Int × Int × Int × Int) × List (Int × Int × Int × Int) × Unit) : Option (List Int × List (Int × Int × Int × Int × Int × Int × Int × Int × Int × Int × Int) × List (Int × Int × Int × Int) × Unit) :=
 it (X := Int × Int × Bool × Int × List Int × List Int × List Bool × List (Int × Int × Int × Int × Int × Int × Int × Int × Int × Int × Int) × List (Int × Int × Int × Int) × Unit) (fun rec x =>
 bif Decidable.decide (x.snd.snd.snd.fst < 4) then
  Option.bind (f43 x.snd.snd.snd.snd.fst x.snd.snd.snd.snd.snd.fst 0 x.snd.snd.snd.snd.snd.snd.fst x.fst x.snd.fst (Go.IntKind.wrap Go.IntKind.i64 (40 + x.snd.snd.snd.fst))) fun y0 =>
   bif Decidable.decide (y0.fst < 0) then
    rec (x.fst, x.snd.fst, x.snd.snd.fst, Go.IntKind.wrap Go.IntKind.i64 (x.snd.snd.snd.fst + 1), x.snd.snd.snd.snd.fst, x.snd.snd.snd.snd.snd.fst, x.snd.snd.snd.snd.snd.snd.fst, x.snd.snd.snd.snd.snd.snd.snd.fst, x.snd.snd.snd.snd.snd.snd.snd.snd.fst, ())
   else
    bif inRange y0.fst (List.length x.snd.snd.snd.snd.snd.snd.fst) then
     Option.bind (f40 x.fst x.snd.fst (Go.IntKind.wrap Go.IntKind.i64 (40 + x.snd.snd.snd.fst)) 1 4) fun y1 =>
      bif Decidable.decide (List.length x.snd.snd.snd.snd.snd.snd.snd.snd.fst + 1 ≤ limit 32) then
       rec (x.fst, x.snd.fst, x.snd.snd.fst, Go.IntKind.wrap Go.IntKind.i64 (x.snd.snd.snd.fst + 1), x.snd.snd.snd.snd.fst, x.snd.snd.snd.snd.snd.fst, List.set x.snd.snd.snd.snd.snd.snd.fst (Int.toNat y0.fst) Bool.true, x.snd.snd.snd.snd.snd.snd.snd.fst, x.snd.snd.snd.snd.snd.snd.snd.snd.fst ++ [(Go.IntKind.wrap Go.IntKind.i64 (1 + y1.fst), 1, Int.tmod y0.fst 24, Go.IntKind.wrap Go.IntKind.i64 (Int.tdiv y0.fst 24))], ())
      else
       none
    else
     none
 else
  Option.bind (α := List Int × List (Int × Int × Int × Int × Int × Int × Int × Int × Int × Int × Int) × List (Int × Int × Int × Int) × Unit ⊕ List Int × List (Int × Int × Int × Int × Int × Int × Int × Int × Int × Int × Int) × List (Int × Int × Int × Int) × Unit) (
   f11.L6 ((x.fst, x.snd.fst, x.snd.snd.fst, 0, x.snd.snd.snd.snd.fst, x.snd.snd.snd.snd.snd.snd.snd.fst, x.snd.snd.snd.snd.snd.snd.snd.snd.fst, ()))
  ) fun y2 =>
   Sum.elim (fun y3 =>
    some ((y3.fst, y3.snd.fst, y3.snd.snd.fst, ()))
   ) (fun z4 =>
    some (z4)
   ) (y2)
 ) (100000000000000000000) (x)
def f11.L8 (x : Int × Int × Int × Int × List Int × List Int × Unit) : Option (List Int × List (Int × Int × Int × Int × Int × Int × Int × Int × Int × Int × Int) × List (Int × Int × Int × Int) × Unit) :=
 it (X := Int × Int × Int × Int × List Int × List Int × Unit) (fun rec x =>
 bif Decidable.decide (x.snd.snd.snd.fst < 384) then
  bif inRange x.snd.snd.snd.fst (List.length x.snd.snd.snd.snd.snd.fst) then
   bif inRange x.snd.snd.fst (List.length x.snd.snd.snd.snd.snd.fst) then
    bif Decidable.decide (List.getD x.snd.snd.snd.snd.snd.fst (Int.toNat x.snd.snd.snd.fst) 0 > List.getD x.snd.snd.snd.snd.snd.fst (Int.toNat x.snd.snd.fst) 0) then
     rec (x.fst, x.snd.fst, x.snd.snd.snd.fst, Go.IntKind.wrap Go.IntKind.i64 (x.snd.snd.snd.fst + 1), x.snd.snd.snd.snd.fst, x.snd.snd.snd.snd.snd.fst, ())
    else
     rec (x.fst, x.snd.fst, x.snd.snd.fst, Go.IntKind.wrap Go.IntKind.i64 (x.snd.snd.snd.fst + 1), x.snd.snd.snd.snd.fst, x.snd.snd.snd.snd.snd.fst, ())
   else
    none
  else
   none
 else
  bif inRange x.snd.snd.fst (List.length x.snd.snd.snd.snd.fst) then
   Option.bind (α := Int × Int × Bool × List Int × List Int × Unit ⊕ List Int × List (Int × Int × Int × Int × Int × Int × Int × Int × Int × Int × Int) × List (Int × Int × Int × Int) × Unit) (
    Option.bind (f40 x.fst x.snd.fst 6 0 2) fun y0 =>
     bif y0.fst == 0 then
      f11.L4 ((x.fst, x.snd.fst, x.snd.snd.fst, Bool.false, 0, List.set x.snd.snd.snd.snd.fst (Int.toNat x.snd.snd.fst) 4, x.snd.snd.snd.snd.snd.fst, ()))
     else
      some (Sum.inl (x.fst, x.snd.fst, Bool.false, List.set x.snd.snd.snd.snd.fst (Int.toNat x.snd.snd.fst) 4, x.snd.snd.snd.snd.snd.fst, ()))
   ) fun y1 =>
    Sum.elim (fun y2 =>
     Option.bind (α := Int × Int × Bool × List Int × List Int × List (Int × Int × Int × Int × Int × Int × Int × Int × Int × Int × Int) × Unit ⊕ List Int × List (Int × Int × Int × Int × Int × Int × Int × Int × Int × Int × Int) × List (Int × Int × Int × Int) × Unit) (
      f11.L5 ((y2.fst, y2.snd.fst, y2.snd.snd.fst, 0, y2.snd.snd.snd.fst, y2.snd.snd.snd.snd.fst, List.replicate 384 Bool.false, [], ()))
     ) fun y3 =>
      Sum.elim (fun y4 =>
       f11.L7 ((y4.fst, y4.snd.fst, y4.snd.snd.fst, 0, y4.snd.snd.snd.fst, y4.snd.snd.snd.snd.fst, List.replicate 384 Bool.false, y4.snd.snd.snd.snd.snd.fst, [], ()))
      ) (fun z5 =>
       some (z5)
      ) (y3)
    ) (fun z6 =>
     some (z6)
    ) (y1)
  else
   none
 ) (100000000000000000000) (x)
def f11.L9 (x : Int × Int × Int × List Int × Int × Int × Int × Int × Int × Int × Int × Int × Int × Int × Int × Int × Unit) : Option (List Int × List (Int × Int × Int × Int × Int × Int × Int × Int × Int × Int × Int) × List (Int × Int × Int × Int) × Unit) :=
 it (X := Int × Int × Int × List Int × Int × Int × Int × Int × Int × Int × Int × Int × Int × Int × Int × Int × Unit) (fun rec x =>
 bif Decidable.decide (x.snd.snd.fst < 6) then
  bif inRange (Go.IntKind.wrap Go.IntKind.i64 (x.snd.snd.fst - 1)) 6 then
   bif inRange (Go.IntKind.wrap Go.IntKind.i64 (x.snd.snd.fst - 1)) 6 then
    Option.bind (f41 (List.getD [x.snd.snd.snd.snd.fst, x.snd.snd.snd.snd.snd.fst, x.snd.snd.snd.snd.snd.snd.fst, x.snd.snd.snd.snd.snd.snd.snd.fst, x.snd.snd.snd.snd.snd.snd.snd.snd.fst, x.snd.snd.snd.snd.snd.snd.snd.snd.snd.fst] (Int.toNat (Go.IntKind.wrap Go.IntKind.i64 (x.snd.snd.fst - 1))) 0) (List.getD [x.snd.snd.snd.snd.snd.snd.snd.snd.snd.snd.fst, x.snd.snd.snd.snd.snd.snd.snd.snd.snd.snd.snd.fst, x.snd.snd.snd.snd.snd.snd.snd.snd.snd.snd.snd.snd.fst, x.snd.snd.snd.snd.snd.snd.snd.snd.snd.snd.snd.snd.snd.fst, x.snd.snd.snd.snd.snd.snd.snd.snd.snd.snd.snd.snd.snd.snd.fst, x.snd.snd.snd.snd.snd.snd.snd.snd.snd.snd.snd.snd.snd.snd.snd.fst] (Int.toNat (Go.IntKind.wrap Go.IntKind.i64 (x.snd.snd.fst - 1))) 0) Bool.false x.snd.snd.snd.fst) fun y0 =>
     Option.bind (f40 x.fst x.snd.fst x.snd.snd.fst 4 2) fun y1 =>
      f11.L3 rec ((x.fst, x.snd.fst, x.snd.snd.fst, List.getD [x.snd.snd.snd.snd.fst, x.snd.snd.snd.snd.snd.fst, x.snd.snd.snd.snd.snd.snd.fst, x.snd.snd.snd.snd.snd.snd.snd.fst, x.snd.snd.snd.snd.snd.snd.snd.snd.fst, x.snd.snd.snd.snd.snd.snd.snd.snd.snd.fst] (Int.toNat (Go.IntKind.wrap Go.IntKind.i64 (x.snd.snd.fst - 1))) 0, List.getD [x.snd.snd.snd.snd.snd.snd.snd.snd.snd.snd.fst, x.snd.snd.snd.snd.snd.snd.snd.snd.snd.snd.snd.fst, x.snd.snd.snd.snd.snd.snd.snd.snd.snd.snd.snd.snd.fst, x.snd.snd.snd.snd.snd.snd.snd.snd.snd.snd.snd.snd.snd.fst, x.snd.snd.snd.snd.snd.snd.snd.snd.snd.snd.snd.snd.snd.snd.fst, x.snd.snd.snd.snd.snd.snd.snd.snd.snd.snd.snd.snd.snd.snd.snd.fst] (Int.toNat (Go.IntKind.wrap Go.IntKind.i64 (x.snd.snd.fst - 1))) 0, y0.fst, y1.fst == 0, y0.snd.fst, x.snd.snd.snd.snd.fst, x.snd.snd.snd.snd.snd.fst, x.snd.snd.snd.snd.snd.snd.fst, x.snd.snd.snd.snd.snd.snd.snd.fst, x.snd.snd.snd.snd.snd.snd.snd.snd.fst, x.snd.snd.snd.snd.snd.snd.snd.snd.snd.fst, x.snd.snd.snd.snd.snd.snd.snd.snd.snd.snd.fst, x.snd.snd.snd.snd.snd.snd.snd.snd.snd.snd.snd.fst, x.snd.snd.snd.snd.snd.snd.snd.snd.snd.snd.snd.snd.fst, x.snd.snd.snd.snd.snd.snd.snd.snd.snd.snd.snd.snd.snd.fst, x.snd.snd.snd.snd.snd.snd.snd.snd.snd.snd.snd.snd.snd.snd.fst, x.snd.snd.snd.snd.snd.snd.snd.snd.snd.snd.snd.snd.snd.snd.snd.fst, ()))
   else
    none
  else
   none
 else
  bif inRange (Go.IntKind.wrap Go.IntKind.i64 (Go.IntKind.wrap Go.IntKind.i64 (x.snd.snd.snd.snd.snd.snd.snd.snd.snd.snd.fst * 24) + x.snd.snd.snd.snd.fst)) (List.length x.snd.snd.snd.fst) then
   Option.bind (f14 (List.set x.snd.snd.snd.fst (Int.toNat (Go.IntKind.wrap Go.IntKind.i64 (Go.IntKind.wrap Go.IntKind.i64 (x.snd.snd.snd.snd.snd.snd.snd.snd.snd.snd.fst * 24) + x.snd.snd.snd.snd.fst))) 3) [] [Go.IntKind.wrap Go.IntKind.i64 (Go.IntKind.wrap Go.IntKind.i64 (x.snd.snd.snd.snd.snd.snd.snd.snd.snd.snd.fst * 24) + x.snd.snd.snd.snd.fst)]) fun y2 =>
    f11.L8 ((x.fst, x.snd.fst, Go.IntKind.wrap Go.IntKind.i64 (Go.IntKind.wrap Go.IntKind.i64 (x.snd.snd.snd.snd.snd.snd.snd.snd.snd.snd.fst * 24) + x.snd.snd.snd.snd.fst), 0, List.set x.snd.snd.snd.fst (Int.toNat (Go.IntKind.wrap Go.IntKind.i64 (Go.IntKind.wrap Go.IntKind.i64 (x.snd.snd.snd.snd.snd.snd.snd.snd.snd.snd.fst * 24) + x.snd.snd.snd.snd.fst))) 3, y2.fst, ()))
  else
   none
 ) (100000000000000000000) (x)
def f11.L10 (x : Int × Int × Int × List Int × Int × Int × Int × Int × Int × Int × Int × Int × Int × Int × Int × Int × Unit) : Option (List Int × List (Int × Int × Int × Int × Int × Int × Int × Int × Int × Int × Int) × List (Int × Int × Int × Int) × Unit) :=
 it (X := Int × Int × Int × List Int × Int × Int × Int × Int × Int × Int × Int × Int × Int × Int × Int × Int × Unit) (fun rec x =>
 bif Decidable.decide (x.snd.snd.fst < 6) then
  Option.bind (f40 x.fst x.snd.fst x.snd.snd.fst 0 5) fun y0 =>
   Option.bind (f40 x.fst x.snd.fst x.snd.snd.fst 1 4) fun y1 =>
    Option.bind (f40 x.fst x.snd.fst x.snd.snd.fst 2 (Go.IntKind.wrap Go.IntKind.i64 (23 - Go.IntKind.wrap Go.IntKind.i64 (3 + y0.fst)))) fun y2 =>
     Option.bind (f40 x.fst x.snd.fst x.snd.snd.fst 3 (Go.IntKind.wrap Go.IntKind.i64 (15 - Go.IntKind.wrap Go.IntKind.i64 (2 + y1.fst)))) fun y3 =>
      f11.L2 rec ((x.fst, x.snd.fst, x.snd.snd.fst, Go.IntKind.wrap Go.IntKind.i64 (3 + y0.fst), Go.IntKind.wrap Go.IntKind.i64 (2 + y1.fst), Go.IntKind.wrap Go.IntKind.i64 (1 + y2.fst), Go.IntKind.wrap Go.IntKind.i64 (1 + y3.fst), Go.IntKind.wrap Go.IntKind.i64 (1 + y3.fst), x.snd.snd.snd.fst, x.snd.snd.snd.snd.fst, x.snd.snd.snd.snd.snd.fst, x.snd.snd.snd.snd.snd.snd.fst, x.snd.snd.snd.snd.snd.snd.snd.fst, x.snd.snd.snd.snd.snd.snd.snd.snd.fst, x.snd.snd.snd.snd.snd.snd.snd.snd.snd.fst, x.snd.snd.snd.snd.snd.snd.snd.snd.snd.snd.fst, x.snd.snd.snd.snd.snd.snd.snd.snd.snd.snd.snd.fst, x.snd.snd.snd.snd.snd.snd.snd.snd.snd.snd.snd.snd.fst, x.snd.snd.snd.snd.snd.snd.snd.snd.snd.snd.snd.snd.snd.fst, x.snd.snd.snd.snd.snd.snd.snd.snd.snd.snd.snd.snd.snd.snd.fst, x.snd.snd.snd.snd.snd.snd.snd.snd.snd.snd.snd.snd.snd.snd.snd.fst, ()))
 else
  f11.L9 ((x.fst, x.snd.fst, 1, x.snd.snd.snd.fst, x.snd.snd.snd.snd.fst, x.snd.snd.snd.snd.snd.fst, x.snd.snd.snd.snd.snd.snd.fst, x.snd.snd.snd.snd.snd.snd.snd.fst, x.snd.snd.snd.snd.snd.snd.snd.snd.fst, x.snd.snd.snd.snd.snd.snd.snd.snd.snd.fst, x.snd.snd.snd.snd.snd.snd.snd.snd.snd.snd.fst, x.snd.snd.snd.snd.snd.snd.snd.snd.snd.snd.snd.fst, x.snd.snd.snd.snd.snd.snd.snd.snd.snd.snd.snd.snd.fst, x.snd.snd.snd.snd.snd.snd.snd.snd.snd.snd.snd.snd.snd.fst, x.snd.snd.snd.snd.snd.snd.snd.snd.snd.snd.snd.snd.snd.snd.fst, x.snd.snd.snd.snd.snd.snd.snd.snd.snd.snd.snd.snd.snd.snd.snd.fst, ()))
 ) (100000000000000000000) (x)
def f11 (a0 : Int) (a1 : Int) : Option (List Int × List (Int × Int × Int × Int × Int × Int × Int × Int × Int × Int × Int) × List (Int × Int × Int × Int) × Unit) :=
 f11.L10 ((a0, a1, 0, List.replicate 384 0, 0, 0, 0, 0, 0, 0, 0, 0, 0, 0, 0, 0, ()))
def f11.ins : Shape := ⟨[(0, .c (.int .i64)), (1, .c (.int .i64))], []⟩
def f11.outs : List Shape := [⟨[(0, .agg [.own 0, .own 1, .own 2])], [(0, .arr (.int .u8)), (1, .arr (.prod (.int .i64) (.prod (.int .i64) (.prod (.int .i64) (.prod (.int .i64) (.prod (.int .i64) (.prod (.int .i64) (.prod (.int .i64) (.prod (.int .i64) (.prod (.int .i64) (.prod (.int .i64) (.int .i64)))))))))))), (2, .arr (.prod (.int .i64) (.prod (.int .i64) (.prod (.int .i64) (.int .i64)))))]⟩]
def f11.S : FnSpec := ⟨f11.ins, f11.outs, [], fun x => f11 x.1 x.2.1⟩
def f11.E (fuel : Nat) : Env := ⟨tis, [(40, f40.S), (41, f41.S), (42, f42.S), (14, f14.S), (43, f43.S), (28, f28.S)], [], [(24, ⟨[(0, .c (.int .i64)), (1, .c (.int .i64)), (4, .c (.ptr 0 0)), (5, .c (.own 1)), (6, .c (.ptr 2 0)), (7, .c (.ptr 3 0)), (15, .c (.int .i64)), (16, .c (.int .i64)), (17, .c (.int .i64)), (18, .c (.bool)), (19, .c (.bool))], [(0, .box [.nils, .nils, .nils]), (1, .arr (.int .u8)), (2, .box [.int .i64, .int .i64, .int .i64, .int .i64, .int .i64, .int .i64]), (3, .box [.int .i64, .int .i64, .int .i64, .int .i64, .int .i64, .int .i64])]⟩), (27, ⟨[(0, .c (.int .i64)), (1, .c (.int .i64)), (4, .c (.ptr 0 0)), (5, .c (.own 1)), (6, .c (.ptr 2 0)), (7, .c (.ptr 3 0)), (15, .c (.int .i64)), (16, .c (.int .i64)), (17, .c (.int .i64)), (18, .c (.bool)), (19, .c (.bool))], [(0, .box [.nils, .nils, .nils]), (1, .arr (.int .u8)), (2, .box [.int .i64, .int .i64, .int .i64, .int .i64, .int .i64, .int .i64]), (3, .box [.int .i64, .int .i64, .int .i64, .int .i64, .int .i64, .int .i64])]⟩), (46, ⟨[(0, .c (.int .i64)), (1, .c (.int .i64)), (4, .c (.ptr 0 0)), (5, .c (.own 1)), (21, .c (.own 2)), (24, .c (.bool))], [(0, .box [.nils, .nils, .nils]), (1, .arr (.int .u8)), (2, .arr (.int .i64))]⟩), (57, ⟨[(0, .c (.int .i64)), (1, .c (.int .i64)), (4, .c (.ptr 0 0)), (5, .c (.own 1)), (21, .c (.own 2)), (24, .c (.bool)), (26, .c (.ptr 3 0))], [(0, .box [.nils, .nils, .nils]), (1, .arr (.int .u8)), (2, .arr (.int .i64)), (3, .box [.own 1, .own 4, .nils]), (4, .arr (.prod (.int .i64) (.prod (.int .i64) (.prod (.int .i64) (.prod (.int .i64) (.prod (.int .i64) (.prod (.int .i64) (.prod (.int .i64) (.prod (.int .i64) (.prod (.int .i64) (.prod (.int .i64) (.int .i64))))))))))))]⟩), (69, ⟨[(4, .c (.ptr 0 0)), (26, .c (.ptr 1 0))], [(0, .box [.nils, .nils, .nils]), (1, .box [.own 2, .own 3, .own 4]), (2, .arr (.int .u8)), (3, .arr (.prod (.int .i64) (.prod (.int .i64) (.prod (.int .i64) (.prod (.int .i64) (.prod (.int .i64) (.prod (.int .i64) (.prod (.int .i64) (.prod (.int .i64) (.prod (.int .i64) (.prod (.int .i64) (.int .i64)))))))))))), (4, .arr (.prod (.int .i64) (.prod (.int .i64) (.prod (.int .i64) (.int .i64)))))]⟩)], [(5, ⟨[(0, .c (.int .i64)), (1, .c (.int .i64)), (4, .c (.ptr 0 0)), (5, .c (.own 1)), (6, .c (.ptr 2 0)), (7, .c (.ptr 3 0)), (8, .c (.int .i64))], [(0, .box [.nils, .nils, .nils]), (1, .arr (.int .u8)), (2, .box [.int .i64, .int .i64, .int .i64, .int .i64, .int .i64, .int .i64]), (3, .box [.int .i64, .int .i64, .int .i64, .int .i64, .int .i64, .int .i64])]⟩), (10, ⟨[(0, .c (.int .i64)), (1, .c (.int .i64)), (4, .c (.ptr 0 0)), (5, .c (.own 1)), (6, .c (.ptr 2 0)), (7, .c (.ptr 3 0)), (8, .c (.int .i64)), (9, .c (.int .i64)), (10, .c (.int .i64)), (11, .c (.int .i64)), (12, .c (.int .i64)), (13, .c (.int .i64))], [(0, .box [.nils, .nils, .nils]), (1, .arr (.int .u8)), (2, .box [.int .i64, .int .i64, .int .i64, .int .i64, .int .i64, .int .i64]), (3, .box [.int .i64, .int .i64, .int .i64, .int .i64, .int .i64, .int .i64])]⟩), (13, ⟨[(0, .c (.int .i64)), (1, .c (.int .i64)), (4, .c (.ptr 0 0)), (5, .c (.own 1)), (6, .c (.ptr 2 0)), (7, .c (.ptr 3 0)), (8, .c (.int .i64)), (9, .c (.int .i64)), (10, .c (.int .i64)), (11, .c (.int .i64)), (12, .c (.int .i64)), (13, .c (.int .i64)), (14, .c (.int .i64))], [(0, .box [.nils, .nils, .nils]), (1, .arr (.int .u8)), (2, .box [.int .i64, .int .i64, .int .i64, .int .i64, .int .i64, .int .i64]), (3, .box [.int .i64, .int .i64, .int .i64, .int .i64, .int .i64, .int .i64])]⟩), (18, ⟨[(0, .c (.int .i64)), (1, .c (.int .i64)), (4, .c (.ptr 0 0)), (5, .c (.own 1)), (6, .c (.ptr 2 0)), (7, .c (.ptr 3 0)), (15, .c (.int .i64))], [(0, .box [.nils, .nils, .nils]), (1, .arr (.int .u8)), (2, .box [.int .i64, .int .i64, .int .i64, .int .i64, .int .i64, .int .i64]), (3, .box [.int .i64, .int .i64, .int .i64, .int .i64, .int .i64, .int .i64])]⟩), (23, ⟨[(0, .c (.int .i64)), (1, .c (.int .i64)), (4, .c (.ptr 0 0)), (5, .c (.own 1)), (6, .c (.ptr 2 0)), (7, .c (.ptr 3 0)), (15, .c (.int .i64)), (16, .c (.int .i64)), (17, .c (.int .i64)), (18, .c (.bool)), (19, .c (.bool))], [(0, .box [.nils, .nils, .nils]), (1, .arr (.int .u8)), (2, .box [.int .i64, .int .i64, .int .i64, .int .i64, .int .i64, .int .i64]), (3, .box [.int .i64, .int .i64, .int .i64, .int .i64, .int .i64, .int .i64])]⟩), (33, ⟨[(0, .c (.int .i64)), (1, .c (.int .i64)), (4, .c (.ptr 0 0)), (5, .c (.own 1)), (21, .c (.own 2)), (22, .c (.int .i64)), (23, .c (.int .i64))], [(0, .box [.nils, .nils, .nils]), (1, .arr (.int .u8)), (2, .arr (.int .i64))]⟩), (41, ⟨[(0, .c (.int .i64)), (1, .c (.int .i64)), (4, .c (.ptr 0 0)), (5, .c (.own 1)), (21, .c (.own 2)), (22, .c (.int .i64)), (24, .c (.bool)), (25, .c (.int .i64))], [(0, .box [.nils, .nils, .nils]), (1, .arr (.int .u8)), (2, .arr (.int .i64))]⟩), (49, ⟨[(0, .c (.int .i64)), (1, .c (.int .i64)), (4, .c (.ptr 0 0)), (5, .c (.own 1)), (21, .c (.own 2)), (24, .c (.bool)), (26, .c (.ptr 3 0)), (27, .c (.own 4)), (28, .c (.int .i64))], [(0, .box [.nils, .nils, .nils]), (1, .arr (.int .u8)), (2, .arr (.int .i64)), (3, .box [.own 1, .own 5, .nils]), (4, .arr .bool), (5, .arr (.prod (.int .i64) (.prod (.int .i64) (.prod (.int .i64) (.prod (.int .i64) (.prod (.int .i64) (.prod (.int .i64) (.prod (.int .i64) (.prod (.int .i64) (.prod (.int .i64) (.prod (.int .i64) (.int .i64))))))))))))]⟩), (59, ⟨[(0, .c (.int .i64)), (1, .c (.int .i64)), (4, .c (.ptr 0 0)), (5, .c (.own 1)), (21, .c (.own 2)), (24, .c (.bool)), (26, .c (.ptr 3 0)), (27, .c (.own 4)), (31, .c (.int .i64))], [(0, .box [.nils, .nils, .nils]), (1, .arr (.int .u8)), (2, .arr (.int .i64)), (3, .box [.own 1, .own 5, .own 6]), (4, .arr .bool), (5, .arr (.prod (.int .i64) (.prod (.int .i64) (.prod (.int .i64) (.prod (.int .i64) (.prod (.int .i64) (.prod (.int .i64) (.prod (.int .i64) (.prod (.int .i64) (.prod (.int .i64) (.prod (.int .i64) (.int .i64)))))))))))), (6, .arr (.prod (.int .i64) (.prod (.int .i64) (.prod (.int .i64) (.int .i64)))))]⟩), (66, ⟨[(0, .c (.int .i64)), (1, .c (.int .i64)), (4, .c (.ptr 0 0)), (24, .c (.bool)), (26, .c (.ptr 1 0)), (33, .c (.int .i64))], [(0, .box [.nils, .nils, .nils]), (1, .box [.own 2, .own 3, .own 4]), (2, .arr (.int .u8)), (3, .arr (.prod (.int .i64) (.prod (.int .i64) (.prod (.int .i64) (.prod (.int .i64) (.prod (.int .i64) (.prod (.int .i64) (.prod (.int .i64) (.prod (.int .i64) (.prod (.int .i64) (.prod (.int .i64) (.int .i64)))))))))))), (4, .arr (.prod (.int .i64) (.prod (.int .i64) (.prod (.int .i64) (.int .i64)))))]⟩)], [], 0, [], fuel⟩
theorem f11.run : ∀ x, runFn (f11.E 100000000000000000000) Go.Proofs.Try.f11 ((Go.Proofs.Try.f11.body).getD .skip) f11.S x = f11.S.f x := by intro x; kernel_rfl
theorem f11.sound : Sound Go.Proofs.Try.prog 11 f11.S := sound_of_run (fun _ => f11.E 100000000000000000000) (by kernel_rfl) (by kernel_rfl) (by kernel_rfl) orders (fun _ => ⟨tis_ok, EqsOk.nil _, (FnsOk.cons f40.sound (FnsOk.cons f41.sound (FnsOk.cons f42.sound (FnsOk.cons f14.sound (FnsOk.cons f43.sound (FnsOk.cons f28.sound FnsOk.nil))))))⟩) (fun _ => rfl) (by kernel_rfl) (by kernel_rfl) (fun x r h => (f11.run x).trans h)
/-! f46: adit/nav.number -/
def f46 (a0 : Int) (a1 : Int) : Option (Int × Unit) :=
 bif Decidable.decide (a0 < 0) then
  some ((-1, ()))
 else
  bif Decidable.decide (a0 ≥ 24) then
   some ((-1, ()))
  else
   bif Decidable.decide (a1 < 0) then
    some ((-1, ()))
   else
    bif Decidable.decide (a1 ≥ 16) then
     some ((-1, ()))
    else
     some ((Go.IntKind.wrap Go.IntKind.i64 (Go.IntKind.wrap Go.IntKind.i64 (a1 * 24) + a0), ()))
def f46.ins : Shape := ⟨[(0, .c (.int .i64)), (1, .c (.int .i64))], []⟩
def f46.outs : List Shape := [⟨[(0, .c (.int .i64))], []⟩]
def f46.S : FnSpec := ⟨f46.ins, f46.outs, [], fun x => f46 x.1 x.2.1⟩
def f46.E (fuel : Nat) : Env := ⟨tis, [], [], [], [], [], 0, [], fuel⟩
theorem f46.run : ∀ x, runFn (f46.E 100000000000000000000) Go.Proofs.Try.f46 ((Go.Proofs.Try.f46.body).getD .skip) f46.S x = f46.S.f x := by intro x; kernel_rfl
theorem f46.sound : Sound Go.Proofs.Try.prog 46 f46.S := sound_of_run (fun _ => f46.E 100000000000000000000) (by kernel_rfl) (by kernel_rfl) (by kernel_rfl) orders (fun _ => ⟨tis_ok, EqsOk.nil _, FnsOk.nil⟩) (fun _ => rfl) (by kernel_rfl) (by kernel_rfl) (fun x r h => (f46.run x).trans h)
/-! f69: adit/grid.kind -/
def f69 (a0 : List Int) (a1 : Int) : Option (Int × Unit) :=
 bif Decidable.decide (a1 < 0) then
  some ((0, ()))
 else
  bif Decidable.decide (a1 ≥ (↑(List.length a0) : Int)) then
   some ((0, ()))
  else
   bif inRange a1 (List.length a0) then
    some ((Go.IntKind.wrap Go.IntKind.i64 (List.getD a0 (Int.toNat a1) 0), ()))
   else
    none
def f69.ins : Shape := ⟨[(0, .c (.row (.int .u8))), (1, .c (.int .i64))], []⟩
def f69.outs : List Shape := [⟨[(0, .c (.int .i64))], []⟩]
def f69.S : FnSpec := ⟨f69.ins, f69.outs, [], fun x => f69 x.1 x.2.1⟩
def f69.E (fuel : Nat) : Env := ⟨tis, [], [], [], [], [], 0, [], fuel⟩
theorem f69.run : ∀ x, runFn (f69.E 100000000000000000000) Go.Proofs.Try.f69 ((Go.Proofs.Try.f69.body).getD .skip) f69.S x = f69.S.f x := by intro x; kernel_rfl
theorem f69.sound : Sound Go.Proofs.Try.prog 69 f69.S := sound_of_run (fun _ => f69.E 100000000000000000000) (by kernel_rfl) (by kernel_rfl) (by kernel_rfl) orders (fun _ => ⟨tis_ok, EqsOk.nil _, FnsOk.nil⟩) (fun _ => rfl) (by kernel_rfl) (by kernel_rfl) (fun x r h => (f69.run x).trans h)
/-! f68: adit/grid.Walk -/
def f68 (a0 : Int) : Option (Bool × Unit) :=
 bif Decidable.decide (a0 ≥ 1) then
  some ((Decidable.decide (a0 ≤ 5), ()))
 else
  some ((Bool.false, ()))
def f68.ins : Shape := ⟨[(0, .c (.int .i64))], []⟩
def f68.outs : List Shape := [⟨[(0, .c (.bool))], []⟩]
def f68.S : FnSpec := ⟨f68.ins, f68.outs, [], fun x => f68 x.1⟩
def f68.E (fuel : Nat) : Env := ⟨tis, [], [], [], [], [], 0, [], fuel⟩
theorem f68.run : ∀ x, runFn (f68.E 100000000000000000000) Go.Proofs.Try.f68 ((Go.Proofs.Try.f68.body).getD .skip) f68.S x = f68.S.f x := by intro x; kernel_rfl
theorem f68.sound : Sound Go.Proofs.Try.prog 68 f68.S := sound_of_run (fun _ => f68.E 100000000000000000000) (by kernel_rfl) (by kernel_rfl) (by kernel_rfl) orders (fun _ => ⟨tis_ok, EqsOk.nil _, FnsOk.nil⟩) (fun _ => rfl) (by kernel_rfl) (by kernel_rfl) (fun x r h => (f68.run x).trans h)
/-! f83: adit/grid.place -/
def f83 (a0 : Int) (a1 : Int) : Option (Int × Unit) :=
 bif Decidable.decide (a0 < 0) then
  some ((-1, ()))
 else
  bif Decidable.decide (a0 ≥ 24) then
   some ((-1, ()))
  else
   bif Decidable.decide (a1 < 0) then
    some ((-1, ()))
   else
    bif Decidable.decide (a1 ≥ 16) then
     some ((-1, ()))
    else
     some ((Go.IntKind.wrap Go.IntKind.i64 (Go.IntKind.wrap Go.IntKind.i64 (a1 * 24) + a0), ()))
def f83.ins : Shape := ⟨[(0, .c (.int .i64)), (1, .c (.int .i64))], []⟩
def f83.outs : List Shape := [⟨[(0, .c (.int .i64))], []⟩]
def f83.S : FnSpec := ⟨f83.ins, f83.outs, [], fun x => f83 x.1 x.2.1⟩
def f83.E (fuel : Nat) : Env := ⟨tis, [], [], [], [], [], 0, [], fuel⟩
theorem f83.run : ∀ x, runFn (f83.E 100000000000000000000) Go.Proofs.Try.f83 ((Go.Proofs.Try.f83.body).getD .skip) f83.S x = f83.S.f x := by intro x; kernel_rfl
theorem f83.sound : Sound Go.Proofs.Try.prog 83 f83.S := sound_of_run (fun _ => f83.E 100000000000000000000) (by kernel_rfl) (by kernel_rfl) (by kernel_rfl) orders (fun _ => ⟨tis_ok, EqsOk.nil _, FnsOk.nil⟩) (fun _ => rfl) (by kernel_rfl) (by kernel_rfl) (fun x r h => (f83.run x).trans h)
/-! f70: adit/grid.beside -/
def f70 (a0 : Int) : Option (Int × Int × Int × Int × Unit) :=
 Option.bind (f83 (Int.tmod a0 24) (Go.IntKind.wrap Go.IntKind.i64 (Go.IntKind.wrap Go.IntKind.i64 (Int.tdiv a0 24) - 1))) fun y0 =>
  Option.bind (f83 (Go.IntKind.wrap Go.IntKind.i64 (Int.tmod a0 24 + 1)) (Go.IntKind.wrap Go.IntKind.i64 (Int.tdiv a0 24))) fun y1 =>
   Option.bind (f83 (Int.tmod a0 24) (Go.IntKind.wrap Go.IntKind.i64 (Go.IntKind.wrap Go.IntKind.i64 (Int.tdiv a0 24) + 1))) fun y2 =>
    Option.bind (f83 (Go.IntKind.wrap Go.IntKind.i64 (Int.tmod a0 24 - 1)) (Go.IntKind.wrap Go.IntKind.i64 (Int.tdiv a0 24))) fun y3 =>
     some ((y0.fst, y1.fst, y2.fst, y3.fst, ()))
def f70.ins : Shape := ⟨[(0, .c (.int .i64))], []⟩
def f70.outs : List Shape := [⟨[(0, .agg [.int .i64, .int .i64, .int .i64, .int .i64])], []⟩]
def f70.S : FnSpec := ⟨f70.ins, f70.outs, [], fun x => f70 x.1⟩
def f70.E (fuel : Nat) : Env := ⟨tis, [(83, f83.S)], [], [], [], [], 0, [], fuel⟩
theorem f70.run : ∀ x, runFn (f70.E 100000000000000000000) Go.Proofs.Try.f70 ((Go.Proofs.Try.f70.body).getD .skip) f70.S x = f70.S.f x := by intro x; kernel_rfl
theorem f70.sound : Sound Go.Proofs.Try.prog 70 f70.S := sound_of_run (fun _ => f70.E 100000000000000000000) (by kernel_rfl) (by kernel_rfl) (by kernel_rfl) orders (fun _ => ⟨tis_ok, EqsOk.nil _, (FnsOk.cons f83.sound FnsOk.nil)⟩) (fun _ => rfl) (by kernel_rfl) (by kernel_rfl) (fun x r h => (f70.run x).trans h)
/-! f47: adit/grid.Field -/
def f47.L1 (k0 : List Int × List Bool × Int × Int × Int × List Int × List Int × List Int × Unit → Option (List Int × Unit)) (x : List Int × List Bool × Int × Int × Int × Int × Int × Int × Int × Int × List Int × List Int × List Int × Unit) : Option (List Int × Unit) :=
 it (X := List Int × List Bool × Int × Int × Int × Int × Int × Int × Int × Int × List Int × List Int × List Int × Unit) (fun rec x =>
 bif Decidable.decide (x.snd.snd.snd.snd.snd.snd.snd.snd.snd.fst < 4) then
  bif inRange x.snd.snd.snd.snd.snd.snd.snd.snd.snd.fst 4 then
   Option.bind (α := List Int × List Bool × Int × Int × Int × Int × Int × Int × Int × Int × Int × List Int × List Int × List Int × Unit ⊕ List Int × Unit) (
    bif Decidable.decide (List.getD [x.snd.snd.snd.snd.snd.fst, x.snd.snd.snd.snd.snd.snd.fst, x.snd.snd.snd.snd.snd.snd.snd.fst, x.snd.snd.snd.snd.snd.snd.snd.snd.fst] (Int.toNat x.snd.snd.snd.snd.snd.snd.snd.snd.snd.fst) 0 < 0) then
     Option.bind (rec (x.fst, x.snd.fst, x.snd.snd.fst, x.snd.snd.snd.fst, x.snd.snd.snd.snd.fst, x.snd.snd.snd.snd.snd.fst, x.snd.snd.snd.snd.snd.snd.fst, x.snd.snd.snd.snd.snd.snd.snd.fst, x.snd.snd.snd.snd.snd.snd.snd.snd.fst, Go.IntKind.wrap Go.IntKind.i64 (x.snd.snd.snd.snd.snd.snd.snd.snd.snd.fst + 1), x.snd.snd.snd.snd.snd.snd.snd.snd.snd.snd.fst, x.snd.snd.snd.snd.snd.snd.snd.snd.snd.snd.snd.fst, x.snd.snd.snd.snd.snd.snd.snd.snd.snd.snd.snd.snd.fst, ())) fun y0 =>
      some (Sum.inr y0)
    else
     bif inRange (List.getD [x.snd.snd.snd.snd.snd.fst, x.snd.snd.snd.snd.snd.snd.fst, x.snd.snd.snd.snd.snd.snd.snd.fst, x.snd.snd.snd.snd.snd.snd.snd.snd.fst] (Int.toNat x.snd.snd.snd.snd.snd.snd.snd.snd.snd.fst) 0) (List.length x.snd.snd.snd.snd.snd.snd.snd.snd.snd.snd.fst) then
      bif Decidable.decide (List.getD x.snd.snd.snd.snd.snd.snd.snd.snd.snd.snd.fst (Int.toNat (List.getD [x.snd.snd.snd.snd.snd.fst, x.snd.snd.snd.snd.snd.snd.fst, x.snd.snd.snd.snd.snd.snd.snd.fst, x.snd.snd.snd.snd.snd.snd.snd.snd.fst] (Int.toNat x.snd.snd.snd.snd.snd.snd.snd.snd.snd.fst) 0)) 0 ≥ 0) then
       Option.bind (rec (x.fst, x.snd.fst, x.snd.snd.fst, x.snd.snd.snd.fst, x.snd.snd.snd.snd.fst, x.snd.snd.snd.snd.snd.fst, x.snd.snd.snd.snd.snd.snd.fst, x.snd.snd.snd.snd.snd.snd.snd.fst, x.snd.snd.snd.snd.snd.snd.snd.snd.fst, Go.IntKind.wrap Go.IntKind.i64 (x.snd.snd.snd.snd.snd.snd.snd.snd.snd.fst + 1), x.snd.snd.snd.snd.snd.snd.snd.snd.snd.snd.fst, x.snd.snd.snd.snd.snd.snd.snd.snd.snd.snd.snd.fst, x.snd.snd.snd.snd.snd.snd.snd.snd.snd.snd.snd.snd.fst, ())) fun y1 =>
        some (Sum.inr y1)
      else
       Option.bind (f69 x.fst (List.getD [x.snd.snd.snd.snd.snd.fst, x.snd.snd.snd.snd.snd.snd.fst, x.snd.snd.snd.snd.snd.snd.snd.fst, x.snd.snd.snd.snd.snd.snd.snd.snd.fst] (Int.toNat x.snd.snd.snd.snd.snd.snd.snd.snd.snd.fst) 0)) fun y2 =>
        Option.bind (f68 y2.fst) fun y3 =>
         bif !y3.fst then
          Option.bind (rec (x.fst, x.snd.fst, x.snd.snd.fst, x.snd.snd.snd.fst, x.snd.snd.snd.snd.fst, x.snd.snd.snd.snd.snd.fst, x.snd.snd.snd.snd.snd.snd.fst, x.snd.snd.snd.snd.snd.snd.snd.fst, x.snd.snd.snd.snd.snd.snd.snd.snd.fst, Go.IntKind.wrap Go.IntKind.i64 (x.snd.snd.snd.snd.snd.snd.snd.snd.snd.fst + 1), x.snd.snd.snd.snd.snd.snd.snd.snd.snd.snd.fst, x.snd.snd.snd.snd.snd.snd.snd.snd.snd.snd.snd.fst, x.snd.snd.snd.snd.snd.snd.snd.snd.snd.snd.snd.snd.fst, ())) fun y4 =>
           some (Sum.inr y4)
         else
          bif Decidable.decide (List.getD [x.snd.snd.snd.snd.snd.fst, x.snd.snd.snd.snd.snd.snd.fst, x.snd.snd.snd.snd.snd.snd.snd.fst, x.snd.snd.snd.snd.snd.snd.snd.snd.fst] (Int.toNat x.snd.snd.snd.snd.snd.snd.snd.snd.snd.fst) 0 < (↑(List.length x.snd.fst) : Int)) then
           bif inRange (List.getD [x.snd.snd.snd.snd.snd.fst, x.snd.snd.snd.snd.snd.snd.fst, x.snd.snd.snd.snd.snd.snd.snd.fst, x.snd.snd.snd.snd.snd.snd.snd.snd.fst] (Int.toNat x.snd.snd.snd.snd.snd.snd.snd.snd.snd.fst) 0) (List.length x.snd.fst) then
            bif List.getD x.snd.fst (Int.toNat (List.getD [x.snd.snd.snd.snd.snd.fst, x.snd.snd.snd.snd.snd.snd.fst, x.snd.snd.snd.snd.snd.snd.snd.fst, x.snd.snd.snd.snd.snd.snd.snd.snd.fst] (Int.toNat x.snd.snd.snd.snd.snd.snd.snd.snd.snd.fst) 0)) Bool.false then
             Option.bind (rec (x.fst, x.snd.fst, x.snd.snd.fst, x.snd.snd.snd.fst, x.snd.snd.snd.snd.fst, x.snd.snd.snd.snd.snd.fst, x.snd.snd.snd.snd.snd.snd.fst, x.snd.snd.snd.snd.snd.snd.snd.fst, x.snd.snd.snd.snd.snd.snd.snd.snd.fst, Go.IntKind.wrap Go.IntKind.i64 (x.snd.snd.snd.snd.snd.snd.snd.snd.snd.fst + 1), x.snd.snd.snd.snd.snd.snd.snd.snd.snd.snd.fst, x.snd.snd.snd.snd.snd.snd.snd.snd.snd.snd.snd.fst, x.snd.snd.snd.snd.snd.snd.snd.snd.snd.snd.snd.snd.fst, ())) fun y5 =>
              some (Sum.inr y5)
            else
             some (Sum.inl (x.fst, x.snd.fst, x.snd.snd.fst, List.getD [x.snd.snd.snd.snd.snd.fst, x.snd.snd.snd.snd.snd.snd.fst, x.snd.snd.snd.snd.snd.snd.snd.fst, x.snd.snd.snd.snd.snd.snd.snd.snd.fst] (Int.toNat x.snd.snd.snd.snd.snd.snd.snd.snd.snd.fst) 0, x.snd.snd.snd.fst, x.snd.snd.snd.snd.fst, x.snd.snd.snd.snd.snd.fst, x.snd.snd.snd.snd.snd.snd.fst, x.snd.snd.snd.snd.snd.snd.snd.fst, x.snd.snd.snd.snd.snd.snd.snd.snd.fst, x.snd.snd.snd.snd.snd.snd.snd.snd.snd.fst, x.snd.snd.snd.snd.snd.snd.snd.snd.snd.snd.fst, x.snd.snd.snd.snd.snd.snd.snd.snd.snd.snd.snd.fst, x.snd.snd.snd.snd.snd.snd.snd.snd.snd.snd.snd.snd.fst, ()))
           else
            none
          else
           some (Sum.inl (x.fst, x.snd.fst, x.snd.snd.fst, List.getD [x.snd.snd.snd.snd.snd.fst, x.snd.snd.snd.snd.snd.snd.fst, x.snd.snd.snd.snd.snd.snd.snd.fst, x.snd.snd.snd.snd.snd.snd.snd.snd.fst] (Int.toNat x.snd.snd.snd.snd.snd.snd.snd.snd.snd.fst) 0, x.snd.snd.snd.fst, x.snd.snd.snd.snd.fst, x.snd.snd.snd.snd.snd.fst, x.snd.snd.snd.snd.snd.snd.fst, x.snd.snd.snd.snd.snd.snd.snd.fst, x.snd.snd.snd.snd.snd.snd.snd.snd.fst, x.snd.snd.snd.snd.snd.snd.snd.snd.snd.fst, x.snd.snd.snd.snd.snd.snd.snd.snd.snd.snd.fst, x.snd.snd.snd.snd.snd.snd.snd.snd.snd.snd.snd.fst, x.snd.snd.snd.snd.snd.snd.snd.snd.snd.snd.snd.snd.fst, ()))
     else
      none
   ) fun y6 =>
    Sum.elim (fun y7 =>
     bif inRange y7.snd.snd.snd.fst (List.length y7.snd.snd.snd.snd.snd.snd.snd.snd.snd.snd.snd.fst) then
      bif Decidable.decide (List.length y7.snd.snd.snd.snd.snd.snd.snd.snd.snd.snd.snd.snd.fst + 1 ≤ limit 8) then
       rec (y7.fst, y7.snd.fst, y7.snd.snd.fst, y7.snd.snd.snd.snd.fst, y7.snd.snd.snd.snd.snd.fst, y7.snd.snd.snd.snd.snd.snd.fst, y7.snd.snd.snd.snd.snd.snd.snd.fst, y7.snd.snd.snd.snd.snd.snd.snd.snd.fst, y7.snd.snd.snd.snd.snd.snd.snd.snd.snd.fst, Go.IntKind.wrap Go.IntKind.i64 (y7.snd.snd.snd.snd.snd.snd.snd.snd.snd.snd.fst + 1), List.set y7.snd.snd.snd.snd.snd.snd.snd.snd.snd.snd.snd.fst (Int.toNat y7.snd.snd.snd.fst) y7.snd.snd.fst, y7.snd.snd.snd.snd.snd.snd.snd.snd.snd.snd.snd.snd.fst ++ [y7.snd.snd.snd.fst], y7.snd.snd.snd.snd.snd.snd.snd.snd.snd.snd.snd.snd.snd.fst, ())
      else
       none
     else
      none
    ) (fun z8 =>
     some (z8)
    ) (y6)
  else
   none
 else
  k0 (x.fst, x.snd.fst, x.snd.snd.fst, x.snd.snd.snd.fst, Go.IntKind.wrap Go.IntKind.i64 (x.snd.snd.snd.snd.fst + 1), x.snd.snd.snd.snd.snd.snd.snd.snd.snd.snd.fst, x.snd.snd.snd.snd.snd.snd.snd.snd.snd.snd.snd.fst, x.snd.snd.snd.snd.snd.snd.snd.snd.snd.snd.snd.snd.fst, ())
 ) (100000000000000000000) (x)
def f47.L2 (k0 : List Int × List Bool × Int × List Int × List Int × Unit → Option (List Int × Unit)) (x : List Int × List Bool × Int × Int × Int × List Int × List Int × List Int × Unit) : Option (List Int × Unit) :=
 it (X := List Int × List Bool × Int × Int × Int × List Int × List Int × List Int × Unit) (fun rec x =>
 bif Decidable.decide (x.snd.snd.snd.snd.fst < x.snd.snd.snd.fst) then
  bif inRange x.snd.snd.snd.snd.fst (List.length x.snd.snd.snd.snd.snd.snd.snd.fst) then
   Option.bind (f70 (List.getD x.snd.snd.snd.snd.snd.snd.snd.fst (Int.toNat x.snd.snd.snd.snd.fst) 0)) fun y0 =>
    f47.L1 rec ((x.fst, x.snd.fst, x.snd.snd.fst, x.snd.snd.snd.fst, x.snd.snd.snd.snd.fst, y0.fst, y0.snd.fst, y0.snd.snd.fst, y0.snd.snd.snd.fst, 0, x.snd.snd.snd.snd.snd.fst, x.snd.snd.snd.snd.snd.snd.fst, x.snd.snd.snd.snd.snd.snd.snd.fst, ()))
  else
   none
 else
  bif Decidable.decide ((↑(List.length x.snd.snd.snd.snd.snd.snd.fst) : Int) > 0) then
   k0 (x.fst, x.snd.fst, x.snd.snd.fst, x.snd.snd.snd.snd.snd.fst, x.snd.snd.snd.snd.snd.snd.fst, ())
  else
   some ((x.snd.snd.snd.snd.snd.fst, ()))
 ) (100000000000000000000) (x)
def f47.L3 (x : List Int × List Bool × Int × List Int × List Int × Unit) : Option (List Int × Unit) :=
 it (X := List Int × List Bool × Int × List Int × List Int × Unit) (fun rec x =>
 f47.L2 rec ((x.fst, x.snd.fst, Go.IntKind.wrap Go.IntKind.i64 (x.snd.snd.fst + 1), (↑(List.length x.snd.snd.snd.snd.fst) : Int), 0, x.snd.snd.snd.fst, [], x.snd.snd.snd.snd.fst, ()))
 ) (100000000000000000000) (x)
def f47.L4 (x : List Int × List Bool × Int × Int × Int × List Int × List Int × List Int × Unit) : Option (List Int × Unit) :=
 it (X := List Int × List Bool × Int × Int × Int × List Int × List Int × List Int × Unit) (fun rec x =>
 bif Decidable.decide (x.snd.snd.snd.snd.fst < x.snd.snd.snd.fst) then
  bif inRange x.snd.snd.snd.snd.fst (List.length x.snd.snd.snd.snd.snd.snd.snd.fst) then
   Option.bind (f70 (List.getD x.snd.snd.snd.snd.snd.snd.snd.fst (Int.toNat x.snd.snd.snd.snd.fst) 0)) fun y0 =>
    f47.L1 rec ((x.fst, x.snd.fst, x.snd.snd.fst, x.snd.snd.snd.fst, x.snd.snd.snd.snd.fst, y0.fst, y0.snd.fst, y0.snd.snd.fst, y0.snd.snd.snd.fst, 0, x.snd.snd.snd.snd.snd.fst, x.snd.snd.snd.snd.snd.snd.fst, x.snd.snd.snd.snd.snd.snd.snd.fst, ()))
  else
   none
 else
  bif Decidable.decide ((↑(List.length x.snd.snd.snd.snd.snd.snd.fst) : Int) > 0) then
   f47.L3 ((x.fst, x.snd.fst, x.snd.snd.fst, x.snd.snd.snd.snd.snd.fst, x.snd.snd.snd.snd.snd.snd.fst, ()))
  else
   some ((x.snd.snd.snd.snd.snd.fst, ()))
 ) (100000000000000000000) (x)
def f47.L5 (x : List Int × List Bool × List Int × Int × Int × List Int × List Int × Unit) : Option (List Int × Unit) :=
 it (X := List Int × List Bool × List Int × Int × Int × List Int × List Int × Unit) (fun rec x =>
 bif Decidable.decide (x.snd.snd.snd.snd.fst < x.snd.snd.snd.fst) then
  bif inRange x.snd.snd.snd.snd.fst (List.length x.snd.snd.fst) then
   bif Decidable.decide (List.getD x.snd.snd.fst (Int.toNat x.snd.snd.snd.snd.fst) 0 ≥ 0) then
    bif Decidable.decide (List.getD x.snd.snd.fst (Int.toNat x.snd.snd.snd.snd.fst) 0 < 384) then
     bif inRange (List.getD x.snd.snd.fst (Int.toNat x.snd.snd.snd.snd.fst) 0) (List.length x.snd.snd.snd.snd.snd.fst) then
      bif Decidable.decide (List.getD x.snd.snd.snd.snd.snd.fst (Int.toNat (List.getD x.snd.snd.fst (Int.toNat x.snd.snd.snd.snd.fst) 0)) 0 < 0) then
       Option.bind (f69 x.fst (List.getD x.snd.snd.fst (Int.toNat x.snd.snd.snd.snd.fst) 0)) fun y0 =>
        Option.bind (f68 y0.fst) fun y1 =>
         bif y1.fst then
          bif inRange (List.getD x.snd.snd.fst (Int.toNat x.snd.snd.snd.snd.fst) 0) (List.length x.snd.snd.snd.snd.snd.fst) then
           bif Decidable.decide (List.length x.snd.snd.snd.snd.snd.snd.fst + 1 ≤ limit 8) then
            rec (x.fst, x.snd.fst, x.snd.snd.fst, x.snd.snd.snd.fst, Go.IntKind.wrap Go.IntKind.i64 (x.snd.snd.snd.snd.fst + 1), List.set x.snd.snd.snd.snd.snd.fst (Int.toNat (List.getD x.snd.snd.fst (Int.toNat x.snd.snd.snd.snd.fst) 0)) 0, x.snd.snd.snd.snd.snd.snd.fst ++ [List.getD x.snd.snd.fst (Int.toNat x.snd.snd.snd.snd.fst) 0], ())
           else
            none
          else
           none
         else
          rec (x.fst, x.snd.fst, x.snd.snd.fst, x.snd.snd.snd.fst, Go.IntKind.wrap Go.IntKind.i64 (x.snd.snd.snd.snd.fst + 1), x.snd.snd.snd.snd.snd.fst, x.snd.snd.snd.snd.snd.snd.fst, ())
      else
       rec (x.fst, x.snd.fst, x.snd.snd.fst, x.snd.snd.snd.fst, Go.IntKind.wrap Go.IntKind.i64 (x.snd.snd.snd.snd.fst + 1), x.snd.snd.snd.snd.snd.fst, x.snd.snd.snd.snd.snd.snd.fst, ())
     else
      none
    else
     rec (x.fst, x.snd.fst, x.snd.snd.fst, x.snd.snd.snd.fst, Go.IntKind.wrap Go.IntKind.i64 (x.snd.snd.snd.snd.fst + 1), x.snd.snd.snd.snd.snd.fst, x.snd.snd.snd.snd.snd.snd.fst, ())
   else
    rec (x.fst, x.snd.fst, x.snd.snd.fst, x.snd.snd.snd.fst, Go.IntKind.wrap Go.IntKind.i64 (x.snd.snd.snd.snd.fst + 1), x.snd.snd.snd.snd.snd.fst, x.snd.snd.snd.snd.snd.snd.fst, ())
  else
   none
 else
  f47.L4 ((x.fst, x.snd.fst, Go.IntKind.wrap Go.IntKind.i64 (0 + 1), (↑(List.length x.snd.snd.snd.snd.snd.snd.fst) : Int), 0, x.snd.snd.snd.snd.snd.fst, [], x.snd.snd.snd.snd.snd.snd.fst, ()))
 ) (100000000000000000000) (x)
def f47.L6 (x : List Int × List Bool × List Int × Int × Int × List Int × Unit) : Option (List Int × Unit) :=
 it (X := List Int × List Bool × List Int × Int × Int × List Int × Unit) (fun rec x =>
 bif Decidable.decide (x.snd.snd.snd.snd.fst < x.snd.snd.snd.fst) then
  bif inRange x.snd.snd.snd.snd.fst (List.length x.snd.snd.snd.snd.snd.fst) then
   rec (x.fst, x.snd.fst, x.snd.snd.fst, x.snd.snd.snd.fst, Go.IntKind.wrap Go.IntKind.i64 (x.snd.snd.snd.snd.fst + 1), List.set x.snd.snd.snd.snd.snd.fst (Int.toNat x.snd.snd.snd.snd.fst) (-1), ())
  else
   none
 else
  f47.L5 ((x.fst, x.snd.fst, x.snd.snd.fst, (↑(List.length x.snd.snd.fst) : Int), 0, x.snd.snd.snd.snd.snd.fst, [], ()))
 ) (100000000000000000000) (x)
def f47 (a0 : List Int) (a1 : List Bool) (a2 : List Int) : Option (List Int × Unit) :=
 f47.L6 ((a0, a1, a2, (↑(List.length (List.replicate 384 0)) : Int), 0, List.replicate 384 0, ()))
def f47.ins : Shape := ⟨[(0, .c (.row (.int .u8))), (1, .c (.row .bool)), (2, .c (.row (.int .i64)))], []⟩
def f47.outs : List Shape := [⟨[(0, .c (.own 0))], [(0, .arr (.int .i64))]⟩]
def f47.S : FnSpec := ⟨f47.ins, f47.outs, [], fun x => f47 x.1 x.2.1 x.2.2.1⟩
def f47.E (fuel : Nat) : Env := ⟨tis, [(69, f69.S), (68, f68.S), (70, f70.S)], [], [(26, ⟨[(0, .c (.row (.int .u8))), (1, .c (.row .bool)), (7, .c (.own 0)), (10, .c (.own 1)), (13, .c (.int .i64)), (17, .c (.int .i64)), (63, .c (.own 2)), (64, .c (.int .i64)), (65, .c (.int .i64)), (70, .agg [.int .i64, .int .i64, .int .i64, .int .i64]), (71, .c (.int .i64))], [(0, .arr (.int .i64)), (1, .arr (.int .i64)), (2, .arr (.int .i64))]⟩)], [(4, ⟨[(0, .c (.row (.int .u8))), (1, .c (.row .bool)), (2, .c (.row (.int .i64))), (7, .c (.own 0)), (20, .c (.int .i64)), (21, .c (.int .i64))], [(0, .arr (.int .i64))]⟩), (10, ⟨[(0, .c (.row (.int .u8))), (1, .c (.row .bool)), (7, .c (.own 0)), (9, .c (.own 1)), (28, .c (.row (.int .i64))), (29, .c (.int .i64)), (30, .c (.int .i64))], [(0, .arr (.int .i64)), (1, .arr (.int .i64))]⟩), (20, ⟨[(0, .c (.row (.int .u8))), (1, .c (.row .bool)), (7, .c (.own 0)), (10, .c (.own 1)), (13, .c (.int .i64)), (63, .c (.own 2)), (64, .c (.int .i64)), (65, .c (.int .i64))], [(0, .arr (.int .i64)), (1, .arr (.int .i64)), (2, .arr (.int .i64))]⟩), (23, ⟨[(0, .c (.row (.int .u8))), (1, .c (.row .bool)), (7, .c (.own 0)), (10, .c (.own 1)), (13, .c (.int .i64)), (63, .c (.own 2)), (64, .c (.int .i64)), (65, .c (.int .i64)), (70, .agg [.int .i64, .int .i64, .int .i64, .int .i64]), (71, .c (.int .i64))], [(0, .arr (.int .i64)), (1, .arr (.int .i64)), (2, .arr (.int .i64))]⟩)], [(0, ⟨[(0, .c (.row (.int .u8))), (1, .c (.row .bool)), (7, .c (.own 0)), (9, .c (.own 1)), (13, .c (.int .i64))], [(0, .arr (.int .i64)), (1, .arr (.int .i64))]⟩)], 0, [], fuel⟩
theorem f47.run : ∀ x, runFn (f47.E 100000000000000000000) Go.Proofs.Try.f47 ((Go.Proofs.Try.f47.body).getD .skip) f47.S x = f47.S.f x := by intro x; kernel_rfl
theorem f47.sound : Sound Go.Proofs.Try.prog 47 f47.S := sound_of_run (fun _ => f47.E 100000000000000000000) (by kernel_rfl) (by kernel_rfl) (by kernel_rfl) orders (fun _ => ⟨tis_ok, EqsOk.nil _, (FnsOk.cons f69.sound (FnsOk.cons f68.sound (FnsOk.cons f70.sound FnsOk.nil)))⟩) (fun _ => rfl) (by kernel_rfl) (by kernel_rfl) (fun x r h => (f47.run x).trans h)
/-! f49: adit/nav.step -/
def f49 (a0 : Int) (a1 : Int) (a2 : Int) : Option (Int × Int × Unit) :=
 Option.bind (f52 a2) fun y0 =>
  bif small y0.fst then
   bif small y0.snd.fst then
    bif small (a0 + y0.fst) && small (a1 + y0.snd.fst) then
     some ((a0 + y0.fst, a1 + y0.snd.fst, ()))
    else
     none
   else
    none
  else
   none
def f49.ins : Shape := ⟨[(0, .c (.cint)), (1, .c (.int .i64))], []⟩
def f49.outs : List Shape := [⟨[(0, .c (.cint))], []⟩]
def f49.S : FnSpec := ⟨f49.ins, f49.outs, [], fun x => f49 x.1 x.2.1 x.2.2.1⟩
def f49.E (fuel : Nat) : Env := ⟨tis, [(52, f52.S)], [], [], [], [], 0, [], fuel⟩
theorem f49.run : ∀ x, runFn (f49.E 100000000000000000000) Go.Proofs.Try.f49 ((Go.Proofs.Try.f49.body).getD .skip) f49.S x = f49.S.f x := by intro x; kernel_rfl
theorem f49.sound : Sound Go.Proofs.Try.prog 49 f49.S := sound_of_run (fun _ => f49.E 100000000000000000000) (by kernel_rfl) (by kernel_rfl) (by kernel_rfl) orders (fun _ => ⟨tis_ok, EqsOk.nil _, (FnsOk.cons f52.sound FnsOk.nil)⟩) (fun _ => rfl) (by kernel_rfl) (by kernel_rfl) (fun x r h => (f49.run x).trans h)
/-! f48: adit/nav.plain -/
def f48 (a0 : Int) (a1 : Int) : Option (Int × Int × Unit) :=
 bif small a0 then
  bif small a1 then
   some ((a0, a1, ()))
  else
   none
 else
  none
def f48.ins : Shape := ⟨[(0, .c (.cint))], []⟩
def f48.outs : List Shape := [⟨[(0, .c (.int .i64)), (1, .c (.int .i64))], []⟩]
def f48.S : FnSpec := ⟨f48.ins, f48.outs, [], fun x => f48 x.1 x.2.1⟩
def f48.E (fuel : Nat) : Env := ⟨tis, [], [], [], [], [], 0, [], fuel⟩
theorem f48.run : ∀ x, runFn (f48.E 100000000000000000000) Go.Proofs.Try.f48 ((Go.Proofs.Try.f48.body).getD .skip) f48.S x = f48.S.f x := by intro x; kernel_rfl
theorem f48.sound : Sound Go.Proofs.Try.prog 48 f48.S := sound_of_run (fun _ => f48.E 100000000000000000000) (by kernel_rfl) (by kernel_rfl) (by kernel_rfl) orders (fun _ => ⟨tis_ok, EqsOk.nil _, FnsOk.nil⟩) (fun _ => rfl) (by kernel_rfl) (by kernel_rfl) (fun x r h => (f48.run x).trans h)
/-! f15: adit/nav.Toward -/
def f15.L1 (x : Int × Int × Int × Int × List Bool × List Int × Unit) : Option (Int × Unit) :=
 it (X := Int × Int × Int × Int × List Bool × List Int × Unit) (fun rec x =>
 bif Decidable.decide (x.snd.snd.snd.fst ≤ 4) then
  bif small x.fst then
   bif small x.snd.fst then
    Option.bind (f49 x.fst x.snd.fst x.snd.snd.snd.fst) fun y0 =>
     Option.bind (f48 y0.fst y0.snd.fst) fun y1 =>
      Option.bind (f46 y1.fst y1.snd.fst) fun y2 =>
       bif Decidable.decide (y2.fst ≥ 0) then
        bif inRange y2.fst (List.length x.snd.snd.snd.snd.snd.fst) then
         bif inRange x.snd.snd.fst (List.length x.snd.snd.snd.snd.snd.fst) then
          bif List.getD x.snd.snd.snd.snd.snd.fst (Int.toNat y2.fst) 0 == Go.IntKind.wrap Go.IntKind.i64 (List.getD x.snd.snd.snd.snd.snd.fst (Int.toNat x.snd.snd.fst) 0 - 1) then
           bif inRange y2.fst (List.length x.snd.snd.snd.snd.fst) then
            bif !List.getD x.snd.snd.snd.snd.fst (Int.toNat y2.fst) Bool.false then
             some ((x.snd.snd.snd.fst, ()))
            else
             rec (x.fst, x.snd.fst, x.snd.snd.fst, Go.IntKind.wrap Go.IntKind.i64 (x.snd.snd.snd.fst + 1), x.snd.snd.snd.snd.fst, x.snd.snd.snd.snd.snd.fst, ())
           else
            none
          else
           rec (x.fst, x.snd.fst, x.snd.snd.fst, Go.IntKind.wrap Go.IntKind.i64 (x.snd.snd.snd.fst + 1), x.snd.snd.snd.snd.fst, x.snd.snd.snd.snd.snd.fst, ())
         else
          none
        else
         none
       else
        rec (x.fst, x.snd.fst, x.snd.snd.fst, Go.IntKind.wrap Go.IntKind.i64 (x.snd.snd.snd.fst + 1), x.snd.snd.snd.snd.fst, x.snd.snd.snd.snd.snd.fst, ())
   else
    none
  else
   none
 else
  some ((0, ()))
 ) (100000000000000000000) (x)
def f15.L2 (x : List Int × Int × Int × List Int × Int × List (Int × Int × Int × Int × Int × Int × Int × Int × Int × Int × Int) × Int × Int × List Bool × Unit) : Option (Int × Unit) :=
 it (X := List Int × Int × Int × List Int × Int × List (Int × Int × Int × Int × Int × Int × Int × Int × Int × Int × Int) × Int × Int × List Bool × Unit) (fun rec x =>
 bif Decidable.decide (x.snd.snd.snd.snd.snd.snd.snd.fst < x.snd.snd.snd.snd.snd.snd.fst) then
  bif inRange x.snd.snd.snd.snd.snd.snd.snd.fst (List.length x.snd.snd.snd.snd.snd.fst) then
   Option.bind (f46 (List.getD x.snd.snd.snd.snd.snd.fst (Int.toNat x.snd.snd.snd.snd.snd.snd.snd.fst) (0, 0, 0, 0, 0, 0, 0, 0, 0, 0, 0)).snd.snd.snd.fst (List.getD x.snd.snd.snd.snd.snd.fst (Int.toNat x.snd.snd.snd.snd.snd.snd.snd.fst) (0, 0, 0, 0, 0, 0, 0, 0, 0, 0, 0)).snd.snd.snd.snd.fst) fun y0 =>
    bif (List.getD x.snd.snd.snd.snd.snd.fst (Int.toNat x.snd.snd.snd.snd.snd.snd.snd.fst) (0, 0, 0, 0, 0, 0, 0, 0, 0, 0, 0)).fst != 0 then
     bif Decidable.decide (y0.fst ≥ 0) then
      bif y0.fst != x.snd.snd.snd.snd.fst then
       bif inRange y0.fst (List.length x.snd.snd.snd.snd.snd.snd.snd.snd.fst) then
        rec (x.fst, x.snd.fst, x.snd.snd.fst, x.snd.snd.snd.fst, x.snd.snd.snd.snd.fst, x.snd.snd.snd.snd.snd.fst, x.snd.snd.snd.snd.snd.snd.fst, Go.IntKind.wrap Go.IntKind.i64 (x.snd.snd.snd.snd.snd.snd.snd.fst + 1), List.set x.snd.snd.snd.snd.snd.snd.snd.snd.fst (Int.toNat y0.fst) Bool.true, ())
       else
        none
      else
       rec (x.fst, x.snd.fst, x.snd.snd.fst, x.snd.snd.snd.fst, x.snd.snd.snd.snd.fst, x.snd.snd.snd.snd.snd.fst, x.snd.snd.snd.snd.snd.snd.fst, Go.IntKind.wrap Go.IntKind.i64 (x.snd.snd.snd.snd.snd.snd.snd.fst + 1), x.snd.snd.snd.snd.snd.snd.snd.snd.fst, ())
     else
      rec (x.fst, x.snd.fst, x.snd.snd.fst, x.snd.snd.snd.fst, x.snd.snd.snd.snd.fst, x.snd.snd.snd.snd.snd.fst, x.snd.snd.snd.snd.snd.snd.fst, Go.IntKind.wrap Go.IntKind.i64 (x.snd.snd.snd.snd.snd.snd.snd.fst + 1), x.snd.snd.snd.snd.snd.snd.snd.snd.fst, ())
    else
     rec (x.fst, x.snd.fst, x.snd.snd.fst, x.snd.snd.snd.fst, x.snd.snd.snd.snd.fst, x.snd.snd.snd.snd.snd.fst, x.snd.snd.snd.snd.snd.snd.fst, Go.IntKind.wrap Go.IntKind.i64 (x.snd.snd.snd.snd.snd.snd.snd.fst + 1), x.snd.snd.snd.snd.snd.snd.snd.snd.fst, ())
  else
   none
 else
  Option.bind (f47 x.fst x.snd.snd.snd.snd.snd.snd.snd.snd.fst x.snd.snd.snd.fst) fun y1 =>
   bif inRange x.snd.snd.snd.snd.fst (List.length y1.fst) then
    bif Decidable.decide (List.getD y1.fst (Int.toNat x.snd.snd.snd.snd.fst) 0 < 1) then
     some ((0, ()))
    else
     f15.L1 ((x.snd.fst, x.snd.snd.fst, x.snd.snd.snd.snd.fst, 1, x.snd.snd.snd.snd.snd.snd.snd.snd.fst, y1.fst, ()))
   else
    none
 ) (100000000000000000000) (x)
def f15 (a0 : List Int) (a1 : List (Int × Int × Int × Int × Int × Int × Int × Int × Int × Int × Int)) (a2 : Int) (a3 : Int) (a4 : List Int) : Option (Int × Unit) :=
 Option.bind (f46 a2 a3) fun y0 =>
  bif Decidable.decide (y0.fst < 0) then
   some ((0, ()))
  else
   bif Decidable.decide ((0 : Int) ≤ 0 ∧ 0 ≤ minI (↑(List.length a1) : Int) 32 ∧ minI (↑(List.length a1) : Int) 32 ≤ (↑(List.length a1) : Int)) then
    f15.L2 ((a0, a2, a3, a4, y0.fst, List.drop 0 (List.take (Int.toNat (minI (↑(List.length a1) : Int) 32)) a1), (↑(List.length (List.drop 0 (List.take (Int.toNat (minI (↑(List.length a1) : Int) 32)) a1))) : Int), 0, List.replicate 384 Bool.false, ()))
   else
    none
def f15.ins : Shape := ⟨[(0, .c (.row (.int .u8))), (1, .c (.row (.prod (.int .i64) (.prod (.int .i64) (.prod (.int .i64) (.prod (.int .i64) (.prod (.int .i64) (.prod (.int .i64) (.prod (.int .i64) (.prod (.int .i64) (.prod (.int .i64) (.prod (.int .i64) (.int .i64))))))))))))), (2, .c (.int .i64)), (3, .c (.int .i64)), (4, .c (.row (.int .i64)))], []⟩
def f15.outs : List Shape := [⟨[(0, .c (.int .i64))], []⟩]
def f15.S : FnSpec := ⟨f15.ins, f15.outs, [], fun x => f15 x.1 x.2.1 x.2.2.1 x.2.2.2.1 x.2.2.2.2.1⟩
def f15.E (fuel : Nat) : Env := ⟨tis, [(46, f46.S), (47, f47.S), (49, f49.S), (48, f48.S)], [], [], [(7, ⟨[(0, .c (.row (.int .u8))), (2, .c (.int .i64)), (3, .c (.int .i64)), (4, .c (.row (.int .i64))), (11, .c (.int .i64)), (12, .c (.own 0)), (29, .c (.row (.prod (.int .i64) (.prod (.int .i64) (.prod (.int .i64) (.prod (.int .i64) (.prod (.int .i64) (.prod (.int .i64) (.prod (.int .i64) (.prod (.int .i64) (.prod (.int .i64) (.prod (.int .i64) (.int .i64))))))))))))), (30, .c (.int .i64)), (31, .c (.int .i64))], [(0, .arr .bool)]⟩), (17, ⟨[(2, .c (.int .i64)), (3, .c (.int .i64)), (11, .c (.int .i64)), (12, .c (.own 0)), (16, .c (.own 1)), (17, .c (.int .i64))], [(0, .arr .bool), (1, .arr (.int .i64))]⟩)], [], 0, [], fuel⟩
theorem f15.run : ∀ x, runFn (f15.E 100000000000000000000) Go.Proofs.Try.f15 ((Go.Proofs.Try.f15.body).getD .skip) f15.S x = f15.S.f x := by intro x; kernel_rfl
theorem f15.sound : Sound Go.Proofs.Try.prog 15 f15.S := sound_of_run (fun _ => f15.E 100000000000000000000) (by kernel_rfl) (by kernel_rfl) (by kernel_rfl) orders (fun _ => ⟨tis_ok, EqsOk.nil _, (FnsOk.cons f46.sound (FnsOk.cons f47.sound (FnsOk.cons f49.sound (FnsOk.cons f48.sound FnsOk.nil))))⟩) (fun _ => rfl) (by kernel_rfl) (by kernel_rfl) (fun x r h => (f15.run x).trans h)
/-! f16: adit/aditref1.Way -/
def f16 (a0 : Int) : Option (Int × Int × Unit) :=
 bif a0 == 1 then
  some ((0, -1, ()))
 else
  bif a0 == 2 then
   some ((1, 0, ()))
  else
   bif a0 == 3 then
    some ((0, 1, ()))
   else
    bif a0 == 4 then
     some ((-1, 0, ()))
    else
     some ((0, 0, ()))
def f16.ins : Shape := ⟨[(0, .c (.int .i64))], []⟩
def f16.outs : List Shape := [⟨[(0, .c (.int .i64)), (1, .c (.int .i64))], []⟩]
def f16.S : FnSpec := ⟨f16.ins, f16.outs, [], fun x => f16 x.1⟩
def f16.E (fuel : Nat) : Env := ⟨tis, [], [], [], [], [], 0, [], fuel⟩
theorem f16.run : ∀ x, runFn (f16.E 100000000000000000000) Go.Proofs.Try.f16 ((Go.Proofs.Try.f16.body).getD .skip) f16.S x = f16.S.f x := by intro x; kernel_rfl
theorem f16.sound : Sound Go.Proofs.Try.prog 16 f16.S := sound_of_run (fun _ => f16.E 100000000000000000000) (by kernel_rfl) (by kernel_rfl) (by kernel_rfl) orders (fun _ => ⟨tis_ok, EqsOk.nil _, FnsOk.nil⟩) (fun _ => rfl) (by kernel_rfl) (by kernel_rfl) (fun x r h => (f16.run x).trans h)
/-! f3: adit/aditlaw6.NavLeads -/
def f3.L1 (x : Int × Int × Int × Int × List Int × Unit) : Option (Bool × Unit) :=
 it (X := Int × Int × Int × Int × List Int × Unit) (fun rec x =>
 bif Decidable.decide (x.snd.snd.snd.fst < x.snd.snd.fst) then
  Option.bind (f15 x.snd.snd.snd.snd.fst [] (Int.tmod x.fst 24) (Go.IntKind.wrap Go.IntKind.i64 (Int.tdiv x.fst 24)) [x.snd.fst]) fun y0 =>
   Option.bind (f16 y0.fst) fun y1 =>
    bif y0.fst == 0 then
     some ((Bool.false, ()))
    else
     bif inRange (Go.IntKind.wrap Go.IntKind.i64 (Go.IntKind.wrap Go.IntKind.i64 (x.fst + Go.IntKind.wrap Go.IntKind.i64 (y1.snd.fst * 24)) + y1.fst)) (List.length x.snd.snd.snd.snd.fst) then
      Option.bind (f13 (Go.IntKind.wrap Go.IntKind.i64 (List.getD x.snd.snd.snd.snd.fst (Int.toNat (Go.IntKind.wrap Go.IntKind.i64 (Go.IntKind.wrap Go.IntKind.i64 (x.fst + Go.IntKind.wrap Go.IntKind.i64 (y1.snd.fst * 24)) + y1.fst))) 0))) fun y2 =>
       bif !y2.fst then
        some ((Bool.false, ()))
       else
        rec (Go.IntKind.wrap Go.IntKind.i64 (Go.IntKind.wrap Go.IntKind.i64 (x.fst + Go.IntKind.wrap Go.IntKind.i64 (y1.snd.fst * 24)) + y1.fst), x.snd.fst, x.snd.snd.fst, Go.IntKind.wrap Go.IntKind.i64 (x.snd.snd.snd.fst + 1), x.snd.snd.snd.snd.fst, ())
     else
      none
 else
  bif x.fst == x.snd.fst then
   Option.bind (f15 x.snd.snd.snd.snd.fst [] (Int.tmod x.fst 24) (Go.IntKind.wrap Go.IntKind.i64 (Int.tdiv x.fst 24)) [x.snd.fst]) fun y3 =>
    some ((y3.fst == 0, ()))
  else
   some ((Bool.false, ()))
 ) (100000000000000000000) (x)
def f3.L2 (x : Int × Int × Int × List Int × List Int × Unit) : Option (Bool × Unit) :=
 it (X := Int × Int × Int × List Int × List Int × Unit) (fun rec x =>
 bif Decidable.decide (x.snd.snd.fst < 384) then
  bif inRange x.snd.snd.fst (List.length x.snd.snd.snd.fst) then
   Option.bind (f13 (Go.IntKind.wrap Go.IntKind.i64 (List.getD x.snd.snd.snd.fst (Int.toNat x.snd.snd.fst) 0))) fun y0 =>
    bif y0.fst then
     bif Decidable.decide (List.length x.snd.snd.snd.snd.fst + 1 ≤ limit 8) then
      rec (x.fst, x.snd.fst, Go.IntKind.wrap Go.IntKind.i64 (x.snd.snd.fst + 1), x.snd.snd.snd.fst, x.snd.snd.snd.snd.fst ++ [x.snd.snd.fst], ())
     else
      none
    else
     rec (x.fst, x.snd.fst, Go.IntKind.wrap Go.IntKind.i64 (x.snd.snd.fst + 1), x.snd.snd.snd.fst, x.snd.snd.snd.snd.fst, ())
  else
   none
 else
  Option.bind (f12 x.fst (↑(List.length x.snd.snd.snd.snd.fst) : Int)) fun y1 =>
   bif inRange y1.fst (List.length x.snd.snd.snd.snd.fst) then
    Option.bind (f12 x.snd.fst (↑(List.length x.snd.snd.snd.snd.fst) : Int)) fun y2 =>
     bif inRange y2.fst (List.length x.snd.snd.snd.snd.fst) then
      Option.bind (f14 x.snd.snd.snd.fst [] [List.getD x.snd.snd.snd.snd.fst (Int.toNat y2.fst) 0]) fun y3 =>
       bif inRange (List.getD x.snd.snd.snd.snd.fst (Int.toNat y1.fst) 0) (List.length y3.fst) then
        f3.L1 ((List.getD x.snd.snd.snd.snd.fst (Int.toNat y1.fst) 0, List.getD x.snd.snd.snd.snd.fst (Int.toNat y2.fst) 0, List.getD y3.fst (Int.toNat (List.getD x.snd.snd.snd.snd.fst (Int.toNat y1.fst) 0)) 0, 0, x.snd.snd.snd.fst, ()))
       else
        none
     else
      none
   else
    none
 ) (100000000000000000000) (x)
def f3 (a0 : Int) (a1 : Int) (a2 : Int) (a3 : Int) : Option (Bool × Unit) :=
 Option.bind (f10) fun y0 =>
  bif !y0.fst then
   some ((Bool.false, ()))
  else
   Option.bind (f12 a1 3) fun y1 =>
    Option.bind (f11 a0 (Go.IntKind.wrap Go.IntKind.i64 (1 + y1.fst))) fun y2 =>
     f3.L2 ((a2, a3, 0, y2.fst, [], ()))
def f3.ins : Shape := ⟨[(0, .c (.int .i64)), (1, .c (.int .i64)), (2, .c (.int .i64)), (3, .c (.int .i64))], []⟩
def f3.outs : List Shape := [⟨[(0, .c (.bool))], []⟩]
def f3.S : FnSpec := ⟨f3.ins, f3.outs, [], fun x => f3 x.1 x.2.1 x.2.2.1 x.2.2.2.1⟩
def f3.E (fuel : Nat) : Env := ⟨tis, [(10, f10.S), (12, f12.S), (13, f13.S), (14, f14.S), (11, f11.S), (15, f15.S), (16, f16.S)], [], [], [(7, ⟨[(2, .c (.int .i64)), (3, .c (.int .i64)), (9, .c (.own 0)), (10, .c (.own 1)), (11, .c (.int .i64))], [(0, .arr (.int .u8)), (1, .arr (.int .i64))]⟩), (14, ⟨[(9, .c (.own 0)), (12, .c (.int .i64)), (13, .c (.int .i64)), (14, .c (.int .i64)), (15, .c (.int .i64))], [(0, .arr (.int .u8))]⟩)], [], 0, [], fuel⟩
theorem f3.run : ∀ x, runFn (f3.E 100000000000000000000) Go.Proofs.Try.f3 ((Go.Proofs.Try.f3.body).getD .skip) f3.S x = f3.S.f x := by intro x; kernel_rfl
theorem f3.sound : Sound Go.Proofs.Try.prog 3 f3.S := sound_of_run (fun _ => f3.E 100000000000000000000) (by kernel_rfl) (by kernel_rfl) (by kernel_rfl) orders (fun _ => ⟨tis_ok, EqsOk.nil _, (FnsOk.cons f10.sound (FnsOk.cons f12.sound (FnsOk.cons f13.sound (FnsOk.cons f14.sound (FnsOk.cons f11.sound (FnsOk.cons f15.sound (FnsOk.cons f16.sound FnsOk.nil)))))))⟩) (fun _ => rfl) (by kernel_rfl) (by kernel_rfl) (fun x r h => (f3.run x).trans h)
/-! f18: adit/aditref5.At -/
def f18.L1 (x : List (Int × Int × Int × Int × Int × Int × Int × Int × Int × Int × Int) × Int × Int × Int × Unit) : Option (Int × Unit) :=
 it (X := List (Int × Int × Int × Int × Int × Int × Int × Int × Int × Int × Int) × Int × Int × Int × Unit) (fun rec x =>
 bif Decidable.decide (x.snd.snd.snd.fst < (↑(List.length x.fst) : Int)) then
  bif inRange x.snd.snd.snd.fst (List.length x.fst) then
   bif (List.getD x.fst (Int.toNat x.snd.snd.snd.fst) (0, 0, 0, 0, 0, 0, 0, 0, 0, 0, 0)).fst != 0 then
    bif inRange x.snd.snd.snd.fst (List.length x.fst) then
     bif (List.getD x.fst (Int.toNat x.snd.snd.snd.fst) (0, 0, 0, 0, 0, 0, 0, 0, 0, 0, 0)).snd.snd.snd.fst == x.snd.fst then
      bif inRange x.snd.snd.snd.fst (List.length x.fst) then
       bif (List.getD x.fst (Int.toNat x.snd.snd.snd.fst) (0, 0, 0, 0, 0, 0, 0, 0, 0, 0, 0)).snd.snd.snd.snd.fst == x.snd.snd.fst then
        some ((x.snd.snd.snd.fst, ()))
       else
        rec (x.fst, x.snd.fst, x.snd.snd.fst, Go.IntKind.wrap Go.IntKind.i64 (x.snd.snd.snd.fst + 1), ())
      else
       none
     else
      rec (x.fst, x.snd.fst, x.snd.snd.fst, Go.IntKind.wrap Go.IntKind.i64 (x.snd.snd.snd.fst + 1), ())
    else
     none
   else
    rec (x.fst, x.snd.fst, x.snd.snd.fst, Go.IntKind.wrap Go.IntKind.i64 (x.snd.snd.snd.fst + 1), ())
  else
   none
 else
  some ((-1, ()))
 ) (100000000000000000000) (x)
def f18 (a0 : List (Int × Int × Int × Int × Int × Int × Int × Int × Int × Int × Int)) (a1 : Int) (a2 : Int) : Option (Int × Unit) :=
 f18.L1 ((a0, a1, a2, 0, ()))
def f18.ins : Shape := ⟨[(0, .c (.row (.prod (.int .i64) (.prod (.int .i64) (.prod (.int .i64) (.prod (.int .i64) (.prod (.int .i64) (.prod (.int .i64) (.prod (.int .i64) (.prod (.int .i64) (.prod (.int .i64) (.prod (.int .i64) (.int .i64))))))))))))), (1, .c (.int .i64)), (2, .c (.int .i64))], []⟩
def f18.outs : List Shape := [⟨[(0, .c (.int .i64))], []⟩]
def f18.S : FnSpec := ⟨f18.ins, f18.outs, [], fun x => f18 x.1 x.2.1 x.2.2.1⟩
def f18.E (fuel : Nat) : Env := ⟨tis, [], [], [], [(3, ⟨[(0, .c (.row (.prod (.int .i64) (.prod (.int .i64) (.prod (.int .i64) (.prod (.int .i64) (.prod (.int .i64) (.prod (.int .i64) (.prod (.int .i64) (.prod (.int .i64) (.prod (.int .i64) (.prod (.int .i64) (.int .i64))))))))))))), (1, .c (.int .i64)), (2, .c (.int .i64)), (7, .c (.int .i64))], []⟩)], [], 0, [], fuel⟩
theorem f18.run : ∀ x, runFn (f18.E 100000000000000000000) Go.Proofs.Try.f18 ((Go.Proofs.Try.f18.body).getD .skip) f18.S x = f18.S.f x := by intro x; kernel_rfl
theorem f18.sound : Sound Go.Proofs.Try.prog 18 f18.S := sound_of_run (fun _ => f18.E 100000000000000000000) (by kernel_rfl) (by kernel_rfl) (by kernel_rfl) orders (fun _ => ⟨tis_ok, EqsOk.nil _, FnsOk.nil⟩) (fun _ => rfl) (by kernel_rfl) (by kernel_rfl) (fun x r h => (f18.run x).trans h)
/-! f17: adit/aditlaw6.some -/
def f17.L1 (x : List Int × Int × List (Int × Int × Int × Int × Int × Int × Int × Int × Int × Int × Int) × Unit) : Option (List (Int × Int × Int × Int × Int × Int × Int × Int × Int × Int × Int) × Unit ⊕ List (Int × Int × Int × Int × Int × Int × Int × Int × Int × Int × Int) × Unit) :=
 it (X := List Int × Int × List (Int × Int × Int × Int × Int × Int × Int × Int × Int × Int × Int) × Unit) (fun rec x =>
 bif Decidable.decide (x.snd.fst < (↑(List.length x.fst) : Int)) then
  bif Decidable.decide (x.snd.fst < 32) then
   bif inRange x.snd.fst (List.length x.fst) then
    Option.bind (f12 (List.getD x.fst (Int.toNat x.snd.fst) 0) 384) fun y0 =>
     Option.bind (f18 x.snd.snd.fst (Int.tmod y0.fst 24) (Go.IntKind.wrap Go.IntKind.i64 (Int.tdiv y0.fst 24))) fun y1 =>
      bif Decidable.decide (y1.fst < 0) then
       Option.bind (f28 2) fun y2 =>
        bif inRange x.snd.fst (List.length x.snd.snd.fst) then
         rec (x.fst, Go.IntKind.wrap Go.IntKind.i64 (x.snd.fst + 1), List.set x.snd.snd.fst (Int.toNat x.snd.fst) (y2.fst, y2.snd.fst, y2.snd.snd.fst, Int.tmod y0.fst 24, Go.IntKind.wrap Go.IntKind.i64 (Int.tdiv y0.fst 24), y2.snd.snd.snd.snd.snd.fst, y2.snd.snd.snd.snd.snd.snd.fst, y2.snd.snd.snd.snd.snd.snd.snd.fst, y2.snd.snd.snd.snd.snd.snd.snd.snd.fst, y2.snd.snd.snd.snd.snd.snd.snd.snd.snd.fst, y2.snd.snd.snd.snd.snd.snd.snd.snd.snd.snd.fst), ())
        else
         none
      else
       rec (x.fst, Go.IntKind.wrap Go.IntKind.i64 (x.snd.fst + 1), x.snd.snd.fst, ())
   else
    none
  else
   some (Sum.inl (x.snd.snd.fst, ()))
 else
  some (Sum.inl (x.snd.snd.fst, ()))
 ) (100000000000000000000) (x)
def f17 (a0 : List Int) : Option (List (Int × Int × Int × Int × Int × Int × Int × Int × Int × Int × Int) × Unit) :=
 Option.bind (α := List (Int × Int × Int × Int × Int × Int × Int × Int × Int × Int × Int) × Unit ⊕ List (Int × Int × Int × Int × Int × Int × Int × Int × Int × Int × Int) × Unit) (
  f17.L1 ((a0, 0, List.replicate 32 (0, 0, 0, 0, 0, 0, 0, 0, 0, 0, 0), ()))
 ) fun y0 =>
  Sum.elim (fun y1 =>
   some ((y1.fst, ()))
  ) (fun z2 =>
   some (z2)
  ) (y0)
def f17.ins : Shape := ⟨[(0, .c (.row (.int .i64)))], []⟩
def f17.outs : List Shape := [⟨[(0, .c (.own 0))], [(0, .arr (.prod (.int .i64) (.prod (.int .i64) (.prod (.int .i64) (.prod (.int .i64) (.prod (.int .i64) (.prod (.int .i64) (.prod (.int .i64) (.prod (.int .i64) (.prod (.int .i64) (.prod (.int .i64) (.int .i64))))))))))))]⟩]
def f17.S : FnSpec := ⟨f17.ins, f17.outs, [], fun x => f17 x.1⟩
def f17.E (fuel : Nat) : Env := ⟨tis, [(12, f12.S), (28, f28.S), (18, f18.S)], [], [(11, ⟨[(3, .c (.own 0))], [(0, .arr (.prod (.int .i64) (.prod (.int .i64) (.prod (.int .i64) (.prod (.int .i64) (.prod (.int .i64) (.prod (.int .i64) (.prod (.int .i64) (.prod (.int .i64) (.prod (.int .i64) (.prod (.int .i64) (.int .i64))))))))))))]⟩)], [(4, ⟨[(0, .c (.row (.int .i64))), (3, .c (.own 0)), (4, .c (.int .i64))], [(0, .arr (.prod (.int .i64) (.prod (.int .i64) (.prod (.int .i64) (.prod (.int .i64) (.prod (.int .i64) (.prod (.int .i64) (.prod (.int .i64) (.prod (.int .i64) (.prod (.int .i64) (.prod (.int .i64) (.int .i64))))))))))))]⟩)], [], 0, [], fuel⟩
theorem f17.run : ∀ x, runFn (f17.E 100000000000000000000) Go.Proofs.Try.f17 ((Go.Proofs.Try.f17.body).getD .skip) f17.S x = f17.S.f x := by intro x; kernel_rfl
theorem f17.sound : Sound Go.Proofs.Try.prog 17 f17.S := sound_of_run (fun _ => f17.E 100000000000000000000) (by kernel_rfl) (by kernel_rfl) (by kernel_rfl) orders (fun _ => ⟨tis_ok, EqsOk.nil _, (FnsOk.cons f12.sound (FnsOk.cons f28.sound (FnsOk.cons f18.sound FnsOk.nil)))⟩) (fun _ => rfl) (by kernel_rfl) (by kernel_rfl) (fun x r h => (f17.run x).trans h)
/-! f4: adit/aditlaw6.NavFree -/
def f4.L1 (x : Int × Int × Int × Int × Int × Int × Int × Int × List Int × List (Int × Int × Int × Int × Int × Int × Int × Int × Int × Int × Int) × List Bool × Unit) : Option (Bool × Unit) :=
 it (X := Int × Int × Int × Int × Int × Int × Int × Int × List Int × List (Int × Int × Int × Int × Int × Int × Int × Int × Int × Int × Int) × List Bool × Unit) (fun rec x =>
 bif Decidable.decide (x.snd.snd.snd.snd.snd.snd.snd.fst < (↑(List.length x.snd.snd.snd.snd.snd.snd.snd.snd.snd.fst) : Int)) then
  bif inRange x.snd.snd.snd.snd.snd.snd.snd.fst (List.length x.snd.snd.snd.snd.snd.snd.snd.snd.snd.fst) then
   bif inRange x.snd.snd.snd.snd.snd.snd.snd.fst (List.length x.snd.snd.snd.snd.snd.snd.snd.snd.snd.fst) then
    bif inRange x.snd.snd.snd.snd.snd.snd.snd.fst (List.length x.snd.snd.snd.snd.snd.snd.snd.snd.snd.fst) then
     bif (List.getD x.snd.snd.snd.snd.snd.snd.snd.snd.snd.fst (Int.toNat x.snd.snd.snd.snd.snd.snd.snd.fst) (0, 0, 0, 0, 0, 0, 0, 0, 0, 0, 0)).fst != 0 then
      bif Go.IntKind.wrap Go.IntKind.i64 (Go.IntKind.wrap Go.IntKind.i64 ((List.getD x.snd.snd.snd.snd.snd.snd.snd.snd.snd.fst (Int.toNat x.snd.snd.snd.snd.snd.snd.snd.fst) (0, 0, 0, 0, 0, 0, 0, 0, 0, 0, 0)).snd.snd.snd.snd.fst * 24) + (List.getD x.snd.snd.snd.snd.snd.snd.snd.snd.snd.fst (Int.toNat x.snd.snd.snd.snd.snd.snd.snd.fst) (0, 0, 0, 0, 0, 0, 0, 0, 0, 0, 0)).snd.snd.snd.fst) != x.fst then
       bif inRange (Go.IntKind.wrap Go.IntKind.i64 (Go.IntKind.wrap Go.IntKind.i64 ((List.getD x.snd.snd.snd.snd.snd.snd.snd.snd.snd.fst (Int.toNat x.snd.snd.snd.snd.snd.snd.snd.fst) (0, 0, 0, 0, 0, 0, 0, 0, 0, 0, 0)).snd.snd.snd.snd.fst * 24) + (List.getD x.snd.snd.snd.snd.snd.snd.snd.snd.snd.fst (Int.toNat x.snd.snd.snd.snd.snd.snd.snd.fst) (0, 0, 0, 0, 0, 0, 0, 0, 0, 0, 0)).snd.snd.snd.fst)) (List.length x.snd.snd.snd.snd.snd.snd.snd.snd.snd.snd.fst) then
        rec (x.fst, x.snd.fst, x.snd.snd.fst, x.snd.snd.snd.fst, x.snd.snd.snd.snd.fst, x.snd.snd.snd.snd.snd.fst, x.snd.snd.snd.snd.snd.snd.fst, Go.IntKind.wrap Go.IntKind.i64 (x.snd.snd.snd.snd.snd.snd.snd.fst + 1), x.snd.snd.snd.snd.snd.snd.snd.snd.fst, x.snd.snd.snd.snd.snd.snd.snd.snd.snd.fst, List.set x.snd.snd.snd.snd.snd.snd.snd.snd.snd.snd.fst (Int.toNat (Go.IntKind.wrap Go.IntKind.i64 (Go.IntKind.wrap Go.IntKind.i64 ((List.getD x.snd.snd.snd.snd.snd.snd.snd.snd.snd.fst (Int.toNat x.snd.snd.snd.snd.snd.snd.snd.fst) (0, 0, 0, 0, 0, 0, 0, 0, 0, 0, 0)).snd.snd.snd.snd.fst * 24) + (List.getD x.snd.snd.snd.snd.snd.snd.snd.snd.snd.fst (Int.toNat x.snd.snd.snd.snd.snd.snd.snd.fst) (0, 0, 0, 0, 0, 0, 0, 0, 0, 0, 0)).snd.snd.snd.fst))) Bool.true, ())
       else
        none
      else
       rec (x.fst, x.snd.fst, x.snd.snd.fst, x.snd.snd.snd.fst, x.snd.snd.snd.snd.fst, x.snd.snd.snd.snd.snd.fst, x.snd.snd.snd.snd.snd.snd.fst, Go.IntKind.wrap Go.IntKind.i64 (x.snd.snd.snd.snd.snd.snd.snd.fst + 1), x.snd.snd.snd.snd.snd.snd.snd.snd.fst, x.snd.snd.snd.snd.snd.snd.snd.snd.snd.fst, x.snd.snd.snd.snd.snd.snd.snd.snd.snd.snd.fst, ())
     else
      rec (x.fst, x.snd.fst, x.snd.snd.fst, x.snd.snd.snd.fst, x.snd.snd.snd.snd.fst, x.snd.snd.snd.snd.snd.fst, x.snd.snd.snd.snd.snd.snd.fst, Go.IntKind.wrap Go.IntKind.i64 (x.snd.snd.snd.snd.snd.snd.snd.fst + 1), x.snd.snd.snd.snd.snd.snd.snd.snd.fst, x.snd.snd.snd.snd.snd.snd.snd.snd.snd.fst, x.snd.snd.snd.snd.snd.snd.snd.snd.snd.snd.fst, ())
    else
     none
   else
    none
  else
   none
 else
  Option.bind (f14 x.snd.snd.snd.snd.snd.snd.snd.snd.fst x.snd.snd.snd.snd.snd.snd.snd.snd.snd.snd.fst [x.snd.fst]) fun y0 =>
   bif Decidable.decide (x.snd.snd.snd.snd.fst ≥ 1) then
    bif Decidable.decide (x.snd.snd.snd.snd.fst ≤ 4) then
     Option.bind (f18 x.snd.snd.snd.snd.snd.snd.snd.snd.snd.fst (Go.IntKind.wrap Go.IntKind.i64 (x.snd.snd.fst + x.snd.snd.snd.snd.snd.fst)) (Go.IntKind.wrap Go.IntKind.i64 (x.snd.snd.snd.fst + x.snd.snd.snd.snd.snd.snd.fst))) fun y1 =>
      bif Decidable.decide (y1.fst < 0) then
       bif inRange (Go.IntKind.wrap Go.IntKind.i64 (Go.IntKind.wrap Go.IntKind.i64 (Go.IntKind.wrap Go.IntKind.i64 (Go.IntKind.wrap Go.IntKind.i64 (x.snd.snd.snd.fst + x.snd.snd.snd.snd.snd.snd.fst) * 24) + x.snd.snd.fst) + x.snd.snd.snd.snd.snd.fst)) (List.length x.snd.snd.snd.snd.snd.snd.snd.snd.fst) then
        Option.bind (f13 (Go.IntKind.wrap Go.IntKind.i64 (List.getD x.snd.snd.snd.snd.snd.snd.snd.snd.fst (Int.toNat (Go.IntKind.wrap Go.IntKind.i64 (Go.IntKind.wrap Go.IntKind.i64 (Go.IntKind.wrap Go.IntKind.i64 (Go.IntKind.wrap Go.IntKind.i64 (x.snd.snd.snd.fst + x.snd.snd.snd.snd.snd.snd.fst) * 24) + x.snd.snd.fst) + x.snd.snd.snd.snd.snd.fst))) 0))) fun y2 =>
         bif y2.fst then
          bif inRange (Go.IntKind.wrap Go.IntKind.i64 (Go.IntKind.wrap Go.IntKind.i64 (Go.IntKind.wrap Go.IntKind.i64 (Go.IntKind.wrap Go.IntKind.i64 (x.snd.snd.snd.fst + x.snd.snd.snd.snd.snd.snd.fst) * 24) + x.snd.snd.fst) + x.snd.snd.snd.snd.snd.fst)) (List.length y0.fst) then
           bif inRange x.fst (List.length y0.fst) then
            some ((List.getD y0.fst (Int.toNat (Go.IntKind.wrap Go.IntKind.i64 (Go.IntKind.wrap Go.IntKind.i64 (Go.IntKind.wrap Go.IntKind.i64 (Go.IntKind.wrap Go.IntKind.i64 (x.snd.snd.snd.fst + x.snd.snd.snd.snd.snd.snd.fst) * 24) + x.snd.snd.fst) + x.snd.snd.snd.snd.snd.fst))) 0 == Go.IntKind.wrap Go.IntKind.i64 (List.getD y0.fst (Int.toNat x.fst) 0 - 1), ()))
           else
            none
          else
           none
         else
          some ((Bool.false, ()))
       else
        none
      else
       some ((Bool.false, ()))
    else
     some ((Bool.false, ()))
   else
    some ((Bool.false, ()))
 ) (100000000000000000000) (x)
def f4 (a0 : Int) (a1 : Int) (a2 : List Int) (a3 : Int) (a4 : Int) : Option (Bool × Unit) :=
 Option.bind (f10) fun y0 =>
  bif !y0.fst then
   some ((Bool.false, ()))
  else
   Option.bind (f12 a1 3) fun y1 =>
    Option.bind (f11 a0 (Go.IntKind.wrap Go.IntKind.i64 (1 + y1.fst))) fun y2 =>
     Option.bind (f17 a2) fun y3 =>
      Option.bind (f12 a3 384) fun y4 =>
       Option.bind (f12 a4 384) fun y5 =>
        Option.bind (f15 y2.fst y3.fst (Int.tmod y4.fst 24) (Go.IntKind.wrap Go.IntKind.i64 (Int.tdiv y4.fst 24)) [y5.fst]) fun y6 =>
         bif y6.fst == 0 then
          some ((Bool.true, ()))
         else
          Option.bind (f16 y6.fst) fun y7 =>
           f4.L1 ((y4.fst, y5.fst, Int.tmod y4.fst 24, Go.IntKind.wrap Go.IntKind.i64 (Int.tdiv y4.fst 24), y6.fst, y7.fst, y7.snd.fst, 0, y2.fst, y3.fst, List.replicate 384 Bool.false, ()))
def f4.ins : Shape := ⟨[(0, .c (.int .i64)), (1, .c (.int .i64)), (2, .c (.row (.int .i64))), (3, .c (.int .i64)), (4, .c (.int .i64))], []⟩
def f4.outs : List Shape := [⟨[(0, .c (.bool))], []⟩]
def f4.S : FnSpec := ⟨f4.ins, f4.outs, [], fun x => f4 x.1 x.2.1 x.2.2.1 x.2.2.2.1 x.2.2.2.2.1⟩
def f4.E (fuel : Nat) : Env := ⟨tis, [(10, f10.S), (12, f12.S), (13, f13.S), (14, f14.S), (11, f11.S), (15, f15.S), (16, f16.S), (18, f18.S), (17, f17.S)], [], [], [(14, ⟨[(3, .c (.int .i64)), (4, .c (.int .i64)), (11, .c (.own 0)), (12, .c (.own 1)), (13, .c (.int .i64)), (14, .c (.int .i64)), (15, .c (.int .i64)), (16, .c (.int .i64)), (17, .c (.int .i64)), (18, .c (.own 2)), (19, .c (.int .i64))], [(0, .arr (.int .u8)), (1, .arr (.prod (.int .i64) (.prod (.int .i64) (.prod (.int .i64) (.prod (.int .i64) (.prod (.int .i64) (.prod (.int .i64) (.prod (.int .i64) (.prod (.int .i64) (.prod (.int .i64) (.prod (.int .i64) (.int .i64)))))))))))), (2, .arr .bool)]⟩)], [], 0, [], fuel⟩
theorem f4.run : ∀ x, runFn (f4.E 100000000000000000000) Go.Proofs.Try.f4 ((Go.Proofs.Try.f4.body).getD .skip) f4.S x = f4.S.f x := by intro x; kernel_rfl
theorem f4.sound : Sound Go.Proofs.Try.prog 4 f4.S := sound_of_run (fun _ => f4.E 100000000000000000000) (by kernel_rfl) (by kernel_rfl) (by kernel_rfl) orders (fun _ => ⟨tis_ok, EqsOk.nil _, (FnsOk.cons f10.sound (FnsOk.cons f12.sound (FnsOk.cons f13.sound (FnsOk.cons f14.sound (FnsOk.cons f11.sound (FnsOk.cons f15.sound (FnsOk.cons f16.sound (FnsOk.cons f18.sound (FnsOk.cons f17.sound FnsOk.nil)))))))))⟩) (fun _ => rfl) (by kernel_rfl) (by kernel_rfl) (fun x r h => (f4.run x).trans h)
/-! f50: adit/aditref6.blocked -/
def f50.L1 (x : List (Int × Int × Int × Int × Int × Int × Int × Int × Int × Int × Int) × Int × Int × Int × List Bool × Unit) : Option (List Bool × Unit) :=
 it (X := List (Int × Int × Int × Int × Int × Int × Int × Int × Int × Int × Int) × Int × Int × Int × List Bool × Unit) (fun rec x =>
 bif Decidable.decide (x.snd.snd.snd.fst < (↑(List.length x.fst) : Int)) then
  bif inRange x.snd.snd.snd.fst (List.length x.fst) then
   bif (List.getD x.fst (Int.toNat x.snd.snd.snd.fst) (0, 0, 0, 0, 0, 0, 0, 0, 0, 0, 0)).fst != 0 then
    bif inRange x.snd.snd.snd.fst (List.length x.fst) then
     bif inRange x.snd.snd.snd.fst (List.length x.fst) then
      Option.bind (f45 (List.getD x.fst (Int.toNat x.snd.snd.snd.fst) (0, 0, 0, 0, 0, 0, 0, 0, 0, 0, 0)).snd.snd.snd.fst (List.getD x.fst (Int.toNat x.snd.snd.snd.fst) (0, 0, 0, 0, 0, 0, 0, 0, 0, 0, 0)).snd.snd.snd.snd.fst) fun y0 =>
       bif y0.fst then
        bif inRange x.snd.snd.snd.fst (List.length x.fst) then
         bif (List.getD x.fst (Int.toNat x.snd.snd.snd.fst) (0, 0, 0, 0, 0, 0, 0, 0, 0, 0, 0)).snd.snd.snd.fst != x.snd.fst then
          bif inRange x.snd.snd.snd.fst (List.length x.fst) then
           bif inRange x.snd.snd.snd.fst (List.length x.fst) then
            bif inRange (Go.IntKind.wrap Go.IntKind.i64 (Go.IntKind.wrap Go.IntKind.i64 ((List.getD x.fst (Int.toNat x.snd.snd.snd.fst) (0, 0, 0, 0, 0, 0, 0, 0, 0, 0, 0)).snd.snd.snd.snd.fst * 24) + (List.getD x.fst (Int.toNat x.snd.snd.snd.fst) (0, 0, 0, 0, 0, 0, 0, 0, 0, 0, 0)).snd.snd.snd.fst)) (List.length x.snd.snd.snd.snd.fst) then
             rec (x.fst, x.snd.fst, x.snd.snd.fst, Go.IntKind.wrap Go.IntKind.i64 (x.snd.snd.snd.fst + 1), List.set x.snd.snd.snd.snd.fst (Int.toNat (Go.IntKind.wrap Go.IntKind.i64 (Go.IntKind.wrap Go.IntKind.i64 ((List.getD x.fst (Int.toNat x.snd.snd.snd.fst) (0, 0, 0, 0, 0, 0, 0, 0, 0, 0, 0)).snd.snd.snd.snd.fst * 24) + (List.getD x.fst (Int.toNat x.snd.snd.snd.fst) (0, 0, 0, 0, 0, 0, 0, 0, 0, 0, 0)).snd.snd.snd.fst))) Bool.true, ())
            else
             none
           else
            none
          else
           none
         else
          bif inRange x.snd.snd.snd.fst (List.length x.fst) then
           bif (List.getD x.fst (Int.toNat x.snd.snd.snd.fst) (0, 0, 0, 0, 0, 0, 0, 0, 0, 0, 0)).snd.snd.snd.snd.fst != x.snd.snd.fst then
            bif inRange x.snd.snd.snd.fst (List.length x.fst) then
             bif inRange x.snd.snd.snd.fst (List.length x.fst) then
              bif inRange (Go.IntKind.wrap Go.IntKind.i64 (Go.IntKind.wrap Go.IntKind.i64 ((List.getD x.fst (Int.toNat x.snd.snd.snd.fst) (0, 0, 0, 0, 0, 0, 0, 0, 0, 0, 0)).snd.snd.snd.snd.fst * 24) + (List.getD x.fst (Int.toNat x.snd.snd.snd.fst) (0, 0, 0, 0, 0, 0, 0, 0, 0, 0, 0)).snd.snd.snd.fst)) (List.length x.snd.snd.snd.snd.fst) then
               rec (x.fst, x.snd.fst, x.snd.snd.fst, Go.IntKind.wrap Go.IntKind.i64 (x.snd.snd.snd.fst + 1), List.set x.snd.snd.snd.snd.fst (Int.toNat (Go.IntKind.wrap Go.IntKind.i64 (Go.IntKind.wrap Go.IntKind.i64 ((List.getD x.fst (Int.toNat x.snd.snd.snd.fst) (0, 0, 0, 0, 0, 0, 0, 0, 0, 0, 0)).snd.snd.snd.snd.fst * 24) + (List.getD x.fst (Int.toNat x.snd.snd.snd.fst) (0, 0, 0, 0, 0, 0, 0, 0, 0, 0, 0)).snd.snd.snd.fst))) Bool.true, ())
              else
               none
             else
              none
            else
             none
           else
            rec (x.fst, x.snd.fst, x.snd.snd.fst, Go.IntKind.wrap Go.IntKind.i64 (x.snd.snd.snd.fst + 1), x.snd.snd.snd.snd.fst, ())
          else
           none
        else
         none
       else
        rec (x.fst, x.snd.fst, x.snd.snd.fst, Go.IntKind.wrap Go.IntKind.i64 (x.snd.snd.snd.fst + 1), x.snd.snd.snd.snd.fst, ())
     else
      none
    else
     none
   else
    rec (x.fst, x.snd.fst, x.snd.snd.fst, Go.IntKind.wrap Go.IntKind.i64 (x.snd.snd.snd.fst + 1), x.snd.snd.snd.snd.fst, ())
  else
   none
 else
  some ((x.snd.snd.snd.snd.fst, ()))
 ) (100000000000000000000) (x)
def f50 (a0 : List (Int × Int × Int × Int × Int × Int × Int × Int × Int × Int × Int)) (a1 : Int) (a2 : Int) : Option (List Bool × Unit) :=
 f50.L1 ((a0, a1, a2, 0, List.replicate 384 Bool.false, ()))
def f50.ins : Shape := ⟨[(0, .c (.row (.prod (.int .i64) (.prod (.int .i64) (.prod (.int .i64) (.prod (.int .i64) (.prod (.int .i64) (.prod (.int .i64) (.prod (.int .i64) (.prod (.int .i64) (.prod (.int .i64) (.prod (.int .i64) (.int .i64))))))))))))), (1, .c (.int .i64)), (2, .c (.int .i64))], []⟩
def f50.outs : List Shape := [⟨[(0, .c (.own 0))], [(0, .arr .bool)]⟩]
def f50.S : FnSpec := ⟨f50.ins, f50.outs, [], fun x => f50 x.1 x.2.1 x.2.2.1⟩
def f50.E (fuel : Nat) : Env := ⟨tis, [(45, f45.S)], [], [], [(4, ⟨[(0, .c (.row (.prod (.int .i64) (.prod (.int .i64) (.prod (.int .i64) (.prod (.int .i64) (.prod (.int .i64) (.prod (.int .i64) (.prod (.int .i64) (.prod (.int .i64) (.prod (.int .i64) (.prod (.int .i64) (.int .i64))))))))))))), (1, .c (.int .i64)), (2, .c (.int .i64)), (7, .c (.own 0)), (8, .c (.int .i64))], [(0, .arr .bool)]⟩)], [], 0, [], fuel⟩
theorem f50.run : ∀ x, runFn (f50.E 100000000000000000000) Go.Proofs.Try.f50 ((Go.Proofs.Try.f50.body).getD .skip) f50.S x = f50.S.f x := by intro x; kernel_rfl
theorem f50.sound : Sound Go.Proofs.Try.prog 50 f50.S := sound_of_run (fun _ => f50.E 100000000000000000000) (by kernel_rfl) (by kernel_rfl) (by kernel_rfl) orders (fun _ => ⟨tis_ok, EqsOk.nil _, (FnsOk.cons f45.sound FnsOk.nil)⟩) (fun _ => rfl) (by kernel_rfl) (by kernel_rfl) (fun x r h => (f50.run x).trans h)
/-! f19: adit/aditref6.Toward -/
def f19.L1 (x : List (Int × Int × Int × Int × Int × Int × Int × Int × Int × Int × Int) × Int × Int × Int × Int × List Int × Unit) : Option (Int × Unit) :=
 it (X := List (Int × Int × Int × Int × Int × Int × Int × Int × Int × Int × Int) × Int × Int × Int × Int × List Int × Unit) (fun rec x =>
 bif Decidable.decide (x.snd.snd.snd.snd.fst ≤ 4) then
  Option.bind (f16 x.snd.snd.snd.snd.fst) fun y0 =>
   Option.bind (f45 (Go.IntKind.wrap Go.IntKind.i64 (x.snd.fst + y0.fst)) (Go.IntKind.wrap Go.IntKind.i64 (x.snd.snd.fst + y0.snd.fst))) fun y1 =>
    bif y1.fst then
     bif inRange (Go.IntKind.wrap Go.IntKind.i64 (Go.IntKind.wrap Go.IntKind.i64 (Go.IntKind.wrap Go.IntKind.i64 (Go.IntKind.wrap Go.IntKind.i64 (x.snd.snd.fst + y0.snd.fst) * 24) + x.snd.fst) + y0.fst)) (List.length x.snd.snd.snd.snd.snd.fst) then
      bif List.getD x.snd.snd.snd.snd.snd.fst (Int.toNat (Go.IntKind.wrap Go.IntKind.i64 (Go.IntKind.wrap Go.IntKind.i64 (Go.IntKind.wrap Go.IntKind.i64 (Go.IntKind.wrap Go.IntKind.i64 (x.snd.snd.fst + y0.snd.fst) * 24) + x.snd.fst) + y0.fst))) 0 == Go.IntKind.wrap Go.IntKind.i64 (x.snd.snd.snd.fst - 1) then
       Option.bind (f18 x.fst (Go.IntKind.wrap Go.IntKind.i64 (x.snd.fst + y0.fst)) (Go.IntKind.wrap Go.IntKind.i64 (x.snd.snd.fst + y0.snd.fst))) fun y2 =>
        bif Decidable.decide (y2.fst < 0) then
         some ((x.snd.snd.snd.snd.fst, ()))
        else
         rec (x.fst, x.snd.fst, x.snd.snd.fst, x.snd.snd.snd.fst, Go.IntKind.wrap Go.IntKind.i64 (x.snd.snd.snd.snd.fst + 1), x.snd.snd.snd.snd.snd.fst, ())
      else
       rec (x.fst, x.snd.fst, x.snd.snd.fst, x.snd.snd.snd.fst, Go.IntKind.wrap Go.IntKind.i64 (x.snd.snd.snd.snd.fst + 1), x.snd.snd.snd.snd.snd.fst, ())
     else
      none
    else
     rec (x.fst, x.snd.fst, x.snd.snd.fst, x.snd.snd.snd.fst, Go.IntKind.wrap Go.IntKind.i64 (x.snd.snd.snd.snd.fst + 1), x.snd.snd.snd.snd.snd.fst, ())
 else
  some ((0, ()))
 ) (100000000000000000000) (x)
def f19 (a0 : List Int) (a1 : List (Int × Int × Int × Int × Int × Int × Int × Int × Int × Int × Int)) (a2 : Int) (a3 : Int) (a4 : List Int) : Option (Int × Unit) :=
 Option.bind (f45 a2 a3) fun y0 =>
  bif !y0.fst then
   some ((0, ()))
  else
   Option.bind (f50 a1 a2 a3) fun y1 =>
    Option.bind (f14 a0 y1.fst a4) fun y2 =>
     bif inRange (Go.IntKind.wrap Go.IntKind.i64 (Go.IntKind.wrap Go.IntKind.i64 (a3 * 24) + a2)) (List.length y2.fst) then
      bif Decidable.decide (List.getD y2.fst (Int.toNat (Go.IntKind.wrap Go.IntKind.i64 (Go.IntKind.wrap Go.IntKind.i64 (a3 * 24) + a2))) 0 < 1) then
       some ((0, ()))
      else
       f19.L1 ((a1, a2, a3, List.getD y2.fst (Int.toNat (Go.IntKind.wrap Go.IntKind.i64 (Go.IntKind.wrap Go.IntKind.i64 (a3 * 24) + a2))) 0, 1, y2.fst, ()))
     else
      none
def f19.ins : Shape := ⟨[(0, .c (.row (.int .u8))), (1, .c (.row (.prod (.int .i64) (.prod (.int .i64) (.prod (.int .i64) (.prod (.int .i64) (.prod (.int .i64) (.prod (.int .i64) (.prod (.int .i64) (.prod (.int .i64) (.prod (.int .i64) (.prod (.int .i64) (.int .i64))))))))))))), (2, .c (.int .i64)), (3, .c (.int .i64)), (4, .c (.row (.int .i64)))], []⟩
def f19.outs : List Shape := [⟨[(0, .c (.int .i64))], []⟩]
def f19.S : FnSpec := ⟨f19.ins, f19.outs, [], fun x => f19 x.1 x.2.1 x.2.2.1 x.2.2.2.1 x.2.2.2.2.1⟩
def f19.E (fuel : Nat) : Env := ⟨tis, [(45, f45.S), (14, f14.S), (16, f16.S), (18, f18.S), (50, f50.S)], [], [], [(9, ⟨[(1, .c (.row (.prod (.int .i64) (.prod (.int .i64) (.prod (.int .i64) (.prod (.int .i64) (.prod (.int .i64) (.prod (.int .i64) (.prod (.int .i64) (.prod (.int .i64) (.prod (.int .i64) (.prod (.int .i64) (.int .i64))))))))))))), (2, .c (.int .i64)), (3, .c (.int .i64)), (11, .c (.own 0)), (12, .c (.int .i64)), (13, .c (.int .i64))], [(0, .arr (.int .i64))]⟩)], [], 0, [], fuel⟩
theorem f19.run : ∀ x, runFn (f19.E 100000000000000000000) Go.Proofs.Try.f19 ((Go.Proofs.Try.f19.body).getD .skip) f19.S x = f19.S.f x := by intro x; kernel_rfl
theorem f19.sound : Sound Go.Proofs.Try.prog 19 f19.S := sound_of_run (fun _ => f19.E 100000000000000000000) (by kernel_rfl) (by kernel_rfl) (by kernel_rfl) orders (fun _ => ⟨tis_ok, EqsOk.nil _, (FnsOk.cons f45.sound (FnsOk.cons f14.sound (FnsOk.cons f16.sound (FnsOk.cons f18.sound (FnsOk.cons f50.sound FnsOk.nil)))))⟩) (fun _ => rfl) (by kernel_rfl) (by kernel_rfl) (fun x r h => (f19.run x).trans h)
/-! f81: adit/ents.rows -/
def f81 (a0 : List (Int × Int × Int × Int × Int × Int × Int × Int × Int × Int × Int)) : Option (List (Int × Int × Int × Int × Int × Int × Int × Int × Int × Int × Int) × Unit) :=
 bif Decidable.decide ((0 : Int) ≤ 0 ∧ 0 ≤ minI (↑(List.length a0) : Int) 32 ∧ minI (↑(List.length a0) : Int) 32 ≤ (↑(List.length a0) : Int)) then
  some ((List.drop 0 (List.take (Int.toNat (minI (↑(List.length a0) : Int) 32)) a0), ()))
 else
  none
def f81.ins : Shape := ⟨[(0, .c (.row (.prod (.int .i64) (.prod (.int .i64) (.prod (.int .i64) (.prod (.int .i64) (.prod (.int .i64) (.prod (.int .i64) (.prod (.int .i64) (.prod (.int .i64) (.prod (.int .i64) (.prod (.int .i64) (.int .i64)))))))))))))], []⟩
def f81.outs : List Shape := [⟨[(0, .c (.row (.prod (.int .i64) (.prod (.int .i64) (.prod (.int .i64) (.prod (.int .i64) (.prod (.int .i64) (.prod (.int .i64) (.prod (.int .i64) (.prod (.int .i64) (.prod (.int .i64) (.prod (.int .i64) (.int .i64)))))))))))))], []⟩]
def f81.S : FnSpec := ⟨f81.ins, f81.outs, [], fun x => f81 x.1⟩
def f81.E (fuel : Nat) : Env := ⟨tis, [], [], [], [], [], 0, [], fuel⟩
theorem f81.run : ∀ x, runFn (f81.E 100000000000000000000) Go.Proofs.Try.f81 ((Go.Proofs.Try.f81.body).getD .skip) f81.S x = f81.S.f x := by intro x; kernel_rfl
theorem f81.sound : Sound Go.Proofs.Try.prog 81 f81.S := sound_of_run (fun _ => f81.E 100000000000000000000) (by kernel_rfl) (by kernel_rfl) (by kernel_rfl) orders (fun _ => ⟨tis_ok, EqsOk.nil _, FnsOk.nil⟩) (fun _ => rfl) (by kernel_rfl) (by kernel_rfl) (fun x r h => (f81.run x).trans h)
/-! f72: adit/ents.At$1 -/
def f72 (a0 : Int) (a1 : Int) (a2 : Int) (a3 : Int) (a4 : Int) (a5 : Int) (a6 : Int) (a7 : Int) (a8 : Int) (a9 : Int) (a10 : Int) (a11 : Int) (a12 : Int) (a13 : Int) : Option (Bool × Unit) :=
 bif a1 != 0 then
  some ((a4 == a12 && (a5 == a13 && Bool.true), ()))
 else
  some ((Bool.false, ()))
def f72.ins : Shape := ⟨[(0, .c (.int .i64)), (1, .agg [.int .i64, .int .i64, .int .i64, .int .i64, .int .i64, .int .i64, .int .i64, .int .i64, .int .i64, .int .i64, .int .i64]), (2, .c (.bptr (.int .i64))), (3, .c (.bptr (.int .i64)))], []⟩
def f72.outs : List Shape := [⟨[(0, .c (.bool))], []⟩]
def f72.S : FnSpec := ⟨f72.ins, f72.outs, [], fun x => f72 x.1 x.2.1 x.2.2.1 x.2.2.2.1 x.2.2.2.2.1 x.2.2.2.2.2.1 x.2.2.2.2.2.2.1 x.2.2.2.2.2.2.2.1 x.2.2.2.2.2.2.2.2.1 x.2.2.2.2.2.2.2.2.2.1 x.2.2.2.2.2.2.2.2.2.2.1 x.2.2.2.2.2.2.2.2.2.2.2.1 x.2.2.2.2.2.2.2.2.2.2.2.2.1 x.2.2.2.2.2.2.2.2.2.2.2.2.2.1⟩
def f72.E (fuel : Nat) : Env := ⟨tis, [], [(90, [.int .i64, .int .i64])], [], [], [], 0, [], fuel⟩
theorem f72.run : ∀ x, runFn (f72.E 100000000000000000000) Go.Proofs.Try.f72 ((Go.Proofs.Try.f72.body).getD .skip) f72.S x = f72.S.f x := by intro x; kernel_rfl
theorem f72.sound : Sound Go.Proofs.Try.prog 72 f72.S := sound_of_run (fun _ => f72.E 100000000000000000000) (by kernel_rfl) (by kernel_rfl) (by kernel_rfl) orders (fun _ => ⟨tis_ok, (EqsOk.cons eq90 (EqsOk.nil _)), FnsOk.nil⟩) (fun _ => rfl) (by kernel_rfl) (by kernel_rfl) (fun x r h => (f72.run x).trans h)
/-! f71: adit/ents.find -/
def f71.L1 (x : List (Int × Int × Int × Int × Int × Int × Int × Int × Int × Int × Int) × Int × Int × Int × Int × Unit) : Option (Int × Int × Int × Unit) :=
 it (X := List (Int × Int × Int × Int × Int × Int × Int × Int × Int × Int × Int) × Int × Int × Int × Int × Unit) (fun rec x =>
 bif Decidable.decide (x.snd.snd.fst < x.snd.fst) then
  bif inRange x.snd.snd.fst (List.length x.fst) then
   Option.bind (f72 x.snd.snd.fst (List.getD x.fst (Int.toNat x.snd.snd.fst) (0, 0, 0, 0, 0, 0, 0, 0, 0, 0, 0)).fst (List.getD x.fst (Int.toNat x.snd.snd.fst) (0, 0, 0, 0, 0, 0, 0, 0, 0, 0, 0)).snd.fst (List.getD x.fst (Int.toNat x.snd.snd.fst) (0, 0, 0, 0, 0, 0, 0, 0, 0, 0, 0)).snd.snd.fst (List.getD x.fst (Int.toNat x.snd.snd.fst) (0, 0, 0, 0, 0, 0, 0, 0, 0, 0, 0)).snd.snd.snd.fst (List.getD x.fst (Int.toNat x.snd.snd.fst) (0, 0, 0, 0, 0, 0, 0, 0, 0, 0, 0)).snd.snd.snd.snd.fst (List.getD x.fst (Int.toNat x.snd.snd.fst) (0, 0, 0, 0, 0, 0, 0, 0, 0, 0, 0)).snd.snd.snd.snd.snd.fst (List.getD x.fst (Int.toNat x.snd.snd.fst) (0, 0, 0, 0, 0, 0, 0, 0, 0, 0, 0)).snd.snd.snd.snd.snd.snd.fst (List.getD x.fst (Int.toNat x.snd.snd.fst) (0, 0, 0, 0, 0, 0, 0, 0, 0, 0, 0)).snd.snd.snd.snd.snd.snd.snd.fst (List.getD x.fst (Int.toNat x.snd.snd.fst) (0, 0, 0, 0, 0, 0, 0, 0, 0, 0, 0)).snd.snd.snd.snd.snd.snd.snd.snd.fst (List.getD x.fst (Int.toNat x.snd.snd.fst) (0, 0, 0, 0, 0, 0, 0, 0, 0, 0, 0)).snd.snd.snd.snd.snd.snd.snd.snd.snd.fst (List.getD x.fst (Int.toNat x.snd.snd.fst) (0, 0, 0, 0, 0, 0, 0, 0, 0, 0, 0)).snd.snd.snd.snd.snd.snd.snd.snd.snd.snd x.snd.snd.snd.fst x.snd.snd.snd.snd.fst) fun y0 =>
    bif y0.fst then
     some ((x.snd.snd.fst, x.snd.snd.snd.fst, x.snd.snd.snd.snd.fst, ()))
    else
     rec (x.fst, x.snd.fst, Go.IntKind.wrap Go.IntKind.i64 (x.snd.snd.fst + 1), x.snd.snd.snd.fst, x.snd.snd.snd.snd.fst, ())
  else
   none
 else
  some ((-1, x.snd.snd.snd.fst, x.snd.snd.snd.snd.fst, ()))
 ) (100000000000000000000) (x)
def f71 (a0 : List (Int × Int × Int × Int × Int × Int × Int × Int × Int × Int × Int)) (a1 : Int) (a2 : Int) : Option (Int × Int × Int × Unit) :=
 Option.bind (f81 a0) fun y0 =>
  f71.L1 ((y0.fst, (↑(List.length y0.fst) : Int), 0, a1, a2, ()))
def f71.ins : Shape := ⟨[(0, .c (.row (.prod (.int .i64) (.prod (.int .i64) (.prod (.int .i64) (.prod (.int .i64) (.prod (.int .i64) (.prod (.int .i64) (.prod (.int .i64) (.prod (.int .i64) (.prod (.int .i64) (.prod (.int .i64) (.int .i64))))))))))))), (1, .c (.fn 72 [0, 1]))], [(0, .box [.int .i64]), (1, .box [.int .i64])]⟩
def f71.outs : List Shape := [⟨[(0, .c (.int .i64))], [(0, .box [.int .i64]), (1, .box [.int .i64])]⟩]
def f71.S : FnSpec := ⟨f71.ins, f71.outs, [0, 1], fun x => f71 x.1 x.2.1 x.2.2.1⟩
def f71.E (fuel : Nat) : Env := ⟨tis, [(81, f81.S), (72, f72.S)], [], [], [(3, ⟨[(1, .c (.fn 72 [0, 1])), (8, .c (.row (.prod (.int .i64) (.prod (.int .i64) (.prod (.int .i64) (.prod (.int .i64) (.prod (.int .i64) (.prod (.int .i64) (.prod (.int .i64) (.prod (.int .i64) (.prod (.int .i64) (.prod (.int .i64) (.int .i64))))))))))))), (9, .c (.int .i64)), (10, .c (.int .i64))], [(0, .box [.int .i64]), (1, .box [.int .i64])]⟩)], [], 2, [0, 1], fuel⟩
theorem f71.run : ∀ x, runFn (f71.E 100000000000000000000) Go.Proofs.Try.f71 ((Go.Proofs.Try.f71.body).getD .skip) f71.S x = f71.S.f x := by intro x; kernel_rfl
theorem f71.sound : Sound Go.Proofs.Try.prog 71 f71.S := sound_of_run (fun _ => f71.E 100000000000000000000) (by kernel_rfl) (by kernel_rfl) (by kernel_rfl) orders (fun _ => ⟨tis_ok, EqsOk.nil _, (FnsOk.cons f81.sound (FnsOk.cons f72.sound FnsOk.nil))⟩) (fun _ => rfl) (by kernel_rfl) (by kernel_rfl) (fun x r h => (f71.run x).trans h)
/-! f51: adit/ents.At -/
def f51 (a0 : List (Int × Int × Int × Int × Int × Int × Int × Int × Int × Int × Int)) (a1 : Int) (a2 : Int) : Option (Int × Unit) :=
 Option.bind (f71 a0 a1 a2) fun y0 =>
  some ((y0.fst, ()))
def f51.ins : Shape := ⟨[(0, .c (.row (.prod (.int .i64) (.prod (.int .i64) (.prod (.int .i64) (.prod (.int .i64) (.prod (.int .i64) (.prod (.int .i64) (.prod (.int .i64) (.prod (.int .i64) (.prod (.int .i64) (.prod (.int .i64) (.int .i64))))))))))))), (1, .c (.int .i64)), (2, .c (.int .i64))], []⟩
def f51.outs : List Shape := [⟨[(0, .c (.int .i64))], []⟩]
def f51.S : FnSpec := ⟨f51.ins, f51.outs, [], fun x => f51 x.1 x.2.1 x.2.2.1⟩
def f51.E (fuel : Nat) : Env := ⟨tis, [(71, f71.S)], [], [], [], [], 0, [], fuel⟩
theorem f51.run : ∀ x, runFn (f51.E 100000000000000000000) Go.Proofs.Try.f51 ((Go.Proofs.Try.f51.body).getD .skip) f51.S x = f51.S.f x := by intro x; kernel_rfl
theorem f51.sound : Sound Go.Proofs.Try.prog 51 f51.S := sound_of_run (fun _ => f51.E 100000000000000000000) (by kernel_rfl) (by kernel_rfl) (by kernel_rfl) orders (fun _ => ⟨tis_ok, EqsOk.nil _, (FnsOk.cons f71.sound FnsOk.nil)⟩) (fun _ => rfl) (by kernel_rfl) (by kernel_rfl) (fun x r h => (f51.run x).trans h)
/-! f20: adit/nav.Spot -/
def f20.L1 (x : List (Int × Int × Int × Int × Int × Int × Int × Int × Int × Int × Int) × Int × Int × Int × List Int × Unit) : Option (Int × Unit) :=
 it (X := List (Int × Int × Int × Int × Int × Int × Int × Int × Int × Int × Int) × Int × Int × Int × List Int × Unit) (fun rec x =>
 bif Decidable.decide (x.snd.snd.snd.fst < x.snd.snd.fst) then
  bif inRange x.snd.snd.snd.fst (List.length x.snd.snd.snd.snd.fst) then
   bif Decidable.decide (List.getD x.snd.snd.snd.snd.fst (Int.toNat x.snd.snd.snd.fst) 0 ≥ 0) then
    bif Decidable.decide (x.snd.fst < 0) then
     Option.bind (f51 x.fst (Int.tmod x.snd.snd.snd.fst 24) (Go.IntKind.wrap Go.IntKind.i64 (Int.tdiv x.snd.snd.snd.fst 24))) fun y0 =>
      bif Decidable.decide (y0.fst < 0) then
       rec (x.fst, x.snd.snd.snd.fst, x.snd.snd.fst, Go.IntKind.wrap Go.IntKind.i64 (x.snd.snd.snd.fst + 1), x.snd.snd.snd.snd.fst, ())
      else
       rec (x.fst, x.snd.fst, x.snd.snd.fst, Go.IntKind.wrap Go.IntKind.i64 (x.snd.snd.snd.fst + 1), x.snd.snd.snd.snd.fst, ())
    else
     bif inRange x.snd.fst (List.length x.snd.snd.snd.snd.fst) then
      bif Decidable.decide (List.getD x.snd.snd.snd.snd.fst (Int.toNat x.snd.snd.snd.fst) 0 < List.getD x.snd.snd.snd.snd.fst (Int.toNat x.snd.fst) 0) then
       Option.bind (f51 x.fst (Int.tmod x.snd.snd.snd.fst 24) (Go.IntKind.wrap Go.IntKind.i64 (Int.tdiv x.snd.snd.snd.fst 24))) fun y1 =>
        bif Decidable.decide (y1.fst < 0) then
         rec (x.fst, x.snd.snd.snd.fst, x.snd.snd.fst, Go.IntKind.wrap Go.IntKind.i64 (x.snd.snd.snd.fst + 1), x.snd.snd.snd.snd.fst, ())
        else
         rec (x.fst, x.snd.fst, x.snd.snd.fst, Go.IntKind.wrap Go.IntKind.i64 (x.snd.snd.snd.fst + 1), x.snd.snd.snd.snd.fst, ())
      else
       rec (x.fst, x.snd.fst, x.snd.snd.fst, Go.IntKind.wrap Go.IntKind.i64 (x.snd.snd.snd.fst + 1), x.snd.snd.snd.snd.fst, ())
     else
      none
   else
    rec (x.fst, x.snd.fst, x.snd.snd.fst, Go.IntKind.wrap Go.IntKind.i64 (x.snd.snd.snd.fst + 1), x.snd.snd.snd.snd.fst, ())
  else
   none
 else
  some ((x.snd.fst, ()))
 ) (100000000000000000000) (x)
def f20 (a0 : List Int) (a1 : List (Int × Int × Int × Int × Int × Int × Int × Int × Int × Int × Int)) (a2 : Int) (a3 : Int) : Option (Int × Unit) :=
 Option.bind (f46 a2 a3) fun y0 =>
  Option.bind (f47 a0 [] [y0.fst]) fun y1 =>
   f20.L1 ((a1, -1, (↑(List.length y1.fst) : Int), 0, y1.fst, ()))
def f20.ins : Shape := ⟨[(0, .c (.row (.int .u8))), (1, .c (.row (.prod (.int .i64) (.prod (.int .i64) (.prod (.int .i64) (.prod (.int .i64) (.prod (.int .i64) (.prod (.int .i64) (.prod (.int .i64) (.prod (.int .i64) (.prod (.int .i64) (.prod (.int .i64) (.int .i64))))))))))))), (2, .c (.int .i64)), (3, .c (.int .i64))], []⟩
def f20.outs : List Shape := [⟨[(0, .c (.int .i64))], []⟩]
def f20.S : FnSpec := ⟨f20.ins, f20.outs, [], fun x => f20 x.1 x.2.1 x.2.2.1 x.2.2.2.1⟩
def f20.E (fuel : Nat) : Env := ⟨tis, [(46, f46.S), (47, f47.S), (51, f51.S)], [], [], [(5, ⟨[(1, .c (.row (.prod (.int .i64) (.prod (.int .i64) (.prod (.int .i64) (.prod (.int .i64) (.prod (.int .i64) (.prod (.int .i64) (.prod (.int .i64) (.prod (.int .i64) (.prod (.int .i64) (.prod (.int .i64) (.int .i64))))))))))))), (9, .c (.int .i64)), (10, .c (.own 0)), (19, .c (.own 0)), (20, .c (.int .i64)), (21, .c (.int .i64))], [(0, .arr (.int .i64))]⟩)], [], 0, [], fuel⟩
theorem f20.run : ∀ x, runFn (f20.E 100000000000000000000) Go.Proofs.Try.f20 ((Go.Proofs.Try.f20.body).getD .skip) f20.S x = f20.S.f x := by intro x; kernel_rfl
theorem f20.sound : Sound Go.Proofs.Try.prog 20 f20.S := sound_of_run (fun _ => f20.E 100000000000000000000) (by kernel_rfl) (by kernel_rfl) (by kernel_rfl) orders (fun _ => ⟨tis_ok, EqsOk.nil _, (FnsOk.cons f46.sound (FnsOk.cons f47.sound (FnsOk.cons f51.sound FnsOk.nil)))⟩) (fun _ => rfl) (by kernel_rfl) (by kernel_rfl) (fun x r h => (f20.run x).trans h)
/-! f21: adit/aditref6.Spot -/
def f21.L1 (x : List (Int × Int × Int × Int × Int × Int × Int × Int × Int × Int × Int) × Int × Int × List Int × Unit) : Option (Int × Unit) :=
 it (X := List (Int × Int × Int × Int × Int × Int × Int × Int × Int × Int × Int) × Int × Int × List Int × Unit) (fun rec x =>
 bif Decidable.decide (x.snd.snd.fst < 384) then
  bif inRange x.snd.snd.fst (List.length x.snd.snd.snd.fst) then
   bif Decidable.decide (List.getD x.snd.snd.snd.fst (Int.toNat x.snd.snd.fst) 0 ≥ 0) then
    Option.bind (f18 x.fst (Int.tmod x.snd.snd.fst 24) (Go.IntKind.wrap Go.IntKind.i64 (Int.tdiv x.snd.snd.fst 24))) fun y0 =>
     bif Decidable.decide (y0.fst < 0) then
      bif Decidable.decide (x.snd.fst < 0) then
       rec (x.fst, x.snd.snd.fst, Go.IntKind.wrap Go.IntKind.i64 (x.snd.snd.fst + 1), x.snd.snd.snd.fst, ())
      else
       bif inRange x.snd.snd.fst (List.length x.snd.snd.snd.fst) then
        bif inRange x.snd.fst (List.length x.snd.snd.snd.fst) then
         bif Decidable.decide (List.getD x.snd.snd.snd.fst (Int.toNat x.snd.snd.fst) 0 < List.getD x.snd.snd.snd.fst (Int.toNat x.snd.fst) 0) then
          rec (x.fst, x.snd.snd.fst, Go.IntKind.wrap Go.IntKind.i64 (x.snd.snd.fst + 1), x.snd.snd.snd.fst, ())
         else
          rec (x.fst, x.snd.fst, Go.IntKind.wrap Go.IntKind.i64 (x.snd.snd.fst + 1), x.snd.snd.snd.fst, ())
        else
         none
       else
        none
     else
      rec (x.fst, x.snd.fst, Go.IntKind.wrap Go.IntKind.i64 (x.snd.snd.fst + 1), x.snd.snd.snd.fst, ())
   else
    rec (x.fst, x.snd.fst, Go.IntKind.wrap Go.IntKind.i64 (x.snd.snd.fst + 1), x.snd.snd.snd.fst, ())
  else
   none
 else
  some ((x.snd.fst, ()))
 ) (100000000000000000000) (x)
def f21 (a0 : List Int) (a1 : List (Int × Int × Int × Int × Int × Int × Int × Int × Int × Int × Int)) (a2 : Int) (a3 : Int) : Option (Int × Unit) :=
 Option.bind (f45 a2 a3) fun y0 =>
  bif !y0.fst then
   some ((-1, ()))
  else
   Option.bind (f14 a0 [] [Go.IntKind.wrap Go.IntKind.i64 (Go.IntKind.wrap Go.IntKind.i64 (a3 * 24) + a2)]) fun y1 =>
    f21.L1 ((a1, -1, 0, y1.fst, ()))
def f21.ins : Shape := ⟨[(0, .c (.row (.int .u8))), (1, .c (.row (.prod (.int .i64) (.prod (.int .i64) (.prod (.int .i64) (.prod (.int .i64) (.prod (.int .i64) (.prod (.int .i64) (.prod (.int .i64) (.prod (.int .i64) (.prod (.int .i64) (.prod (.int .i64) (.int .i64))))))))))))), (2, .c (.int .i64)), (3, .c (.int .i64))], []⟩
def f21.outs : List Shape := [⟨[(0, .c (.int .i64))], []⟩]
def f21.S : FnSpec := ⟨f21.ins, f21.outs, [], fun x => f21 x.1 x.2.1 x.2.2.1 x.2.2.2.1⟩
def f21.E (fuel : Nat) : Env := ⟨tis, [(45, f45.S), (14, f14.S), (18, f18.S)], [], [], [(7, ⟨[(1, .c (.row (.prod (.int .i64) (.prod (.int .i64) (.prod (.int .i64) (.prod (.int .i64) (.prod (.int .i64) (.prod (.int .i64) (.prod (.int .i64) (.prod (.int .i64) (.prod (.int .i64) (.prod (.int .i64) (.int .i64))))))))))))), (9, .c (.own 0)), (10, .c (.int .i64)), (11, .c (.int .i64))], [(0, .arr (.int .i64))]⟩)], [], 0, [], fuel⟩
theorem f21.run : ∀ x, runFn (f21.E 100000000000000000000) Go.Proofs.Try.f21 ((Go.Proofs.Try.f21.body).getD .skip) f21.S x = f21.S.f x := by intro x; kernel_rfl
theorem f21.sound : Sound Go.Proofs.Try.prog 21 f21.S := sound_of_run (fun _ => f21.E 100000000000000000000) (by kernel_rfl) (by kernel_rfl) (by kernel_rfl) orders (fun _ => ⟨tis_ok, EqsOk.nil _, (FnsOk.cons f45.sound (FnsOk.cons f14.sound (FnsOk.cons f18.sound FnsOk.nil)))⟩) (fun _ => rfl) (by kernel_rfl) (by kernel_rfl) (fun x r h => (f21.run x).trans h)
/-! f23: adit/aditref6.Beside -/
def f23.L1 (x : Int × Int × Int × Int × Int × Unit) : Option (Int × Unit) :=
 it (X := Int × Int × Int × Int × Int × Unit) (fun rec x =>
 bif Decidable.decide (x.snd.snd.snd.snd.fst ≤ 4) then
  Option.bind (f16 x.snd.snd.snd.snd.fst) fun y0 =>
   bif x.snd.snd.fst == Go.IntKind.wrap Go.IntKind.i64 (x.fst + y0.fst) then
    bif x.snd.snd.snd.fst == Go.IntKind.wrap Go.IntKind.i64 (x.snd.fst + y0.snd.fst) then
     some ((x.snd.snd.snd.snd.fst, ()))
    else
     rec (x.fst, x.snd.fst, x.snd.snd.fst, x.snd.snd.snd.fst, Go.IntKind.wrap Go.IntKind.i64 (x.snd.snd.snd.snd.fst + 1), ())
   else
    rec (x.fst, x.snd.fst, x.snd.snd.fst, x.snd.snd.snd.fst, Go.IntKind.wrap Go.IntKind.i64 (x.snd.snd.snd.snd.fst + 1), ())
 else
  some ((0, ()))
 ) (100000000000000000000) (x)
def f23 (a0 : Int) (a1 : Int) (a2 : Int) (a3 : Int) : Option (Int × Unit) :=
 f23.L1 ((a0, a1, a2, a3, 1, ()))
def f23.ins : Shape := ⟨[(0, .c (.int .i64)), (1, .c (.int .i64)), (2, .c (.int .i64)), (3, .c (.int .i64))], []⟩
def f23.outs : List Shape := [⟨[(0, .c (.int .i64))], []⟩]
def f23.S : FnSpec := ⟨f23.ins, f23.outs, [], fun x => f23 x.1 x.2.1 x.2.2.1 x.2.2.2.1⟩
def f23.E (fuel : Nat) : Env := ⟨tis, [(16, f16.S)], [], [], [(3, ⟨[(0, .c (.int .i64)), (1, .c (.int .i64)), (2, .c (.int .i64)), (3, .c (.int .i64)), (9, .c (.int .i64))], []⟩)], [], 0, [], fuel⟩
theorem f23.run : ∀ x, runFn (f23.E 100000000000000000000) Go.Proofs.Try.f23 ((Go.Proofs.Try.f23.body).getD .skip) f23.S x = f23.S.f x := by intro x; kernel_rfl
theorem f23.sound : Sound Go.Proofs.Try.prog 23 f23.S := sound_of_run (fun _ => f23.E 100000000000000000000) (by kernel_rfl) (by kernel_rfl) (by kernel_rfl) orders (fun _ => ⟨tis_ok, EqsOk.nil _, (FnsOk.cons f16.sound FnsOk.nil)⟩) (fun _ => rfl) (by kernel_rfl) (by kernel_rfl) (fun x r h => (f23.run x).trans h)
/-! f5: adit/aditlaw6.NavAsks -/
def f5 (a0 : Int) (a1 : Int) (a2 : List Int) (a3 : Int) (a4 : Int) (a5 : List Int) (a6 : Int) (a7 : Int) : Option (Bool × Unit) :=
 Option.bind (f10) fun y0 =>
  bif !y0.fst then
   some ((Bool.false, ()))
  else
   bif Decidable.decide ((↑(List.length a5) : Int) > 20) then
    some ((Bool.true, ()))
   else
    Option.bind (f12 a1 3) fun y1 =>
     Option.bind (f11 a0 (Go.IntKind.wrap Go.IntKind.i64 (1 + y1.fst))) fun y2 =>
      Option.bind (f17 a2) fun y3 =>
       Option.bind (f15 y2.fst y3.fst a3 a4 a5) fun y4 =>
        Option.bind (f19 y2.fst y3.fst a3 a4 a5) fun y5 =>
         bif y4.fst != y5.fst then
          some ((Bool.false, ()))
         else
          Option.bind (f20 y2.fst y3.fst a3 a4) fun y6 =>
           Option.bind (f21 y2.fst y3.fst a3 a4) fun y7 =>
            bif y6.fst != y7.fst then
             some ((Bool.false, ()))
            else
             Option.bind (f22 a3 a4 a6 a7) fun y8 =>
              Option.bind (f23 a3 a4 a6 a7) fun y9 =>
               bif y8.fst != y9.fst then
                some ((Bool.false, ()))
               else
                Option.bind (f12 a3 24) fun y10 =>
                 Option.bind (f12 a4 16) fun y11 =>
                  Option.bind (f15 y2.fst y3.fst y10.fst y11.fst a5) fun y12 =>
                   Option.bind (f19 y2.fst y3.fst y10.fst y11.fst a5) fun y13 =>
                    bif y12.fst == y13.fst then
                     Option.bind (f20 y2.fst y3.fst y10.fst y11.fst) fun y14 =>
                      Option.bind (f21 y2.fst y3.fst y10.fst y11.fst) fun y15 =>
                       some ((y14.fst == y15.fst, ()))
                    else
                     some ((Bool.false, ()))
def f5.ins : Shape := ⟨[(0, .c (.int .i64)), (1, .c (.int .i64)), (2, .c (.row (.int .i64))), (3, .c (.int .i64)), (4, .c (.int .i64)), (5, .c (.row (.int .i64))), (6, .c (.int .i64)), (7, .c (.int .i64))], []⟩
def f5.outs : List Shape := [⟨[(0, .c (.bool))], []⟩]
def f5.S : FnSpec := ⟨f5.ins, f5.outs, [], fun x => f5 x.1 x.2.1 x.2.2.1 x.2.2.2.1 x.2.2.2.2.1 x.2.2.2.2.2.1 x.2.2.2.2.2.2.1 x.2.2.2.2.2.2.2.1⟩
def f5.E (fuel : Nat) : Env := ⟨tis, [(22, f22.S), (10, f10.S), (12, f12.S), (11, f11.S), (15, f15.S), (17, f17.S), (19, f19.S), (20, f20.S), (21, f21.S), (23, f23.S)], [], [], [], [], 0, [], fuel⟩
theorem f5.run : ∀ x, runFn (f5.E 100000000000000000000) Go.Proofs.Try.f5 ((Go.Proofs.Try.f5.body).getD .skip) f5.S x = f5.S.f x := by intro x; kernel_rfl
theorem f5.sound : Sound Go.Proofs.Try.prog 5 f5.S := sound_of_run (fun _ => f5.E 100000000000000000000) (by kernel_rfl) (by kernel_rfl) (by kernel_rfl) orders (fun _ => ⟨tis_ok, EqsOk.nil _, (FnsOk.cons f22.sound (FnsOk.cons f10.sound (FnsOk.cons f12.sound (FnsOk.cons f11.sound (FnsOk.cons f15.sound (FnsOk.cons f17.sound (FnsOk.cons f19.sound (FnsOk.cons f20.sound (FnsOk.cons f21.sound (FnsOk.cons f23.sound FnsOk.nil))))))))))⟩) (fun _ => rfl) (by kernel_rfl) (by kernel_rfl) (fun x r h => (f5.run x).trans h)
end
end Go.Proofs.Ytldgilfchpfblaa.Run

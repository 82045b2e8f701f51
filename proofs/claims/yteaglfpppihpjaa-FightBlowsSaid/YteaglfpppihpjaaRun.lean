/- Functions of the program as Lean functions: printed by a tool of this session (own work). -/
import Derived.Test.YteaglfpppihpjaaProg
import Derived.Test.YteaglfpppihpjaaMxY
namespace Go.Proofs.Yteaglfpppihpjaa.Run
open Go Go.Proofs.Yteaglfpppihpjaa.Mx
set_option autoImplicit false
set_option linter.unusedVariables false
set_option maxRecDepth 100000
set_option maxHeartbeats 4000000
noncomputable section
def ty2 : TI := ⟨.int .i64, 1, 8, [.int .i64 0], some (.int .i64)⟩
def ty3 : TI := ⟨.int .i64, 1, 8, [.int .i64 0], some (.int .i64)⟩
def ty4 : TI := ⟨.bool, 1, 1, [.bool false], some .bool⟩
def ty5 : TI := ⟨.int .u8, 1, 1, [.int .u8 0], some (.int .u8)⟩
def ty23 : TI := ⟨.slice 5, 1, 24, [.nils], some (.row (.int .u8))⟩
def ty24 : TI := ⟨.slice 33, 1, 24, [.nils], some (.row (.prod (.int .i64) (.prod (.int .i64) (.prod (.int .i64) (.prod (.int .i64) (.prod (.int .i64) (.prod (.int .i64) (.prod (.int .i64) (.prod (.int .i64) (.prod (.int .i64) (.prod (.int .i64) (.int .i64))))))))))))⟩
def ty25 : TI := ⟨.slice 39, 1, 24, [.nils], some (.row (.prod (.int .i64) (.prod (.int .i64) (.prod (.int .i64) (.int .i64)))))⟩
def ty26 : TI := ⟨.arr 4 3, 4, 32, [.int .i64 0, .int .i64 0, .int .i64 0, .int .i64 0], some (.prod (.int .i64) (.prod (.int .i64) (.prod (.int .i64) (.int .i64))))⟩
def ty28 : TI := ⟨.struct [(0, 2), (1, 3), (2, 3), (3, 3), (4, 23), (5, 24), (6, 25), (7, 26)], 11, 136, [.int .i64 0, .int .i64 0, .int .i64 0, .int .i64 0, .nils, .nils, .nils, .int .i64 0, .int .i64 0, .int .i64 0, .int .i64 0], some (.prod (.int .i64) (.prod (.int .i64) (.prod (.int .i64) (.prod (.int .i64) (.prod (.row (.int .u8)) (.prod (.row (.prod (.int .i64) (.prod (.int .i64) (.prod (.int .i64) (.prod (.int .i64) (.prod (.int .i64) (.prod (.int .i64) (.prod (.int .i64) (.prod (.int .i64) (.prod (.int .i64) (.prod (.int .i64) (.int .i64)))))))))))) (.prod (.row (.prod (.int .i64) (.prod (.int .i64) (.prod (.int .i64) (.int .i64))))) (.prod (.int .i64) (.prod (.int .i64) (.prod (.int .i64) (.int .i64)))))))))))⟩
def ty33 : TI := ⟨.struct [(0, 3), (1, 3), (2, 3), (3, 3), (4, 3), (5, 3), (6, 3), (7, 3), (8, 3), (9, 3), (10, 3)], 11, 88, [.int .i64 0, .int .i64 0, .int .i64 0, .int .i64 0, .int .i64 0, .int .i64 0, .int .i64 0, .int .i64 0, .int .i64 0, .int .i64 0, .int .i64 0], some (.prod (.int .i64) (.prod (.int .i64) (.prod (.int .i64) (.prod (.int .i64) (.prod (.int .i64) (.prod (.int .i64) (.prod (.int .i64) (.prod (.int .i64) (.prod (.int .i64) (.prod (.int .i64) (.int .i64)))))))))))⟩
def ty39 : TI := ⟨.struct [(0, 3), (1, 3), (2, 3), (3, 3)], 4, 32, [.int .i64 0, .int .i64 0, .int .i64 0, .int .i64 0], some (.prod (.int .i64) (.prod (.int .i64) (.prod (.int .i64) (.int .i64))))⟩
def ty42 : TI := ⟨.slice 3, 1, 24, [.nils], some (.row (.int .i64))⟩
def ty50 : TI := ⟨.struct [(0, 23), (1, 24), (2, 25)], 3, 72, [.nils, .nils, .nils], some (.prod (.row (.int .u8)) (.prod (.row (.prod (.int .i64) (.prod (.int .i64) (.prod (.int .i64) (.prod (.int .i64) (.prod (.int .i64) (.prod (.int .i64) (.prod (.int .i64) (.prod (.int .i64) (.prod (.int .i64) (.prod (.int .i64) (.int .i64)))))))))))) (.row (.prod (.int .i64) (.prod (.int .i64) (.prod (.int .i64) (.int .i64)))))))⟩
def ty64 : TI := ⟨.arr 6 3, 6, 48, [.int .i64 0, .int .i64 0, .int .i64 0, .int .i64 0, .int .i64 0, .int .i64 0], some (.prod (.int .i64) (.prod (.int .i64) (.prod (.int .i64) (.prod (.int .i64) (.prod (.int .i64) (.int .i64))))))⟩
def ty68 : TI := ⟨.slice 4, 1, 24, [.nils], some (.row .bool)⟩
def ty73 : TI := ⟨.int .u64, 1, 8, [.int .u64 0], some (.int .u64)⟩
def tis : List (Nat × TI) := [(2, ty2), (3, ty3), (4, ty4), (5, ty5), (23, ty23), (24, ty24), (25, ty25), (26, ty26), (28, ty28), (33, ty33), (39, ty39), (42, ty42), (50, ty50), (64, ty64), (68, ty68), (73, ty73)]
theorem ty2_ok : TIok Go.Proofs.Try.prog 2 ty2 := ⟨by kernel_rfl, by kernel_rfl, by kernel_rfl, by kernel_rfl, by kernel_rfl, by kernel_rfl, by kernel_rfl, by kernel_rfl⟩
theorem ty3_ok : TIok Go.Proofs.Try.prog 3 ty3 := ⟨by kernel_rfl, by kernel_rfl, by kernel_rfl, by kernel_rfl, by kernel_rfl, by kernel_rfl, by kernel_rfl, by kernel_rfl⟩
theorem ty4_ok : TIok Go.Proofs.Try.prog 4 ty4 := ⟨by kernel_rfl, by kernel_rfl, by kernel_rfl, by kernel_rfl, by kernel_rfl, by kernel_rfl, by kernel_rfl, by kernel_rfl⟩
theorem ty5_ok : TIok Go.Proofs.Try.prog 5 ty5 := ⟨by kernel_rfl, by kernel_rfl, by kernel_rfl, by kernel_rfl, by kernel_rfl, by kernel_rfl, by kernel_rfl, by kernel_rfl⟩
theorem ty23_ok : TIok Go.Proofs.Try.prog 23 ty23 := ⟨by kernel_rfl, by kernel_rfl, by kernel_rfl, by kernel_rfl, by kernel_rfl, by kernel_rfl, by kernel_rfl, by kernel_rfl⟩
theorem ty24_ok : TIok Go.Proofs.Try.prog 24 ty24 := ⟨by kernel_rfl, by kernel_rfl, by kernel_rfl, by kernel_rfl, by kernel_rfl, by kernel_rfl, by kernel_rfl, by kernel_rfl⟩
theorem ty25_ok : TIok Go.Proofs.Try.prog 25 ty25 := ⟨by kernel_rfl, by kernel_rfl, by kernel_rfl, by kernel_rfl, by kernel_rfl, by kernel_rfl, by kernel_rfl, by kernel_rfl⟩
theorem ty26_ok : TIok Go.Proofs.Try.prog 26 ty26 := ⟨by kernel_rfl, by kernel_rfl, by kernel_rfl, by kernel_rfl, by kernel_rfl, by kernel_rfl, by kernel_rfl, by kernel_rfl⟩
theorem ty28_ok : TIok Go.Proofs.Try.prog 28 ty28 := ⟨by kernel_rfl, by kernel_rfl, by kernel_rfl, by kernel_rfl, by kernel_rfl, by kernel_rfl, by kernel_rfl, by kernel_rfl⟩
theorem ty33_ok : TIok Go.Proofs.Try.prog 33 ty33 := ⟨by kernel_rfl, by kernel_rfl, by kernel_rfl, by kernel_rfl, by kernel_rfl, by kernel_rfl, by kernel_rfl, by kernel_rfl⟩
theorem ty39_ok : TIok Go.Proofs.Try.prog 39 ty39 := ⟨by kernel_rfl, by kernel_rfl, by kernel_rfl, by kernel_rfl, by kernel_rfl, by kernel_rfl, by kernel_rfl, by kernel_rfl⟩
theorem ty42_ok : TIok Go.Proofs.Try.prog 42 ty42 := ⟨by kernel_rfl, by kernel_rfl, by kernel_rfl, by kernel_rfl, by kernel_rfl, by kernel_rfl, by kernel_rfl, by kernel_rfl⟩
theorem ty50_ok : TIok Go.Proofs.Try.prog 50 ty50 := ⟨by kernel_rfl, by kernel_rfl, by kernel_rfl, by kernel_rfl, by kernel_rfl, by kernel_rfl, by kernel_rfl, by kernel_rfl⟩
theorem ty64_ok : TIok Go.Proofs.Try.prog 64 ty64 := ⟨by kernel_rfl, by kernel_rfl, by kernel_rfl, by kernel_rfl, by kernel_rfl, by kernel_rfl, by kernel_rfl, by kernel_rfl⟩
theorem ty68_ok : TIok Go.Proofs.Try.prog 68 ty68 := ⟨by kernel_rfl, by kernel_rfl, by kernel_rfl, by kernel_rfl, by kernel_rfl, by kernel_rfl, by kernel_rfl, by kernel_rfl⟩
theorem ty73_ok : TIok Go.Proofs.Try.prog 73 ty73 := ⟨by kernel_rfl, by kernel_rfl, by kernel_rfl, by kernel_rfl, by kernel_rfl, by kernel_rfl, by kernel_rfl, by kernel_rfl⟩
theorem tis_ok : TIs Go.Proofs.Try.prog tis := (TIs.cons ty2_ok (TIs.cons ty3_ok (TIs.cons ty4_ok (TIs.cons ty5_ok (TIs.cons ty23_ok (TIs.cons ty24_ok (TIs.cons ty25_ok (TIs.cons ty26_ok (TIs.cons ty28_ok (TIs.cons ty33_ok (TIs.cons ty39_ok (TIs.cons ty42_ok (TIs.cons ty50_ok (TIs.cons ty64_ok (TIs.cons ty68_ok (TIs.cons ty73_ok (TIs.nil _)))))))))))))))))
theorem orders : Go.Proofs.Try.prog.follows .mixedOrders = true := by kernel_rfl
/-! f24: adit/aditlaw7.within -/
def f24 (a0 : Int) (a1 : Int) : Option (Int × Unit) :=
 bif Decidable.decide (a1 = 0) then
  none
 else
  Option.bind (α := Int × Unit ⊕ Int × Unit) (
   bif Decidable.decide (Int.tmod a0 a1 < 0) then
    some (Sum.inl (Go.IntKind.wrap Go.IntKind.i64 (Int.tmod a0 a1 + a1), ()))
   else
    some (Sum.inl (Int.tmod a0 a1, ()))
  ) fun y0 =>
   Sum.elim (fun y1 =>
    some ((y1.fst, ()))
   ) (fun z2 =>
    some (z2)
   ) (y0)
def f24.ins : Shape := ⟨[(0, .c (.int .i64)), (1, .c (.int .i64))], []⟩
def f24.outs : List Shape := [⟨[(0, .c (.int .i64))], []⟩]
def f24.S : FnSpec := ⟨f24.ins, f24.outs, [], fun x => f24 x.1 x.2.1⟩
def f24.E (fuel : Nat) : Env := ⟨tis, [], [], [(5, ⟨[(5, .c (.int .i64))], []⟩)], [], [], 0, [], fuel⟩
theorem f24.run : ∀ x, runFn (f24.E 100000000000000000000) Go.Proofs.Try.f24 ((Go.Proofs.Try.f24.body).getD .skip) f24.S x = f24.S.f x := by intro x; kernel_rfl
theorem f24.sound : Sound Go.Proofs.Try.prog 24 f24.S := sound_of_run (fun _ => f24.E 100000000000000000000) (by kernel_rfl) (by kernel_rfl) (by kernel_rfl) orders (fun _ => ⟨tis_ok, EqsOk.nil _, FnsOk.nil⟩) (fun _ => rfl) (by kernel_rfl) (by kernel_rfl) (fun x r h => (f24.run x).trans h)
/-! f58: adit/aditref2.m -/
def f58 (a0 : Int) : Option (Int × Unit) :=
 some ((Go.IntKind.wrap Go.IntKind.u64 (↑(BitVec.toNat (BitVec.ofInt (Go.IntKind.bits Go.IntKind.u64) (Go.IntKind.wrap Go.IntKind.u64 (Go.IntKind.wrap Go.IntKind.u64 (↑(BitVec.toNat (BitVec.ofInt (Go.IntKind.bits Go.IntKind.u64) (Go.IntKind.wrap Go.IntKind.u64 (Go.IntKind.wrap Go.IntKind.u64 (↑(BitVec.toNat (BitVec.ofInt (Go.IntKind.bits Go.IntKind.u64) a0 ^^^ BitVec.ofInt (Go.IntKind.bits Go.IntKind.u64) (Int.fdiv a0 (2 ^ Min.min 30 (Go.IntKind.bits Go.IntKind.u64))))) : Int) * 13787848793156543929)) ^^^ BitVec.ofInt (Go.IntKind.bits Go.IntKind.u64) (Int.fdiv (Go.IntKind.wrap Go.IntKind.u64 (Go.IntKind.wrap Go.IntKind.u64 (↑(BitVec.toNat (BitVec.ofInt (Go.IntKind.bits Go.IntKind.u64) a0 ^^^ BitVec.ofInt (Go.IntKind.bits Go.IntKind.u64) (Int.fdiv a0 (2 ^ Min.min 30 (Go.IntKind.bits Go.IntKind.u64))))) : Int) * 13787848793156543929)) (2 ^ Min.min 27 (Go.IntKind.bits Go.IntKind.u64))))) : Int) * 10723151780598845931)) ^^^ BitVec.ofInt (Go.IntKind.bits Go.IntKind.u64) (Int.fdiv (Go.IntKind.wrap Go.IntKind.u64 (Go.IntKind.wrap Go.IntKind.u64 (↑(BitVec.toNat (BitVec.ofInt (Go.IntKind.bits Go.IntKind.u64) (Go.IntKind.wrap Go.IntKind.u64 (Go.IntKind.wrap Go.IntKind.u64 (↑(BitVec.toNat (BitVec.ofInt (Go.IntKind.bits Go.IntKind.u64) a0 ^^^ BitVec.ofInt (Go.IntKind.bits Go.IntKind.u64) (Int.fdiv a0 (2 ^ Min.min 30 (Go.IntKind.bits Go.IntKind.u64))))) : Int) * 13787848793156543929)) ^^^ BitVec.ofInt (Go.IntKind.bits Go.IntKind.u64) (Int.fdiv (Go.IntKind.wrap Go.IntKind.u64 (Go.IntKind.wrap Go.IntKind.u64 (↑(BitVec.toNat (BitVec.ofInt (Go.IntKind.bits Go.IntKind.u64) a0 ^^^ BitVec.ofInt (Go.IntKind.bits Go.IntKind.u64) (Int.fdiv a0 (2 ^ Min.min 30 (Go.IntKind.bits Go.IntKind.u64))))) : Int) * 13787848793156543929)) (2 ^ Min.min 27 (Go.IntKind.bits Go.IntKind.u64))))) : Int) * 10723151780598845931)) (2 ^ Min.min 31 (Go.IntKind.bits Go.IntKind.u64))))) : Int), ()))
def f58.ins : Shape := ⟨[(0, .c (.int .u64))], []⟩
def f58.outs : List Shape := [⟨[(0, .c (.int .u64))], []⟩]
def f58.S : FnSpec := ⟨f58.ins, f58.outs, [], fun x => f58 x.1⟩
def f58.E (fuel : Nat) : Env := ⟨tis, [], [], [], [], [], 0, [], fuel⟩
theorem f58.run : ∀ x, runFn (f58.E 100000000000000000000) Go.Proofs.Try.f58 ((Go.Proofs.Try.f58.body).getD .skip) f58.S x = f58.S.f x := by intro x; kernel_rfl
theorem f58.sound : Sound Go.Proofs.Try.prog 58 f58.S := sound_of_run (fun _ => f58.E 100000000000000000000) (by kernel_rfl) (by kernel_rfl) (by kernel_rfl) orders (fun _ => ⟨tis_ok, EqsOk.nil _, FnsOk.nil⟩) (fun _ => rfl) (by kernel_rfl) (by kernel_rfl) (fun x r h => (f58.run x).trans h)
/-! f51: adit/aditref2.Mix -/
def f51.L1 (x : List Int × Int × Int × Unit) : Option (Int × Unit) :=
 it (X := List Int × Int × Int × Unit) (fun rec x =>
 bif Decidable.decide (x.snd.snd.fst < (↑(List.length x.fst) : Int)) then
  bif inRange x.snd.snd.fst (List.length x.fst) then
   Option.bind (f58 (Go.IntKind.wrap Go.IntKind.u64 (Go.IntKind.wrap Go.IntKind.u64 (↑(BitVec.toNat (BitVec.ofInt (Go.IntKind.bits Go.IntKind.u64) x.snd.fst ^^^ BitVec.ofInt (Go.IntKind.bits Go.IntKind.u64) (Go.IntKind.wrap Go.IntKind.u64 (List.getD x.fst (Int.toNat x.snd.snd.fst) 0)))) : Int) + 11400714819323198485))) fun y0 =>
    rec (x.fst, y0.fst, Go.IntKind.wrap Go.IntKind.i64 (x.snd.snd.fst + 1), ())
  else
   none
 else
  some ((x.snd.fst, ()))
 ) (100000000000000000000) (x)
def f51 (a0 : Int) (a1 : List Int) : Option (Int × Unit) :=
 Option.bind (f58 (Go.IntKind.wrap Go.IntKind.u64 (Go.IntKind.wrap Go.IntKind.u64 a0 + 11400714819323198485))) fun y0 =>
  f51.L1 ((a1, y0.fst, 0, ()))
def f51.ins : Shape := ⟨[(0, .c (.int .i64)), (1, .c (.row (.int .i64)))], []⟩
def f51.outs : List Shape := [⟨[(0, .c (.int .u64))], []⟩]
def f51.S : FnSpec := ⟨f51.ins, f51.outs, [], fun x => f51 x.1 x.2.1⟩
def f51.E (fuel : Nat) : Env := ⟨tis, [(58, f58.S)], [], [], [(4, ⟨[(1, .c (.row (.int .i64))), (5, .c (.int .u64)), (6, .c (.int .i64))], []⟩)], [], 0, [], fuel⟩
theorem f51.run : ∀ x, runFn (f51.E 100000000000000000000) Go.Proofs.Try.f51 ((Go.Proofs.Try.f51.body).getD .skip) f51.S x = f51.S.f x := by intro x; kernel_rfl
theorem f51.sound : Sound Go.Proofs.Try.prog 51 f51.S := sound_of_run (fun _ => f51.E 100000000000000000000) (by kernel_rfl) (by kernel_rfl) (by kernel_rfl) orders (fun _ => ⟨tis_ok, EqsOk.nil _, (FnsOk.cons f58.sound FnsOk.nil)⟩) (fun _ => rfl) (by kernel_rfl) (by kernel_rfl) (fun x r h => (f51.run x).trans h)
/-! f35: adit/aditref2.Die -/
def f35 (a0 : Int) (a1 : Int) (a2 : List Int) : Option (Int × Unit) :=
 bif Decidable.decide (a0 < 1) then
  some ((0, ()))
 else
  Option.bind (f51 a1 a2) fun y0 =>
   bif Decidable.decide (Go.IntKind.wrap Go.IntKind.u64 a0 = 0) then
    none
   else
    some ((Go.IntKind.wrap Go.IntKind.i64 (Int.tmod y0.fst (Go.IntKind.wrap Go.IntKind.u64 a0)), ()))
def f35.ins : Shape := ⟨[(0, .c (.int .i64)), (1, .c (.int .i64)), (2, .c (.row (.int .i64)))], []⟩
def f35.outs : List Shape := [⟨[(0, .c (.int .i64))], []⟩]
def f35.S : FnSpec := ⟨f35.ins, f35.outs, [], fun x => f35 x.1 x.2.1 x.2.2.1⟩
def f35.E (fuel : Nat) : Env := ⟨tis, [(51, f51.S)], [], [], [], [], 0, [], fuel⟩
theorem f35.run : ∀ x, runFn (f35.E 100000000000000000000) Go.Proofs.Try.f35 ((Go.Proofs.Try.f35.body).getD .skip) f35.S x = f35.S.f x := by intro x; kernel_rfl
theorem f35.sound : Sound Go.Proofs.Try.prog 35 f35.S := sound_of_run (fun _ => f35.E 100000000000000000000) (by kernel_rfl) (by kernel_rfl) (by kernel_rfl) orders (fun _ => ⟨tis_ok, EqsOk.nil _, (FnsOk.cons f51.sound FnsOk.nil)⟩) (fun _ => rfl) (by kernel_rfl) (by kernel_rfl) (fun x r h => (f35.run x).trans h)
/-! f41: adit/aditref4.d -/
def f41 (a0 : Int) (a1 : Int) (a2 : Int) (a3 : Int) (a4 : Int) : Option (Int × Unit) :=
 Option.bind (f35 a4 a0 [a1, a2, a3]) fun y0 =>
  some ((y0.fst, ()))
def f41.ins : Shape := ⟨[(0, .c (.int .i64)), (1, .c (.int .i64)), (2, .c (.int .i64)), (3, .c (.int .i64)), (4, .c (.int .i64))], []⟩
def f41.outs : List Shape := [⟨[(0, .c (.int .i64))], []⟩]
def f41.S : FnSpec := ⟨f41.ins, f41.outs, [], fun x => f41 x.1 x.2.1 x.2.2.1 x.2.2.2.1 x.2.2.2.2.1⟩
def f41.E (fuel : Nat) : Env := ⟨tis, [(35, f35.S)], [], [], [], [], 0, [], fuel⟩
theorem f41.run : ∀ x, runFn (f41.E 100000000000000000000) Go.Proofs.Try.f41 ((Go.Proofs.Try.f41.body).getD .skip) f41.S x = f41.S.f x := by intro x; kernel_rfl
theorem f41.sound : Sound Go.Proofs.Try.prog 41 f41.S := sound_of_run (fun _ => f41.E 100000000000000000000) (by kernel_rfl) (by kernel_rfl) (by kernel_rfl) orders (fun _ => ⟨tis_ok, EqsOk.nil _, (FnsOk.cons f35.sound FnsOk.nil)⟩) (fun _ => rfl) (by kernel_rfl) (by kernel_rfl) (fun x r h => (f41.run x).trans h)
/-! f42: adit/aditref4.dig -/
def f42 (a0 : Int) (a1 : Int) (a2 : Bool) (a3 : List Int) : Option (Bool × List Int × Unit) :=
 bif inRange (Go.IntKind.wrap Go.IntKind.i64 (Go.IntKind.wrap Go.IntKind.i64 (a1 * 24) + a0)) (List.length a3) then
  bif List.getD a3 (Int.toNat (Go.IntKind.wrap Go.IntKind.i64 (Go.IntKind.wrap Go.IntKind.i64 (a1 * 24) + a0))) 0 != 0 then
   some ((a2, a3, ()))
  else
   bif inRange (Go.IntKind.wrap Go.IntKind.i64 (Go.IntKind.wrap Go.IntKind.i64 (a1 * 24) + a0)) (List.length a3) then
    bif !a2 then
     bif inRange (Go.IntKind.wrap Go.IntKind.i64 (Go.IntKind.wrap Go.IntKind.i64 (a1 * 24) + a0)) (List.length (List.set a3 (Int.toNat (Go.IntKind.wrap Go.IntKind.i64 (Go.IntKind.wrap Go.IntKind.i64 (a1 * 24) + a0))) 1)) then
      some ((Bool.true, List.set (List.set a3 (Int.toNat (Go.IntKind.wrap Go.IntKind.i64 (Go.IntKind.wrap Go.IntKind.i64 (a1 * 24) + a0))) 1) (Int.toNat (Go.IntKind.wrap Go.IntKind.i64 (Go.IntKind.wrap Go.IntKind.i64 (a1 * 24) + a0))) 2, ()))
     else
      none
    else
     some ((Bool.true, List.set a3 (Int.toNat (Go.IntKind.wrap Go.IntKind.i64 (Go.IntKind.wrap Go.IntKind.i64 (a1 * 24) + a0))) 1, ()))
   else
    none
 else
  none
def f42.ins : Shape := ⟨[(0, .c (.own 0)), (1, .c (.int .i64)), (2, .c (.int .i64)), (3, .c (.bool))], [(0, .arr (.int .u8))]⟩
def f42.outs : List Shape := [⟨[(0, .c (.bool))], [(0, .arr (.int .u8))]⟩]
def f42.S : FnSpec := ⟨f42.ins, f42.outs, [0], fun x => f42 x.1 x.2.1 x.2.2.1 x.2.2.2.1⟩
def f42.E (fuel : Nat) : Env := ⟨tis, [], [], [], [], [], 1, [0], fuel⟩
theorem f42.run : ∀ x, runFn (f42.E 100000000000000000000) Go.Proofs.Try.f42 ((Go.Proofs.Try.f42.body).getD .skip) f42.S x = f42.S.f x := by intro x; kernel_rfl
theorem f42.sound : Sound Go.Proofs.Try.prog 42 f42.S := sound_of_run (fun _ => f42.E 100000000000000000000) (by kernel_rfl) (by kernel_rfl) (by kernel_rfl) orders (fun _ => ⟨tis_ok, EqsOk.nil _, FnsOk.nil⟩) (fun _ => rfl) (by kernel_rfl) (by kernel_rfl) (fun x r h => (f42.run x).trans h)
/-! f43: adit/aditref4.toward -/
def f43 (a0 : Int) (a1 : Int) : Option (Int × Unit) :=
 bif Decidable.decide (a0 < a1) then
  some ((Go.IntKind.wrap Go.IntKind.i64 (a0 + 1), ()))
 else
  some ((Go.IntKind.wrap Go.IntKind.i64 (a0 - 1), ()))
def f43.ins : Shape := ⟨[(0, .c (.int .i64)), (1, .c (.int .i64))], []⟩
def f43.outs : List Shape := [⟨[(0, .c (.int .i64))], []⟩]
def f43.S : FnSpec := ⟨f43.ins, f43.outs, [], fun x => f43 x.1 x.2.1⟩
def f43.E (fuel : Nat) : Env := ⟨tis, [], [], [], [], [], 0, [], fuel⟩
theorem f43.run : ∀ x, runFn (f43.E 100000000000000000000) Go.Proofs.Try.f43 ((Go.Proofs.Try.f43.body).getD .skip) f43.S x = f43.S.f x := by intro x; kernel_rfl
theorem f43.sound : Sound Go.Proofs.Try.prog 43 f43.S := sound_of_run (fun _ => f43.E 100000000000000000000) (by kernel_rfl) (by kernel_rfl) (by kernel_rfl) orders (fun _ => ⟨tis_ok, EqsOk.nil _, FnsOk.nil⟩) (fun _ => rfl) (by kernel_rfl) (by kernel_rfl) (fun x r h => (f43.run x).trans h)
/-! f54: adit/aditref3.In -/
def f54 (a0 : Int) (a1 : Int) : Option (Bool × Unit) :=
 bif Decidable.decide (a0 ≥ 0) then
  bif Decidable.decide (a0 < 24) then
   bif Decidable.decide (a1 ≥ 0) then
    some ((Decidable.decide (a1 < 16), ()))
   else
    some ((Bool.false, ()))
  else
   some ((Bool.false, ()))
 else
  some ((Bool.false, ()))
def f54.ins : Shape := ⟨[(0, .c (.int .i64)), (1, .c (.int .i64))], []⟩
def f54.outs : List Shape := [⟨[(0, .c (.bool))], []⟩]
def f54.S : FnSpec := ⟨f54.ins, f54.outs, [], fun x => f54 x.1 x.2.1⟩
def f54.E (fuel : Nat) : Env := ⟨tis, [], [], [], [], [], 0, [], fuel⟩
theorem f54.run : ∀ x, runFn (f54.E 100000000000000000000) Go.Proofs.Try.f54 ((Go.Proofs.Try.f54.body).getD .skip) f54.S x = f54.S.f x := by intro x; kernel_rfl
theorem f54.sound : Sound Go.Proofs.Try.prog 54 f54.S := sound_of_run (fun _ => f54.E 100000000000000000000) (by kernel_rfl) (by kernel_rfl) (by kernel_rfl) orders (fun _ => ⟨tis_ok, EqsOk.nil _, FnsOk.nil⟩) (fun _ => rfl) (by kernel_rfl) (by kernel_rfl) (fun x r h => (f54.run x).trans h)
/-! f55: adit/aditref3.At -/
def f55 (a0 : List Int) (a1 : Int) (a2 : Int) : Option (Int × Unit) :=
 Option.bind (f54 a1 a2) fun y0 =>
  bif !y0.fst then
   some ((0, ()))
  else
   bif Decidable.decide (Go.IntKind.wrap Go.IntKind.i64 (Go.IntKind.wrap Go.IntKind.i64 (a2 * 24) + a1) ≥ (↑(List.length a0) : Int)) then
    some ((0, ()))
   else
    bif inRange (Go.IntKind.wrap Go.IntKind.i64 (Go.IntKind.wrap Go.IntKind.i64 (a2 * 24) + a1)) (List.length a0) then
     some ((Go.IntKind.wrap Go.IntKind.i64 (List.getD a0 (Int.toNat (Go.IntKind.wrap Go.IntKind.i64 (Go.IntKind.wrap Go.IntKind.i64 (a2 * 24) + a1))) 0), ()))
    else
     none
def f55.ins : Shape := ⟨[(0, .c (.row (.int .u8))), (1, .c (.int .i64)), (2, .c (.int .i64))], []⟩
def f55.outs : List Shape := [⟨[(0, .c (.int .i64))], []⟩]
def f55.S : FnSpec := ⟨f55.ins, f55.outs, [], fun x => f55 x.1 x.2.1 x.2.2.1⟩
def f55.E (fuel : Nat) : Env := ⟨tis, [(54, f54.S)], [], [], [], [], 0, [], fuel⟩
theorem f55.run : ∀ x, runFn (f55.E 100000000000000000000) Go.Proofs.Try.f55 ((Go.Proofs.Try.f55.body).getD .skip) f55.S x = f55.S.f x := by intro x; kernel_rfl
theorem f55.sound : Sound Go.Proofs.Try.prog 55 f55.S := sound_of_run (fun _ => f55.E 100000000000000000000) (by kernel_rfl) (by kernel_rfl) (by kernel_rfl) orders (fun _ => ⟨tis_ok, EqsOk.nil _, (FnsOk.cons f54.sound FnsOk.nil)⟩) (fun _ => rfl) (by kernel_rfl) (by kernel_rfl) (fun x r h => (f55.run x).trans h)
/-! f26: adit/aditref3.Walk -/
def f26 (a0 : Int) : Option (Bool × Unit) :=
 bif Decidable.decide (a0 ≥ 1) then
  some ((Decidable.decide (a0 ≤ 5), ()))
 else
  some ((Bool.false, ()))
def f26.ins : Shape := ⟨[(0, .c (.int .i64))], []⟩
def f26.outs : List Shape := [⟨[(0, .c (.bool))], []⟩]
def f26.S : FnSpec := ⟨f26.ins, f26.outs, [], fun x => f26 x.1⟩
def f26.E (fuel : Nat) : Env := ⟨tis, [], [], [], [], [], 0, [], fuel⟩
theorem f26.run : ∀ x, runFn (f26.E 100000000000000000000) Go.Proofs.Try.f26 ((Go.Proofs.Try.f26.body).getD .skip) f26.S x = f26.S.f x := by intro x; kernel_rfl
theorem f26.sound : Sound Go.Proofs.Try.prog 26 f26.S := sound_of_run (fun _ => f26.E 100000000000000000000) (by kernel_rfl) (by kernel_rfl) (by kernel_rfl) orders (fun _ => ⟨tis_ok, EqsOk.nil _, FnsOk.nil⟩) (fun _ => rfl) (by kernel_rfl) (by kernel_rfl) (fun x r h => (f26.run x).trans h)
/-! f44: adit/aditref3.Field -/
def f44.L1 (k0 : List Int × List Bool × Int × List Int × List Int × Unit → Option (List Int × Unit)) (x : List Int × List Bool × Int × Int × Int × List Int × List Int × Unit) : Option (List Int × Unit) :=
 it (X := List Int × List Bool × Int × Int × Int × List Int × List Int × Unit) (fun rec x =>
 bif Decidable.decide (x.snd.snd.snd.snd.fst < 4) then
  Option.bind (α := List Int × List Bool × Int × Int × Int × Int × Int × List Int × List Int × Unit ⊕ List Int × Unit) (
   bif x.snd.snd.snd.snd.fst == 0 then
    some (Sum.inl (x.fst, x.snd.fst, x.snd.snd.fst, x.snd.snd.snd.fst, x.snd.snd.snd.snd.fst, Int.tmod x.snd.snd.snd.fst 24, Go.IntKind.wrap Go.IntKind.i64 (Go.IntKind.wrap Go.IntKind.i64 (Int.tdiv x.snd.snd.snd.fst 24) - 1), x.snd.snd.snd.snd.snd.fst, x.snd.snd.snd.snd.snd.snd.fst, ()))
   else
    bif x.snd.snd.snd.snd.fst == 1 then
     some (Sum.inl (x.fst, x.snd.fst, x.snd.snd.fst, x.snd.snd.snd.fst, x.snd.snd.snd.snd.fst, Go.IntKind.wrap Go.IntKind.i64 (Int.tmod x.snd.snd.snd.fst 24 + 1), Go.IntKind.wrap Go.IntKind.i64 (Int.tdiv x.snd.snd.snd.fst 24), x.snd.snd.snd.snd.snd.fst, x.snd.snd.snd.snd.snd.snd.fst, ()))
    else
     bif x.snd.snd.snd.snd.fst == 2 then
      some (Sum.inl (x.fst, x.snd.fst, x.snd.snd.fst, x.snd.snd.snd.fst, x.snd.snd.snd.snd.fst, Int.tmod x.snd.snd.snd.fst 24, Go.IntKind.wrap Go.IntKind.i64 (Go.IntKind.wrap Go.IntKind.i64 (Int.tdiv x.snd.snd.snd.fst 24) + 1), x.snd.snd.snd.snd.snd.fst, x.snd.snd.snd.snd.snd.snd.fst, ()))
     else
      bif x.snd.snd.snd.snd.fst == 3 then
       some (Sum.inl (x.fst, x.snd.fst, x.snd.snd.fst, x.snd.snd.snd.fst, x.snd.snd.snd.snd.fst, Go.IntKind.wrap Go.IntKind.i64 (Int.tmod x.snd.snd.snd.fst 24 - 1), Go.IntKind.wrap Go.IntKind.i64 (Int.tdiv x.snd.snd.snd.fst 24), x.snd.snd.snd.snd.snd.fst, x.snd.snd.snd.snd.snd.snd.fst, ()))
      else
       some (Sum.inl (x.fst, x.snd.fst, x.snd.snd.fst, x.snd.snd.snd.fst, x.snd.snd.snd.snd.fst, Int.tmod x.snd.snd.snd.fst 24, Go.IntKind.wrap Go.IntKind.i64 (Int.tdiv x.snd.snd.snd.fst 24), x.snd.snd.snd.snd.snd.fst, x.snd.snd.snd.snd.snd.snd.fst, ()))
  ) fun y0 =>
   Sum.elim (fun y1 =>
    Option.bind (f54 y1.snd.snd.snd.snd.snd.fst y1.snd.snd.snd.snd.snd.snd.fst) fun y2 =>
     bif y2.fst then
      bif inRange (Go.IntKind.wrap Go.IntKind.i64 (Go.IntKind.wrap Go.IntKind.i64 (y1.snd.snd.snd.snd.snd.snd.fst * 24) + y1.snd.snd.snd.snd.snd.fst)) (List.length y1.snd.snd.snd.snd.snd.snd.snd.fst) then
       bif Decidable.decide (List.getD y1.snd.snd.snd.snd.snd.snd.snd.fst (Int.toNat (Go.IntKind.wrap Go.IntKind.i64 (Go.IntKind.wrap Go.IntKind.i64 (y1.snd.snd.snd.snd.snd.snd.fst * 24) + y1.snd.snd.snd.snd.snd.fst))) 0 < 0) then
        Option.bind (f55 y1.fst y1.snd.snd.snd.snd.snd.fst y1.snd.snd.snd.snd.snd.snd.fst) fun y3 =>
         Option.bind (f26 y3.fst) fun y4 =>
          bif y4.fst then
           bif Decidable.decide (Go.IntKind.wrap Go.IntKind.i64 (Go.IntKind.wrap Go.IntKind.i64 (y1.snd.snd.snd.snd.snd.snd.fst * 24) + y1.snd.snd.snd.snd.snd.fst) ≥ (↑(List.length y1.snd.fst) : Int)) then
            bif inRange y1.snd.snd.snd.fst (List.length y1.snd.snd.snd.snd.snd.snd.snd.fst) then
             bif inRange (Go.IntKind.wrap Go.IntKind.i64 (Go.IntKind.wrap Go.IntKind.i64 (y1.snd.snd.snd.snd.snd.snd.fst * 24) + y1.snd.snd.snd.snd.snd.fst)) (List.length y1.snd.snd.snd.snd.snd.snd.snd.fst) then
              bif Decidable.decide (List.length y1.snd.snd.snd.snd.snd.snd.snd.snd.fst + 1 ≤ limit 8) then
               let s0 : List Int := List.set y1.snd.snd.snd.snd.snd.snd.snd.fst (Int.toNat (Go.IntKind.wrap Go.IntKind.i64 (Go.IntKind.wrap Go.IntKind.i64 (y1.snd.snd.snd.snd.snd.snd.fst * 24) + y1.snd.snd.snd.snd.snd.fst))) (Go.IntKind.wrap Go.IntKind.i64 (List.getD y1.snd.snd.snd.snd.snd.snd.snd.fst (Int.toNat y1.snd.snd.snd.fst) 0 + 1))
               rec (y1.fst, y1.snd.fst, y1.snd.snd.fst, y1.snd.snd.snd.fst, Go.IntKind.wrap Go.IntKind.i64 (y1.snd.snd.snd.snd.fst + 1), s0, y1.snd.snd.snd.snd.snd.snd.snd.snd.fst ++ [Go.IntKind.wrap Go.IntKind.i64 (Go.IntKind.wrap Go.IntKind.i64 (y1.snd.snd.snd.snd.snd.snd.fst * 24) + y1.snd.snd.snd.snd.snd.fst)], ())
              else
               none
             else
              none
            else
             none
           else
            bif inRange (Go.IntKind.wrap Go.IntKind.i64 (Go.IntKind.wrap Go.IntKind.i64 (y1.snd.snd.snd.snd.snd.snd.fst * 24) + y1.snd.snd.snd.snd.snd.fst)) (List.length y1.snd.fst) then
             bif !List.getD y1.snd.fst (Int.toNat (Go.IntKind.wrap Go.IntKind.i64 (Go.IntKind.wrap Go.IntKind.i64 (y1.snd.snd.snd.snd.snd.snd.fst * 24) + y1.snd.snd.snd.snd.snd.fst))) Bool.false then
              bif inRange y1.snd.snd.snd.fst (List.length y1.snd.snd.snd.snd.snd.snd.snd.fst) then
               bif inRange (Go.IntKind.wrap Go.IntKind.i64 (Go.IntKind.wrap Go.IntKind.i64 (y1.snd.snd.snd.snd.snd.snd.fst * 24) + y1.snd.snd.snd.snd.snd.fst)) (List.length y1.snd.snd.snd.snd.snd.snd.snd.fst) then
                bif Decidable.decide (List.length y1.snd.snd.snd.snd.snd.snd.snd.snd.fst + 1 ≤ limit 8) then
                 let s0 : List Int := List.set y1.snd.snd.snd.snd.snd.snd.snd.fst (Int.toNat (Go.IntKind.wrap Go.IntKind.i64 (Go.IntKind.wrap Go.IntKind.i64 (y1.snd.snd.snd.snd.snd.snd.fst * 24) + y1.snd.snd.snd.snd.snd.fst))) (Go.IntKind.wrap Go.IntKind.i64 (List.getD y1.snd.snd.snd.snd.snd.snd.snd.fst (Int.toNat y1.snd.snd.snd.fst) 0 + 1))
                 rec (y1.fst, y1.snd.fst, y1.snd.snd.fst, y1.snd.snd.snd.fst, Go.IntKind.wrap Go.IntKind.i64 (y1.snd.snd.snd.snd.fst + 1), s0, y1.snd.snd.snd.snd.snd.snd.snd.snd.fst ++ [Go.IntKind.wrap Go.IntKind.i64 (Go.IntKind.wrap Go.IntKind.i64 (y1.snd.snd.snd.snd.snd.snd.fst * 24) + y1.snd.snd.snd.snd.snd.fst)], ())
                else
                 none
               else
                none
              else
               none
             else
              rec (y1.fst, y1.snd.fst, y1.snd.snd.fst, y1.snd.snd.snd.fst, Go.IntKind.wrap Go.IntKind.i64 (y1.snd.snd.snd.snd.fst + 1), y1.snd.snd.snd.snd.snd.snd.snd.fst, y1.snd.snd.snd.snd.snd.snd.snd.snd.fst, ())
            else
             none
          else
           rec (y1.fst, y1.snd.fst, y1.snd.snd.fst, y1.snd.snd.snd.fst, Go.IntKind.wrap Go.IntKind.i64 (y1.snd.snd.snd.snd.fst + 1), y1.snd.snd.snd.snd.snd.snd.snd.fst, y1.snd.snd.snd.snd.snd.snd.snd.snd.fst, ())
       else
        rec (y1.fst, y1.snd.fst, y1.snd.snd.fst, y1.snd.snd.snd.fst, Go.IntKind.wrap Go.IntKind.i64 (y1.snd.snd.snd.snd.fst + 1), y1.snd.snd.snd.snd.snd.snd.snd.fst, y1.snd.snd.snd.snd.snd.snd.snd.snd.fst, ())
      else
       none
     else
      rec (y1.fst, y1.snd.fst, y1.snd.snd.fst, y1.snd.snd.snd.fst, Go.IntKind.wrap Go.IntKind.i64 (y1.snd.snd.snd.snd.fst + 1), y1.snd.snd.snd.snd.snd.snd.snd.fst, y1.snd.snd.snd.snd.snd.snd.snd.snd.fst, ())
   ) (fun z5 =>
    some (z5)
   ) (y0)
 else
  k0 (x.fst, x.snd.fst, Go.IntKind.wrap Go.IntKind.i64 (x.snd.snd.fst + 1), x.snd.snd.snd.snd.snd.fst, x.snd.snd.snd.snd.snd.snd.fst, ())
 ) (100000000000000000000) (x)
def f44.L2 (x : List Int × List Bool × Int × List Int × List Int × Unit) : Option (List Int × Unit) :=
 it (X := List Int × List Bool × Int × List Int × List Int × Unit) (fun rec x =>
 bif Decidable.decide (x.snd.snd.fst < (↑(List.length x.snd.snd.snd.snd.fst) : Int)) then
  bif inRange x.snd.snd.fst (List.length x.snd.snd.snd.snd.fst) then
   f44.L1 rec ((x.fst, x.snd.fst, x.snd.snd.fst, List.getD x.snd.snd.snd.snd.fst (Int.toNat x.snd.snd.fst) 0, 0, x.snd.snd.snd.fst, x.snd.snd.snd.snd.fst, ()))
  else
   none
 else
  some ((x.snd.snd.snd.fst, ()))
 ) (100000000000000000000) (x)
def f44.L3 (x : List Int × List Bool × Int × List Int × List Int × Unit) : Option (List Int × Unit) :=
 it (X := List Int × List Bool × Int × List Int × List Int × Unit) (fun rec x =>
 bif Decidable.decide (x.snd.snd.fst < 384) then
  bif inRange x.snd.snd.fst (List.length x.snd.snd.snd.fst) then
   bif List.getD x.snd.snd.snd.fst (Int.toNat x.snd.snd.fst) 0 == 0 then
    bif Decidable.decide (List.length x.snd.snd.snd.snd.fst + 1 ≤ limit 8) then
     rec (x.fst, x.snd.fst, Go.IntKind.wrap Go.IntKind.i64 (x.snd.snd.fst + 1), x.snd.snd.snd.fst, x.snd.snd.snd.snd.fst ++ [x.snd.snd.fst], ())
    else
     none
   else
    rec (x.fst, x.snd.fst, Go.IntKind.wrap Go.IntKind.i64 (x.snd.snd.fst + 1), x.snd.snd.snd.fst, x.snd.snd.snd.snd.fst, ())
  else
   none
 else
  f44.L2 ((x.fst, x.snd.fst, 0, x.snd.snd.snd.fst, x.snd.snd.snd.snd.fst, ()))
 ) (100000000000000000000) (x)
def f44.L4 (x : List Int × List Bool × List Int × Int × List Int × Unit) : Option (List Int × Unit) :=
 it (X := List Int × List Bool × List Int × Int × List Int × Unit) (fun rec x =>
 bif Decidable.decide (x.snd.snd.snd.fst < (↑(List.length x.snd.snd.fst) : Int)) then
  bif inRange x.snd.snd.snd.fst (List.length x.snd.snd.fst) then
   bif Decidable.decide (List.getD x.snd.snd.fst (Int.toNat x.snd.snd.snd.fst) 0 ≥ 0) then
    bif Decidable.decide (List.getD x.snd.snd.fst (Int.toNat x.snd.snd.snd.fst) 0 < 384) then
     Option.bind (f55 x.fst (Int.tmod (List.getD x.snd.snd.fst (Int.toNat x.snd.snd.snd.fst) 0) 24) (Go.IntKind.wrap Go.IntKind.i64 (Int.tdiv (List.getD x.snd.snd.fst (Int.toNat x.snd.snd.snd.fst) 0) 24))) fun y0 =>
      Option.bind (f26 y0.fst) fun y1 =>
       bif y1.fst then
        bif inRange (List.getD x.snd.snd.fst (Int.toNat x.snd.snd.snd.fst) 0) (List.length x.snd.snd.snd.snd.fst) then
         rec (x.fst, x.snd.fst, x.snd.snd.fst, Go.IntKind.wrap Go.IntKind.i64 (x.snd.snd.snd.fst + 1), List.set x.snd.snd.snd.snd.fst (Int.toNat (List.getD x.snd.snd.fst (Int.toNat x.snd.snd.snd.fst) 0)) 0, ())
        else
         none
       else
        rec (x.fst, x.snd.fst, x.snd.snd.fst, Go.IntKind.wrap Go.IntKind.i64 (x.snd.snd.snd.fst + 1), x.snd.snd.snd.snd.fst, ())
    else
     rec (x.fst, x.snd.fst, x.snd.snd.fst, Go.IntKind.wrap Go.IntKind.i64 (x.snd.snd.snd.fst + 1), x.snd.snd.snd.snd.fst, ())
   else
    rec (x.fst, x.snd.fst, x.snd.snd.fst, Go.IntKind.wrap Go.IntKind.i64 (x.snd.snd.snd.fst + 1), x.snd.snd.snd.snd.fst, ())
  else
   none
 else
  f44.L3 ((x.fst, x.snd.fst, 0, x.snd.snd.snd.snd.fst, [], ()))
 ) (100000000000000000000) (x)
def f44.L5 (x : List Int × List Bool × List Int × Int × List Int × Unit) : Option (List Int × Unit) :=
 it (X := List Int × List Bool × List Int × Int × List Int × Unit) (fun rec x =>
 bif Decidable.decide (x.snd.snd.snd.fst < 384) then
  bif inRange x.snd.snd.snd.fst (List.length x.snd.snd.snd.snd.fst) then
   rec (x.fst, x.snd.fst, x.snd.snd.fst, Go.IntKind.wrap Go.IntKind.i64 (x.snd.snd.snd.fst + 1), List.set x.snd.snd.snd.snd.fst (Int.toNat x.snd.snd.snd.fst) (-1), ())
  else
   none
 else
  f44.L4 ((x.fst, x.snd.fst, x.snd.snd.fst, 0, x.snd.snd.snd.snd.fst, ()))
 ) (100000000000000000000) (x)
def f44 (a0 : List Int) (a1 : List Bool) (a2 : List Int) : Option (List Int × Unit) :=
 f44.L5 ((a0, a1, a2, 0, List.replicate 384 0, ()))
def f44.ins : Shape := ⟨[(0, .c (.row (.int .u8))), (1, .c (.row .bool)), (2, .c (.row (.int .i64)))], []⟩
def f44.outs : List Shape := [⟨[(0, .c (.own 0))], [(0, .arr (.int .i64))]⟩]
def f44.S : FnSpec := ⟨f44.ins, f44.outs, [], fun x => f44 x.1 x.2.1 x.2.2.1⟩
def f44.E (fuel : Nat) : Env := ⟨tis, [(54, f54.S), (55, f55.S), (26, f26.S)], [], [(36, ⟨[(0, .c (.row (.int .u8))), (1, .c (.row .bool)), (7, .c (.own 0)), (11, .c (.own 1)), (13, .c (.int .i64)), (14, .c (.int .i64)), (15, .c (.int .i64)), (16, .c (.int .i64)), (17, .c (.int .i64))], [(0, .arr (.int .i64)), (1, .arr (.int .i64))]⟩)], [(4, ⟨[(0, .c (.row (.int .u8))), (1, .c (.row .bool)), (2, .c (.row (.int .i64))), (7, .c (.own 0)), (8, .c (.int .i64))], [(0, .arr (.int .i64))]⟩), (8, ⟨[(0, .c (.row (.int .u8))), (1, .c (.row .bool)), (2, .c (.row (.int .i64))), (7, .c (.own 0)), (9, .c (.int .i64))], [(0, .arr (.int .i64))]⟩), (15, ⟨[(0, .c (.row (.int .u8))), (1, .c (.row .bool)), (7, .c (.own 0)), (11, .c (.own 1)), (12, .c (.int .i64))], [(0, .arr (.int .i64)), (1, .arr (.int .i64))]⟩), (20, ⟨[(0, .c (.row (.int .u8))), (1, .c (.row .bool)), (7, .c (.own 0)), (11, .c (.own 1)), (13, .c (.int .i64))], [(0, .arr (.int .i64)), (1, .arr (.int .i64))]⟩), (24, ⟨[(0, .c (.row (.int .u8))), (1, .c (.row .bool)), (7, .c (.own 0)), (11, .c (.own 1)), (13, .c (.int .i64)), (14, .c (.int .i64)), (15, .c (.int .i64))], [(0, .arr (.int .i64)), (1, .arr (.int .i64))]⟩)], [], 0, [], fuel⟩
theorem f44.run : ∀ x, runFn (f44.E 100000000000000000000) Go.Proofs.Try.f44 ((Go.Proofs.Try.f44.body).getD .skip) f44.S x = f44.S.f x := by intro x; kernel_rfl
theorem f44.sound : Sound Go.Proofs.Try.prog 44 f44.S := sound_of_run (fun _ => f44.E 100000000000000000000) (by kernel_rfl) (by kernel_rfl) (by kernel_rfl) orders (fun _ => ⟨tis_ok, EqsOk.nil _, (FnsOk.cons f54.sound (FnsOk.cons f55.sound (FnsOk.cons f26.sound FnsOk.nil)))⟩) (fun _ => rfl) (by kernel_rfl) (by kernel_rfl) (fun x r h => (f44.run x).trans h)
/-! f45: adit/aditref4.pick -/
def f45.L1 (x : List Int × List Int × Int × List Bool × Int × Int × Int × Int × List Int × Unit) : Option (Int × Unit) :=
 it (X := List Int × List Int × Int × List Bool × Int × Int × Int × Int × List Int × Unit) (fun rec x =>
 bif Decidable.decide (x.snd.snd.snd.snd.snd.snd.snd.fst < 384) then
  bif inRange x.snd.snd.snd.snd.snd.snd.snd.fst (List.length x.fst) then
   bif List.getD x.fst (Int.toNat x.snd.snd.snd.snd.snd.snd.snd.fst) 0 == 1 then
    bif inRange x.snd.snd.snd.snd.snd.snd.snd.fst (List.length x.snd.fst) then
     bif Decidable.decide (List.getD x.snd.fst (Int.toNat x.snd.snd.snd.snd.snd.snd.snd.fst) 0 ≥ x.snd.snd.fst) then
      bif inRange x.snd.snd.snd.snd.snd.snd.snd.fst (List.length x.snd.snd.snd.fst) then
       bif !List.getD x.snd.snd.snd.fst (Int.toNat x.snd.snd.snd.snd.snd.snd.snd.fst) Bool.false then
        bif Decidable.decide (List.length x.snd.snd.snd.snd.snd.snd.snd.snd.fst + 1 ≤ limit 8) then
         rec (x.fst, x.snd.fst, x.snd.snd.fst, x.snd.snd.snd.fst, x.snd.snd.snd.snd.fst, x.snd.snd.snd.snd.snd.fst, x.snd.snd.snd.snd.snd.snd.fst, Go.IntKind.wrap Go.IntKind.i64 (x.snd.snd.snd.snd.snd.snd.snd.fst + 1), x.snd.snd.snd.snd.snd.snd.snd.snd.fst ++ [x.snd.snd.snd.snd.snd.snd.snd.fst], ())
        else
         none
       else
        rec (x.fst, x.snd.fst, x.snd.snd.fst, x.snd.snd.snd.fst, x.snd.snd.snd.snd.fst, x.snd.snd.snd.snd.snd.fst, x.snd.snd.snd.snd.snd.snd.fst, Go.IntKind.wrap Go.IntKind.i64 (x.snd.snd.snd.snd.snd.snd.snd.fst + 1), x.snd.snd.snd.snd.snd.snd.snd.snd.fst, ())
      else
       none
     else
      rec (x.fst, x.snd.fst, x.snd.snd.fst, x.snd.snd.snd.fst, x.snd.snd.snd.snd.fst, x.snd.snd.snd.snd.snd.fst, x.snd.snd.snd.snd.snd.snd.fst, Go.IntKind.wrap Go.IntKind.i64 (x.snd.snd.snd.snd.snd.snd.snd.fst + 1), x.snd.snd.snd.snd.snd.snd.snd.snd.fst, ())
    else
     none
   else
    rec (x.fst, x.snd.fst, x.snd.snd.fst, x.snd.snd.snd.fst, x.snd.snd.snd.snd.fst, x.snd.snd.snd.snd.snd.fst, x.snd.snd.snd.snd.snd.snd.fst, Go.IntKind.wrap Go.IntKind.i64 (x.snd.snd.snd.snd.snd.snd.snd.fst + 1), x.snd.snd.snd.snd.snd.snd.snd.snd.fst, ())
  else
   none
 else
  bif (↑(List.length x.snd.snd.snd.snd.snd.snd.snd.snd.fst) : Int) == 0 then
   some ((-1, ()))
  else
   Option.bind (f41 x.snd.snd.snd.snd.fst x.snd.snd.snd.snd.snd.fst x.snd.snd.snd.snd.snd.snd.fst 0 (↑(List.length x.snd.snd.snd.snd.snd.snd.snd.snd.fst) : Int)) fun y0 =>
    bif inRange y0.fst (List.length x.snd.snd.snd.snd.snd.snd.snd.snd.fst) then
     some ((List.getD x.snd.snd.snd.snd.snd.snd.snd.snd.fst (Int.toNat y0.fst) 0, ()))
    else
     none
 ) (100000000000000000000) (x)
def f45 (a0 : List Int) (a1 : List Int) (a2 : Int) (a3 : List Bool) (a4 : Int) (a5 : Int) (a6 : Int) : Option (Int × Unit) :=
 f45.L1 ((a0, a1, a2, a3, a4, a5, a6, 0, [], ()))
def f45.ins : Shape := ⟨[(0, .c (.row (.int .u8))), (1, .c (.row (.int .i64))), (2, .c (.int .i64)), (3, .c (.row .bool)), (4, .c (.int .i64)), (5, .c (.int .i64)), (6, .c (.int .i64))], []⟩
def f45.outs : List Shape := [⟨[(0, .c (.int .i64))], []⟩]
def f45.S : FnSpec := ⟨f45.ins, f45.outs, [], fun x => f45 x.1 x.2.1 x.2.2.1 x.2.2.2.1 x.2.2.2.2.1 x.2.2.2.2.2.1 x.2.2.2.2.2.2.1⟩
def f45.E (fuel : Nat) : Env := ⟨tis, [(41, f41.S)], [], [], [(4, ⟨[(0, .c (.row (.int .u8))), (1, .c (.row (.int .i64))), (2, .c (.int .i64)), (3, .c (.row .bool)), (4, .c (.int .i64)), (5, .c (.int .i64)), (6, .c (.int .i64)), (15, .c (.own 0)), (16, .c (.int .i64))], [(0, .arr (.int .i64))]⟩)], [], 0, [], fuel⟩
theorem f45.run : ∀ x, runFn (f45.E 100000000000000000000) Go.Proofs.Try.f45 ((Go.Proofs.Try.f45.body).getD .skip) f45.S x = f45.S.f x := by intro x; kernel_rfl
theorem f45.sound : Sound Go.Proofs.Try.prog 45 f45.S := sound_of_run (fun _ => f45.E 100000000000000000000) (by kernel_rfl) (by kernel_rfl) (by kernel_rfl) orders (fun _ => ⟨tis_ok, EqsOk.nil _, (FnsOk.cons f41.sound FnsOk.nil)⟩) (fun _ => rfl) (by kernel_rfl) (by kernel_rfl) (fun x r h => (f45.run x).trans h)
/-! f11: adit/aditref5.Stats -/
def f11 (a0 : Int) : Option (Int × Int × Int × Int × Int × Int × Int × Int × Int × Int × Int × Unit) :=
 Option.bind (α := Int × Int × Int × Int × Int × Int × Int × Int × Int × Int × Int × Int × Int × Int × Int × Unit ⊕ Int × Int × Int × Int × Int × Int × Int × Int × Int × Int × Int × Unit) (
  bif a0 == 1 then
   some (Sum.inl (a0, 20, 5, 1, 0, 0, 0, 0, 0, 0, 0, 0, 0, 0, 0, ()))
  else
   bif a0 == 2 then
    some (Sum.inl (a0, 4, 2, 0, 0, 0, 0, 0, 0, 0, 0, 0, 0, 0, 0, ()))
   else
    bif a0 == 3 then
     some (Sum.inl (a0, 9, 4, 1, 0, 0, 0, 0, 0, 0, 0, 0, 0, 0, 0, ()))
    else
     bif a0 == 4 then
      some (Sum.inl (a0, 6, 3, 0, 0, 0, 0, 0, 0, 0, 0, 0, 0, 0, 0, ()))
     else
      some (Sum.inr (0, 0, 0, 0, 0, 0, 0, 0, 0, 0, 0, ()))
 ) fun y0 =>
  Sum.elim (fun y1 =>
   some ((y1.fst, 0, 0, 0, 0, y1.snd.fst, y1.snd.fst, y1.snd.snd.fst, y1.snd.snd.snd.fst, 0, 0, ()))
  ) (fun z2 =>
   some (z2)
  ) (y0)
def f11.ins : Shape := ⟨[(0, .c (.int .i64))], []⟩
def f11.outs : List Shape := [⟨[(0, .agg [.int .i64, .int .i64, .int .i64, .int .i64, .int .i64, .int .i64, .int .i64, .int .i64, .int .i64, .int .i64, .int .i64])], []⟩]
def f11.S : FnSpec := ⟨f11.ins, f11.outs, [], fun x => f11 x.1⟩
def f11.E (fuel : Nat) : Env := ⟨tis, [], [], [(13, ⟨[(0, .c (.int .i64)), (2, .c (.ptr 0 0)), (3, .c (.int .i64)), (4, .c (.int .i64)), (5, .c (.int .i64))], [(0, .box [.int .i64, .int .i64, .int .i64, .int .i64, .int .i64, .int .i64, .int .i64, .int .i64, .int .i64, .int .i64, .int .i64])]⟩)], [], [], 0, [], fuel⟩
theorem f11.run : ∀ x, runFn (f11.E 100000000000000000000) Go.Proofs.Try.f11 ((Go.Proofs.Try.f11.body).getD .skip) f11.S x = f11.S.f x := by intro x; kernel_rfl
theorem f11.sound : Sound Go.Proofs.Try.prog 11 f11.S := sound_of_run (fun _ => f11.E 100000000000000000000) (by kernel_rfl) (by kernel_rfl) (by kernel_rfl) orders (fun _ => ⟨tis_ok, EqsOk.nil _, FnsOk.nil⟩) (fun _ => rfl) (by kernel_rfl) (by kernel_rfl) (fun x r h => (f11.run x).trans h)
/-! f25: adit/aditref4.Make -/
def f25.L1 (k0 : Int × Int × Int × Int × Int × Int × Int × Int × List Int × Int × Int × Int × Int × Int × Int × Int × Int × Int × Int × Int × Int × Unit → Option (List Int × List (Int × Int × Int × Int × Int × Int × Int × Int × Int × Int × Int) × List (Int × Int × Int × Int) × Unit)) (x : Int × Int × Int × Int × Int × Int × Int × Int × Int × List Int × Int × Int × Int × Int × Int × Int × Int × Int × Int × Int × Int × Int × Unit) : Option (List Int × List (Int × Int × Int × Int × Int × Int × Int × Int × Int × Int × Int) × List (Int × Int × Int × Int) × Unit) :=
 it (X := Int × Int × Int × Int × Int × Int × Int × Int × Int × List Int × Int × Int × Int × Int × Int × Int × Int × Int × Int × Int × Int × Int × Unit) (fun rec x =>
 bif Decidable.decide (x.snd.snd.snd.snd.snd.snd.snd.snd.fst < Go.IntKind.wrap Go.IntKind.i64 (x.snd.snd.snd.snd.snd.fst + x.snd.snd.snd.fst)) then
  bif inRange (Go.IntKind.wrap Go.IntKind.i64 (Go.IntKind.wrap Go.IntKind.i64 (x.snd.snd.snd.snd.snd.snd.snd.fst * 24) + x.snd.snd.snd.snd.snd.snd.snd.snd.fst)) (List.length x.snd.snd.snd.snd.snd.snd.snd.snd.snd.fst) then
   rec (x.fst, x.snd.fst, x.snd.snd.fst, x.snd.snd.snd.fst, x.snd.snd.snd.snd.fst, x.snd.snd.snd.snd.snd.fst, x.snd.snd.snd.snd.snd.snd.fst, x.snd.snd.snd.snd.snd.snd.snd.fst, Go.IntKind.wrap Go.IntKind.i64 (x.snd.snd.snd.snd.snd.snd.snd.snd.fst + 1), List.set x.snd.snd.snd.snd.snd.snd.snd.snd.snd.fst (Int.toNat (Go.IntKind.wrap Go.IntKind.i64 (Go.IntKind.wrap Go.IntKind.i64 (x.snd.snd.snd.snd.snd.snd.snd.fst * 24) + x.snd.snd.snd.snd.snd.snd.snd.snd.fst))) 1, x.snd.snd.snd.snd.snd.snd.snd.snd.snd.snd.fst, x.snd.snd.snd.snd.snd.snd.snd.snd.snd.snd.snd.fst, x.snd.snd.snd.snd.snd.snd.snd.snd.snd.snd.snd.snd.fst, x.snd.snd.snd.snd.snd.snd.snd.snd.snd.snd.snd.snd.snd.fst, x.snd.snd.snd.snd.snd.snd.snd.snd.snd.snd.snd.snd.snd.snd.fst, x.snd.snd.snd.snd.snd.snd.snd.snd.snd.snd.snd.snd.snd.snd.snd.fst, x.snd.snd.snd.snd.snd.snd.snd.snd.snd.snd.snd.snd.snd.snd.snd.snd.fst, x.snd.snd.snd.snd.snd.snd.snd.snd.snd.snd.snd.snd.snd.snd.snd.snd.snd.fst, x.snd.snd.snd.snd.snd.snd.snd.snd.snd.snd.snd.snd.snd.snd.snd.snd.snd.snd.fst, x.snd.snd.snd.snd.snd.snd.snd.snd.snd.snd.snd.snd.snd.snd.snd.snd.snd.snd.snd.fst, x.snd.snd.snd.snd.snd.snd.snd.snd.snd.snd.snd.snd.snd.snd.snd.snd.snd.snd.snd.snd.fst, x.snd.snd.snd.snd.snd.snd.snd.snd.snd.snd.snd.snd.snd.snd.snd.snd.snd.snd.snd.snd.snd.fst, ())
  else
   none
 else
  k0 (x.fst, x.snd.fst, x.snd.snd.fst, x.snd.snd.snd.fst, x.snd.snd.snd.snd.fst, x.snd.snd.snd.snd.snd.fst, x.snd.snd.snd.snd.snd.snd.fst, Go.IntKind.wrap Go.IntKind.i64 (x.snd.snd.snd.snd.snd.snd.snd.fst + 1), x.snd.snd.snd.snd.snd.snd.snd.snd.snd.fst, x.snd.snd.snd.snd.snd.snd.snd.snd.snd.snd.fst, x.snd.snd.snd.snd.snd.snd.snd.snd.snd.snd.snd.fst, x.snd.snd.snd.snd.snd.snd.snd.snd.snd.snd.snd.snd.fst, x.snd.snd.snd.snd.snd.snd.snd.snd.snd.snd.snd.snd.snd.fst, x.snd.snd.snd.snd.snd.snd.snd.snd.snd.snd.snd.snd.snd.snd.fst, x.snd.snd.snd.snd.snd.snd.snd.snd.snd.snd.snd.snd.snd.snd.snd.fst, x.snd.snd.snd.snd.snd.snd.snd.snd.snd.snd.snd.snd.snd.snd.snd.snd.fst, x.snd.snd.snd.snd.snd.snd.snd.snd.snd.snd.snd.snd.snd.snd.snd.snd.snd.fst, x.snd.snd.snd.snd.snd.snd.snd.snd.snd.snd.snd.snd.snd.snd.snd.snd.snd.snd.fst, x.snd.snd.snd.snd.snd.snd.snd.snd.snd.snd.snd.snd.snd.snd.snd.snd.snd.snd.snd.fst, x.snd.snd.snd.snd.snd.snd.snd.snd.snd.snd.snd.snd.snd.snd.snd.snd.snd.snd.snd.snd.fst, x.snd.snd.snd.snd.snd.snd.snd.snd.snd.snd.snd.snd.snd.snd.snd.snd.snd.snd.snd.snd.snd.fst, ())
 ) (100000000000000000000) (x)
def f25.L2 (k0 : Int × Int × Int × List Int × Int × Int × Int × Int × Int × Int × Int × Int × Int × Int × Int × Int × Unit → Option (List Int × List (Int × Int × Int × Int × Int × Int × Int × Int × Int × Int × Int) × List (Int × Int × Int × Int) × Unit)) (x : Int × Int × Int × Int × Int × Int × Int × Int × List Int × Int × Int × Int × Int × Int × Int × Int × Int × Int × Int × Int × Int × Unit) : Option (List Int × List (Int × Int × Int × Int × Int × Int × Int × Int × Int × Int × Int) × List (Int × Int × Int × Int) × Unit) :=
 it (X := Int × Int × Int × Int × Int × Int × Int × Int × List Int × Int × Int × Int × Int × Int × Int × Int × Int × Int × Int × Int × Int × Unit) (fun rec x =>
 bif Decidable.decide (x.snd.snd.snd.snd.snd.snd.snd.fst < Go.IntKind.wrap Go.IntKind.i64 (x.snd.snd.snd.snd.snd.snd.fst + x.snd.snd.snd.snd.fst)) then
  f25.L1 rec ((x.fst, x.snd.fst, x.snd.snd.fst, x.snd.snd.snd.fst, x.snd.snd.snd.snd.fst, x.snd.snd.snd.snd.snd.fst, x.snd.snd.snd.snd.snd.snd.fst, x.snd.snd.snd.snd.snd.snd.snd.fst, x.snd.snd.snd.snd.snd.fst, x.snd.snd.snd.snd.snd.snd.snd.snd.fst, x.snd.snd.snd.snd.snd.snd.snd.snd.snd.fst, x.snd.snd.snd.snd.snd.snd.snd.snd.snd.snd.fst, x.snd.snd.snd.snd.snd.snd.snd.snd.snd.snd.snd.fst, x.snd.snd.snd.snd.snd.snd.snd.snd.snd.snd.snd.snd.fst, x.snd.snd.snd.snd.snd.snd.snd.snd.snd.snd.snd.snd.snd.fst, x.snd.snd.snd.snd.snd.snd.snd.snd.snd.snd.snd.snd.snd.snd.fst, x.snd.snd.snd.snd.snd.snd.snd.snd.snd.snd.snd.snd.snd.snd.snd.fst, x.snd.snd.snd.snd.snd.snd.snd.snd.snd.snd.snd.snd.snd.snd.snd.snd.fst, x.snd.snd.snd.snd.snd.snd.snd.snd.snd.snd.snd.snd.snd.snd.snd.snd.snd.fst, x.snd.snd.snd.snd.snd.snd.snd.snd.snd.snd.snd.snd.snd.snd.snd.snd.snd.snd.fst, x.snd.snd.snd.snd.snd.snd.snd.snd.snd.snd.snd.snd.snd.snd.snd.snd.snd.snd.snd.fst, x.snd.snd.snd.snd.snd.snd.snd.snd.snd.snd.snd.snd.snd.snd.snd.snd.snd.snd.snd.snd.fst, ()))
 else
  bif inRange x.snd.snd.fst 6 then
   bif inRange x.snd.snd.fst 6 then
    k0 (x.fst, x.snd.fst, Go.IntKind.wrap Go.IntKind.i64 (x.snd.snd.fst + 1), x.snd.snd.snd.snd.snd.snd.snd.snd.fst, if Int.toNat x.snd.snd.fst = 0 / 1 then Go.IntKind.wrap Go.IntKind.i64 (x.snd.snd.snd.snd.snd.fst + Go.IntKind.wrap Go.IntKind.i64 (Int.tdiv x.snd.snd.snd.fst 2)) else x.snd.snd.snd.snd.snd.snd.snd.snd.snd.fst, if Int.toNat x.snd.snd.fst = (0 + 1) / 1 then Go.IntKind.wrap Go.IntKind.i64 (x.snd.snd.snd.snd.snd.fst + Go.IntKind.wrap Go.IntKind.i64 (Int.tdiv x.snd.snd.snd.fst 2)) else x.snd.snd.snd.snd.snd.snd.snd.snd.snd.snd.fst, if Int.toNat x.snd.snd.fst = (0 + 1 + 1) / 1 then Go.IntKind.wrap Go.IntKind.i64 (x.snd.snd.snd.snd.snd.fst + Go.IntKind.wrap Go.IntKind.i64 (Int.tdiv x.snd.snd.snd.fst 2)) else x.snd.snd.snd.snd.snd.snd.snd.snd.snd.snd.snd.fst, if Int.toNat x.snd.snd.fst = (0 + 1 + 1 + 1) / 1 then Go.IntKind.wrap Go.IntKind.i64 (x.snd.snd.snd.snd.snd.fst + Go.IntKind.wrap Go.IntKind.i64 (Int.tdiv x.snd.snd.snd.fst 2)) else x.snd.snd.snd.snd.snd.snd.snd.snd.snd.snd.snd.snd.fst, if Int.toNat x.snd.snd.fst = (0 + 1 + 1 + 1 + 1) / 1 then Go.IntKind.wrap Go.IntKind.i64 (x.snd.snd.snd.snd.snd.fst + Go.IntKind.wrap Go.IntKind.i64 (Int.tdiv x.snd.snd.snd.fst 2)) else x.snd.snd.snd.snd.snd.snd.snd.snd.snd.snd.snd.snd.snd.fst, if Int.toNat x.snd.snd.fst = (0 + 1 + 1 + 1 + 1 + 1) / 1 then Go.IntKind.wrap Go.IntKind.i64 (x.snd.snd.snd.snd.snd.fst + Go.IntKind.wrap Go.IntKind.i64 (Int.tdiv x.snd.snd.snd.fst 2)) else x.snd.snd.snd.snd.snd.snd.snd.snd.snd.snd.snd.snd.snd.snd.fst, if Int.toNat x.snd.snd.fst = 0 / 1 then Go.IntKind.wrap Go.IntKind.i64 (x.snd.snd.snd.snd.snd.snd.fst + Go.IntKind.wrap Go.IntKind.i64 (Int.tdiv x.snd.snd.snd.snd.fst 2)) else x.snd.snd.snd.snd.snd.snd.snd.snd.snd.snd.snd.snd.snd.snd.snd.fst, if Int.toNat x.snd.snd.fst = (0 + 1) / 1 then Go.IntKind.wrap Go.IntKind.i64 (x.snd.snd.snd.snd.snd.snd.fst + Go.IntKind.wrap Go.IntKind.i64 (Int.tdiv x.snd.snd.snd.snd.fst 2)) else x.snd.snd.snd.snd.snd.snd.snd.snd.snd.snd.snd.snd.snd.snd.snd.snd.fst, if Int.toNat x.snd.snd.fst = (0 + 1 + 1) / 1 then Go.IntKind.wrap Go.IntKind.i64 (x.snd.snd.snd.snd.snd.snd.fst + Go.IntKind.wrap Go.IntKind.i64 (Int.tdiv x.snd.snd.snd.snd.fst 2)) else x.snd.snd.snd.snd.snd.snd.snd.snd.snd.snd.snd.snd.snd.snd.snd.snd.snd.fst, if Int.toNat x.snd.snd.fst = (0 + 1 + 1 + 1) / 1 then Go.IntKind.wrap Go.IntKind.i64 (x.snd.snd.snd.snd.snd.snd.fst + Go.IntKind.wrap Go.IntKind.i64 (Int.tdiv x.snd.snd.snd.snd.fst 2)) else x.snd.snd.snd.snd.snd.snd.snd.snd.snd.snd.snd.snd.snd.snd.snd.snd.snd.snd.fst, if Int.toNat x.snd.snd.fst = (0 + 1 + 1 + 1 + 1) / 1 then Go.IntKind.wrap Go.IntKind.i64 (x.snd.snd.snd.snd.snd.snd.fst + Go.IntKind.wrap Go.IntKind.i64 (Int.tdiv x.snd.snd.snd.snd.fst 2)) else x.snd.snd.snd.snd.snd.snd.snd.snd.snd.snd.snd.snd.snd.snd.snd.snd.snd.snd.snd.fst, if Int.toNat x.snd.snd.fst = (0 + 1 + 1 + 1 + 1 + 1) / 1 then Go.IntKind.wrap Go.IntKind.i64 (x.snd.snd.snd.snd.snd.snd.fst + Go.IntKind.wrap Go.IntKind.i64 (Int.tdiv x.snd.snd.snd.snd.fst 2)) else x.snd.snd.snd.snd.snd.snd.snd.snd.snd.snd.snd.snd.snd.snd.snd.snd.snd.snd.snd.snd.fst, ())
   else
    none
  else
   none
 ) (100000000000000000000) (x)
def f25.L3 (k0 : Int × Int × Int × List Int × Int × Int × Int × Int × Int × Int × Int × Int × Int × Int × Int × Int × Unit → Option (List Int × List (Int × Int × Int × Int × Int × Int × Int × Int × Int × Int × Int) × List (Int × Int × Int × Int) × Unit)) (x : Int × Int × Int × Int × Int × Bool × Bool × List Int × Int × Int × Int × Int × Int × Int × Int × Int × Int × Int × Int × Int × Unit) : Option (List Int × List (Int × Int × Int × Int × Int × Int × Int × Int × Int × Int × Int) × List (Int × Int × Int × Int) × Unit) :=
 it (X := Int × Int × Int × Int × Int × Bool × Bool × List Int × Int × Int × Int × Int × Int × Int × Int × Int × Int × Int × Int × Int × Unit) (fun rec x =>
 Option.bind (α := Int × Int × Int × Int × Int × Bool × Bool × List Int × Int × Int × Int × Int × Int × Int × Int × Int × Int × Int × Int × Int × Unit ⊕ List Int × List (Int × Int × Int × Int × Int × Int × Int × Int × Int × Int × Int) × List (Int × Int × Int × Int) × Unit) (
  bif inRange x.snd.snd.fst 6 then
   bif x.snd.snd.snd.fst != List.getD [x.snd.snd.snd.snd.snd.snd.snd.snd.fst, x.snd.snd.snd.snd.snd.snd.snd.snd.snd.fst, x.snd.snd.snd.snd.snd.snd.snd.snd.snd.snd.fst, x.snd.snd.snd.snd.snd.snd.snd.snd.snd.snd.snd.fst, x.snd.snd.snd.snd.snd.snd.snd.snd.snd.snd.snd.snd.fst, x.snd.snd.snd.snd.snd.snd.snd.snd.snd.snd.snd.snd.snd.fst] (Int.toNat x.snd.snd.fst) 0 then
    some (Sum.inl (x.fst, x.snd.fst, x.snd.snd.fst, x.snd.snd.snd.fst, x.snd.snd.snd.snd.fst, x.snd.snd.snd.snd.snd.fst, x.snd.snd.snd.snd.snd.snd.fst, x.snd.snd.snd.snd.snd.snd.snd.fst, x.snd.snd.snd.snd.snd.snd.snd.snd.fst, x.snd.snd.snd.snd.snd.snd.snd.snd.snd.fst, x.snd.snd.snd.snd.snd.snd.snd.snd.snd.snd.fst, x.snd.snd.snd.snd.snd.snd.snd.snd.snd.snd.snd.fst, x.snd.snd.snd.snd.snd.snd.snd.snd.snd.snd.snd.snd.fst, x.snd.snd.snd.snd.snd.snd.snd.snd.snd.snd.snd.snd.snd.fst, x.snd.snd.snd.snd.snd.snd.snd.snd.snd.snd.snd.snd.snd.snd.fst, x.snd.snd.snd.snd.snd.snd.snd.snd.snd.snd.snd.snd.snd.snd.snd.fst, x.snd.snd.snd.snd.snd.snd.snd.snd.snd.snd.snd.snd.snd.snd.snd.snd.fst, x.snd.snd.snd.snd.snd.snd.snd.snd.snd.snd.snd.snd.snd.snd.snd.snd.snd.fst, x.snd.snd.snd.snd.snd.snd.snd.snd.snd.snd.snd.snd.snd.snd.snd.snd.snd.snd.fst, x.snd.snd.snd.snd.snd.snd.snd.snd.snd.snd.snd.snd.snd.snd.snd.snd.snd.snd.snd.fst, ()))
   else
    bif inRange x.snd.snd.fst 6 then
     bif x.snd.snd.snd.snd.fst != List.getD [x.snd.snd.snd.snd.snd.snd.snd.snd.snd.snd.snd.snd.snd.snd.fst, x.snd.snd.snd.snd.snd.snd.snd.snd.snd.snd.snd.snd.snd.snd.snd.fst, x.snd.snd.snd.snd.snd.snd.snd.snd.snd.snd.snd.snd.snd.snd.snd.snd.fst, x.snd.snd.snd.snd.snd.snd.snd.snd.snd.snd.snd.snd.snd.snd.snd.snd.snd.fst, x.snd.snd.snd.snd.snd.snd.snd.snd.snd.snd.snd.snd.snd.snd.snd.snd.snd.snd.fst, x.snd.snd.snd.snd.snd.snd.snd.snd.snd.snd.snd.snd.snd.snd.snd.snd.snd.snd.snd.fst] (Int.toNat x.snd.snd.fst) 0 then
      some (Sum.inl (x.fst, x.snd.fst, x.snd.snd.fst, x.snd.snd.snd.fst, x.snd.snd.snd.snd.fst, x.snd.snd.snd.snd.snd.fst, x.snd.snd.snd.snd.snd.snd.fst, x.snd.snd.snd.snd.snd.snd.snd.fst, x.snd.snd.snd.snd.snd.snd.snd.snd.fst, x.snd.snd.snd.snd.snd.snd.snd.snd.snd.fst, x.snd.snd.snd.snd.snd.snd.snd.snd.snd.snd.fst, x.snd.snd.snd.snd.snd.snd.snd.snd.snd.snd.snd.fst, x.snd.snd.snd.snd.snd.snd.snd.snd.snd.snd.snd.snd.fst, x.snd.snd.snd.snd.snd.snd.snd.snd.snd.snd.snd.snd.snd.fst, x.snd.snd.snd.snd.snd.snd.snd.snd.snd.snd.snd.snd.snd.snd.fst, x.snd.snd.snd.snd.snd.snd.snd.snd.snd.snd.snd.snd.snd.snd.snd.fst, x.snd.snd.snd.snd.snd.snd.snd.snd.snd.snd.snd.snd.snd.snd.snd.snd.fst, x.snd.snd.snd.snd.snd.snd.snd.snd.snd.snd.snd.snd.snd.snd.snd.snd.snd.fst, x.snd.snd.snd.snd.snd.snd.snd.snd.snd.snd.snd.snd.snd.snd.snd.snd.snd.snd.fst, x.snd.snd.snd.snd.snd.snd.snd.snd.snd.snd.snd.snd.snd.snd.snd.snd.snd.snd.snd.fst, ()))
     else
      Option.bind (k0 (x.fst, x.snd.fst, Go.IntKind.wrap Go.IntKind.i64 (x.snd.snd.fst + 1), x.snd.snd.snd.snd.snd.snd.snd.fst, x.snd.snd.snd.snd.snd.snd.snd.snd.fst, x.snd.snd.snd.snd.snd.snd.snd.snd.snd.fst, x.snd.snd.snd.snd.snd.snd.snd.snd.snd.snd.fst, x.snd.snd.snd.snd.snd.snd.snd.snd.snd.snd.snd.fst, x.snd.snd.snd.snd.snd.snd.snd.snd.snd.snd.snd.snd.fst, x.snd.snd.snd.snd.snd.snd.snd.snd.snd.snd.snd.snd.snd.fst, x.snd.snd.snd.snd.snd.snd.snd.snd.snd.snd.snd.snd.snd.snd.fst, x.snd.snd.snd.snd.snd.snd.snd.snd.snd.snd.snd.snd.snd.snd.snd.fst, x.snd.snd.snd.snd.snd.snd.snd.snd.snd.snd.snd.snd.snd.snd.snd.snd.fst, x.snd.snd.snd.snd.snd.snd.snd.snd.snd.snd.snd.snd.snd.snd.snd.snd.snd.fst, x.snd.snd.snd.snd.snd.snd.snd.snd.snd.snd.snd.snd.snd.snd.snd.snd.snd.snd.fst, x.snd.snd.snd.snd.snd.snd.snd.snd.snd.snd.snd.snd.snd.snd.snd.snd.snd.snd.snd.fst, ())) fun y0 =>
       some (Sum.inr y0)
    else
     none
  else
   none
 ) fun y1 =>
  Sum.elim (fun y2 =>
   Option.bind (α := Int × Int × Int × Int × Int × Bool × Bool × List Int × Int × Int × Int × Int × Int × Int × Int × Int × Int × Int × Int × Int × Unit ⊕ List Int × List (Int × Int × Int × Int × Int × Int × Int × Int × Int × Int × Int) × List (Int × Int × Int × Int) × Unit) (
    bif y2.snd.snd.snd.snd.snd.snd.fst then
     bif inRange y2.snd.snd.fst 6 then
      bif y2.snd.snd.snd.fst != List.getD [y2.snd.snd.snd.snd.snd.snd.snd.snd.fst, y2.snd.snd.snd.snd.snd.snd.snd.snd.snd.fst, y2.snd.snd.snd.snd.snd.snd.snd.snd.snd.snd.fst, y2.snd.snd.snd.snd.snd.snd.snd.snd.snd.snd.snd.fst, y2.snd.snd.snd.snd.snd.snd.snd.snd.snd.snd.snd.snd.fst, y2.snd.snd.snd.snd.snd.snd.snd.snd.snd.snd.snd.snd.snd.fst] (Int.toNat y2.snd.snd.fst) 0 then
       bif inRange y2.snd.snd.fst 6 then
        Option.bind (f43 y2.snd.snd.snd.fst (List.getD [y2.snd.snd.snd.snd.snd.snd.snd.snd.fst, y2.snd.snd.snd.snd.snd.snd.snd.snd.snd.fst, y2.snd.snd.snd.snd.snd.snd.snd.snd.snd.snd.fst, y2.snd.snd.snd.snd.snd.snd.snd.snd.snd.snd.snd.fst, y2.snd.snd.snd.snd.snd.snd.snd.snd.snd.snd.snd.snd.fst, y2.snd.snd.snd.snd.snd.snd.snd.snd.snd.snd.snd.snd.snd.fst] (Int.toNat y2.snd.snd.fst) 0)) fun y3 =>
         some (Sum.inl (y2.fst, y2.snd.fst, y2.snd.snd.fst, y3.fst, y2.snd.snd.snd.snd.fst, y2.snd.snd.snd.snd.snd.fst, y2.snd.snd.snd.snd.snd.snd.fst, y2.snd.snd.snd.snd.snd.snd.snd.fst, y2.snd.snd.snd.snd.snd.snd.snd.snd.fst, y2.snd.snd.snd.snd.snd.snd.snd.snd.snd.fst, y2.snd.snd.snd.snd.snd.snd.snd.snd.snd.snd.fst, y2.snd.snd.snd.snd.snd.snd.snd.snd.snd.snd.snd.fst, y2.snd.snd.snd.snd.snd.snd.snd.snd.snd.snd.snd.snd.fst, y2.snd.snd.snd.snd.snd.snd.snd.snd.snd.snd.snd.snd.snd.fst, y2.snd.snd.snd.snd.snd.snd.snd.snd.snd.snd.snd.snd.snd.snd.fst, y2.snd.snd.snd.snd.snd.snd.snd.snd.snd.snd.snd.snd.snd.snd.snd.fst, y2.snd.snd.snd.snd.snd.snd.snd.snd.snd.snd.snd.snd.snd.snd.snd.snd.fst, y2.snd.snd.snd.snd.snd.snd.snd.snd.snd.snd.snd.snd.snd.snd.snd.snd.snd.fst, y2.snd.snd.snd.snd.snd.snd.snd.snd.snd.snd.snd.snd.snd.snd.snd.snd.snd.snd.fst, y2.snd.snd.snd.snd.snd.snd.snd.snd.snd.snd.snd.snd.snd.snd.snd.snd.snd.snd.snd.fst, ()))
       else
        none
      else
       bif !y2.snd.snd.snd.snd.snd.snd.fst then
        bif inRange y2.snd.snd.fst 6 then
         bif y2.snd.snd.snd.snd.fst == List.getD [y2.snd.snd.snd.snd.snd.snd.snd.snd.snd.snd.snd.snd.snd.snd.fst, y2.snd.snd.snd.snd.snd.snd.snd.snd.snd.snd.snd.snd.snd.snd.snd.fst, y2.snd.snd.snd.snd.snd.snd.snd.snd.snd.snd.snd.snd.snd.snd.snd.snd.fst, y2.snd.snd.snd.snd.snd.snd.snd.snd.snd.snd.snd.snd.snd.snd.snd.snd.snd.fst, y2.snd.snd.snd.snd.snd.snd.snd.snd.snd.snd.snd.snd.snd.snd.snd.snd.snd.snd.fst, y2.snd.snd.snd.snd.snd.snd.snd.snd.snd.snd.snd.snd.snd.snd.snd.snd.snd.snd.snd.fst] (Int.toNat y2.snd.snd.fst) 0 then
          bif inRange y2.snd.snd.fst 6 then
           Option.bind (f43 y2.snd.snd.snd.fst (List.getD [y2.snd.snd.snd.snd.snd.snd.snd.snd.fst, y2.snd.snd.snd.snd.snd.snd.snd.snd.snd.fst, y2.snd.snd.snd.snd.snd.snd.snd.snd.snd.snd.fst, y2.snd.snd.snd.snd.snd.snd.snd.snd.snd.snd.snd.fst, y2.snd.snd.snd.snd.snd.snd.snd.snd.snd.snd.snd.snd.fst, y2.snd.snd.snd.snd.snd.snd.snd.snd.snd.snd.snd.snd.snd.fst] (Int.toNat y2.snd.snd.fst) 0)) fun y4 =>
            some (Sum.inl (y2.fst, y2.snd.fst, y2.snd.snd.fst, y4.fst, y2.snd.snd.snd.snd.fst, y2.snd.snd.snd.snd.snd.fst, y2.snd.snd.snd.snd.snd.snd.fst, y2.snd.snd.snd.snd.snd.snd.snd.fst, y2.snd.snd.snd.snd.snd.snd.snd.snd.fst, y2.snd.snd.snd.snd.snd.snd.snd.snd.snd.fst, y2.snd.snd.snd.snd.snd.snd.snd.snd.snd.snd.fst, y2.snd.snd.snd.snd.snd.snd.snd.snd.snd.snd.snd.fst, y2.snd.snd.snd.snd.snd.snd.snd.snd.snd.snd.snd.snd.fst, y2.snd.snd.snd.snd.snd.snd.snd.snd.snd.snd.snd.snd.snd.fst, y2.snd.snd.snd.snd.snd.snd.snd.snd.snd.snd.snd.snd.snd.snd.fst, y2.snd.snd.snd.snd.snd.snd.snd.snd.snd.snd.snd.snd.snd.snd.snd.fst, y2.snd.snd.snd.snd.snd.snd.snd.snd.snd.snd.snd.snd.snd.snd.snd.snd.fst, y2.snd.snd.snd.snd.snd.snd.snd.snd.snd.snd.snd.snd.snd.snd.snd.snd.snd.fst, y2.snd.snd.snd.snd.snd.snd.snd.snd.snd.snd.snd.snd.snd.snd.snd.snd.snd.snd.fst, y2.snd.snd.snd.snd.snd.snd.snd.snd.snd.snd.snd.snd.snd.snd.snd.snd.snd.snd.snd.fst, ()))
          else
           none
         else
          bif inRange y2.snd.snd.fst 6 then
           Option.bind (f43 y2.snd.snd.snd.snd.fst (List.getD [y2.snd.snd.snd.snd.snd.snd.snd.snd.snd.snd.snd.snd.snd.snd.fst, y2.snd.snd.snd.snd.snd.snd.snd.snd.snd.snd.snd.snd.snd.snd.snd.fst, y2.snd.snd.snd.snd.snd.snd.snd.snd.snd.snd.snd.snd.snd.snd.snd.snd.fst, y2.snd.snd.snd.snd.snd.snd.snd.snd.snd.snd.snd.snd.snd.snd.snd.snd.snd.fst, y2.snd.snd.snd.snd.snd.snd.snd.snd.snd.snd.snd.snd.snd.snd.snd.snd.snd.snd.fst, y2.snd.snd.snd.snd.snd.snd.snd.snd.snd.snd.snd.snd.snd.snd.snd.snd.snd.snd.snd.fst] (Int.toNat y2.snd.snd.fst) 0)) fun y5 =>
            some (Sum.inl (y2.fst, y2.snd.fst, y2.snd.snd.fst, y2.snd.snd.snd.fst, y5.fst, y2.snd.snd.snd.snd.snd.fst, y2.snd.snd.snd.snd.snd.snd.fst, y2.snd.snd.snd.snd.snd.snd.snd.fst, y2.snd.snd.snd.snd.snd.snd.snd.snd.fst, y2.snd.snd.snd.snd.snd.snd.snd.snd.snd.fst, y2.snd.snd.snd.snd.snd.snd.snd.snd.snd.snd.fst, y2.snd.snd.snd.snd.snd.snd.snd.snd.snd.snd.snd.fst, y2.snd.snd.snd.snd.snd.snd.snd.snd.snd.snd.snd.snd.fst, y2.snd.snd.snd.snd.snd.snd.snd.snd.snd.snd.snd.snd.snd.fst, y2.snd.snd.snd.snd.snd.snd.snd.snd.snd.snd.snd.snd.snd.snd.fst, y2.snd.snd.snd.snd.snd.snd.snd.snd.snd.snd.snd.snd.snd.snd.snd.fst, y2.snd.snd.snd.snd.snd.snd.snd.snd.snd.snd.snd.snd.snd.snd.snd.snd.fst, y2.snd.snd.snd.snd.snd.snd.snd.snd.snd.snd.snd.snd.snd.snd.snd.snd.snd.fst, y2.snd.snd.snd.snd.snd.snd.snd.snd.snd.snd.snd.snd.snd.snd.snd.snd.snd.snd.fst, y2.snd.snd.snd.snd.snd.snd.snd.snd.snd.snd.snd.snd.snd.snd.snd.snd.snd.snd.snd.fst, ()))
          else
           none
        else
         none
       else
        bif inRange y2.snd.snd.fst 6 then
         Option.bind (f43 y2.snd.snd.snd.snd.fst (List.getD [y2.snd.snd.snd.snd.snd.snd.snd.snd.snd.snd.snd.snd.snd.snd.fst, y2.snd.snd.snd.snd.snd.snd.snd.snd.snd.snd.snd.snd.snd.snd.snd.fst, y2.snd.snd.snd.snd.snd.snd.snd.snd.snd.snd.snd.snd.snd.snd.snd.snd.fst, y2.snd.snd.snd.snd.snd.snd.snd.snd.snd.snd.snd.snd.snd.snd.snd.snd.snd.fst, y2.snd.snd.snd.snd.snd.snd.snd.snd.snd.snd.snd.snd.snd.snd.snd.snd.snd.snd.fst, y2.snd.snd.snd.snd.snd.snd.snd.snd.snd.snd.snd.snd.snd.snd.snd.snd.snd.snd.snd.fst] (Int.toNat y2.snd.snd.fst) 0)) fun y6 =>
          some (Sum.inl (y2.fst, y2.snd.fst, y2.snd.snd.fst, y2.snd.snd.snd.fst, y6.fst, y2.snd.snd.snd.snd.snd.fst, y2.snd.snd.snd.snd.snd.snd.fst, y2.snd.snd.snd.snd.snd.snd.snd.fst, y2.snd.snd.snd.snd.snd.snd.snd.snd.fst, y2.snd.snd.snd.snd.snd.snd.snd.snd.snd.fst, y2.snd.snd.snd.snd.snd.snd.snd.snd.snd.snd.fst, y2.snd.snd.snd.snd.snd.snd.snd.snd.snd.snd.snd.fst, y2.snd.snd.snd.snd.snd.snd.snd.snd.snd.snd.snd.snd.fst, y2.snd.snd.snd.snd.snd.snd.snd.snd.snd.snd.snd.snd.snd.fst, y2.snd.snd.snd.snd.snd.snd.snd.snd.snd.snd.snd.snd.snd.snd.fst, y2.snd.snd.snd.snd.snd.snd.snd.snd.snd.snd.snd.snd.snd.snd.snd.fst, y2.snd.snd.snd.snd.snd.snd.snd.snd.snd.snd.snd.snd.snd.snd.snd.snd.fst, y2.snd.snd.snd.snd.snd.snd.snd.snd.snd.snd.snd.snd.snd.snd.snd.snd.snd.fst, y2.snd.snd.snd.snd.snd.snd.snd.snd.snd.snd.snd.snd.snd.snd.snd.snd.snd.snd.fst, y2.snd.snd.snd.snd.snd.snd.snd.snd.snd.snd.snd.snd.snd.snd.snd.snd.snd.snd.snd.fst, ()))
        else
         none
     else
      none
    else
     bif !y2.snd.snd.snd.snd.snd.snd.fst then
      bif inRange y2.snd.snd.fst 6 then
       bif y2.snd.snd.snd.snd.fst == List.getD [y2.snd.snd.snd.snd.snd.snd.snd.snd.snd.snd.snd.snd.snd.snd.fst, y2.snd.snd.snd.snd.snd.snd.snd.snd.snd.snd.snd.snd.snd.snd.snd.fst, y2.snd.snd.snd.snd.snd.snd.snd.snd.snd.snd.snd.snd.snd.snd.snd.snd.fst, y2.snd.snd.snd.snd.snd.snd.snd.snd.snd.snd.snd.snd.snd.snd.snd.snd.snd.fst, y2.snd.snd.snd.snd.snd.snd.snd.snd.snd.snd.snd.snd.snd.snd.snd.snd.snd.snd.fst, y2.snd.snd.snd.snd.snd.snd.snd.snd.snd.snd.snd.snd.snd.snd.snd.snd.snd.snd.snd.fst] (Int.toNat y2.snd.snd.fst) 0 then
        bif inRange y2.snd.snd.fst 6 then
         Option.bind (f43 y2.snd.snd.snd.fst (List.getD [y2.snd.snd.snd.snd.snd.snd.snd.snd.fst, y2.snd.snd.snd.snd.snd.snd.snd.snd.snd.fst, y2.snd.snd.snd.snd.snd.snd.snd.snd.snd.snd.fst, y2.snd.snd.snd.snd.snd.snd.snd.snd.snd.snd.snd.fst, y2.snd.snd.snd.snd.snd.snd.snd.snd.snd.snd.snd.snd.fst, y2.snd.snd.snd.snd.snd.snd.snd.snd.snd.snd.snd.snd.snd.fst] (Int.toNat y2.snd.snd.fst) 0)) fun y7 =>
          some (Sum.inl (y2.fst, y2.snd.fst, y2.snd.snd.fst, y7.fst, y2.snd.snd.snd.snd.fst, y2.snd.snd.snd.snd.snd.fst, y2.snd.snd.snd.snd.snd.snd.fst, y2.snd.snd.snd.snd.snd.snd.snd.fst, y2.snd.snd.snd.snd.snd.snd.snd.snd.fst, y2.snd.snd.snd.snd.snd.snd.snd.snd.snd.fst, y2.snd.snd.snd.snd.snd.snd.snd.snd.snd.snd.fst, y2.snd.snd.snd.snd.snd.snd.snd.snd.snd.snd.snd.fst, y2.snd.snd.snd.snd.snd.snd.snd.snd.snd.snd.snd.snd.fst, y2.snd.snd.snd.snd.snd.snd.snd.snd.snd.snd.snd.snd.snd.fst, y2.snd.snd.snd.snd.snd.snd.snd.snd.snd.snd.snd.snd.snd.snd.fst, y2.snd.snd.snd.snd.snd.snd.snd.snd.snd.snd.snd.snd.snd.snd.snd.fst, y2.snd.snd.snd.snd.snd.snd.snd.snd.snd.snd.snd.snd.snd.snd.snd.snd.fst, y2.snd.snd.snd.snd.snd.snd.snd.snd.snd.snd.snd.snd.snd.snd.snd.snd.snd.fst, y2.snd.snd.snd.snd.snd.snd.snd.snd.snd.snd.snd.snd.snd.snd.snd.snd.snd.snd.fst, y2.snd.snd.snd.snd.snd.snd.snd.snd.snd.snd.snd.snd.snd.snd.snd.snd.snd.snd.snd.fst, ()))
        else
         none
       else
        bif inRange y2.snd.snd.fst 6 then
         Option.bind (f43 y2.snd.snd.snd.snd.fst (List.getD [y2.snd.snd.snd.snd.snd.snd.snd.snd.snd.snd.snd.snd.snd.snd.fst, y2.snd.snd.snd.snd.snd.snd.snd.snd.snd.snd.snd.snd.snd.snd.snd.fst, y2.snd.snd.snd.snd.snd.snd.snd.snd.snd.snd.snd.snd.snd.snd.snd.snd.fst, y2.snd.snd.snd.snd.snd.snd.snd.snd.snd.snd.snd.snd.snd.snd.snd.snd.snd.fst, y2.snd.snd.snd.snd.snd.snd.snd.snd.snd.snd.snd.snd.snd.snd.snd.snd.snd.snd.fst, y2.snd.snd.snd.snd.snd.snd.snd.snd.snd.snd.snd.snd.snd.snd.snd.snd.snd.snd.snd.fst] (Int.toNat y2.snd.snd.fst) 0)) fun y8 =>
          some (Sum.inl (y2.fst, y2.snd.fst, y2.snd.snd.fst, y2.snd.snd.snd.fst, y8.fst, y2.snd.snd.snd.snd.snd.fst, y2.snd.snd.snd.snd.snd.snd.fst, y2.snd.snd.snd.snd.snd.snd.snd.fst, y2.snd.snd.snd.snd.snd.snd.snd.snd.fst, y2.snd.snd.snd.snd.snd.snd.snd.snd.snd.fst, y2.snd.snd.snd.snd.snd.snd.snd.snd.snd.snd.fst, y2.snd.snd.snd.snd.snd.snd.snd.snd.snd.snd.snd.fst, y2.snd.snd.snd.snd.snd.snd.snd.snd.snd.snd.snd.snd.fst, y2.snd.snd.snd.snd.snd.snd.snd.snd.snd.snd.snd.snd.snd.fst, y2.snd.snd.snd.snd.snd.snd.snd.snd.snd.snd.snd.snd.snd.snd.fst, y2.snd.snd.snd.snd.snd.snd.snd.snd.snd.snd.snd.snd.snd.snd.snd.fst, y2.snd.snd.snd.snd.snd.snd.snd.snd.snd.snd.snd.snd.snd.snd.snd.snd.fst, y2.snd.snd.snd.snd.snd.snd.snd.snd.snd.snd.snd.snd.snd.snd.snd.snd.snd.fst, y2.snd.snd.snd.snd.snd.snd.snd.snd.snd.snd.snd.snd.snd.snd.snd.snd.snd.snd.fst, y2.snd.snd.snd.snd.snd.snd.snd.snd.snd.snd.snd.snd.snd.snd.snd.snd.snd.snd.snd.fst, ()))
        else
         none
      else
       none
     else
      bif inRange y2.snd.snd.fst 6 then
       Option.bind (f43 y2.snd.snd.snd.snd.fst (List.getD [y2.snd.snd.snd.snd.snd.snd.snd.snd.snd.snd.snd.snd.snd.snd.fst, y2.snd.snd.snd.snd.snd.snd.snd.snd.snd.snd.snd.snd.snd.snd.snd.fst, y2.snd.snd.snd.snd.snd.snd.snd.snd.snd.snd.snd.snd.snd.snd.snd.snd.fst, y2.snd.snd.snd.snd.snd.snd.snd.snd.snd.snd.snd.snd.snd.snd.snd.snd.snd.fst, y2.snd.snd.snd.snd.snd.snd.snd.snd.snd.snd.snd.snd.snd.snd.snd.snd.snd.snd.fst, y2.snd.snd.snd.snd.snd.snd.snd.snd.snd.snd.snd.snd.snd.snd.snd.snd.snd.snd.snd.fst] (Int.toNat y2.snd.snd.fst) 0)) fun y9 =>
        some (Sum.inl (y2.fst, y2.snd.fst, y2.snd.snd.fst, y2.snd.snd.snd.fst, y9.fst, y2.snd.snd.snd.snd.snd.fst, y2.snd.snd.snd.snd.snd.snd.fst, y2.snd.snd.snd.snd.snd.snd.snd.fst, y2.snd.snd.snd.snd.snd.snd.snd.snd.fst, y2.snd.snd.snd.snd.snd.snd.snd.snd.snd.fst, y2.snd.snd.snd.snd.snd.snd.snd.snd.snd.snd.fst, y2.snd.snd.snd.snd.snd.snd.snd.snd.snd.snd.snd.fst, y2.snd.snd.snd.snd.snd.snd.snd.snd.snd.snd.snd.snd.fst, y2.snd.snd.snd.snd.snd.snd.snd.snd.snd.snd.snd.snd.snd.fst, y2.snd.snd.snd.snd.snd.snd.snd.snd.snd.snd.snd.snd.snd.snd.fst, y2.snd.snd.snd.snd.snd.snd.snd.snd.snd.snd.snd.snd.snd.snd.snd.fst, y2.snd.snd.snd.snd.snd.snd.snd.snd.snd.snd.snd.snd.snd.snd.snd.snd.fst, y2.snd.snd.snd.snd.snd.snd.snd.snd.snd.snd.snd.snd.snd.snd.snd.snd.snd.fst, y2.snd.snd.snd.snd.snd.snd.snd.snd.snd.snd.snd.snd.snd.snd.snd.snd.snd.snd.fst, y2.snd.snd.snd.snd.snd.snd.snd.snd.snd.snd.snd.snd.snd.snd.snd.snd.snd.snd.snd.fst, ()))
      else
       none
   ) fun y10 =>
    Sum.elim (fun y11 =>
     Option.bind (f42 y11.snd.snd.snd.fst y11.snd.snd.snd.snd.fst y11.snd.snd.snd.snd.snd.fst y11.snd.snd.snd.snd.snd.snd.snd.fst) fun y12 =>
      rec (y11.fst, y11.snd.fst, y11.snd.snd.fst, y11.snd.snd.snd.fst, y11.snd.snd.snd.snd.fst, y12.fst, y11.snd.snd.snd.snd.snd.snd.fst, y12.snd.fst, y11.snd.snd.snd.snd.snd.snd.snd.snd.fst, y11.snd.snd.snd.snd.snd.snd.snd.snd.snd.fst, y11.snd.snd.snd.snd.snd.snd.snd.snd.snd.snd.fst, y11.snd.snd.snd.snd.snd.snd.snd.snd.snd.snd.snd.fst, y11.snd.snd.snd.snd.snd.snd.snd.snd.snd.snd.snd.snd.fst, y11.snd.snd.snd.snd.snd.snd.snd.snd.snd.snd.snd.snd.snd.fst, y11.snd.snd.snd.snd.snd.snd.snd.snd.snd.snd.snd.snd.snd.snd.fst, y11.snd.snd.snd.snd.snd.snd.snd.snd.snd.snd.snd.snd.snd.snd.snd.fst, y11.snd.snd.snd.snd.snd.snd.snd.snd.snd.snd.snd.snd.snd.snd.snd.snd.fst, y11.snd.snd.snd.snd.snd.snd.snd.snd.snd.snd.snd.snd.snd.snd.snd.snd.snd.fst, y11.snd.snd.snd.snd.snd.snd.snd.snd.snd.snd.snd.snd.snd.snd.snd.snd.snd.snd.fst, y11.snd.snd.snd.snd.snd.snd.snd.snd.snd.snd.snd.snd.snd.snd.snd.snd.snd.snd.snd.fst, ())
    ) (fun z13 =>
     some (z13)
    ) (y10)
  ) (fun z14 =>
   some (z14)
  ) (y1)
 ) (100000000000000000000) (x)
def f25.L4 (x : Int × Int × Int × Bool × Int × List Int × List Int × Unit) : Option (Int × Int × Bool × List Int × List Int × Unit ⊕ List Int × List (Int × Int × Int × Int × Int × Int × Int × Int × Int × Int × Int) × List (Int × Int × Int × Int) × Unit) :=
 it (X := Int × Int × Int × Bool × Int × List Int × List Int × Unit) (fun rec x =>
 bif Decidable.decide (x.snd.snd.snd.snd.fst < 384) then
  bif !x.snd.snd.snd.fst then
   bif inRange x.snd.snd.snd.snd.fst (List.length x.snd.snd.snd.snd.snd.fst) then
    bif List.getD x.snd.snd.snd.snd.snd.fst (Int.toNat x.snd.snd.snd.snd.fst) 0 == 1 then
     bif inRange x.snd.snd.snd.snd.fst (List.length x.snd.snd.snd.snd.snd.snd.fst) then
      bif inRange x.snd.snd.fst (List.length x.snd.snd.snd.snd.snd.snd.fst) then
       bif List.getD x.snd.snd.snd.snd.snd.snd.fst (Int.toNat x.snd.snd.snd.snd.fst) 0 == Go.IntKind.wrap Go.IntKind.i64 (Int.tdiv (List.getD x.snd.snd.snd.snd.snd.snd.fst (Int.toNat x.snd.snd.fst) 0) 2) then
        bif inRange x.snd.snd.snd.snd.fst (List.length x.snd.snd.snd.snd.snd.fst) then
         rec (x.fst, x.snd.fst, x.snd.snd.fst, Bool.true, Go.IntKind.wrap Go.IntKind.i64 (x.snd.snd.snd.snd.fst + 1), List.set x.snd.snd.snd.snd.snd.fst (Int.toNat x.snd.snd.snd.snd.fst) 5, x.snd.snd.snd.snd.snd.snd.fst, ())
        else
         none
       else
        rec (x.fst, x.snd.fst, x.snd.snd.fst, x.snd.snd.snd.fst, Go.IntKind.wrap Go.IntKind.i64 (x.snd.snd.snd.snd.fst + 1), x.snd.snd.snd.snd.snd.fst, x.snd.snd.snd.snd.snd.snd.fst, ())
      else
       none
     else
      none
    else
     rec (x.fst, x.snd.fst, x.snd.snd.fst, x.snd.snd.snd.fst, Go.IntKind.wrap Go.IntKind.i64 (x.snd.snd.snd.snd.fst + 1), x.snd.snd.snd.snd.snd.fst, x.snd.snd.snd.snd.snd.snd.fst, ())
   else
    none
  else
   some (Sum.inl (x.fst, x.snd.fst, x.snd.snd.snd.fst, x.snd.snd.snd.snd.snd.fst, x.snd.snd.snd.snd.snd.snd.fst, ()))
 else
  some (Sum.inl (x.fst, x.snd.fst, x.snd.snd.snd.fst, x.snd.snd.snd.snd.snd.fst, x.snd.snd.snd.snd.snd.snd.fst, ()))
 ) (100000000000000000000) (x)
def f25.L5 (x : Int × Int × Bool × Int × List Int × List Int × List Bool × List (Int × Int × Int × Int × Int × Int × Int × Int × Int × Int × Int) × Unit) : Option (Int × Int × Bool × List Int × List Int × List (Int × Int × Int × Int × Int × Int × Int × Int × Int × Int × Int) × Unit ⊕ List Int × List (Int × Int × Int × Int × Int × Int × Int × Int × Int × Int × Int) × List (Int × Int × Int × Int) × Unit) :=
 it (X := Int × Int × Bool × Int × List Int × List Int × List Bool × List (Int × Int × Int × Int × Int × Int × Int × Int × Int × Int × Int) × Unit) (fun rec x =>
 bif Decidable.decide (x.snd.snd.snd.fst ≤ Go.IntKind.wrap Go.IntKind.i64 (x.snd.fst + 1)) then
  Option.bind (f45 x.snd.snd.snd.snd.fst x.snd.snd.snd.snd.snd.fst 4 x.snd.snd.snd.snd.snd.snd.fst x.fst x.snd.fst (Go.IntKind.wrap Go.IntKind.i64 (7 + x.snd.snd.snd.fst))) fun y0 =>
   bif Decidable.decide (y0.fst < 0) then
    some (Sum.inl (x.fst, x.snd.fst, x.snd.snd.fst, x.snd.snd.snd.snd.fst, x.snd.snd.snd.snd.snd.fst, x.snd.snd.snd.snd.snd.snd.snd.fst, ()))
   else
    bif inRange y0.fst (List.length x.snd.snd.snd.snd.snd.snd.fst) then
     Option.bind (f41 x.fst x.snd.fst (Go.IntKind.wrap Go.IntKind.i64 (16 + x.snd.snd.snd.fst)) 1 (minI (Go.IntKind.wrap Go.IntKind.i64 (x.snd.fst + 1)) 3)) fun y1 =>
      Option.bind (f11 (Go.IntKind.wrap Go.IntKind.i64 (2 + y1.fst))) fun y2 =>
       bif Decidable.decide (List.length x.snd.snd.snd.snd.snd.snd.snd.fst + 1 ≤ limit 88) then
        rec (x.fst, x.snd.fst, x.snd.snd.fst, Go.IntKind.wrap Go.IntKind.i64 (x.snd.snd.snd.fst + 1), x.snd.snd.snd.snd.fst, x.snd.snd.snd.snd.snd.fst, List.set x.snd.snd.snd.snd.snd.snd.fst (Int.toNat y0.fst) Bool.true, x.snd.snd.snd.snd.snd.snd.snd.fst ++ [(y2.fst, y2.snd.fst, y2.snd.snd.fst, Int.tmod y0.fst 24, Go.IntKind.wrap Go.IntKind.i64 (Int.tdiv y0.fst 24), y2.snd.snd.snd.snd.snd.fst, y2.snd.snd.snd.snd.snd.snd.fst, y2.snd.snd.snd.snd.snd.snd.snd.fst, y2.snd.snd.snd.snd.snd.snd.snd.snd.fst, y2.snd.snd.snd.snd.snd.snd.snd.snd.snd.fst, y2.snd.snd.snd.snd.snd.snd.snd.snd.snd.snd.fst)], ())
       else
        none
    else
     none
 else
  some (Sum.inl (x.fst, x.snd.fst, x.snd.snd.fst, x.snd.snd.snd.snd.fst, x.snd.snd.snd.snd.snd.fst, x.snd.snd.snd.snd.snd.snd.snd.fst, ()))
 ) (100000000000000000000) (x)
def f25.L6 (x : Int × Int × Bool × Int × List Int × List (Int × Int × Int × Int × Int × Int × Int × Int × Int × Int × Int) × List (Int × Int × Int × Int) × Unit) : Option (List Int × List (Int × Int × Int × Int × Int × Int × Int × Int × Int × Int × Int) × List (Int × Int × Int × Int) × Unit ⊕ List Int × List (Int × Int × Int × Int × Int × Int × Int × Int × Int × Int × Int) × List (Int × Int × Int × Int) × Unit) :=
 it (X := Int × Int × Bool × Int × List Int × List (Int × Int × Int × Int × Int × Int × Int × Int × Int × Int × Int) × List (Int × Int × Int × Int) × Unit) (fun rec x =>
 bif Decidable.decide (x.snd.snd.snd.fst < 3) then
  bif x.snd.snd.fst then
   Option.bind (f41 x.fst x.snd.fst (Go.IntKind.wrap Go.IntKind.i64 (50 + x.snd.snd.snd.fst)) 1 3) fun y0 =>
    bif Decidable.decide (List.length x.snd.snd.snd.snd.snd.snd.fst + 1 ≤ limit 32) then
     rec (x.fst, x.snd.fst, x.snd.snd.fst, Go.IntKind.wrap Go.IntKind.i64 (x.snd.snd.snd.fst + 1), x.snd.snd.snd.snd.fst, x.snd.snd.snd.snd.snd.fst, x.snd.snd.snd.snd.snd.snd.fst ++ [(Go.IntKind.wrap Go.IntKind.i64 (1 + y0.fst), 4, x.snd.snd.snd.fst, 0)], ())
    else
     none
  else
   some (Sum.inl (x.snd.snd.snd.snd.fst, x.snd.snd.snd.snd.snd.fst, x.snd.snd.snd.snd.snd.snd.fst, ()))
 else
  some (Sum.inl (x.snd.snd.snd.snd.fst, x.snd.snd.snd.snd.snd.fst, x.snd.snd.snd.snd.snd.snd.fst, ()))
 ) (100000000000000000000) (x)
def f25.L7 (x : Int × Int × Bool × Int × List Int × List Int × List Bool × List (Int × Int × Int × Int × Int × Int × Int × Int × Int × Int × Int) × List (Int × Int × Int × Int) × Unit) : Option (List Int × List (Int × Int × Int × Int × Int × Int × Int × Int × Int × Int × Int) × List (Int × Int × Int × Int) × Unit) :=
 it (X := Int × Int × Bool × Int × List Int × List Int × List Bool × List (Int × Int × Int × Int × Int × Int × Int × Int × Int × Int × Int) × List (Int × Int × Int × Int) × Unit) (fun rec x =>
 bif Decidable.decide (x.snd.snd.snd.fst < 4) then
  Option.bind (f45 x.snd.snd.snd.snd.fst x.snd.snd.snd.snd.snd.fst 0 x.snd.snd.snd.snd.snd.snd.fst x.fst x.snd.fst (Go.IntKind.wrap Go.IntKind.i64 (40 + x.snd.snd.snd.fst))) fun y0 =>
   bif Decidable.decide (y0.fst < 0) then
    rec (x.fst, x.snd.fst, x.snd.snd.fst, Go.IntKind.wrap Go.IntKind.i64 (x.snd.snd.snd.fst + 1), x.snd.snd.snd.snd.fst, x.snd.snd.snd.snd.snd.fst, x.snd.snd.snd.snd.snd.snd.fst, x.snd.snd.snd.snd.snd.snd.snd.fst, x.snd.snd.snd.snd.snd.snd.snd.snd.fst, ())
   else
    bif inRange y0.fst (List.length x.snd.snd.snd.snd.snd.snd.fst) then
     Option.bind (f41 x.fst x.snd.fst (Go.IntKind.wrap Go.IntKind.i64 (40 + x.snd.snd.snd.fst)) 1 4) fun y1 =>
      bif Decidable.decide (List.length x.snd.snd.snd.snd.snd.snd.snd.snd.fst + 1 ≤ limit 32) then
       rec (x.fst, x.snd.fst, x.snd.snd.fst, Go.IntKind.wrap Go.IntKind.i64 (x.snd.snd.snd.fst + 1), x.snd.snd.snd.snd.fst, x.snd.snd.snd.snd.snd.fst, List.set x.snd.snd.snd.snd.snd.snd.fst (Int.toNat y0.fst) Bool.true, x.snd.snd.snd.snd.snd.snd.snd.fst, x.snd.snd.snd.snd.snd.snd.snd.snd.fst ++ [(Go.IntKind.wrap Go.IntKind.i64 (1 + y1.fst), 1, Int.tmod y0.fst 24, Go.IntKind.wrap Go.IntKind.i64 (Int.tdiv y0.fst 24))], ())
      else
       none
    else
     none
 else
  Option.bind (α := List Int × List (Int × Int × Int × Int × Int × Int × Int × Int × Int × Int × Int) × List (Int × Int × Int × Int) × Unit ⊕ List Int × List (Int × Int × Int × Int × Int × Int × Int × Int × Int × Int × Int) × List (Int × Int × Int × Int) × Unit) (
   f25.L6 ((x.fst, x.snd.fst, x.snd.snd.fst, 0, x.snd.snd.snd.snd.fst, x.snd.snd.snd.snd.snd.snd.snd.fst, x.snd.snd.snd.snd.snd.snd.snd.snd.fst, ()))
  ) fun y2 =>
   Sum.elim (fun y3 =>
    some ((y3.fst, y3.snd.fst, y3.snd.snd.fst, ()))
   ) (fun z4 =>
    some (z4)
   ) (y2)
 ) (100000000000000000000) (x)
def f25.L8 (x : Int × Int × Int × Int × List Int × List Int × Unit) : Option (List Int × List (Int × Int × Int × Int × Int × Int × Int × Int × Int × Int × Int) × List (Int × Int × Int × Int) × Unit) :=
 it (X := Int × Int × Int × Int × List Int × List Int × Unit) (fun rec x =>
 bif Decidable.decide (x.snd.snd.snd.fst < 384) then
  bif inRange x.snd.snd.snd.fst (List.length x.snd.snd.snd.snd.snd.fst) then
   bif inRange x.snd.snd.fst (List.length x.snd.snd.snd.snd.snd.fst) then
    bif Decidable.decide (List.getD x.snd.snd.snd.snd.snd.fst (Int.toNat x.snd.snd.snd.fst) 0 > List.getD x.snd.snd.snd.snd.snd.fst (Int.toNat x.snd.snd.fst) 0) then
     rec (x.fst, x.snd.fst, x.snd.snd.snd.fst, Go.IntKind.wrap Go.IntKind.i64 (x.snd.snd.snd.fst + 1), x.snd.snd.snd.snd.fst, x.snd.snd.snd.snd.snd.fst, ())
    else
     rec (x.fst, x.snd.fst, x.snd.snd.fst, Go.IntKind.wrap Go.IntKind.i64 (x.snd.snd.snd.fst + 1), x.snd.snd.snd.snd.fst, x.snd.snd.snd.snd.snd.fst, ())
   else
    none
  else
   none
 else
  bif inRange x.snd.snd.fst (List.length x.snd.snd.snd.snd.fst) then
   Option.bind (α := Int × Int × Bool × List Int × List Int × Unit ⊕ List Int × List (Int × Int × Int × Int × Int × Int × Int × Int × Int × Int × Int) × List (Int × Int × Int × Int) × Unit) (
    Option.bind (f41 x.fst x.snd.fst 6 0 2) fun y0 =>
     bif y0.fst == 0 then
      f25.L4 ((x.fst, x.snd.fst, x.snd.snd.fst, Bool.false, 0, List.set x.snd.snd.snd.snd.fst (Int.toNat x.snd.snd.fst) 4, x.snd.snd.snd.snd.snd.fst, ()))
     else
      some (Sum.inl (x.fst, x.snd.fst, Bool.false, List.set x.snd.snd.snd.snd.fst (Int.toNat x.snd.snd.fst) 4, x.snd.snd.snd.snd.snd.fst, ()))
   ) fun y1 =>
    Sum.elim (fun y2 =>
     Option.bind (α := Int × Int × Bool × List Int × List Int × List (Int × Int × Int × Int × Int × Int × Int × Int × Int × Int × Int) × Unit ⊕ List Int × List (Int × Int × Int × Int × Int × Int × Int × Int × Int × Int × Int) × List (Int × Int × Int × Int) × Unit) (
      f25.L5 ((y2.fst, y2.snd.fst, y2.snd.snd.fst, 0, y2.snd.snd.snd.fst, y2.snd.snd.snd.snd.fst, List.replicate 384 Bool.false, [], ()))
     ) fun y3 =>
      Sum.elim (fun y4 =>
       f25.L7 ((y4.fst, y4.snd.fst, y4.snd.snd.fst, 0, y4.snd.snd.snd.fst, y4.snd.snd.snd.snd.fst, List.replicate 384 Bool.false, y4.snd.snd.snd.snd.snd.fst, [], ()))
      ) (fun z5 =>
       some (z5)
      ) (y3)
    ) (fun z6 =>
     some (z6)
    ) (y1)
  else
   none
 ) (100000000000000000000) (x)
def f25.L9 (x : Int × Int × Int × List Int × Int × Int × Int × Int × Int × Int × Int × Int × Int × Int × Int × Int × Unit) : Option (List Int × List (Int × Int × Int × Int × Int × Int × Int × Int × Int × Int × Int) × List (Int × Int × Int × Int) × Unit) :=
 it (X := Int × Int × Int × List Int × Int × Int × Int × Int × Int × Int × Int × Int × Int × Int × Int × Int × Unit) (fun rec x =>
 bif Decidable.decide (x.snd.snd.fst < 6) then
  bif inRange (Go.IntKind.wrap Go.IntKind.i64 (x.snd.snd.fst - 1)) 6 then
   bif inRange (Go.IntKind.wrap Go.IntKind.i64 (x.snd.snd.fst - 1)) 6 then
    Option.bind (f42 (List.getD [x.snd.snd.snd.snd.fst, x.snd.snd.snd.snd.snd.fst, x.snd.snd.snd.snd.snd.snd.fst, x.snd.snd.snd.snd.snd.snd.snd.fst, x.snd.snd.snd.snd.snd.snd.snd.snd.fst, x.snd.snd.snd.snd.snd.snd.snd.snd.snd.fst] (Int.toNat (Go.IntKind.wrap Go.IntKind.i64 (x.snd.snd.fst - 1))) 0) (List.getD [x.snd.snd.snd.snd.snd.snd.snd.snd.snd.snd.fst, x.snd.snd.snd.snd.snd.snd.snd.snd.snd.snd.snd.fst, x.snd.snd.snd.snd.snd.snd.snd.snd.snd.snd.snd.snd.fst, x.snd.snd.snd.snd.snd.snd.snd.snd.snd.snd.snd.snd.snd.fst, x.snd.snd.snd.snd.snd.snd.snd.snd.snd.snd.snd.snd.snd.snd.fst, x.snd.snd.snd.snd.snd.snd.snd.snd.snd.snd.snd.snd.snd.snd.snd.fst] (Int.toNat (Go.IntKind.wrap Go.IntKind.i64 (x.snd.snd.fst - 1))) 0) Bool.false x.snd.snd.snd.fst) fun y0 =>
     Option.bind (f41 x.fst x.snd.fst x.snd.snd.fst 4 2) fun y1 =>
      f25.L3 rec ((x.fst, x.snd.fst, x.snd.snd.fst, List.getD [x.snd.snd.snd.snd.fst, x.snd.snd.snd.snd.snd.fst, x.snd.snd.snd.snd.snd.snd.fst, x.snd.snd.snd.snd.snd.snd.snd.fst, x.snd.snd.snd.snd.snd.snd.snd.snd.fst, x.snd.snd.snd.snd.snd.snd.snd.snd.snd.fst] (Int.toNat (Go.IntKind.wrap Go.IntKind.i64 (x.snd.snd.fst - 1))) 0, List.getD [x.snd.snd.snd.snd.snd.snd.snd.snd.snd.snd.fst, x.snd.snd.snd.snd.snd.snd.snd.snd.snd.snd.snd.fst, x.snd.snd.snd.snd.snd.snd.snd.snd.snd.snd.snd.snd.fst, x.snd.snd.snd.snd.snd.snd.snd.snd.snd.snd.snd.snd.snd.fst, x.snd.snd.snd.snd.snd.snd.snd.snd.snd.snd.snd.snd.snd.snd.fst, x.snd.snd.snd.snd.snd.snd.snd.snd.snd.snd.snd.snd.snd.snd.snd.fst] (Int.toNat (Go.IntKind.wrap Go.IntKind.i64 (x.snd.snd.fst - 1))) 0, y0.fst, y1.fst == 0, y0.snd.fst, x.snd.snd.snd.snd.fst, x.snd.snd.snd.snd.snd.fst, x.snd.snd.snd.snd.snd.snd.fst, x.snd.snd.snd.snd.snd.snd.snd.fst, x.snd.snd.snd.snd.snd.snd.snd.snd.fst, x.snd.snd.snd.snd.snd.snd.snd.snd.snd.fst, x.snd.snd.snd.snd.snd.snd.snd.snd.snd.snd.fst, x.snd.snd.snd.snd.snd.snd.snd.snd.snd.snd.snd.fst, x.snd.snd.snd.snd.snd.snd.snd.snd.snd.snd.snd.snd.fst, x.snd.snd.snd.snd.snd.snd.snd.snd.snd.snd.snd.snd.snd.fst, x.snd.snd.snd.snd.snd.snd.snd.snd.snd.snd.snd.snd.snd.snd.fst, x.snd.snd.snd.snd.snd.snd.snd.snd.snd.snd.snd.snd.snd.snd.snd.fst, ()))
   else
    none
  else
   none
 else
  bif inRange (Go.IntKind.wrap Go.IntKind.i64 (Go.IntKind.wrap Go.IntKind.i64 (x.snd.snd.snd.snd.snd.snd.snd.snd.snd.snd.fst * 24) + x.snd.snd.snd.snd.fst)) (List.length x.snd.snd.snd.fst) then
   Option.bind (f44 (List.set x.snd.snd.snd.fst (Int.toNat (Go.IntKind.wrap Go.IntKind.i64 (Go.IntKind.wrap Go.IntKind.i64 (x.snd.snd.snd.snd.snd.snd.snd.snd.snd.snd.fst * 24) + x.snd.snd.snd.snd.fst))) 3) [] [Go.IntKind.wrap Go.IntKind.i64 (Go.IntKind.wrap Go.IntKind.i64 (x.snd.snd.snd.snd.snd.snd.snd.snd.snd.snd.fst * 24) + x.snd.snd.snd.snd.fst)]) fun y2 =>
    f25.L8 ((x.fst, x.snd.fst, Go.IntKind.wrap Go.IntKind.i64 (Go.IntKind.wrap Go.IntKind.i64 (x.snd.snd.snd.snd.snd.snd.snd.snd.snd.snd.fst * 24) + x.snd.snd.snd.snd.fst), 0, List.set x.snd.snd.snd.fst (Int.toNat (Go.IntKind.wrap Go.IntKind.i64 (Go.IntKind.wrap Go.IntKind.i64 (x.snd.snd.snd.snd.snd.snd.snd.snd.snd.snd.fst * 24) + x.snd.snd.snd.snd.fst))) 3, y2.fst, ()))
  else
   none
 ) (100000000000000000000) (x)
def f25.L10 (x : Int × Int × Int × List Int × Int × Int × Int × Int × Int × Int × Int × Int × Int × Int × Int × Int × Unit) : Option (List Int × List (Int × Int × Int × Int × Int × Int × Int × Int × Int × Int × Int) × List (Int × Int × Int × Int) × Unit) :=
 it (X := Int × Int × Int × List Int × Int × Int × Int × Int × Int × Int × Int × Int × Int × Int × Int × Int × Unit) (fun rec x =>
 bif Decidable.decide (x.snd.snd.fst < 6) then
  Option.bind (f41 x.fst x.snd.fst x.snd.snd.fst 0 5) fun y0 =>
   Option.bind (f41 x.fst x.snd.fst x.snd.snd.fst 1 4) fun y1 =>
    Option.bind (f41 x.fst x.snd.fst x.snd.snd.fst 2 (Go.IntKind.wrap Go.IntKind.i64 (23 - Go.IntKind.wrap Go.IntKind.i64 (3 + y0.fst)))) fun y2 =>
     Option.bind (f41 x.fst x.snd.fst x.snd.snd.fst 3 (Go.IntKind.wrap Go.IntKind.i64 (15 - Go.IntKind.wrap Go.IntKind.i64 (2 + y1.fst)))) fun y3 =>
      f25.L2 rec ((x.fst, x.snd.fst, x.snd.snd.fst, Go.IntKind.wrap Go.IntKind.i64 (3 + y0.fst), Go.IntKind.wrap Go.IntKind.i64 (2 + y1.fst), Go.IntKind.wrap Go.IntKind.i64 (1 + y2.fst), Go.IntKind.wrap Go.IntKind.i64 (1 + y3.fst), Go.IntKind.wrap Go.IntKind.i64 (1 + y3.fst), x.snd.snd.snd.fst, x.snd.snd.snd.snd.fst, x.snd.snd.snd.snd.snd.fst, x.snd.snd.snd.snd.snd.snd.fst, x.snd.snd.snd.snd.snd.snd.snd.fst, x.snd.snd.snd.snd.snd.snd.snd.snd.fst, x.snd.snd.snd.snd.snd.snd.snd.snd.snd.fst, x.snd.snd.snd.snd.snd.snd.snd.snd.snd.snd.fst, x.snd.snd.snd.snd.snd.snd.snd.snd.snd.snd.snd.fst, x.snd.snd.snd.snd.snd.snd.snd.snd.snd.snd.snd.snd.fst, x.snd.snd.snd.snd.snd.snd.snd.snd.snd.snd.snd.snd.snd.fst, x.snd.snd.snd.snd.snd.snd.snd.snd.snd.snd.snd.snd.snd.snd.fst, x.snd.snd.snd.snd.snd.snd.snd.snd.snd.snd.snd.snd.snd.snd.snd.fst, ()))
 else
  f25.L9 ((x.fst, x.snd.fst, 1, x.snd.snd.snd.fst, x.snd.snd.snd.snd.fst, x.snd.snd.snd.snd.snd.fst, x.snd.snd.snd.snd.snd.snd.fst, x.snd.snd.snd.snd.snd.snd.snd.fst, x.snd.snd.snd.snd.snd.snd.snd.snd.fst, x.snd.snd.snd.snd.snd.snd.snd.snd.snd.fst, x.snd.snd.snd.snd.snd.snd.snd.snd.snd.snd.fst, x.snd.snd.snd.snd.snd.snd.snd.snd.snd.snd.snd.fst, x.snd.snd.snd.snd.snd.snd.snd.snd.snd.snd.snd.snd.fst, x.snd.snd.snd.snd.snd.snd.snd.snd.snd.snd.snd.snd.snd.fst, x.snd.snd.snd.snd.snd.snd.snd.snd.snd.snd.snd.snd.snd.snd.fst, x.snd.snd.snd.snd.snd.snd.snd.snd.snd.snd.snd.snd.snd.snd.snd.fst, ()))
 ) (100000000000000000000) (x)
def f25 (a0 : Int) (a1 : Int) : Option (List Int × List (Int × Int × Int × Int × Int × Int × Int × Int × Int × Int × Int) × List (Int × Int × Int × Int) × Unit) :=
 f25.L10 ((a0, a1, 0, List.replicate 384 0, 0, 0, 0, 0, 0, 0, 0, 0, 0, 0, 0, 0, ()))
def f25.ins : Shape := ⟨[(0, .c (.int .i64)), (1, .c (.int .i64))], []⟩
def f25.outs : List Shape := [⟨[(0, .agg [.own 0, .own 1, .own 2])], [(0, .arr (.int .u8)), (1, .arr (.prod (.int .i64) (.prod (.int .i64) (.prod (.int .i64) (.prod (.int .i64) (.prod (.int .i64) (.prod (.int .i64) (.prod (.int .i64) (.prod (.int .i64) (.prod (.int .i64) (.prod (.int .i64) (.int .i64)))))))))))), (2, .arr (.prod (.int .i64) (.prod (.int .i64) (.prod (.int .i64) (.int .i64)))))]⟩]
def f25.S : FnSpec := ⟨f25.ins, f25.outs, [], fun x => f25 x.1 x.2.1⟩
def f25.E (fuel : Nat) : Env := ⟨tis, [(41, f41.S), (42, f42.S), (43, f43.S), (44, f44.S), (45, f45.S), (11, f11.S)], [], [(24, ⟨[(0, .c (.int .i64)), (1, .c (.int .i64)), (4, .c (.ptr 0 0)), (5, .c (.own 1)), (6, .c (.ptr 2 0)), (7, .c (.ptr 3 0)), (15, .c (.int .i64)), (16, .c (.int .i64)), (17, .c (.int .i64)), (18, .c (.bool)), (19, .c (.bool))], [(0, .box [.nils, .nils, .nils]), (1, .arr (.int .u8)), (2, .box [.int .i64, .int .i64, .int .i64, .int .i64, .int .i64, .int .i64]), (3, .box [.int .i64, .int .i64, .int .i64, .int .i64, .int .i64, .int .i64])]⟩), (27, ⟨[(0, .c (.int .i64)), (1, .c (.int .i64)), (4, .c (.ptr 0 0)), (5, .c (.own 1)), (6, .c (.ptr 2 0)), (7, .c (.ptr 3 0)), (15, .c (.int .i64)), (16, .c (.int .i64)), (17, .c (.int .i64)), (18, .c (.bool)), (19, .c (.bool))], [(0, .box [.nils, .nils, .nils]), (1, .arr (.int .u8)), (2, .box [.int .i64, .int .i64, .int .i64, .int .i64, .int .i64, .int .i64]), (3, .box [.int .i64, .int .i64, .int .i64, .int .i64, .int .i64, .int .i64])]⟩), (46, ⟨[(0, .c (.int .i64)), (1, .c (.int .i64)), (4, .c (.ptr 0 0)), (5, .c (.own 1)), (21, .c (.own 2)), (24, .c (.bool))], [(0, .box [.nils, .nils, .nils]), (1, .arr (.int .u8)), (2, .arr (.int .i64))]⟩), (57, ⟨[(0, .c (.int .i64)), (1, .c (.int .i64)), (4, .c (.ptr 0 0)), (5, .c (.own 1)), (21, .c (.own 2)), (24, .c (.bool)), (26, .c (.ptr 3 0))], [(0, .box [.nils, .nils, .nils]), (1, .arr (.int .u8)), (2, .arr (.int .i64)), (3, .box [.own 1, .own 4, .nils]), (4, .arr (.prod (.int .i64) (.prod (.int .i64) (.prod (.int .i64) (.prod (.int .i64) (.prod (.int .i64) (.prod (.int .i64) (.prod (.int .i64) (.prod (.int .i64) (.prod (.int .i64) (.prod (.int .i64) (.int .i64))))))))))))]⟩), (69, ⟨[(4, .c (.ptr 0 0)), (26, .c (.ptr 1 0))], [(0, .box [.nils, .nils, .nils]), (1, .box [.own 2, .own 3, .own 4]), (2, .arr (.int .u8)), (3, .arr (.prod (.int .i64) (.prod (.int .i64) (.prod (.int .i64) (.prod (.int .i64) (.prod (.int .i64) (.prod (.int .i64) (.prod (.int .i64) (.prod (.int .i64) (.prod (.int .i64) (.prod (.int .i64) (.int .i64)))))))))))), (4, .arr (.prod (.int .i64) (.prod (.int .i64) (.prod (.int .i64) (.int .i64)))))]⟩)], [(5, ⟨[(0, .c (.int .i64)), (1, .c (.int .i64)), (4, .c (.ptr 0 0)), (5, .c (.own 1)), (6, .c (.ptr 2 0)), (7, .c (.ptr 3 0)), (8, .c (.int .i64))], [(0, .box [.nils, .nils, .nils]), (1, .arr (.int .u8)), (2, .box [.int .i64, .int .i64, .int .i64, .int .i64, .int .i64, .int .i64]), (3, .box [.int .i64, .int .i64, .int .i64, .int .i64, .int .i64, .int .i64])]⟩), (10, ⟨[(0, .c (.int .i64)), (1, .c (.int .i64)), (4, .c (.ptr 0 0)), (5, .c (.own 1)), (6, .c (.ptr 2 0)), (7, .c (.ptr 3 0)), (8, .c (.int .i64)), (9, .c (.int .i64)), (10, .c (.int .i64)), (11, .c (.int .i64)), (12, .c (.int .i64)), (13, .c (.int .i64))], [(0, .box [.nils, .nils, .nils]), (1, .arr (.int .u8)), (2, .box [.int .i64, .int .i64, .int .i64, .int .i64, .int .i64, .int .i64]), (3, .box [.int .i64, .int .i64, .int .i64, .int .i64, .int .i64, .int .i64])]⟩), (13, ⟨[(0, .c (.int .i64)), (1, .c (.int .i64)), (4, .c (.ptr 0 0)), (5, .c (.own 1)), (6, .c (.ptr 2 0)), (7, .c (.ptr 3 0)), (8, .c (.int .i64)), (9, .c (.int .i64)), (10, .c (.int .i64)), (11, .c (.int .i64)), (12, .c (.int .i64)), (13, .c (.int .i64)), (14, .c (.int .i64))], [(0, .box [.nils, .nils, .nils]), (1, .arr (.int .u8)), (2, .box [.int .i64, .int .i64, .int .i64, .int .i64, .int .i64, .int .i64]), (3, .box [.int .i64, .int .i64, .int .i64, .int .i64, .int .i64, .int .i64])]⟩), (18, ⟨[(0, .c (.int .i64)), (1, .c (.int .i64)), (4, .c (.ptr 0 0)), (5, .c (.own 1)), (6, .c (.ptr 2 0)), (7, .c (.ptr 3 0)), (15, .c (.int .i64))], [(0, .box [.nils, .nils, .nils]), (1, .arr (.int .u8)), (2, .box [.int .i64, .int .i64, .int .i64, .int .i64, .int .i64, .int .i64]), (3, .box [.int .i64, .int .i64, .int .i64, .int .i64, .int .i64, .int .i64])]⟩), (23, ⟨[(0, .c (.int .i64)), (1, .c (.int .i64)), (4, .c (.ptr 0 0)), (5, .c (.own 1)), (6, .c (.ptr 2 0)), (7, .c (.ptr 3 0)), (15, .c (.int .i64)), (16, .c (.int .i64)), (17, .c (.int .i64)), (18, .c (.bool)), (19, .c (.bool))], [(0, .box [.nils, .nils, .nils]), (1, .arr (.int .u8)), (2, .box [.int .i64, .int .i64, .int .i64, .int .i64, .int .i64, .int .i64]), (3, .box [.int .i64, .int .i64, .int .i64, .int .i64, .int .i64, .int .i64])]⟩), (33, ⟨[(0, .c (.int .i64)), (1, .c (.int .i64)), (4, .c (.ptr 0 0)), (5, .c (.own 1)), (21, .c (.own 2)), (22, .c (.int .i64)), (23, .c (.int .i64))], [(0, .box [.nils, .nils, .nils]), (1, .arr (.int .u8)), (2, .arr (.int .i64))]⟩), (41, ⟨[(0, .c (.int .i64)), (1, .c (.int .i64)), (4, .c (.ptr 0 0)), (5, .c (.own 1)), (21, .c (.own 2)), (22, .c (.int .i64)), (24, .c (.bool)), (25, .c (.int .i64))], [(0, .box [.nils, .nils, .nils]), (1, .arr (.int .u8)), (2, .arr (.int .i64))]⟩), (49, ⟨[(0, .c (.int .i64)), (1, .c (.int .i64)), (4, .c (.ptr 0 0)), (5, .c (.own 1)), (21, .c (.own 2)), (24, .c (.bool)), (26, .c (.ptr 3 0)), (27, .c (.own 4)), (28, .c (.int .i64))], [(0, .box [.nils, .nils, .nils]), (1, .arr (.int .u8)), (2, .arr (.int .i64)), (3, .box [.own 1, .own 5, .nils]), (4, .arr .bool), (5, .arr (.prod (.int .i64) (.prod (.int .i64) (.prod (.int .i64) (.prod (.int .i64) (.prod (.int .i64) (.prod (.int .i64) (.prod (.int .i64) (.prod (.int .i64) (.prod (.int .i64) (.prod (.int .i64) (.int .i64))))))))))))]⟩), (59, ⟨[(0, .c (.int .i64)), (1, .c (.int .i64)), (4, .c (.ptr 0 0)), (5, .c (.own 1)), (21, .c (.own 2)), (24, .c (.bool)), (26, .c (.ptr 3 0)), (27, .c (.own 4)), (31, .c (.int .i64))], [(0, .box [.nils, .nils, .nils]), (1, .arr (.int .u8)), (2, .arr (.int .i64)), (3, .box [.own 1, .own 5, .own 6]), (4, .arr .bool), (5, .arr (.prod (.int .i64) (.prod (.int .i64) (.prod (.int .i64) (.prod (.int .i64) (.prod (.int .i64) (.prod (.int .i64) (.prod (.int .i64) (.prod (.int .i64) (.prod (.int .i64) (.prod (.int .i64) (.int .i64)))))))))))), (6, .arr (.prod (.int .i64) (.prod (.int .i64) (.prod (.int .i64) (.int .i64)))))]⟩), (66, ⟨[(0, .c (.int .i64)), (1, .c (.int .i64)), (4, .c (.ptr 0 0)), (24, .c (.bool)), (26, .c (.ptr 1 0)), (33, .c (.int .i64))], [(0, .box [.nils, .nils, .nils]), (1, .box [.own 2, .own 3, .own 4]), (2, .arr (.int .u8)), (3, .arr (.prod (.int .i64) (.prod (.int .i64) (.prod (.int .i64) (.prod (.int .i64) (.prod (.int .i64) (.prod (.int .i64) (.prod (.int .i64) (.prod (.int .i64) (.prod (.int .i64) (.prod (.int .i64) (.int .i64)))))))))))), (4, .arr (.prod (.int .i64) (.prod (.int .i64) (.prod (.int .i64) (.int .i64)))))]⟩)], [], 0, [], fuel⟩
theorem f25.run : ∀ x, runFn (f25.E 100000000000000000000) Go.Proofs.Try.f25 ((Go.Proofs.Try.f25.body).getD .skip) f25.S x = f25.S.f x := by intro x; kernel_rfl
theorem f25.sound : Sound Go.Proofs.Try.prog 25 f25.S := sound_of_run (fun _ => f25.E 100000000000000000000) (by kernel_rfl) (by kernel_rfl) (by kernel_rfl) orders (fun _ => ⟨tis_ok, EqsOk.nil _, (FnsOk.cons f41.sound (FnsOk.cons f42.sound (FnsOk.cons f43.sound (FnsOk.cons f44.sound (FnsOk.cons f45.sound (FnsOk.cons f11.sound FnsOk.nil))))))⟩) (fun _ => rfl) (by kernel_rfl) (by kernel_rfl) (fun x r h => (f25.run x).trans h)
/-! f27: adit/aditref3.Find -/
def f27.L1 (x : List Int × Int × Int × Unit) : Option (Int × Unit) :=
 it (X := List Int × Int × Int × Unit) (fun rec x =>
 bif Decidable.decide (x.snd.snd.fst < (↑(List.length x.fst) : Int)) then
  bif Decidable.decide (x.snd.snd.fst < 384) then
   bif inRange x.snd.snd.fst (List.length x.fst) then
    bif Go.IntKind.wrap Go.IntKind.i64 (List.getD x.fst (Int.toNat x.snd.snd.fst) 0) == x.snd.fst then
     some ((x.snd.snd.fst, ()))
    else
     rec (x.fst, x.snd.fst, Go.IntKind.wrap Go.IntKind.i64 (x.snd.snd.fst + 1), ())
   else
    none
  else
   some ((-1, ()))
 else
  some ((-1, ()))
 ) (100000000000000000000) (x)
def f27 (a0 : List Int) (a1 : Int) : Option (Int × Unit) :=
 f27.L1 ((a0, a1, 0, ()))
def f27.ins : Shape := ⟨[(0, .c (.row (.int .u8))), (1, .c (.int .i64))], []⟩
def f27.outs : List Shape := [⟨[(0, .c (.int .i64))], []⟩]
def f27.S : FnSpec := ⟨f27.ins, f27.outs, [], fun x => f27 x.1 x.2.1⟩
def f27.E (fuel : Nat) : Env := ⟨tis, [], [], [], [(3, ⟨[(0, .c (.row (.int .u8))), (1, .c (.int .i64)), (5, .c (.int .i64))], []⟩)], [], 0, [], fuel⟩
theorem f27.run : ∀ x, runFn (f27.E 100000000000000000000) Go.Proofs.Try.f27 ((Go.Proofs.Try.f27.body).getD .skip) f27.S x = f27.S.f x := by intro x; kernel_rfl
theorem f27.sound : Sound Go.Proofs.Try.prog 27 f27.S := sound_of_run (fun _ => f27.E 100000000000000000000) (by kernel_rfl) (by kernel_rfl) (by kernel_rfl) orders (fun _ => ⟨tis_ok, EqsOk.nil _, FnsOk.nil⟩) (fun _ => rfl) (by kernel_rfl) (by kernel_rfl) (fun x r h => (f27.run x).trans h)
/-! f28: adit/aditref7.In -/
def f28.L1 (x : List (Int × Int × Int × Int) × Int × Int × Int × Int × Unit) : Option (Int × Unit) :=
 it (X := List (Int × Int × Int × Int) × Int × Int × Int × Int × Unit) (fun rec x =>
 bif Decidable.decide (x.snd.snd.snd.snd.fst < (↑(List.length x.fst) : Int)) then
  bif inRange x.snd.snd.snd.snd.fst (List.length x.fst) then
   bif (List.getD x.fst (Int.toNat x.snd.snd.snd.snd.fst) (0, 0, 0, 0)).snd.fst == x.snd.fst then
    bif inRange x.snd.snd.snd.snd.fst (List.length x.fst) then
     bif (List.getD x.fst (Int.toNat x.snd.snd.snd.snd.fst) (0, 0, 0, 0)).snd.snd.fst == x.snd.snd.fst then
      bif inRange x.snd.snd.snd.snd.fst (List.length x.fst) then
       bif (List.getD x.fst (Int.toNat x.snd.snd.snd.snd.fst) (0, 0, 0, 0)).snd.snd.snd == x.snd.snd.snd.fst then
        some ((x.snd.snd.snd.snd.fst, ()))
       else
        rec (x.fst, x.snd.fst, x.snd.snd.fst, x.snd.snd.snd.fst, Go.IntKind.wrap Go.IntKind.i64 (x.snd.snd.snd.snd.fst + 1), ())
      else
       none
     else
      rec (x.fst, x.snd.fst, x.snd.snd.fst, x.snd.snd.snd.fst, Go.IntKind.wrap Go.IntKind.i64 (x.snd.snd.snd.snd.fst + 1), ())
    else
     none
   else
    rec (x.fst, x.snd.fst, x.snd.snd.fst, x.snd.snd.snd.fst, Go.IntKind.wrap Go.IntKind.i64 (x.snd.snd.snd.snd.fst + 1), ())
  else
   none
 else
  some ((-1, ()))
 ) (100000000000000000000) (x)
def f28 (a0 : List (Int × Int × Int × Int)) (a1 : Int) (a2 : Int) (a3 : Int) : Option (Int × Unit) :=
 f28.L1 ((a0, a1, a2, a3, 0, ()))
def f28.ins : Shape := ⟨[(0, .c (.row (.prod (.int .i64) (.prod (.int .i64) (.prod (.int .i64) (.int .i64)))))), (1, .c (.int .i64)), (2, .c (.int .i64)), (3, .c (.int .i64))], []⟩
def f28.outs : List Shape := [⟨[(0, .c (.int .i64))], []⟩]
def f28.S : FnSpec := ⟨f28.ins, f28.outs, [], fun x => f28 x.1 x.2.1 x.2.2.1 x.2.2.2.1⟩
def f28.E (fuel : Nat) : Env := ⟨tis, [], [], [], [(3, ⟨[(0, .c (.row (.prod (.int .i64) (.prod (.int .i64) (.prod (.int .i64) (.int .i64)))))), (1, .c (.int .i64)), (2, .c (.int .i64)), (3, .c (.int .i64)), (9, .c (.int .i64))], []⟩)], [], 0, [], fuel⟩
theorem f28.run : ∀ x, runFn (f28.E 100000000000000000000) Go.Proofs.Try.f28 ((Go.Proofs.Try.f28.body).getD .skip) f28.S x = f28.S.f x := by intro x; kernel_rfl
theorem f28.sound : Sound Go.Proofs.Try.prog 28 f28.S := sound_of_run (fun _ => f28.E 100000000000000000000) (by kernel_rfl) (by kernel_rfl) (by kernel_rfl) orders (fun _ => ⟨tis_ok, EqsOk.nil _, FnsOk.nil⟩) (fun _ => rfl) (by kernel_rfl) (by kernel_rfl) (fun x r h => (f28.run x).trans h)
/-! f8: adit/aditlaw7.World -/
def f8.L1 (x : Int × List (Int × Int × Int × Int) × Int × Int × Int × Int × Int × Int × Int × Int × Int × Int × Int × Int × Int × Int × Int × Int × Int × Int × List Int × List Int × List (Int × Int × Int × Int × Int × Int × Int × Int × Int × Int × Int) × List (Int × Int × Int × Int) × Unit) : Option (Int × Int × Int × Int × Int × Int × Int × Int × Int × Int × Int × Int × Int × Int × Int × Int × List Int × List (Int × Int × Int × Int × Int × Int × Int × Int × Int × Int × Int) × List (Int × Int × Int × Int) × Unit ⊕ Int × Int × Int × Int × Int × Int × Int × Int × List Int × List (Int × Int × Int × Int × Int × Int × Int × Int × Int × Int × Int) × List (Int × Int × Int × Int) × Unit) :=
 it (X := Int × List (Int × Int × Int × Int) × Int × Int × Int × Int × Int × Int × Int × Int × Int × Int × Int × Int × Int × Int × Int × Int × Int × Int × List Int × List Int × List (Int × Int × Int × Int × Int × Int × Int × Int × Int × Int × Int) × List (Int × Int × Int × Int) × Unit) (fun rec x =>
 bif Decidable.decide (x.snd.snd.snd.fst < (↑(List.length x.snd.fst) : Int)) then
  bif Decidable.decide (x.snd.snd.snd.fst < 20) then
   bif inRange x.snd.snd.snd.fst (List.length x.snd.fst) then
    Option.bind (f24 (List.getD x.snd.fst (Int.toNat x.snd.snd.snd.fst) (0, 0, 0, 0)).fst 4) fun y0 =>
     bif inRange x.snd.snd.snd.fst (List.length x.snd.fst) then
      Option.bind (f24 (List.getD x.snd.fst (Int.toNat x.snd.snd.snd.fst) (0, 0, 0, 0)).snd.fst 4) fun y1 =>
       Option.bind (α := Int × List (Int × Int × Int × Int) × Int × Int × Int × Int × Int × Int × Int × Int × Int × Int × Int × Int × Int × Int × Int × Int × Int × Int × List Int × Int × Int × Int × Int × List Int × List (Int × Int × Int × Int × Int × Int × Int × Int × Int × Int × Int) × List (Int × Int × Int × Int) × Unit ⊕ Int × Int × Int × Int × Int × Int × Int × Int × Int × Int × Int × Int × Int × Int × Int × Int × List Int × List (Int × Int × Int × Int × Int × Int × Int × Int × Int × Int × Int) × List (Int × Int × Int × Int) × Unit ⊕ Int × Int × Int × Int × Int × Int × Int × Int × List Int × List (Int × Int × Int × Int × Int × Int × Int × Int × Int × Int × Int) × List (Int × Int × Int × Int) × Unit) (
        bif Go.IntKind.wrap Go.IntKind.i64 (1 + y1.fst) == 1 then
         bif inRange x.snd.snd.snd.fst (List.length x.snd.fst) then
          Option.bind (f24 (List.getD x.snd.fst (Int.toNat x.snd.snd.snd.fst) (0, 0, 0, 0)).snd.snd.fst (↑(List.length x.snd.snd.snd.snd.snd.snd.snd.snd.snd.snd.snd.snd.snd.snd.snd.snd.snd.snd.snd.snd.fst) : Int)) fun y2 =>
           bif inRange y2.fst (List.length x.snd.snd.snd.snd.snd.snd.snd.snd.snd.snd.snd.snd.snd.snd.snd.snd.snd.snd.snd.snd.fst) then
            Option.bind (α := Int × List (Int × Int × Int × Int) × Int × Int × Int × Int × Int × Int × Int × Int × Int × Int × Int × Int × Int × Int × Int × Int × Int × Int × Int × List Int × Int × Int × Int × Int × List Int × List (Int × Int × Int × Int × Int × Int × Int × Int × Int × Int × Int) × List (Int × Int × Int × Int) × Unit ⊕ Int × List (Int × Int × Int × Int) × Int × Int × Int × Int × Int × Int × Int × Int × Int × Int × Int × Int × Int × Int × Int × Int × Int × Int × List Int × Int × Int × Int × Int × List Int × List (Int × Int × Int × Int × Int × Int × Int × Int × Int × Int × Int) × List (Int × Int × Int × Int) × Unit ⊕ Int × Int × Int × Int × Int × Int × Int × Int × Int × Int × Int × Int × Int × Int × Int × Int × List Int × List (Int × Int × Int × Int × Int × Int × Int × Int × Int × Int × Int) × List (Int × Int × Int × Int) × Unit ⊕ Int × Int × Int × Int × Int × Int × Int × Int × List Int × List (Int × Int × Int × Int × Int × Int × Int × Int × Int × Int × Int) × List (Int × Int × Int × Int) × Unit) (
             bif inRange x.snd.snd.snd.fst (List.length x.snd.fst) then
              bif Int.tmod (List.getD x.snd.fst (Int.toNat x.snd.snd.snd.fst) (0, 0, 0, 0)).snd.snd.snd 2 == 0 then
               some (Sum.inl (x.fst, x.snd.fst, x.snd.snd.fst, x.snd.snd.snd.fst, x.snd.snd.fst, x.snd.snd.snd.snd.fst, x.snd.snd.snd.snd.snd.fst, x.snd.snd.snd.snd.snd.snd.fst, x.snd.snd.snd.snd.snd.snd.snd.fst, x.snd.snd.snd.snd.snd.snd.snd.snd.fst, x.snd.snd.snd.snd.snd.snd.snd.snd.snd.fst, x.snd.snd.snd.snd.snd.snd.snd.snd.snd.snd.fst, x.snd.snd.snd.snd.snd.snd.snd.snd.snd.snd.snd.fst, x.snd.snd.snd.snd.snd.snd.snd.snd.snd.snd.snd.snd.fst, x.snd.snd.snd.snd.snd.snd.snd.snd.snd.snd.snd.snd.snd.fst, x.snd.snd.snd.snd.snd.snd.snd.snd.snd.snd.snd.snd.snd.snd.fst, x.snd.snd.snd.snd.snd.snd.snd.snd.snd.snd.snd.snd.snd.snd.snd.fst, x.snd.snd.snd.snd.snd.snd.snd.snd.snd.snd.snd.snd.snd.snd.snd.snd.fst, x.snd.snd.snd.snd.snd.snd.snd.snd.snd.snd.snd.snd.snd.snd.snd.snd.snd.fst, x.snd.snd.snd.snd.snd.snd.snd.snd.snd.snd.snd.snd.snd.snd.snd.snd.snd.snd.fst, x.snd.snd.snd.snd.snd.snd.snd.snd.snd.snd.snd.snd.snd.snd.snd.snd.snd.snd.snd.fst, x.snd.snd.snd.snd.snd.snd.snd.snd.snd.snd.snd.snd.snd.snd.snd.snd.snd.snd.snd.snd.fst, Go.IntKind.wrap Go.IntKind.i64 (1 + y0.fst), Go.IntKind.wrap Go.IntKind.i64 (1 + y1.fst), 0, 0, x.snd.snd.snd.snd.snd.snd.snd.snd.snd.snd.snd.snd.snd.snd.snd.snd.snd.snd.snd.snd.snd.fst, x.snd.snd.snd.snd.snd.snd.snd.snd.snd.snd.snd.snd.snd.snd.snd.snd.snd.snd.snd.snd.snd.snd.fst, x.snd.snd.snd.snd.snd.snd.snd.snd.snd.snd.snd.snd.snd.snd.snd.snd.snd.snd.snd.snd.snd.snd.snd.fst, ()))
              else
               some (Sum.inl (x.fst, x.snd.fst, x.snd.snd.fst, x.snd.snd.snd.fst, List.getD x.snd.snd.snd.snd.snd.snd.snd.snd.snd.snd.snd.snd.snd.snd.snd.snd.snd.snd.snd.snd.fst (Int.toNat y2.fst) 0, x.snd.snd.snd.snd.fst, x.snd.snd.snd.snd.snd.fst, x.snd.snd.snd.snd.snd.snd.fst, x.snd.snd.snd.snd.snd.snd.snd.fst, x.snd.snd.snd.snd.snd.snd.snd.snd.fst, x.snd.snd.snd.snd.snd.snd.snd.snd.snd.fst, x.snd.snd.snd.snd.snd.snd.snd.snd.snd.snd.fst, x.snd.snd.snd.snd.snd.snd.snd.snd.snd.snd.snd.fst, x.snd.snd.snd.snd.snd.snd.snd.snd.snd.snd.snd.snd.fst, x.snd.snd.snd.snd.snd.snd.snd.snd.snd.snd.snd.snd.snd.fst, x.snd.snd.snd.snd.snd.snd.snd.snd.snd.snd.snd.snd.snd.snd.fst, x.snd.snd.snd.snd.snd.snd.snd.snd.snd.snd.snd.snd.snd.snd.snd.fst, x.snd.snd.snd.snd.snd.snd.snd.snd.snd.snd.snd.snd.snd.snd.snd.snd.fst, x.snd.snd.snd.snd.snd.snd.snd.snd.snd.snd.snd.snd.snd.snd.snd.snd.snd.fst, x.snd.snd.snd.snd.snd.snd.snd.snd.snd.snd.snd.snd.snd.snd.snd.snd.snd.snd.fst, x.snd.snd.snd.snd.snd.snd.snd.snd.snd.snd.snd.snd.snd.snd.snd.snd.snd.snd.snd.fst, x.snd.snd.snd.snd.snd.snd.snd.snd.snd.snd.snd.snd.snd.snd.snd.snd.snd.snd.snd.snd.fst, Go.IntKind.wrap Go.IntKind.i64 (1 + y0.fst), Go.IntKind.wrap Go.IntKind.i64 (1 + y1.fst), 0, 0, x.snd.snd.snd.snd.snd.snd.snd.snd.snd.snd.snd.snd.snd.snd.snd.snd.snd.snd.snd.snd.snd.fst, x.snd.snd.snd.snd.snd.snd.snd.snd.snd.snd.snd.snd.snd.snd.snd.snd.snd.snd.snd.snd.snd.snd.fst, x.snd.snd.snd.snd.snd.snd.snd.snd.snd.snd.snd.snd.snd.snd.snd.snd.snd.snd.snd.snd.snd.snd.snd.fst, ()))
             else
              none
            ) fun y3 =>
             Sum.elim (fun y4 =>
              some (Sum.inl (y4.fst, y4.snd.fst, y4.snd.snd.fst, y4.snd.snd.snd.fst, y4.snd.snd.snd.snd.snd.fst, y4.snd.snd.snd.snd.snd.snd.fst, y4.snd.snd.snd.snd.snd.snd.snd.fst, y4.snd.snd.snd.snd.snd.snd.snd.snd.fst, y4.snd.snd.snd.snd.snd.snd.snd.snd.snd.fst, y4.snd.snd.snd.snd.snd.snd.snd.snd.snd.snd.fst, y4.snd.snd.snd.snd.snd.snd.snd.snd.snd.snd.snd.fst, y4.snd.snd.snd.snd.snd.snd.snd.snd.snd.snd.snd.snd.fst, y4.snd.snd.snd.snd.snd.snd.snd.snd.snd.snd.snd.snd.snd.fst, y4.snd.snd.snd.snd.snd.snd.snd.snd.snd.snd.snd.snd.snd.snd.fst, y4.snd.snd.snd.snd.snd.snd.snd.snd.snd.snd.snd.snd.snd.snd.snd.fst, y4.snd.snd.snd.snd.snd.snd.snd.snd.snd.snd.snd.snd.snd.snd.snd.snd.fst, y4.snd.snd.snd.snd.snd.snd.snd.snd.snd.snd.snd.snd.snd.snd.snd.snd.snd.fst, y4.snd.snd.snd.snd.snd.snd.snd.snd.snd.snd.snd.snd.snd.snd.snd.snd.snd.snd.fst, y4.snd.snd.snd.snd.snd.snd.snd.snd.snd.snd.snd.snd.snd.snd.snd.snd.snd.snd.snd.fst, y4.snd.snd.snd.snd.snd.snd.snd.snd.snd.snd.snd.snd.snd.snd.snd.snd.snd.snd.snd.snd.fst, y4.snd.snd.snd.snd.snd.snd.snd.snd.snd.snd.snd.snd.snd.snd.snd.snd.snd.snd.snd.snd.snd.fst, y4.snd.snd.snd.snd.snd.snd.snd.snd.snd.snd.snd.snd.snd.snd.snd.snd.snd.snd.snd.snd.snd.snd.fst, y4.snd.snd.snd.snd.snd.snd.snd.snd.snd.snd.snd.snd.snd.snd.snd.snd.snd.snd.snd.snd.snd.snd.snd.fst, Int.tmod y4.snd.snd.snd.snd.fst 24, Go.IntKind.wrap Go.IntKind.i64 (Int.tdiv y4.snd.snd.snd.snd.fst 24), y4.snd.snd.snd.snd.snd.snd.snd.snd.snd.snd.snd.snd.snd.snd.snd.snd.snd.snd.snd.snd.snd.snd.snd.snd.snd.snd.fst, y4.snd.snd.snd.snd.snd.snd.snd.snd.snd.snd.snd.snd.snd.snd.snd.snd.snd.snd.snd.snd.snd.snd.snd.snd.snd.snd.snd.fst, y4.snd.snd.snd.snd.snd.snd.snd.snd.snd.snd.snd.snd.snd.snd.snd.snd.snd.snd.snd.snd.snd.snd.snd.snd.snd.snd.snd.snd.fst, ()))
             ) (fun z5 =>
              some (z5)
             ) (y3)
           else
            none
         else
          none
        else
         bif Go.IntKind.wrap Go.IntKind.i64 (1 + y1.fst) == 2 then
          bif inRange x.snd.snd.snd.fst (List.length x.snd.fst) then
           Option.bind (f24 (List.getD x.snd.fst (Int.toNat x.snd.snd.snd.fst) (0, 0, 0, 0)).snd.snd.fst 4) fun y6 =>
            bif inRange x.snd.snd.snd.fst (List.length x.snd.fst) then
             Option.bind (f24 (List.getD x.snd.fst (Int.toNat x.snd.snd.snd.fst) (0, 0, 0, 0)).snd.snd.snd 4) fun y7 =>
              bif inRange x.snd.snd.snd.fst (List.length x.snd.fst) then
               bif Int.tmod (List.getD x.snd.fst (Int.toNat x.snd.snd.snd.fst) (0, 0, 0, 0)).snd.snd.fst 2 == 0 then
                some (Sum.inl (x.fst, x.snd.fst, x.snd.snd.fst, x.snd.snd.snd.fst, x.snd.snd.snd.snd.fst, x.snd.snd.snd.snd.snd.fst, x.snd.snd.snd.snd.snd.snd.fst, x.snd.snd.snd.snd.snd.snd.snd.fst, x.snd.snd.snd.snd.snd.snd.snd.snd.fst, x.snd.snd.snd.snd.snd.snd.snd.snd.snd.fst, x.snd.snd.snd.snd.snd.snd.snd.snd.snd.snd.fst, x.snd.snd.snd.snd.snd.snd.snd.snd.snd.snd.snd.fst, x.snd.snd.snd.snd.snd.snd.snd.snd.snd.snd.snd.snd.fst, x.snd.snd.snd.snd.snd.snd.snd.snd.snd.snd.snd.snd.snd.fst, x.snd.snd.snd.snd.snd.snd.snd.snd.snd.snd.snd.snd.snd.snd.fst, x.snd.snd.snd.snd.snd.snd.snd.snd.snd.snd.snd.snd.snd.snd.snd.fst, x.snd.snd.snd.snd.snd.snd.snd.snd.snd.snd.snd.snd.snd.snd.snd.snd.fst, x.snd.snd.snd.snd.snd.snd.snd.snd.snd.snd.snd.snd.snd.snd.snd.snd.snd.fst, x.snd.snd.snd.snd.snd.snd.snd.snd.snd.snd.snd.snd.snd.snd.snd.snd.snd.snd.fst, x.snd.snd.snd.snd.snd.snd.snd.snd.snd.snd.snd.snd.snd.snd.snd.snd.snd.snd.snd.fst, x.snd.snd.snd.snd.snd.snd.snd.snd.snd.snd.snd.snd.snd.snd.snd.snd.snd.snd.snd.snd.fst, Go.IntKind.wrap Go.IntKind.i64 (1 + y0.fst), Go.IntKind.wrap Go.IntKind.i64 (1 + y1.fst), x.fst, y7.fst, x.snd.snd.snd.snd.snd.snd.snd.snd.snd.snd.snd.snd.snd.snd.snd.snd.snd.snd.snd.snd.snd.fst, x.snd.snd.snd.snd.snd.snd.snd.snd.snd.snd.snd.snd.snd.snd.snd.snd.snd.snd.snd.snd.snd.snd.fst, x.snd.snd.snd.snd.snd.snd.snd.snd.snd.snd.snd.snd.snd.snd.snd.snd.snd.snd.snd.snd.snd.snd.snd.fst, ()))
               else
                some (Sum.inl (x.fst, x.snd.fst, x.snd.snd.fst, x.snd.snd.snd.fst, x.snd.snd.snd.snd.fst, x.snd.snd.snd.snd.snd.fst, x.snd.snd.snd.snd.snd.snd.fst, x.snd.snd.snd.snd.snd.snd.snd.fst, x.snd.snd.snd.snd.snd.snd.snd.snd.fst, x.snd.snd.snd.snd.snd.snd.snd.snd.snd.fst, x.snd.snd.snd.snd.snd.snd.snd.snd.snd.snd.fst, x.snd.snd.snd.snd.snd.snd.snd.snd.snd.snd.snd.fst, x.snd.snd.snd.snd.snd.snd.snd.snd.snd.snd.snd.snd.fst, x.snd.snd.snd.snd.snd.snd.snd.snd.snd.snd.snd.snd.snd.fst, x.snd.snd.snd.snd.snd.snd.snd.snd.snd.snd.snd.snd.snd.snd.fst, x.snd.snd.snd.snd.snd.snd.snd.snd.snd.snd.snd.snd.snd.snd.snd.fst, x.snd.snd.snd.snd.snd.snd.snd.snd.snd.snd.snd.snd.snd.snd.snd.snd.fst, x.snd.snd.snd.snd.snd.snd.snd.snd.snd.snd.snd.snd.snd.snd.snd.snd.snd.fst, x.snd.snd.snd.snd.snd.snd.snd.snd.snd.snd.snd.snd.snd.snd.snd.snd.snd.snd.fst, x.snd.snd.snd.snd.snd.snd.snd.snd.snd.snd.snd.snd.snd.snd.snd.snd.snd.snd.snd.fst, x.snd.snd.snd.snd.snd.snd.snd.snd.snd.snd.snd.snd.snd.snd.snd.snd.snd.snd.snd.snd.fst, Go.IntKind.wrap Go.IntKind.i64 (1 + y0.fst), Go.IntKind.wrap Go.IntKind.i64 (1 + y1.fst), y6.fst, y7.fst, x.snd.snd.snd.snd.snd.snd.snd.snd.snd.snd.snd.snd.snd.snd.snd.snd.snd.snd.snd.snd.snd.fst, x.snd.snd.snd.snd.snd.snd.snd.snd.snd.snd.snd.snd.snd.snd.snd.snd.snd.snd.snd.snd.snd.snd.fst, x.snd.snd.snd.snd.snd.snd.snd.snd.snd.snd.snd.snd.snd.snd.snd.snd.snd.snd.snd.snd.snd.snd.snd.fst, ()))
              else
               none
            else
             none
          else
           none
         else
          bif Go.IntKind.wrap Go.IntKind.i64 (1 + y1.fst) == 3 then
           bif inRange x.snd.snd.snd.fst (List.length x.snd.fst) then
            Option.bind (f24 (List.getD x.snd.fst (Int.toNat x.snd.snd.snd.fst) (0, 0, 0, 0)).fst 2) fun y8 =>
             some (Sum.inl (x.fst, x.snd.fst, x.snd.snd.fst, x.snd.snd.snd.fst, x.snd.snd.snd.snd.fst, x.snd.snd.snd.snd.snd.fst, x.snd.snd.snd.snd.snd.snd.fst, x.snd.snd.snd.snd.snd.snd.snd.fst, x.snd.snd.snd.snd.snd.snd.snd.snd.fst, x.snd.snd.snd.snd.snd.snd.snd.snd.snd.fst, x.snd.snd.snd.snd.snd.snd.snd.snd.snd.snd.fst, x.snd.snd.snd.snd.snd.snd.snd.snd.snd.snd.snd.fst, x.snd.snd.snd.snd.snd.snd.snd.snd.snd.snd.snd.snd.fst, x.snd.snd.snd.snd.snd.snd.snd.snd.snd.snd.snd.snd.snd.fst, x.snd.snd.snd.snd.snd.snd.snd.snd.snd.snd.snd.snd.snd.snd.fst, x.snd.snd.snd.snd.snd.snd.snd.snd.snd.snd.snd.snd.snd.snd.snd.fst, x.snd.snd.snd.snd.snd.snd.snd.snd.snd.snd.snd.snd.snd.snd.snd.snd.fst, x.snd.snd.snd.snd.snd.snd.snd.snd.snd.snd.snd.snd.snd.snd.snd.snd.snd.fst, x.snd.snd.snd.snd.snd.snd.snd.snd.snd.snd.snd.snd.snd.snd.snd.snd.snd.snd.fst, x.snd.snd.snd.snd.snd.snd.snd.snd.snd.snd.snd.snd.snd.snd.snd.snd.snd.snd.snd.fst, x.snd.snd.snd.snd.snd.snd.snd.snd.snd.snd.snd.snd.snd.snd.snd.snd.snd.snd.snd.snd.fst, Go.IntKind.wrap Go.IntKind.i64 (2 + y8.fst), Go.IntKind.wrap Go.IntKind.i64 (1 + y1.fst), x.fst, Go.IntKind.wrap Go.IntKind.i64 (Go.IntKind.wrap Go.IntKind.i64 (2 + y8.fst) - 2), x.snd.snd.snd.snd.snd.snd.snd.snd.snd.snd.snd.snd.snd.snd.snd.snd.snd.snd.snd.snd.snd.fst, x.snd.snd.snd.snd.snd.snd.snd.snd.snd.snd.snd.snd.snd.snd.snd.snd.snd.snd.snd.snd.snd.snd.fst, x.snd.snd.snd.snd.snd.snd.snd.snd.snd.snd.snd.snd.snd.snd.snd.snd.snd.snd.snd.snd.snd.snd.snd.fst, ()))
           else
            none
          else
           bif Go.IntKind.wrap Go.IntKind.i64 (1 + y1.fst) == 4 then
            bif inRange x.snd.snd.snd.fst (List.length x.snd.fst) then
             Option.bind (f24 (List.getD x.snd.fst (Int.toNat x.snd.snd.snd.fst) (0, 0, 0, 0)).snd.snd.fst 3) fun y9 =>
              some (Sum.inl (x.fst, x.snd.fst, x.snd.snd.fst, x.snd.snd.snd.fst, x.snd.snd.snd.snd.fst, x.snd.snd.snd.snd.snd.fst, x.snd.snd.snd.snd.snd.snd.fst, x.snd.snd.snd.snd.snd.snd.snd.fst, x.snd.snd.snd.snd.snd.snd.snd.snd.fst, x.snd.snd.snd.snd.snd.snd.snd.snd.snd.fst, x.snd.snd.snd.snd.snd.snd.snd.snd.snd.snd.fst, x.snd.snd.snd.snd.snd.snd.snd.snd.snd.snd.snd.fst, x.snd.snd.snd.snd.snd.snd.snd.snd.snd.snd.snd.snd.fst, x.snd.snd.snd.snd.snd.snd.snd.snd.snd.snd.snd.snd.snd.fst, x.snd.snd.snd.snd.snd.snd.snd.snd.snd.snd.snd.snd.snd.snd.fst, x.snd.snd.snd.snd.snd.snd.snd.snd.snd.snd.snd.snd.snd.snd.snd.fst, x.snd.snd.snd.snd.snd.snd.snd.snd.snd.snd.snd.snd.snd.snd.snd.snd.fst, x.snd.snd.snd.snd.snd.snd.snd.snd.snd.snd.snd.snd.snd.snd.snd.snd.snd.fst, x.snd.snd.snd.snd.snd.snd.snd.snd.snd.snd.snd.snd.snd.snd.snd.snd.snd.snd.fst, x.snd.snd.snd.snd.snd.snd.snd.snd.snd.snd.snd.snd.snd.snd.snd.snd.snd.snd.snd.fst, x.snd.snd.snd.snd.snd.snd.snd.snd.snd.snd.snd.snd.snd.snd.snd.snd.snd.snd.snd.snd.fst, Go.IntKind.wrap Go.IntKind.i64 (1 + y0.fst), Go.IntKind.wrap Go.IntKind.i64 (1 + y1.fst), y9.fst, 0, x.snd.snd.snd.snd.snd.snd.snd.snd.snd.snd.snd.snd.snd.snd.snd.snd.snd.snd.snd.snd.snd.fst, x.snd.snd.snd.snd.snd.snd.snd.snd.snd.snd.snd.snd.snd.snd.snd.snd.snd.snd.snd.snd.snd.snd.fst, x.snd.snd.snd.snd.snd.snd.snd.snd.snd.snd.snd.snd.snd.snd.snd.snd.snd.snd.snd.snd.snd.snd.snd.fst, ()))
            else
             none
           else
            some (Sum.inl (x.fst, x.snd.fst, x.snd.snd.fst, x.snd.snd.snd.fst, x.snd.snd.snd.snd.fst, x.snd.snd.snd.snd.snd.fst, x.snd.snd.snd.snd.snd.snd.fst, x.snd.snd.snd.snd.snd.snd.snd.fst, x.snd.snd.snd.snd.snd.snd.snd.snd.fst, x.snd.snd.snd.snd.snd.snd.snd.snd.snd.fst, x.snd.snd.snd.snd.snd.snd.snd.snd.snd.snd.fst, x.snd.snd.snd.snd.snd.snd.snd.snd.snd.snd.snd.fst, x.snd.snd.snd.snd.snd.snd.snd.snd.snd.snd.snd.snd.fst, x.snd.snd.snd.snd.snd.snd.snd.snd.snd.snd.snd.snd.snd.fst, x.snd.snd.snd.snd.snd.snd.snd.snd.snd.snd.snd.snd.snd.snd.fst, x.snd.snd.snd.snd.snd.snd.snd.snd.snd.snd.snd.snd.snd.snd.snd.fst, x.snd.snd.snd.snd.snd.snd.snd.snd.snd.snd.snd.snd.snd.snd.snd.snd.fst, x.snd.snd.snd.snd.snd.snd.snd.snd.snd.snd.snd.snd.snd.snd.snd.snd.snd.fst, x.snd.snd.snd.snd.snd.snd.snd.snd.snd.snd.snd.snd.snd.snd.snd.snd.snd.snd.fst, x.snd.snd.snd.snd.snd.snd.snd.snd.snd.snd.snd.snd.snd.snd.snd.snd.snd.snd.snd.fst, x.snd.snd.snd.snd.snd.snd.snd.snd.snd.snd.snd.snd.snd.snd.snd.snd.snd.snd.snd.snd.fst, Go.IntKind.wrap Go.IntKind.i64 (1 + y0.fst), Go.IntKind.wrap Go.IntKind.i64 (1 + y1.fst), 0, 0, x.snd.snd.snd.snd.snd.snd.snd.snd.snd.snd.snd.snd.snd.snd.snd.snd.snd.snd.snd.snd.snd.fst, x.snd.snd.snd.snd.snd.snd.snd.snd.snd.snd.snd.snd.snd.snd.snd.snd.snd.snd.snd.snd.snd.snd.fst, x.snd.snd.snd.snd.snd.snd.snd.snd.snd.snd.snd.snd.snd.snd.snd.snd.snd.snd.snd.snd.snd.snd.snd.fst, ()))
       ) fun y10 =>
        Sum.elim (fun y11 =>
         Option.bind (α := Int × List (Int × Int × Int × Int) × Int × Int × Int × Int × Int × Int × Int × Int × Int × Int × Int × Int × Int × Int × Int × Int × Int × Int × List Int × Int × Int × Int × Int × List Int × List (Int × Int × Int × Int × Int × Int × Int × Int × Int × Int × Int) × List (Int × Int × Int × Int) × Unit ⊕ Int × Int × Int × Int × Int × Int × Int × Int × Int × Int × Int × Int × Int × Int × Int × Int × List Int × List (Int × Int × Int × Int × Int × Int × Int × Int × Int × Int × Int) × List (Int × Int × Int × Int) × Unit ⊕ Int × Int × Int × Int × Int × Int × Int × Int × List Int × List (Int × Int × Int × Int × Int × Int × Int × Int × Int × Int × Int) × List (Int × Int × Int × Int) × Unit) (
          bif y11.snd.snd.snd.snd.snd.snd.snd.snd.snd.snd.snd.snd.snd.snd.snd.snd.snd.snd.snd.snd.snd.fst == 4 then
           bif y11.snd.snd.snd.snd.snd.snd.snd.snd.snd.snd.snd.snd.snd.snd.snd.snd.snd.snd.snd.snd.snd.snd.fst != 1 then
            some (Sum.inl (y11.fst, y11.snd.fst, y11.snd.snd.fst, y11.snd.snd.snd.fst, y11.snd.snd.snd.snd.fst, y11.snd.snd.snd.snd.snd.fst, y11.snd.snd.snd.snd.snd.snd.fst, y11.snd.snd.snd.snd.snd.snd.snd.fst, y11.snd.snd.snd.snd.snd.snd.snd.snd.fst, y11.snd.snd.snd.snd.snd.snd.snd.snd.snd.fst, y11.snd.snd.snd.snd.snd.snd.snd.snd.snd.snd.fst, y11.snd.snd.snd.snd.snd.snd.snd.snd.snd.snd.snd.fst, y11.snd.snd.snd.snd.snd.snd.snd.snd.snd.snd.snd.snd.fst, y11.snd.snd.snd.snd.snd.snd.snd.snd.snd.snd.snd.snd.snd.fst, y11.snd.snd.snd.snd.snd.snd.snd.snd.snd.snd.snd.snd.snd.snd.fst, y11.snd.snd.snd.snd.snd.snd.snd.snd.snd.snd.snd.snd.snd.snd.snd.fst, y11.snd.snd.snd.snd.snd.snd.snd.snd.snd.snd.snd.snd.snd.snd.snd.snd.fst, y11.snd.snd.snd.snd.snd.snd.snd.snd.snd.snd.snd.snd.snd.snd.snd.snd.snd.fst, y11.snd.snd.snd.snd.snd.snd.snd.snd.snd.snd.snd.snd.snd.snd.snd.snd.snd.snd.fst, y11.snd.snd.snd.snd.snd.snd.snd.snd.snd.snd.snd.snd.snd.snd.snd.snd.snd.snd.snd.fst, y11.snd.snd.snd.snd.snd.snd.snd.snd.snd.snd.snd.snd.snd.snd.snd.snd.snd.snd.snd.snd.fst, 1, y11.snd.snd.snd.snd.snd.snd.snd.snd.snd.snd.snd.snd.snd.snd.snd.snd.snd.snd.snd.snd.snd.snd.fst, y11.snd.snd.snd.snd.snd.snd.snd.snd.snd.snd.snd.snd.snd.snd.snd.snd.snd.snd.snd.snd.snd.snd.snd.fst, y11.snd.snd.snd.snd.snd.snd.snd.snd.snd.snd.snd.snd.snd.snd.snd.snd.snd.snd.snd.snd.snd.snd.snd.snd.fst, y11.snd.snd.snd.snd.snd.snd.snd.snd.snd.snd.snd.snd.snd.snd.snd.snd.snd.snd.snd.snd.snd.snd.snd.snd.snd.fst, y11.snd.snd.snd.snd.snd.snd.snd.snd.snd.snd.snd.snd.snd.snd.snd.snd.snd.snd.snd.snd.snd.snd.snd.snd.snd.snd.fst, y11.snd.snd.snd.snd.snd.snd.snd.snd.snd.snd.snd.snd.snd.snd.snd.snd.snd.snd.snd.snd.snd.snd.snd.snd.snd.snd.snd.fst, ()))
           else
            some (Sum.inl (y11.fst, y11.snd.fst, y11.snd.snd.fst, y11.snd.snd.snd.fst, y11.snd.snd.snd.snd.fst, y11.snd.snd.snd.snd.snd.fst, y11.snd.snd.snd.snd.snd.snd.fst, y11.snd.snd.snd.snd.snd.snd.snd.fst, y11.snd.snd.snd.snd.snd.snd.snd.snd.fst, y11.snd.snd.snd.snd.snd.snd.snd.snd.snd.fst, y11.snd.snd.snd.snd.snd.snd.snd.snd.snd.snd.fst, y11.snd.snd.snd.snd.snd.snd.snd.snd.snd.snd.snd.fst, y11.snd.snd.snd.snd.snd.snd.snd.snd.snd.snd.snd.snd.fst, y11.snd.snd.snd.snd.snd.snd.snd.snd.snd.snd.snd.snd.snd.fst, y11.snd.snd.snd.snd.snd.snd.snd.snd.snd.snd.snd.snd.snd.snd.fst, y11.snd.snd.snd.snd.snd.snd.snd.snd.snd.snd.snd.snd.snd.snd.snd.fst, y11.snd.snd.snd.snd.snd.snd.snd.snd.snd.snd.snd.snd.snd.snd.snd.snd.fst, y11.snd.snd.snd.snd.snd.snd.snd.snd.snd.snd.snd.snd.snd.snd.snd.snd.snd.fst, y11.snd.snd.snd.snd.snd.snd.snd.snd.snd.snd.snd.snd.snd.snd.snd.snd.snd.snd.fst, y11.snd.snd.snd.snd.snd.snd.snd.snd.snd.snd.snd.snd.snd.snd.snd.snd.snd.snd.snd.fst, y11.snd.snd.snd.snd.snd.snd.snd.snd.snd.snd.snd.snd.snd.snd.snd.snd.snd.snd.snd.snd.fst, y11.snd.snd.snd.snd.snd.snd.snd.snd.snd.snd.snd.snd.snd.snd.snd.snd.snd.snd.snd.snd.snd.fst, y11.snd.snd.snd.snd.snd.snd.snd.snd.snd.snd.snd.snd.snd.snd.snd.snd.snd.snd.snd.snd.snd.snd.fst, y11.snd.snd.snd.snd.snd.snd.snd.snd.snd.snd.snd.snd.snd.snd.snd.snd.snd.snd.snd.snd.snd.snd.snd.fst, y11.snd.snd.snd.snd.snd.snd.snd.snd.snd.snd.snd.snd.snd.snd.snd.snd.snd.snd.snd.snd.snd.snd.snd.snd.fst, y11.snd.snd.snd.snd.snd.snd.snd.snd.snd.snd.snd.snd.snd.snd.snd.snd.snd.snd.snd.snd.snd.snd.snd.snd.snd.fst, y11.snd.snd.snd.snd.snd.snd.snd.snd.snd.snd.snd.snd.snd.snd.snd.snd.snd.snd.snd.snd.snd.snd.snd.snd.snd.snd.fst, y11.snd.snd.snd.snd.snd.snd.snd.snd.snd.snd.snd.snd.snd.snd.snd.snd.snd.snd.snd.snd.snd.snd.snd.snd.snd.snd.snd.fst, ()))
          else
           some (Sum.inl (y11.fst, y11.snd.fst, y11.snd.snd.fst, y11.snd.snd.snd.fst, y11.snd.snd.snd.snd.fst, y11.snd.snd.snd.snd.snd.fst, y11.snd.snd.snd.snd.snd.snd.fst, y11.snd.snd.snd.snd.snd.snd.snd.fst, y11.snd.snd.snd.snd.snd.snd.snd.snd.fst, y11.snd.snd.snd.snd.snd.snd.snd.snd.snd.fst, y11.snd.snd.snd.snd.snd.snd.snd.snd.snd.snd.fst, y11.snd.snd.snd.snd.snd.snd.snd.snd.snd.snd.snd.fst, y11.snd.snd.snd.snd.snd.snd.snd.snd.snd.snd.snd.snd.fst, y11.snd.snd.snd.snd.snd.snd.snd.snd.snd.snd.snd.snd.snd.fst, y11.snd.snd.snd.snd.snd.snd.snd.snd.snd.snd.snd.snd.snd.snd.fst, y11.snd.snd.snd.snd.snd.snd.snd.snd.snd.snd.snd.snd.snd.snd.snd.fst, y11.snd.snd.snd.snd.snd.snd.snd.snd.snd.snd.snd.snd.snd.snd.snd.snd.fst, y11.snd.snd.snd.snd.snd.snd.snd.snd.snd.snd.snd.snd.snd.snd.snd.snd.snd.fst, y11.snd.snd.snd.snd.snd.snd.snd.snd.snd.snd.snd.snd.snd.snd.snd.snd.snd.snd.fst, y11.snd.snd.snd.snd.snd.snd.snd.snd.snd.snd.snd.snd.snd.snd.snd.snd.snd.snd.snd.fst, y11.snd.snd.snd.snd.snd.snd.snd.snd.snd.snd.snd.snd.snd.snd.snd.snd.snd.snd.snd.snd.fst, y11.snd.snd.snd.snd.snd.snd.snd.snd.snd.snd.snd.snd.snd.snd.snd.snd.snd.snd.snd.snd.snd.fst, y11.snd.snd.snd.snd.snd.snd.snd.snd.snd.snd.snd.snd.snd.snd.snd.snd.snd.snd.snd.snd.snd.snd.fst, y11.snd.snd.snd.snd.snd.snd.snd.snd.snd.snd.snd.snd.snd.snd.snd.snd.snd.snd.snd.snd.snd.snd.snd.fst, y11.snd.snd.snd.snd.snd.snd.snd.snd.snd.snd.snd.snd.snd.snd.snd.snd.snd.snd.snd.snd.snd.snd.snd.snd.fst, y11.snd.snd.snd.snd.snd.snd.snd.snd.snd.snd.snd.snd.snd.snd.snd.snd.snd.snd.snd.snd.snd.snd.snd.snd.snd.fst, y11.snd.snd.snd.snd.snd.snd.snd.snd.snd.snd.snd.snd.snd.snd.snd.snd.snd.snd.snd.snd.snd.snd.snd.snd.snd.snd.fst, y11.snd.snd.snd.snd.snd.snd.snd.snd.snd.snd.snd.snd.snd.snd.snd.snd.snd.snd.snd.snd.snd.snd.snd.snd.snd.snd.snd.fst, ()))
         ) fun y12 =>
          Sum.elim (fun y13 =>
           Option.bind (f28 y13.snd.snd.snd.snd.snd.snd.snd.snd.snd.snd.snd.snd.snd.snd.snd.snd.snd.snd.snd.snd.snd.snd.snd.snd.snd.snd.snd.fst y13.snd.snd.snd.snd.snd.snd.snd.snd.snd.snd.snd.snd.snd.snd.snd.snd.snd.snd.snd.snd.snd.snd.fst y13.snd.snd.snd.snd.snd.snd.snd.snd.snd.snd.snd.snd.snd.snd.snd.snd.snd.snd.snd.snd.snd.snd.snd.fst y13.snd.snd.snd.snd.snd.snd.snd.snd.snd.snd.snd.snd.snd.snd.snd.snd.snd.snd.snd.snd.snd.snd.snd.snd.fst) fun y14 =>
            bif Decidable.decide (y14.fst < 0) then
             bif inRange (Int.tmod (Go.IntKind.wrap Go.IntKind.i64 (2 * y13.snd.snd.snd.fst)) 40) (List.length y13.snd.snd.snd.snd.snd.snd.snd.snd.snd.snd.snd.snd.snd.snd.snd.snd.snd.snd.snd.snd.snd.snd.snd.snd.snd.snd.snd.fst) then
              let s0 : List (Int × Int × Int × Int) := List.set y13.snd.snd.snd.snd.snd.snd.snd.snd.snd.snd.snd.snd.snd.snd.snd.snd.snd.snd.snd.snd.snd.snd.snd.snd.snd.snd.snd.fst (Int.toNat (Int.tmod (Go.IntKind.wrap Go.IntKind.i64 (2 * y13.snd.snd.snd.fst)) 40)) (y13.snd.snd.snd.snd.snd.snd.snd.snd.snd.snd.snd.snd.snd.snd.snd.snd.snd.snd.snd.snd.snd.fst, y13.snd.snd.snd.snd.snd.snd.snd.snd.snd.snd.snd.snd.snd.snd.snd.snd.snd.snd.snd.snd.snd.snd.fst, y13.snd.snd.snd.snd.snd.snd.snd.snd.snd.snd.snd.snd.snd.snd.snd.snd.snd.snd.snd.snd.snd.snd.snd.fst, y13.snd.snd.snd.snd.snd.snd.snd.snd.snd.snd.snd.snd.snd.snd.snd.snd.snd.snd.snd.snd.snd.snd.snd.snd.fst)
              rec (y13.fst, y13.snd.fst, y13.snd.snd.fst, Go.IntKind.wrap Go.IntKind.i64 (y13.snd.snd.snd.fst + 1), y13.snd.snd.snd.snd.fst, y13.snd.snd.snd.snd.snd.fst, y13.snd.snd.snd.snd.snd.snd.fst, y13.snd.snd.snd.snd.snd.snd.snd.fst, y13.snd.snd.snd.snd.snd.snd.snd.snd.fst, y13.snd.snd.snd.snd.snd.snd.snd.snd.snd.fst, y13.snd.snd.snd.snd.snd.snd.snd.snd.snd.snd.fst, y13.snd.snd.snd.snd.snd.snd.snd.snd.snd.snd.snd.fst, y13.snd.snd.snd.snd.snd.snd.snd.snd.snd.snd.snd.snd.fst, y13.snd.snd.snd.snd.snd.snd.snd.snd.snd.snd.snd.snd.snd.fst, y13.snd.snd.snd.snd.snd.snd.snd.snd.snd.snd.snd.snd.snd.snd.fst, y13.snd.snd.snd.snd.snd.snd.snd.snd.snd.snd.snd.snd.snd.snd.snd.fst, y13.snd.snd.snd.snd.snd.snd.snd.snd.snd.snd.snd.snd.snd.snd.snd.snd.fst, y13.snd.snd.snd.snd.snd.snd.snd.snd.snd.snd.snd.snd.snd.snd.snd.snd.snd.fst, y13.snd.snd.snd.snd.snd.snd.snd.snd.snd.snd.snd.snd.snd.snd.snd.snd.snd.snd.fst, y13.snd.snd.snd.snd.snd.snd.snd.snd.snd.snd.snd.snd.snd.snd.snd.snd.snd.snd.snd.fst, y13.snd.snd.snd.snd.snd.snd.snd.snd.snd.snd.snd.snd.snd.snd.snd.snd.snd.snd.snd.snd.fst, y13.snd.snd.snd.snd.snd.snd.snd.snd.snd.snd.snd.snd.snd.snd.snd.snd.snd.snd.snd.snd.snd.snd.snd.snd.snd.fst, y13.snd.snd.snd.snd.snd.snd.snd.snd.snd.snd.snd.snd.snd.snd.snd.snd.snd.snd.snd.snd.snd.snd.snd.snd.snd.snd.fst, s0, ())
             else
              none
            else
             rec (y13.fst, y13.snd.fst, y13.snd.snd.fst, Go.IntKind.wrap Go.IntKind.i64 (y13.snd.snd.snd.fst + 1), y13.snd.snd.snd.snd.fst, y13.snd.snd.snd.snd.snd.fst, y13.snd.snd.snd.snd.snd.snd.fst, y13.snd.snd.snd.snd.snd.snd.snd.fst, y13.snd.snd.snd.snd.snd.snd.snd.snd.fst, y13.snd.snd.snd.snd.snd.snd.snd.snd.snd.fst, y13.snd.snd.snd.snd.snd.snd.snd.snd.snd.snd.fst, y13.snd.snd.snd.snd.snd.snd.snd.snd.snd.snd.snd.fst, y13.snd.snd.snd.snd.snd.snd.snd.snd.snd.snd.snd.snd.fst, y13.snd.snd.snd.snd.snd.snd.snd.snd.snd.snd.snd.snd.snd.fst, y13.snd.snd.snd.snd.snd.snd.snd.snd.snd.snd.snd.snd.snd.snd.fst, y13.snd.snd.snd.snd.snd.snd.snd.snd.snd.snd.snd.snd.snd.snd.snd.fst, y13.snd.snd.snd.snd.snd.snd.snd.snd.snd.snd.snd.snd.snd.snd.snd.snd.fst, y13.snd.snd.snd.snd.snd.snd.snd.snd.snd.snd.snd.snd.snd.snd.snd.snd.snd.fst, y13.snd.snd.snd.snd.snd.snd.snd.snd.snd.snd.snd.snd.snd.snd.snd.snd.snd.snd.fst, y13.snd.snd.snd.snd.snd.snd.snd.snd.snd.snd.snd.snd.snd.snd.snd.snd.snd.snd.snd.fst, y13.snd.snd.snd.snd.snd.snd.snd.snd.snd.snd.snd.snd.snd.snd.snd.snd.snd.snd.snd.snd.fst, y13.snd.snd.snd.snd.snd.snd.snd.snd.snd.snd.snd.snd.snd.snd.snd.snd.snd.snd.snd.snd.snd.snd.snd.snd.snd.fst, y13.snd.snd.snd.snd.snd.snd.snd.snd.snd.snd.snd.snd.snd.snd.snd.snd.snd.snd.snd.snd.snd.snd.snd.snd.snd.snd.fst, y13.snd.snd.snd.snd.snd.snd.snd.snd.snd.snd.snd.snd.snd.snd.snd.snd.snd.snd.snd.snd.snd.snd.snd.snd.snd.snd.snd.fst, ())
          ) (fun z15 =>
           some (z15)
          ) (y12)
        ) (fun z16 =>
         some (z16)
        ) (y10)
     else
      none
   else
    none
  else
   some (Sum.inl (x.snd.snd.snd.snd.fst, x.snd.snd.snd.snd.snd.fst, x.snd.snd.snd.snd.snd.snd.fst, x.snd.snd.snd.snd.snd.snd.snd.fst, x.snd.snd.snd.snd.snd.snd.snd.snd.fst, x.snd.snd.snd.snd.snd.snd.snd.snd.snd.fst, x.snd.snd.snd.snd.snd.snd.snd.snd.snd.snd.fst, x.snd.snd.snd.snd.snd.snd.snd.snd.snd.snd.snd.fst, x.snd.snd.snd.snd.snd.snd.snd.snd.snd.snd.snd.snd.fst, x.snd.snd.snd.snd.snd.snd.snd.snd.snd.snd.snd.snd.snd.fst, x.snd.snd.snd.snd.snd.snd.snd.snd.snd.snd.snd.snd.snd.snd.fst, x.snd.snd.snd.snd.snd.snd.snd.snd.snd.snd.snd.snd.snd.snd.snd.fst, x.snd.snd.snd.snd.snd.snd.snd.snd.snd.snd.snd.snd.snd.snd.snd.snd.fst, x.snd.snd.snd.snd.snd.snd.snd.snd.snd.snd.snd.snd.snd.snd.snd.snd.snd.fst, x.snd.snd.snd.snd.snd.snd.snd.snd.snd.snd.snd.snd.snd.snd.snd.snd.snd.snd.fst, x.snd.snd.snd.snd.snd.snd.snd.snd.snd.snd.snd.snd.snd.snd.snd.snd.snd.snd.snd.fst, x.snd.snd.snd.snd.snd.snd.snd.snd.snd.snd.snd.snd.snd.snd.snd.snd.snd.snd.snd.snd.snd.fst, x.snd.snd.snd.snd.snd.snd.snd.snd.snd.snd.snd.snd.snd.snd.snd.snd.snd.snd.snd.snd.snd.snd.fst, x.snd.snd.snd.snd.snd.snd.snd.snd.snd.snd.snd.snd.snd.snd.snd.snd.snd.snd.snd.snd.snd.snd.snd.fst, ()))
 else
  some (Sum.inl (x.snd.snd.snd.snd.fst, x.snd.snd.snd.snd.snd.fst, x.snd.snd.snd.snd.snd.snd.fst, x.snd.snd.snd.snd.snd.snd.snd.fst, x.snd.snd.snd.snd.snd.snd.snd.snd.fst, x.snd.snd.snd.snd.snd.snd.snd.snd.snd.fst, x.snd.snd.snd.snd.snd.snd.snd.snd.snd.snd.fst, x.snd.snd.snd.snd.snd.snd.snd.snd.snd.snd.snd.fst, x.snd.snd.snd.snd.snd.snd.snd.snd.snd.snd.snd.snd.fst, x.snd.snd.snd.snd.snd.snd.snd.snd.snd.snd.snd.snd.snd.fst, x.snd.snd.snd.snd.snd.snd.snd.snd.snd.snd.snd.snd.snd.snd.fst, x.snd.snd.snd.snd.snd.snd.snd.snd.snd.snd.snd.snd.snd.snd.snd.fst, x.snd.snd.snd.snd.snd.snd.snd.snd.snd.snd.snd.snd.snd.snd.snd.snd.fst, x.snd.snd.snd.snd.snd.snd.snd.snd.snd.snd.snd.snd.snd.snd.snd.snd.snd.fst, x.snd.snd.snd.snd.snd.snd.snd.snd.snd.snd.snd.snd.snd.snd.snd.snd.snd.snd.fst, x.snd.snd.snd.snd.snd.snd.snd.snd.snd.snd.snd.snd.snd.snd.snd.snd.snd.snd.snd.fst, x.snd.snd.snd.snd.snd.snd.snd.snd.snd.snd.snd.snd.snd.snd.snd.snd.snd.snd.snd.snd.snd.fst, x.snd.snd.snd.snd.snd.snd.snd.snd.snd.snd.snd.snd.snd.snd.snd.snd.snd.snd.snd.snd.snd.snd.fst, x.snd.snd.snd.snd.snd.snd.snd.snd.snd.snd.snd.snd.snd.snd.snd.snd.snd.snd.snd.snd.snd.snd.snd.fst, ()))
 ) (100000000000000000000) (x)
def f8.L2 (x : Int × Int × List (Int × Int × Int × Int) × Int × Int × Int × Int × Int × Int × Int × Int × Int × Int × Int × Int × Int × Int × Int × Int × Int × Int × List Int × List Int × List (Int × Int × Int × Int × Int × Int × Int × Int × Int × Int × Int) × List (Int × Int × Int × Int) × Unit) : Option (Int × Int × Int × Int × Int × Int × Int × Int × List Int × List (Int × Int × Int × Int × Int × Int × Int × Int × Int × Int × Int) × List (Int × Int × Int × Int) × Unit) :=
 it (X := Int × Int × List (Int × Int × Int × Int) × Int × Int × Int × Int × Int × Int × Int × Int × Int × Int × Int × Int × Int × Int × Int × Int × Int × Int × List Int × List Int × List (Int × Int × Int × Int × Int × Int × Int × Int × Int × Int × Int) × List (Int × Int × Int × Int) × Unit) (fun rec x =>
 bif Decidable.decide (x.snd.snd.snd.snd.fst < 384) then
  bif inRange x.snd.snd.snd.snd.fst (List.length x.snd.snd.snd.snd.snd.snd.snd.snd.snd.snd.snd.snd.snd.snd.snd.snd.snd.snd.snd.snd.snd.snd.fst) then
   Option.bind (f26 (Go.IntKind.wrap Go.IntKind.i64 (List.getD x.snd.snd.snd.snd.snd.snd.snd.snd.snd.snd.snd.snd.snd.snd.snd.snd.snd.snd.snd.snd.snd.snd.fst (Int.toNat x.snd.snd.snd.snd.fst) 0))) fun y0 =>
    bif y0.fst then
     bif Decidable.decide (List.length x.snd.snd.snd.snd.snd.snd.snd.snd.snd.snd.snd.snd.snd.snd.snd.snd.snd.snd.snd.snd.snd.fst + 1 ≤ limit 8) then
      rec (x.fst, x.snd.fst, x.snd.snd.fst, x.snd.snd.snd.fst, Go.IntKind.wrap Go.IntKind.i64 (x.snd.snd.snd.snd.fst + 1), x.snd.snd.snd.snd.snd.fst, x.snd.snd.snd.snd.snd.snd.fst, x.snd.snd.snd.snd.snd.snd.snd.fst, x.snd.snd.snd.snd.snd.snd.snd.snd.fst, x.snd.snd.snd.snd.snd.snd.snd.snd.snd.fst, x.snd.snd.snd.snd.snd.snd.snd.snd.snd.snd.fst, x.snd.snd.snd.snd.snd.snd.snd.snd.snd.snd.snd.fst, x.snd.snd.snd.snd.snd.snd.snd.snd.snd.snd.snd.snd.fst, x.snd.snd.snd.snd.snd.snd.snd.snd.snd.snd.snd.snd.snd.fst, x.snd.snd.snd.snd.snd.snd.snd.snd.snd.snd.snd.snd.snd.snd.fst, x.snd.snd.snd.snd.snd.snd.snd.snd.snd.snd.snd.snd.snd.snd.snd.fst, x.snd.snd.snd.snd.snd.snd.snd.snd.snd.snd.snd.snd.snd.snd.snd.snd.fst, x.snd.snd.snd.snd.snd.snd.snd.snd.snd.snd.snd.snd.snd.snd.snd.snd.snd.fst, x.snd.snd.snd.snd.snd.snd.snd.snd.snd.snd.snd.snd.snd.snd.snd.snd.snd.snd.fst, x.snd.snd.snd.snd.snd.snd.snd.snd.snd.snd.snd.snd.snd.snd.snd.snd.snd.snd.snd.fst, x.snd.snd.snd.snd.snd.snd.snd.snd.snd.snd.snd.snd.snd.snd.snd.snd.snd.snd.snd.snd.fst, x.snd.snd.snd.snd.snd.snd.snd.snd.snd.snd.snd.snd.snd.snd.snd.snd.snd.snd.snd.snd.snd.fst ++ [x.snd.snd.snd.snd.fst], x.snd.snd.snd.snd.snd.snd.snd.snd.snd.snd.snd.snd.snd.snd.snd.snd.snd.snd.snd.snd.snd.snd.fst, x.snd.snd.snd.snd.snd.snd.snd.snd.snd.snd.snd.snd.snd.snd.snd.snd.snd.snd.snd.snd.snd.snd.snd.fst, x.snd.snd.snd.snd.snd.snd.snd.snd.snd.snd.snd.snd.snd.snd.snd.snd.snd.snd.snd.snd.snd.snd.snd.snd.fst, ())
     else
      none
    else
     rec (x.fst, x.snd.fst, x.snd.snd.fst, x.snd.snd.snd.fst, Go.IntKind.wrap Go.IntKind.i64 (x.snd.snd.snd.snd.fst + 1), x.snd.snd.snd.snd.snd.fst, x.snd.snd.snd.snd.snd.snd.fst, x.snd.snd.snd.snd.snd.snd.snd.fst, x.snd.snd.snd.snd.snd.snd.snd.snd.fst, x.snd.snd.snd.snd.snd.snd.snd.snd.snd.fst, x.snd.snd.snd.snd.snd.snd.snd.snd.snd.snd.fst, x.snd.snd.snd.snd.snd.snd.snd.snd.snd.snd.snd.fst, x.snd.snd.snd.snd.snd.snd.snd.snd.snd.snd.snd.snd.fst, x.snd.snd.snd.snd.snd.snd.snd.snd.snd.snd.snd.snd.snd.fst, x.snd.snd.snd.snd.snd.snd.snd.snd.snd.snd.snd.snd.snd.snd.fst, x.snd.snd.snd.snd.snd.snd.snd.snd.snd.snd.snd.snd.snd.snd.snd.fst, x.snd.snd.snd.snd.snd.snd.snd.snd.snd.snd.snd.snd.snd.snd.snd.snd.fst, x.snd.snd.snd.snd.snd.snd.snd.snd.snd.snd.snd.snd.snd.snd.snd.snd.snd.fst, x.snd.snd.snd.snd.snd.snd.snd.snd.snd.snd.snd.snd.snd.snd.snd.snd.snd.snd.fst, x.snd.snd.snd.snd.snd.snd.snd.snd.snd.snd.snd.snd.snd.snd.snd.snd.snd.snd.snd.fst, x.snd.snd.snd.snd.snd.snd.snd.snd.snd.snd.snd.snd.snd.snd.snd.snd.snd.snd.snd.snd.fst, x.snd.snd.snd.snd.snd.snd.snd.snd.snd.snd.snd.snd.snd.snd.snd.snd.snd.snd.snd.snd.snd.fst, x.snd.snd.snd.snd.snd.snd.snd.snd.snd.snd.snd.snd.snd.snd.snd.snd.snd.snd.snd.snd.snd.snd.fst, x.snd.snd.snd.snd.snd.snd.snd.snd.snd.snd.snd.snd.snd.snd.snd.snd.snd.snd.snd.snd.snd.snd.snd.fst, x.snd.snd.snd.snd.snd.snd.snd.snd.snd.snd.snd.snd.snd.snd.snd.snd.snd.snd.snd.snd.snd.snd.snd.snd.fst, ())
  else
   none
 else
  Option.bind (f24 x.fst 4) fun y1 =>
   Option.bind (f24 x.snd.fst (↑(List.length x.snd.snd.snd.snd.snd.snd.snd.snd.snd.snd.snd.snd.snd.snd.snd.snd.snd.snd.snd.snd.snd.fst) : Int)) fun y2 =>
    bif inRange y2.fst (List.length x.snd.snd.snd.snd.snd.snd.snd.snd.snd.snd.snd.snd.snd.snd.snd.snd.snd.snd.snd.snd.snd.fst) then
     Option.bind (α := Int × Int × List (Int × Int × Int × Int) × Int × Int × Int × Int × Int × Int × Int × Int × Int × Int × Int × Int × Int × Int × Int × Int × Int × Int × List Int × List Int × List (Int × Int × Int × Int × Int × Int × Int × Int × Int × Int × Int) × List (Int × Int × Int × Int) × Unit ⊕ Int × Int × Int × Int × Int × Int × Int × Int × List Int × List (Int × Int × Int × Int × Int × Int × Int × Int × Int × Int × Int) × List (Int × Int × Int × Int) × Unit) (
      bif Int.tmod x.snd.fst 3 == 0 then
       Option.bind (f27 x.snd.snd.snd.snd.snd.snd.snd.snd.snd.snd.snd.snd.snd.snd.snd.snd.snd.snd.snd.snd.snd.snd.fst 5) fun y3 =>
        bif Decidable.decide (y3.fst ≥ 0) then
         Option.bind (f27 x.snd.snd.snd.snd.snd.snd.snd.snd.snd.snd.snd.snd.snd.snd.snd.snd.snd.snd.snd.snd.snd.snd.fst 5) fun y4 =>
          some (Sum.inl (y1.fst, x.snd.fst, x.snd.snd.fst, x.snd.snd.snd.fst, y4.fst, x.snd.snd.snd.snd.snd.fst, x.snd.snd.snd.snd.snd.snd.fst, x.snd.snd.snd.snd.snd.snd.snd.fst, x.snd.snd.snd.snd.snd.snd.snd.snd.fst, x.snd.snd.snd.snd.snd.snd.snd.snd.snd.fst, x.snd.snd.snd.snd.snd.snd.snd.snd.snd.snd.fst, x.snd.snd.snd.snd.snd.snd.snd.snd.snd.snd.snd.fst, x.snd.snd.snd.snd.snd.snd.snd.snd.snd.snd.snd.snd.fst, x.snd.snd.snd.snd.snd.snd.snd.snd.snd.snd.snd.snd.snd.fst, x.snd.snd.snd.snd.snd.snd.snd.snd.snd.snd.snd.snd.snd.snd.fst, x.snd.snd.snd.snd.snd.snd.snd.snd.snd.snd.snd.snd.snd.snd.snd.fst, x.snd.snd.snd.snd.snd.snd.snd.snd.snd.snd.snd.snd.snd.snd.snd.snd.fst, x.snd.snd.snd.snd.snd.snd.snd.snd.snd.snd.snd.snd.snd.snd.snd.snd.snd.fst, x.snd.snd.snd.snd.snd.snd.snd.snd.snd.snd.snd.snd.snd.snd.snd.snd.snd.snd.fst, x.snd.snd.snd.snd.snd.snd.snd.snd.snd.snd.snd.snd.snd.snd.snd.snd.snd.snd.snd.fst, x.snd.snd.snd.snd.snd.snd.snd.snd.snd.snd.snd.snd.snd.snd.snd.snd.snd.snd.snd.snd.fst, x.snd.snd.snd.snd.snd.snd.snd.snd.snd.snd.snd.snd.snd.snd.snd.snd.snd.snd.snd.snd.snd.fst, x.snd.snd.snd.snd.snd.snd.snd.snd.snd.snd.snd.snd.snd.snd.snd.snd.snd.snd.snd.snd.snd.snd.fst, x.snd.snd.snd.snd.snd.snd.snd.snd.snd.snd.snd.snd.snd.snd.snd.snd.snd.snd.snd.snd.snd.snd.snd.fst, x.snd.snd.snd.snd.snd.snd.snd.snd.snd.snd.snd.snd.snd.snd.snd.snd.snd.snd.snd.snd.snd.snd.snd.snd.fst, ()))
        else
         some (Sum.inl (y1.fst, x.snd.fst, x.snd.snd.fst, x.snd.snd.snd.fst, List.getD x.snd.snd.snd.snd.snd.snd.snd.snd.snd.snd.snd.snd.snd.snd.snd.snd.snd.snd.snd.snd.snd.fst (Int.toNat y2.fst) 0, x.snd.snd.snd.snd.snd.fst, x.snd.snd.snd.snd.snd.snd.fst, x.snd.snd.snd.snd.snd.snd.snd.fst, x.snd.snd.snd.snd.snd.snd.snd.snd.fst, x.snd.snd.snd.snd.snd.snd.snd.snd.snd.fst, x.snd.snd.snd.snd.snd.snd.snd.snd.snd.snd.fst, x.snd.snd.snd.snd.snd.snd.snd.snd.snd.snd.snd.fst, x.snd.snd.snd.snd.snd.snd.snd.snd.snd.snd.snd.snd.fst, x.snd.snd.snd.snd.snd.snd.snd.snd.snd.snd.snd.snd.snd.fst, x.snd.snd.snd.snd.snd.snd.snd.snd.snd.snd.snd.snd.snd.snd.fst, x.snd.snd.snd.snd.snd.snd.snd.snd.snd.snd.snd.snd.snd.snd.snd.fst, x.snd.snd.snd.snd.snd.snd.snd.snd.snd.snd.snd.snd.snd.snd.snd.snd.fst, x.snd.snd.snd.snd.snd.snd.snd.snd.snd.snd.snd.snd.snd.snd.snd.snd.snd.fst, x.snd.snd.snd.snd.snd.snd.snd.snd.snd.snd.snd.snd.snd.snd.snd.snd.snd.snd.fst, x.snd.snd.snd.snd.snd.snd.snd.snd.snd.snd.snd.snd.snd.snd.snd.snd.snd.snd.snd.fst, x.snd.snd.snd.snd.snd.snd.snd.snd.snd.snd.snd.snd.snd.snd.snd.snd.snd.snd.snd.snd.fst, x.snd.snd.snd.snd.snd.snd.snd.snd.snd.snd.snd.snd.snd.snd.snd.snd.snd.snd.snd.snd.snd.fst, x.snd.snd.snd.snd.snd.snd.snd.snd.snd.snd.snd.snd.snd.snd.snd.snd.snd.snd.snd.snd.snd.snd.fst, x.snd.snd.snd.snd.snd.snd.snd.snd.snd.snd.snd.snd.snd.snd.snd.snd.snd.snd.snd.snd.snd.snd.snd.fst, x.snd.snd.snd.snd.snd.snd.snd.snd.snd.snd.snd.snd.snd.snd.snd.snd.snd.snd.snd.snd.snd.snd.snd.snd.fst, ()))
      else
       some (Sum.inl (y1.fst, x.snd.fst, x.snd.snd.fst, x.snd.snd.snd.fst, List.getD x.snd.snd.snd.snd.snd.snd.snd.snd.snd.snd.snd.snd.snd.snd.snd.snd.snd.snd.snd.snd.snd.fst (Int.toNat y2.fst) 0, x.snd.snd.snd.snd.snd.fst, x.snd.snd.snd.snd.snd.snd.fst, x.snd.snd.snd.snd.snd.snd.snd.fst, x.snd.snd.snd.snd.snd.snd.snd.snd.fst, x.snd.snd.snd.snd.snd.snd.snd.snd.snd.fst, x.snd.snd.snd.snd.snd.snd.snd.snd.snd.snd.fst, x.snd.snd.snd.snd.snd.snd.snd.snd.snd.snd.snd.fst, x.snd.snd.snd.snd.snd.snd.snd.snd.snd.snd.snd.snd.fst, x.snd.snd.snd.snd.snd.snd.snd.snd.snd.snd.snd.snd.snd.fst, x.snd.snd.snd.snd.snd.snd.snd.snd.snd.snd.snd.snd.snd.snd.fst, x.snd.snd.snd.snd.snd.snd.snd.snd.snd.snd.snd.snd.snd.snd.snd.fst, x.snd.snd.snd.snd.snd.snd.snd.snd.snd.snd.snd.snd.snd.snd.snd.snd.fst, x.snd.snd.snd.snd.snd.snd.snd.snd.snd.snd.snd.snd.snd.snd.snd.snd.snd.fst, x.snd.snd.snd.snd.snd.snd.snd.snd.snd.snd.snd.snd.snd.snd.snd.snd.snd.snd.fst, x.snd.snd.snd.snd.snd.snd.snd.snd.snd.snd.snd.snd.snd.snd.snd.snd.snd.snd.snd.fst, x.snd.snd.snd.snd.snd.snd.snd.snd.snd.snd.snd.snd.snd.snd.snd.snd.snd.snd.snd.snd.fst, x.snd.snd.snd.snd.snd.snd.snd.snd.snd.snd.snd.snd.snd.snd.snd.snd.snd.snd.snd.snd.snd.fst, x.snd.snd.snd.snd.snd.snd.snd.snd.snd.snd.snd.snd.snd.snd.snd.snd.snd.snd.snd.snd.snd.snd.fst, x.snd.snd.snd.snd.snd.snd.snd.snd.snd.snd.snd.snd.snd.snd.snd.snd.snd.snd.snd.snd.snd.snd.snd.fst, x.snd.snd.snd.snd.snd.snd.snd.snd.snd.snd.snd.snd.snd.snd.snd.snd.snd.snd.snd.snd.snd.snd.snd.snd.fst, ()))
     ) fun y5 =>
      Sum.elim (fun y6 =>
       Option.bind (f11 1) fun y7 =>
        Option.bind (f24 y6.snd.fst y7.snd.snd.snd.snd.snd.snd.fst) fun y8 =>
         Option.bind (f24 y6.snd.fst 32) fun y9 =>
          bif inRange y9.fst (List.length y6.snd.snd.snd.snd.snd.snd.snd.snd.snd.snd.snd.snd.snd.snd.snd.snd.snd.snd.snd.snd.snd.snd.snd.fst) then
           Option.bind (f24 y6.snd.snd.snd.fst 1000) fun y10 =>
            bif inRange y6.fst 4 then
             Option.bind (α := Int × Int × Int × Int × Int × Int × Int × Int × Int × Int × Int × Int × Int × Int × Int × Int × List Int × List (Int × Int × Int × Int × Int × Int × Int × Int × Int × Int × Int) × List (Int × Int × Int × Int) × Unit ⊕ Int × Int × Int × Int × Int × Int × Int × Int × List Int × List (Int × Int × Int × Int × Int × Int × Int × Int × Int × Int × Int) × List (Int × Int × Int × Int) × Unit) (
              let s0 : List (Int × Int × Int × Int × Int × Int × Int × Int × Int × Int × Int) := List.set y6.snd.snd.snd.snd.snd.snd.snd.snd.snd.snd.snd.snd.snd.snd.snd.snd.snd.snd.snd.snd.snd.snd.snd.fst (Int.toNat y9.fst) (y7.fst, y7.snd.fst, y6.fst, Int.tmod y6.snd.snd.snd.snd.fst 24, Go.IntKind.wrap Go.IntKind.i64 (Int.tdiv y6.snd.snd.snd.snd.fst 24), Go.IntKind.wrap Go.IntKind.i64 (1 + y8.fst), y7.snd.snd.snd.snd.snd.snd.fst, y7.snd.snd.snd.snd.snd.snd.snd.fst, y7.snd.snd.snd.snd.snd.snd.snd.snd.fst, y7.snd.snd.snd.snd.snd.snd.snd.snd.snd.fst, y7.snd.snd.snd.snd.snd.snd.snd.snd.snd.snd.fst)
              f8.L1 ((y6.fst, y6.snd.snd.fst, y6.snd.snd.snd.snd.fst, 0, y6.snd.snd.snd.snd.snd.fst, y6.snd.snd.snd.snd.snd.snd.fst, y6.snd.snd.snd.snd.snd.snd.snd.fst, y6.snd.snd.snd.snd.snd.snd.snd.snd.fst, y6.snd.snd.snd.snd.snd.snd.snd.snd.snd.fst, y6.snd.snd.snd.snd.snd.snd.snd.snd.snd.snd.fst, y6.snd.snd.snd.snd.snd.snd.snd.snd.snd.snd.snd.fst, y6.snd.snd.snd.snd.snd.snd.snd.snd.snd.snd.snd.snd.fst, y6.snd.snd.snd.snd.snd.snd.snd.snd.snd.snd.snd.snd.snd.fst, y6.snd.snd.snd.snd.snd.snd.snd.snd.snd.snd.snd.snd.snd.snd.fst, y6.snd.snd.snd.snd.snd.snd.snd.snd.snd.snd.snd.snd.snd.snd.snd.fst, y6.snd.snd.snd.snd.snd.snd.snd.snd.snd.snd.snd.snd.snd.snd.snd.snd.fst, if Int.toNat y6.fst = 0 / 1 then y10.fst else y6.snd.snd.snd.snd.snd.snd.snd.snd.snd.snd.snd.snd.snd.snd.snd.snd.snd.fst, if Int.toNat y6.fst = (0 + 1) / 1 then y10.fst else y6.snd.snd.snd.snd.snd.snd.snd.snd.snd.snd.snd.snd.snd.snd.snd.snd.snd.snd.fst, if Int.toNat y6.fst = (0 + 1 + 1) / 1 then y10.fst else y6.snd.snd.snd.snd.snd.snd.snd.snd.snd.snd.snd.snd.snd.snd.snd.snd.snd.snd.snd.fst, if Int.toNat y6.fst = (0 + 1 + 1 + 1) / 1 then y10.fst else y6.snd.snd.snd.snd.snd.snd.snd.snd.snd.snd.snd.snd.snd.snd.snd.snd.snd.snd.snd.snd.fst, y6.snd.snd.snd.snd.snd.snd.snd.snd.snd.snd.snd.snd.snd.snd.snd.snd.snd.snd.snd.snd.snd.fst, y6.snd.snd.snd.snd.snd.snd.snd.snd.snd.snd.snd.snd.snd.snd.snd.snd.snd.snd.snd.snd.snd.snd.fst, s0, y6.snd.snd.snd.snd.snd.snd.snd.snd.snd.snd.snd.snd.snd.snd.snd.snd.snd.snd.snd.snd.snd.snd.snd.snd.fst, ()))
             ) fun y11 =>
              Sum.elim (fun y12 =>
               some ((y12.snd.snd.snd.snd.snd.snd.snd.snd.fst, y12.snd.snd.snd.snd.snd.snd.snd.snd.snd.fst, y12.snd.snd.snd.snd.snd.snd.snd.snd.snd.snd.fst, y12.snd.snd.snd.snd.snd.snd.snd.snd.snd.snd.snd.fst, y12.snd.snd.snd.snd.snd.snd.snd.snd.snd.snd.snd.snd.fst, y12.snd.snd.snd.snd.snd.snd.snd.snd.snd.snd.snd.snd.snd.fst, y12.snd.snd.snd.snd.snd.snd.snd.snd.snd.snd.snd.snd.snd.snd.fst, y12.snd.snd.snd.snd.snd.snd.snd.snd.snd.snd.snd.snd.snd.snd.snd.fst, y12.snd.snd.snd.snd.snd.snd.snd.snd.snd.snd.snd.snd.snd.snd.snd.snd.fst, y12.snd.snd.snd.snd.snd.snd.snd.snd.snd.snd.snd.snd.snd.snd.snd.snd.snd.fst, y12.snd.snd.snd.snd.snd.snd.snd.snd.snd.snd.snd.snd.snd.snd.snd.snd.snd.snd.fst, ()))
              ) (fun z13 =>
               some (z13)
              ) (y11)
            else
             none
          else
           none
      ) (fun z14 =>
       some (z14)
      ) (y5)
    else
     none
 ) (100000000000000000000) (x)
def f8 (a0 : Int) (a1 : Int) (a2 : Int) (a3 : Int) (a4 : List (Int × Int × Int × Int)) (a5 : Int) : Option (Int × Int × Int × Int × Int × Int × Int × Int × List Int × List (Int × Int × Int × Int × Int × Int × Int × Int × Int × Int × Int) × List (Int × Int × Int × Int) × Unit) :=
 Option.bind (f24 a1 3) fun y0 =>
  Option.bind (f25 a0 (Go.IntKind.wrap Go.IntKind.i64 (1 + y0.fst))) fun y1 =>
   f8.L2 ((a2, a3, a4, a5, 0, 0, 0, 0, 0, 0, 0, 0, 0, a0, 0, Go.IntKind.wrap Go.IntKind.i64 (1 + y0.fst), 0, 0, 0, 0, 0, [], y1.fst, List.replicate 32 (0, 0, 0, 0, 0, 0, 0, 0, 0, 0, 0), List.replicate 40 (0, 0, 0, 0), ()))
def f8.ins : Shape := ⟨[(0, .c (.int .i64)), (1, .c (.int .i64)), (2, .c (.int .i64)), (3, .c (.int .i64)), (4, .c (.row (.prod (.int .i64) (.prod (.int .i64) (.prod (.int .i64) (.int .i64)))))), (5, .c (.int .i64))], []⟩
def f8.outs : List Shape := [⟨[(0, .agg [.int .i64, .int .i64, .int .i64, .int .i64, .own 0, .own 1, .own 2, .int .i64, .int .i64, .int .i64, .int .i64])], [(0, .arr (.int .u8)), (1, .arr (.prod (.int .i64) (.prod (.int .i64) (.prod (.int .i64) (.prod (.int .i64) (.prod (.int .i64) (.prod (.int .i64) (.prod (.int .i64) (.prod (.int .i64) (.prod (.int .i64) (.prod (.int .i64) (.int .i64)))))))))))), (2, .arr (.prod (.int .i64) (.prod (.int .i64) (.prod (.int .i64) (.int .i64)))))]⟩]
def f8.S : FnSpec := ⟨f8.ins, f8.outs, [], fun x => f8 x.1 x.2.1 x.2.2.1 x.2.2.2.1 x.2.2.2.2.1 x.2.2.2.2.2.1⟩
def f8.E (fuel : Nat) : Env := ⟨tis, [(24, f24.S), (26, f26.S), (11, f11.S), (25, f25.S), (27, f27.S), (28, f28.S)], [], [(14, ⟨[(2, .c (.int .i64)), (3, .c (.int .i64)), (4, .c (.row (.prod (.int .i64) (.prod (.int .i64) (.prod (.int .i64) (.int .i64)))))), (5, .c (.int .i64)), (12, .c (.ptr 0 0)), (13, .c (.ptr 1 0)), (14, .c (.own 2)), (16, .c (.int .i64))], [(0, .box [.int .i64, .int .i64, .int .i64, .int .i64, .nils, .nils, .nils, .int .i64, .int .i64, .int .i64, .int .i64]), (1, .box [.int .i64, .int .i64, .int .i64, .int .i64, .own 3, .own 4, .own 5, .int .i64, .int .i64, .int .i64, .int .i64]), (2, .arr (.int .i64)), (3, .arr (.int .u8)), (4, .arr (.prod (.int .i64) (.prod (.int .i64) (.prod (.int .i64) (.prod (.int .i64) (.prod (.int .i64) (.prod (.int .i64) (.prod (.int .i64) (.prod (.int .i64) (.prod (.int .i64) (.prod (.int .i64) (.int .i64)))))))))))), (5, .arr (.prod (.int .i64) (.prod (.int .i64) (.prod (.int .i64) (.int .i64)))))]⟩), (27, ⟨[(2, .c (.int .i64)), (4, .c (.row (.prod (.int .i64) (.prod (.int .i64) (.prod (.int .i64) (.int .i64)))))), (12, .c (.ptr 0 0)), (13, .c (.ptr 1 0)), (14, .c (.own 2)), (16, .c (.int .i64)), (18, .c (.int .i64)), (19, .c (.ptr 3 0)), (20, .c (.int .i64))], [(0, .box [.int .i64, .int .i64, .int .i64, .int .i64, .nils, .nils, .nils, .int .i64, .int .i64, .int .i64, .int .i64]), (1, .box [.int .i64, .int .i64, .int .i64, .int .i64, .own 4, .own 5, .own 6, .int .i64, .int .i64, .int .i64, .int .i64]), (2, .arr (.int .i64)), (3, .box [.int .i64, .int .i64, .int .i64, .int .i64]), (4, .arr (.int .u8)), (5, .arr (.prod (.int .i64) (.prod (.int .i64) (.prod (.int .i64) (.prod (.int .i64) (.prod (.int .i64) (.prod (.int .i64) (.prod (.int .i64) (.prod (.int .i64) (.prod (.int .i64) (.prod (.int .i64) (.int .i64)))))))))))), (6, .arr (.prod (.int .i64) (.prod (.int .i64) (.prod (.int .i64) (.int .i64)))))]⟩), (37, ⟨[(2, .c (.int .i64)), (4, .c (.row (.prod (.int .i64) (.prod (.int .i64) (.prod (.int .i64) (.int .i64)))))), (12, .c (.ptr 0 0)), (13, .c (.ptr 1 0)), (14, .c (.own 2)), (16, .c (.int .i64)), (18, .c (.int .i64)), (19, .c (.ptr 3 0))], [(0, .box [.int .i64, .int .i64, .int .i64, .int .i64, .nils, .nils, .nils, .int .i64, .int .i64, .int .i64, .int .i64]), (1, .box [.int .i64, .int .i64, .int .i64, .int .i64, .own 4, .own 5, .own 6, .int .i64, .int .i64, .int .i64, .int .i64]), (2, .arr (.int .i64)), (3, .box [.int .i64, .int .i64, .int .i64, .int .i64]), (4, .arr (.int .u8)), (5, .arr (.prod (.int .i64) (.prod (.int .i64) (.prod (.int .i64) (.prod (.int .i64) (.prod (.int .i64) (.prod (.int .i64) (.prod (.int .i64) (.prod (.int .i64) (.prod (.int .i64) (.prod (.int .i64) (.int .i64)))))))))))), (6, .arr (.prod (.int .i64) (.prod (.int .i64) (.prod (.int .i64) (.int .i64)))))]⟩), (39, ⟨[(2, .c (.int .i64)), (4, .c (.row (.prod (.int .i64) (.prod (.int .i64) (.prod (.int .i64) (.int .i64)))))), (12, .c (.ptr 0 0)), (13, .c (.ptr 1 0)), (14, .c (.own 2)), (16, .c (.int .i64)), (18, .c (.int .i64)), (19, .c (.ptr 3 0))], [(0, .box [.int .i64, .int .i64, .int .i64, .int .i64, .nils, .nils, .nils, .int .i64, .int .i64, .int .i64, .int .i64]), (1, .box [.int .i64, .int .i64, .int .i64, .int .i64, .own 4, .own 5, .own 6, .int .i64, .int .i64, .int .i64, .int .i64]), (2, .arr (.int .i64)), (3, .box [.int .i64, .int .i64, .int .i64, .int .i64]), (4, .arr (.int .u8)), (5, .arr (.prod (.int .i64) (.prod (.int .i64) (.prod (.int .i64) (.prod (.int .i64) (.prod (.int .i64) (.prod (.int .i64) (.prod (.int .i64) (.prod (.int .i64) (.prod (.int .i64) (.prod (.int .i64) (.int .i64)))))))))))), (6, .arr (.prod (.int .i64) (.prod (.int .i64) (.prod (.int .i64) (.int .i64)))))]⟩), (41, ⟨[(12, .c (.ptr 0 0)), (13, .c (.ptr 1 0))], [(0, .box [.int .i64, .int .i64, .int .i64, .int .i64, .nils, .nils, .nils, .int .i64, .int .i64, .int .i64, .int .i64]), (1, .box [.int .i64, .int .i64, .int .i64, .int .i64, .own 2, .own 3, .own 4, .int .i64, .int .i64, .int .i64, .int .i64]), (2, .arr (.int .u8)), (3, .arr (.prod (.int .i64) (.prod (.int .i64) (.prod (.int .i64) (.prod (.int .i64) (.prod (.int .i64) (.prod (.int .i64) (.prod (.int .i64) (.prod (.int .i64) (.prod (.int .i64) (.prod (.int .i64) (.int .i64)))))))))))), (4, .arr (.prod (.int .i64) (.prod (.int .i64) (.prod (.int .i64) (.int .i64)))))]⟩)], [(6, ⟨[(2, .c (.int .i64)), (3, .c (.int .i64)), (4, .c (.row (.prod (.int .i64) (.prod (.int .i64) (.prod (.int .i64) (.int .i64)))))), (5, .c (.int .i64)), (12, .c (.ptr 0 0)), (13, .c (.ptr 1 0)), (14, .c (.own 2)), (15, .c (.int .i64))], [(0, .box [.int .i64, .int .i64, .int .i64, .int .i64, .nils, .nils, .nils, .int .i64, .int .i64, .int .i64, .int .i64]), (1, .box [.int .i64, .int .i64, .int .i64, .int .i64, .own 3, .own 4, .own 5, .int .i64, .int .i64, .int .i64, .int .i64]), (2, .arr (.int .i64)), (3, .arr (.int .u8)), (4, .arr (.prod (.int .i64) (.prod (.int .i64) (.prod (.int .i64) (.prod (.int .i64) (.prod (.int .i64) (.prod (.int .i64) (.prod (.int .i64) (.prod (.int .i64) (.prod (.int .i64) (.prod (.int .i64) (.int .i64)))))))))))), (5, .arr (.prod (.int .i64) (.prod (.int .i64) (.prod (.int .i64) (.int .i64)))))]⟩), (19, ⟨[(2, .c (.int .i64)), (4, .c (.row (.prod (.int .i64) (.prod (.int .i64) (.prod (.int .i64) (.int .i64)))))), (12, .c (.ptr 0 0)), (13, .c (.ptr 1 0)), (14, .c (.own 2)), (16, .c (.int .i64)), (18, .c (.int .i64))], [(0, .box [.int .i64, .int .i64, .int .i64, .int .i64, .nils, .nils, .nils, .int .i64, .int .i64, .int .i64, .int .i64]), (1, .box [.int .i64, .int .i64, .int .i64, .int .i64, .own 3, .own 4, .own 5, .int .i64, .int .i64, .int .i64, .int .i64]), (2, .arr (.int .i64)), (3, .arr (.int .u8)), (4, .arr (.prod (.int .i64) (.prod (.int .i64) (.prod (.int .i64) (.prod (.int .i64) (.prod (.int .i64) (.prod (.int .i64) (.prod (.int .i64) (.prod (.int .i64) (.prod (.int .i64) (.prod (.int .i64) (.int .i64)))))))))))), (5, .arr (.prod (.int .i64) (.prod (.int .i64) (.prod (.int .i64) (.int .i64)))))]⟩)], [], 0, [], fuel⟩
theorem f8.run : ∀ x, runFn (f8.E 100000000000000000000) Go.Proofs.Try.f8 ((Go.Proofs.Try.f8.body).getD .skip) f8.S x = f8.S.f x := by intro x; kernel_rfl
theorem f8.sound : Sound Go.Proofs.Try.prog 8 f8.S := sound_of_run (fun _ => f8.E 100000000000000000000) (by kernel_rfl) (by kernel_rfl) (by kernel_rfl) orders (fun _ => ⟨tis_ok, EqsOk.nil _, (FnsOk.cons f24.sound (FnsOk.cons f26.sound (FnsOk.cons f11.sound (FnsOk.cons f25.sound (FnsOk.cons f27.sound (FnsOk.cons f28.sound FnsOk.nil))))))⟩) (fun _ => rfl) (by kernel_rfl) (by kernel_rfl) (fun x r h => (f8.run x).trans h)
/-! f9: adit/aditlaw8.within -/
def f9 (a0 : Int) (a1 : Int) : Option (Int × Unit) :=
 bif Decidable.decide (a1 = 0) then
  none
 else
  Option.bind (α := Int × Unit ⊕ Int × Unit) (
   bif Decidable.decide (Int.tmod a0 a1 < 0) then
    some (Sum.inl (Go.IntKind.wrap Go.IntKind.i64 (Int.tmod a0 a1 + a1), ()))
   else
    some (Sum.inl (Int.tmod a0 a1, ()))
  ) fun y0 =>
   Sum.elim (fun y1 =>
    some ((y1.fst, ()))
   ) (fun z2 =>
    some (z2)
   ) (y0)
def f9.ins : Shape := ⟨[(0, .c (.int .i64)), (1, .c (.int .i64))], []⟩
def f9.outs : List Shape := [⟨[(0, .c (.int .i64))], []⟩]
def f9.S : FnSpec := ⟨f9.ins, f9.outs, [], fun x => f9 x.1 x.2.1⟩
def f9.E (fuel : Nat) : Env := ⟨tis, [], [], [(5, ⟨[(5, .c (.int .i64))], []⟩)], [], [], 0, [], fuel⟩
theorem f9.run : ∀ x, runFn (f9.E 100000000000000000000) Go.Proofs.Try.f9 ((Go.Proofs.Try.f9.body).getD .skip) f9.S x = f9.S.f x := by intro x; kernel_rfl
theorem f9.sound : Sound Go.Proofs.Try.prog 9 f9.S := sound_of_run (fun _ => f9.E 100000000000000000000) (by kernel_rfl) (by kernel_rfl) (by kernel_rfl) orders (fun _ => ⟨tis_ok, EqsOk.nil _, FnsOk.nil⟩) (fun _ => rfl) (by kernel_rfl) (by kernel_rfl) (fun x r h => (f9.run x).trans h)
/-! f12: adit/aditref5.At -/
def f12.L1 (x : List (Int × Int × Int × Int × Int × Int × Int × Int × Int × Int × Int) × Int × Int × Int × Unit) : Option (Int × Unit) :=
 it (X := List (Int × Int × Int × Int × Int × Int × Int × Int × Int × Int × Int) × Int × Int × Int × Unit) (fun rec x =>
 bif Decidable.decide (x.snd.snd.snd.fst < (↑(List.length x.fst) : Int)) then
  bif inRange x.snd.snd.snd.fst (List.length x.fst) then
   bif (List.getD x.fst (Int.toNat x.snd.snd.snd.fst) (0, 0, 0, 0, 0, 0, 0, 0, 0, 0, 0)).fst != 0 then
    bif inRange x.snd.snd.snd.fst (List.length x.fst) then
     bif (List.getD x.fst (Int.toNat x.snd.snd.snd.fst) (0, 0, 0, 0, 0, 0, 0, 0, 0, 0, 0)).snd.snd.snd.fst == x.snd.fst then
      bif inRange x.snd.snd.snd.fst (List.length x.fst) then
       bif (List.getD x.fst (Int.toNat x.snd.snd.snd.fst) (0, 0, 0, 0, 0, 0, 0, 0, 0, 0, 0)).snd.snd.snd.snd.fst == x.snd.snd.fst then
        some ((x.snd.snd.snd.fst, ()))
       else
        rec (x.fst, x.snd.fst, x.snd.snd.fst, Go.IntKind.wrap Go.IntKind.i64 (x.snd.snd.snd.fst + 1), ())
      else
       none
     else
      rec (x.fst, x.snd.fst, x.snd.snd.fst, Go.IntKind.wrap Go.IntKind.i64 (x.snd.snd.snd.fst + 1), ())
    else
     none
   else
    rec (x.fst, x.snd.fst, x.snd.snd.fst, Go.IntKind.wrap Go.IntKind.i64 (x.snd.snd.snd.fst + 1), ())
  else
   none
 else
  some ((-1, ()))
 ) (100000000000000000000) (x)
def f12 (a0 : List (Int × Int × Int × Int × Int × Int × Int × Int × Int × Int × Int)) (a1 : Int) (a2 : Int) : Option (Int × Unit) :=
 f12.L1 ((a0, a1, a2, 0, ()))
def f12.ins : Shape := ⟨[(0, .c (.row (.prod (.int .i64) (.prod (.int .i64) (.prod (.int .i64) (.prod (.int .i64) (.prod (.int .i64) (.prod (.int .i64) (.prod (.int .i64) (.prod (.int .i64) (.prod (.int .i64) (.prod (.int .i64) (.int .i64))))))))))))), (1, .c (.int .i64)), (2, .c (.int .i64))], []⟩
def f12.outs : List Shape := [⟨[(0, .c (.int .i64))], []⟩]
def f12.S : FnSpec := ⟨f12.ins, f12.outs, [], fun x => f12 x.1 x.2.1 x.2.2.1⟩
def f12.E (fuel : Nat) : Env := ⟨tis, [], [], [], [(3, ⟨[(0, .c (.row (.prod (.int .i64) (.prod (.int .i64) (.prod (.int .i64) (.prod (.int .i64) (.prod (.int .i64) (.prod (.int .i64) (.prod (.int .i64) (.prod (.int .i64) (.prod (.int .i64) (.prod (.int .i64) (.int .i64))))))))))))), (1, .c (.int .i64)), (2, .c (.int .i64)), (7, .c (.int .i64))], []⟩)], [], 0, [], fuel⟩
theorem f12.run : ∀ x, runFn (f12.E 100000000000000000000) Go.Proofs.Try.f12 ((Go.Proofs.Try.f12.body).getD .skip) f12.S x = f12.S.f x := by intro x; kernel_rfl
theorem f12.sound : Sound Go.Proofs.Try.prog 12 f12.S := sound_of_run (fun _ => f12.E 100000000000000000000) (by kernel_rfl) (by kernel_rfl) (by kernel_rfl) orders (fun _ => ⟨tis_ok, EqsOk.nil _, FnsOk.nil⟩) (fun _ => rfl) (by kernel_rfl) (by kernel_rfl) (fun x r h => (f12.run x).trans h)
/-! f10: adit/aditref5.Hero -/
def f10.L1 (x : List (Int × Int × Int × Int × Int × Int × Int × Int × Int × Int × Int) × Int × Int × Unit) : Option (Int × Unit) :=
 it (X := List (Int × Int × Int × Int × Int × Int × Int × Int × Int × Int × Int) × Int × Int × Unit) (fun rec x =>
 bif Decidable.decide (x.snd.snd.fst < (↑(List.length x.fst) : Int)) then
  bif inRange x.snd.snd.fst (List.length x.fst) then
   bif (List.getD x.fst (Int.toNat x.snd.snd.fst) (0, 0, 0, 0, 0, 0, 0, 0, 0, 0, 0)).fst == 1 then
    bif inRange x.snd.snd.fst (List.length x.fst) then
     bif (List.getD x.fst (Int.toNat x.snd.snd.fst) (0, 0, 0, 0, 0, 0, 0, 0, 0, 0, 0)).snd.snd.fst == x.snd.fst then
      some ((x.snd.snd.fst, ()))
     else
      rec (x.fst, x.snd.fst, Go.IntKind.wrap Go.IntKind.i64 (x.snd.snd.fst + 1), ())
    else
     none
   else
    rec (x.fst, x.snd.fst, Go.IntKind.wrap Go.IntKind.i64 (x.snd.snd.fst + 1), ())
  else
   none
 else
  some ((-1, ()))
 ) (100000000000000000000) (x)
def f10 (a0 : List (Int × Int × Int × Int × Int × Int × Int × Int × Int × Int × Int)) (a1 : Int) : Option (Int × Unit) :=
 f10.L1 ((a0, a1, 0, ()))
def f10.ins : Shape := ⟨[(0, .c (.row (.prod (.int .i64) (.prod (.int .i64) (.prod (.int .i64) (.prod (.int .i64) (.prod (.int .i64) (.prod (.int .i64) (.prod (.int .i64) (.prod (.int .i64) (.prod (.int .i64) (.prod (.int .i64) (.int .i64))))))))))))), (1, .c (.int .i64))], []⟩
def f10.outs : List Shape := [⟨[(0, .c (.int .i64))], []⟩]
def f10.S : FnSpec := ⟨f10.ins, f10.outs, [], fun x => f10 x.1 x.2.1⟩
def f10.E (fuel : Nat) : Env := ⟨tis, [], [], [], [(3, ⟨[(0, .c (.row (.prod (.int .i64) (.prod (.int .i64) (.prod (.int .i64) (.prod (.int .i64) (.prod (.int .i64) (.prod (.int .i64) (.prod (.int .i64) (.prod (.int .i64) (.prod (.int .i64) (.prod (.int .i64) (.int .i64))))))))))))), (1, .c (.int .i64)), (5, .c (.int .i64))], []⟩)], [], 0, [], fuel⟩
theorem f10.run : ∀ x, runFn (f10.E 100000000000000000000) Go.Proofs.Try.f10 ((Go.Proofs.Try.f10.body).getD .skip) f10.S x = f10.S.f x := by intro x; kernel_rfl
theorem f10.sound : Sound Go.Proofs.Try.prog 10 f10.S := sound_of_run (fun _ => f10.E 100000000000000000000) (by kernel_rfl) (by kernel_rfl) (by kernel_rfl) orders (fun _ => ⟨tis_ok, EqsOk.nil _, FnsOk.nil⟩) (fun _ => rfl) (by kernel_rfl) (by kernel_rfl) (fun x r h => (f10.run x).trans h)
/-! f13: adit/aditref5.Spawn -/
def f13.L1 (x : List (Int × Int × Int × Int × Int × Int × Int × Int × Int × Int × Int) × Int × Int × Int × Int × Int × Int × Int × Int × Int × Int × Int × Int × Unit) : Option (Unit ⊕ Int × Int × List (Int × Int × Int × Int × Int × Int × Int × Int × Int × Int × Int) × Unit) :=
 it (X := List (Int × Int × Int × Int × Int × Int × Int × Int × Int × Int × Int) × Int × Int × Int × Int × Int × Int × Int × Int × Int × Int × Int × Int × Unit) (fun rec x =>
 bif Decidable.decide (x.snd.fst < (↑(List.length x.fst) : Int)) then
  bif Decidable.decide (x.snd.fst < 32) then
   bif inRange x.snd.fst (List.length x.fst) then
    bif (List.getD x.fst (Int.toNat x.snd.fst) (0, 0, 0, 0, 0, 0, 0, 0, 0, 0, 0)).fst == 0 then
     bif Decidable.decide (0 + List.length x.fst ≤ limit 88) then
      bif inRange x.snd.fst (List.length x.fst) then
       bif inRange x.snd.fst (List.length x.fst) then
        let s0 : List (Int × Int × Int × Int × Int × Int × Int × Int × Int × Int × Int) := List.set x.fst (Int.toNat x.snd.fst) (x.snd.snd.fst, Int.tmod (Go.IntKind.wrap Go.IntKind.i64 ((List.getD x.fst (Int.toNat x.snd.fst) (0, 0, 0, 0, 0, 0, 0, 0, 0, 0, 0)).snd.fst + 1)) 256, x.snd.snd.snd.snd.fst, x.snd.snd.snd.snd.snd.fst, x.snd.snd.snd.snd.snd.snd.fst, x.snd.snd.snd.snd.snd.snd.snd.fst, x.snd.snd.snd.snd.snd.snd.snd.snd.fst, x.snd.snd.snd.snd.snd.snd.snd.snd.snd.fst, x.snd.snd.snd.snd.snd.snd.snd.snd.snd.snd.fst, x.snd.snd.snd.snd.snd.snd.snd.snd.snd.snd.snd.fst, x.snd.snd.snd.snd.snd.snd.snd.snd.snd.snd.snd.snd.fst)
        some (Sum.inr (x.snd.fst, 0, s0, ()))
       else
        none
      else
       none
     else
      none
    else
     rec (x.fst, Go.IntKind.wrap Go.IntKind.i64 (x.snd.fst + 1), x.snd.snd.fst, x.snd.snd.snd.fst, x.snd.snd.snd.snd.fst, x.snd.snd.snd.snd.snd.fst, x.snd.snd.snd.snd.snd.snd.fst, x.snd.snd.snd.snd.snd.snd.snd.fst, x.snd.snd.snd.snd.snd.snd.snd.snd.fst, x.snd.snd.snd.snd.snd.snd.snd.snd.snd.fst, x.snd.snd.snd.snd.snd.snd.snd.snd.snd.snd.fst, x.snd.snd.snd.snd.snd.snd.snd.snd.snd.snd.snd.fst, x.snd.snd.snd.snd.snd.snd.snd.snd.snd.snd.snd.snd.fst, ())
   else
    none
  else
   some (Sum.inl ())
 else
  some (Sum.inl ())
 ) (100000000000000000000) (x)
def f13 (a0 : List (Int × Int × Int × Int × Int × Int × Int × Int × Int × Int × Int)) (a1 : Int) (a2 : Int) (a3 : Int) (a4 : Int) (a5 : Int) (a6 : Int) (a7 : Int) (a8 : Int) (a9 : Int) (a10 : Int) (a11 : Int) : Option (Int × Int × List (Int × Int × Int × Int × Int × Int × Int × Int × Int × Int × Int) × Unit) :=
 bif Decidable.decide (a1 < 1) then
  some ((0, 3, [], ()))
 else
  bif Decidable.decide (a1 > 4) then
   some ((0, 3, [], ()))
  else
   Option.bind (α := Unit ⊕ Int × Int × List (Int × Int × Int × Int × Int × Int × Int × Int × Int × Int × Int) × Unit) (
    f13.L1 ((a0, 0, a1, a2, a3, a4, a5, a6, a7, a8, a9, a10, a11, ()))
   ) fun y0 =>
    Sum.elim (fun y1 =>
     some ((0, 5, [], ()))
    ) (fun z2 =>
     some (z2)
    ) (y0)
def f13.ins : Shape := ⟨[(0, .c (.row (.prod (.int .i64) (.prod (.int .i64) (.prod (.int .i64) (.prod (.int .i64) (.prod (.int .i64) (.prod (.int .i64) (.prod (.int .i64) (.prod (.int .i64) (.prod (.int .i64) (.prod (.int .i64) (.int .i64))))))))))))), (1, .agg [.int .i64, .int .i64, .int .i64, .int .i64, .int .i64, .int .i64, .int .i64, .int .i64, .int .i64, .int .i64, .int .i64])], []⟩
def f13.outs : List Shape := [⟨[(0, .c (.own 0)), (1, .c (.int .i64)), (2, .c (.int .i64))], [(0, .arr (.prod (.int .i64) (.prod (.int .i64) (.prod (.int .i64) (.prod (.int .i64) (.prod (.int .i64) (.prod (.int .i64) (.prod (.int .i64) (.prod (.int .i64) (.prod (.int .i64) (.prod (.int .i64) (.int .i64))))))))))))]⟩]
def f13.S : FnSpec := ⟨f13.ins, f13.outs, [], fun x => f13 x.1 x.2.1 x.2.2.1 x.2.2.2.1 x.2.2.2.2.1 x.2.2.2.2.2.1 x.2.2.2.2.2.2.1 x.2.2.2.2.2.2.2.1 x.2.2.2.2.2.2.2.2.1 x.2.2.2.2.2.2.2.2.2.1 x.2.2.2.2.2.2.2.2.2.2.1 x.2.2.2.2.2.2.2.2.2.2.2.1⟩
def f13.E (fuel : Nat) : Env := ⟨tis, [], [], [(12, ⟨[], []⟩)], [(5, ⟨[(0, .c (.row (.prod (.int .i64) (.prod (.int .i64) (.prod (.int .i64) (.prod (.int .i64) (.prod (.int .i64) (.prod (.int .i64) (.prod (.int .i64) (.prod (.int .i64) (.prod (.int .i64) (.prod (.int .i64) (.int .i64))))))))))))), (3, .c (.ptr 0 0)), (7, .c (.int .i64))], [(0, .box [.int .i64, .int .i64, .int .i64, .int .i64, .int .i64, .int .i64, .int .i64, .int .i64, .int .i64, .int .i64, .int .i64])]⟩)], [], 0, [], fuel⟩
theorem f13.run : ∀ x, runFn (f13.E 100000000000000000000) Go.Proofs.Try.f13 ((Go.Proofs.Try.f13.body).getD .skip) f13.S x = f13.S.f x := by intro x; kernel_rfl
theorem f13.sound : Sound Go.Proofs.Try.prog 13 f13.S := sound_of_run (fun _ => f13.E 100000000000000000000) (by kernel_rfl) (by kernel_rfl) (by kernel_rfl) orders (fun _ => ⟨tis_ok, EqsOk.nil _, FnsOk.nil⟩) (fun _ => rfl) (by kernel_rfl) (by kernel_rfl) (fun x r h => (f13.run x).trans h)
/-! f15: adit/aditlaw8.Crowd -/
def f15.L1 (x : List Int × Int × Int × Int × Int × Int × Int × Int × Int × Int × Int × Int × Int × Int × Int × Int × Int × Int × Int × List Int × List (Int × Int × Int × Int × Int × Int × Int × Int × Int × Int × Int) × List (Int × Int × Int × Int) × Unit) : Option (List Int × Int × Int × Int × Int × Int × Int × Int × Int × Int × Int × Int × Int × Int × Int × Int × Int × Int × Int × List Int × List (Int × Int × Int × Int × Int × Int × Int × Int × Int × Int × Int) × List (Int × Int × Int × Int) × Unit ⊕ Int × Int × Int × Int × Int × Int × Int × Int × Int × Int × Int × Int × Int × Int × Int × Int × List Int × List (Int × Int × Int × Int × Int × Int × Int × Int × Int × Int × Int) × List (Int × Int × Int × Int) × Unit ⊕ Int × Int × Int × Int × Int × Int × Int × Int × List Int × List (Int × Int × Int × Int × Int × Int × Int × Int × Int × Int × Int) × List (Int × Int × Int × Int) × Unit) :=
 it (X := List Int × Int × Int × Int × Int × Int × Int × Int × Int × Int × Int × Int × Int × Int × Int × Int × Int × Int × Int × List Int × List (Int × Int × Int × Int × Int × Int × Int × Int × Int × Int × Int) × List (Int × Int × Int × Int) × Unit) (fun rec x =>
 Option.bind (α := List Int × Int × Int × Int × Int × Int × Int × Int × Int × Int × Int × Int × Int × Int × Int × Int × Int × Int × Int × List Int × List (Int × Int × Int × Int × Int × Int × Int × Int × Int × Int × Int) × List (Int × Int × Int × Int) × Unit ⊕ List Int × Int × Int × Int × Int × Int × Int × Int × Int × Int × Int × Int × Int × Int × Int × Int × Int × Int × Int × List Int × List (Int × Int × Int × Int × Int × Int × Int × Int × Int × Int × Int) × List (Int × Int × Int × Int) × Unit ⊕ Int × Int × Int × Int × Int × Int × Int × Int × Int × Int × Int × Int × Int × Int × Int × Int × List Int × List (Int × Int × Int × Int × Int × Int × Int × Int × Int × Int × Int) × List (Int × Int × Int × Int) × Unit ⊕ Int × Int × Int × Int × Int × Int × Int × Int × List Int × List (Int × Int × Int × Int × Int × Int × Int × Int × Int × Int × Int) × List (Int × Int × Int × Int) × Unit) (
  bif Decidable.decide (x.snd.fst < 384) then
   bif inRange x.snd.fst (List.length x.snd.snd.snd.snd.snd.snd.snd.snd.snd.snd.snd.snd.snd.snd.snd.snd.snd.snd.snd.fst) then
    Option.bind (f26 (Go.IntKind.wrap Go.IntKind.i64 (List.getD x.snd.snd.snd.snd.snd.snd.snd.snd.snd.snd.snd.snd.snd.snd.snd.snd.snd.snd.snd.fst (Int.toNat x.snd.fst) 0))) fun y0 =>
     bif !y0.fst then
      some (Sum.inl (x.fst, x.snd.fst, x.snd.snd.fst, x.snd.snd.snd.fst, x.snd.snd.snd.snd.fst, x.snd.snd.snd.snd.snd.fst, x.snd.snd.snd.snd.snd.snd.fst, x.snd.snd.snd.snd.snd.snd.snd.fst, x.snd.snd.snd.snd.snd.snd.snd.snd.fst, x.snd.snd.snd.snd.snd.snd.snd.snd.snd.fst, x.snd.snd.snd.snd.snd.snd.snd.snd.snd.snd.fst, x.snd.snd.snd.snd.snd.snd.snd.snd.snd.snd.snd.fst, x.snd.snd.snd.snd.snd.snd.snd.snd.snd.snd.snd.snd.fst, x.snd.snd.snd.snd.snd.snd.snd.snd.snd.snd.snd.snd.snd.fst, x.snd.snd.snd.snd.snd.snd.snd.snd.snd.snd.snd.snd.snd.snd.fst, x.snd.snd.snd.snd.snd.snd.snd.snd.snd.snd.snd.snd.snd.snd.snd.fst, x.snd.snd.snd.snd.snd.snd.snd.snd.snd.snd.snd.snd.snd.snd.snd.snd.fst, x.snd.snd.snd.snd.snd.snd.snd.snd.snd.snd.snd.snd.snd.snd.snd.snd.snd.fst, x.snd.snd.snd.snd.snd.snd.snd.snd.snd.snd.snd.snd.snd.snd.snd.snd.snd.snd.fst, x.snd.snd.snd.snd.snd.snd.snd.snd.snd.snd.snd.snd.snd.snd.snd.snd.snd.snd.snd.fst, x.snd.snd.snd.snd.snd.snd.snd.snd.snd.snd.snd.snd.snd.snd.snd.snd.snd.snd.snd.snd.fst, x.snd.snd.snd.snd.snd.snd.snd.snd.snd.snd.snd.snd.snd.snd.snd.snd.snd.snd.snd.snd.snd.fst, ()))
     else
      Option.bind (f12 x.snd.snd.snd.snd.snd.snd.snd.snd.snd.snd.snd.snd.snd.snd.snd.snd.snd.snd.snd.snd.fst (Int.tmod x.snd.fst 24) (Go.IntKind.wrap Go.IntKind.i64 (Int.tdiv x.snd.fst 24))) fun y1 =>
       bif Decidable.decide (y1.fst ≥ 0) then
        some (Sum.inl (x.fst, x.snd.fst, x.snd.snd.fst, x.snd.snd.snd.fst, x.snd.snd.snd.snd.fst, x.snd.snd.snd.snd.snd.fst, x.snd.snd.snd.snd.snd.snd.fst, x.snd.snd.snd.snd.snd.snd.snd.fst, x.snd.snd.snd.snd.snd.snd.snd.snd.fst, x.snd.snd.snd.snd.snd.snd.snd.snd.snd.fst, x.snd.snd.snd.snd.snd.snd.snd.snd.snd.snd.fst, x.snd.snd.snd.snd.snd.snd.snd.snd.snd.snd.snd.fst, x.snd.snd.snd.snd.snd.snd.snd.snd.snd.snd.snd.snd.fst, x.snd.snd.snd.snd.snd.snd.snd.snd.snd.snd.snd.snd.snd.fst, x.snd.snd.snd.snd.snd.snd.snd.snd.snd.snd.snd.snd.snd.snd.fst, x.snd.snd.snd.snd.snd.snd.snd.snd.snd.snd.snd.snd.snd.snd.snd.fst, x.snd.snd.snd.snd.snd.snd.snd.snd.snd.snd.snd.snd.snd.snd.snd.snd.fst, x.snd.snd.snd.snd.snd.snd.snd.snd.snd.snd.snd.snd.snd.snd.snd.snd.snd.fst, x.snd.snd.snd.snd.snd.snd.snd.snd.snd.snd.snd.snd.snd.snd.snd.snd.snd.snd.fst, x.snd.snd.snd.snd.snd.snd.snd.snd.snd.snd.snd.snd.snd.snd.snd.snd.snd.snd.snd.fst, x.snd.snd.snd.snd.snd.snd.snd.snd.snd.snd.snd.snd.snd.snd.snd.snd.snd.snd.snd.snd.fst, x.snd.snd.snd.snd.snd.snd.snd.snd.snd.snd.snd.snd.snd.snd.snd.snd.snd.snd.snd.snd.snd.fst, ()))
       else
        some (Sum.inr (Sum.inl (x.fst, x.snd.fst, x.snd.snd.fst, x.snd.snd.snd.fst, x.snd.snd.snd.snd.fst, x.snd.snd.snd.snd.snd.fst, x.snd.snd.snd.snd.snd.snd.fst, x.snd.snd.snd.snd.snd.snd.snd.fst, x.snd.snd.snd.snd.snd.snd.snd.snd.fst, x.snd.snd.snd.snd.snd.snd.snd.snd.snd.fst, x.snd.snd.snd.snd.snd.snd.snd.snd.snd.snd.fst, x.snd.snd.snd.snd.snd.snd.snd.snd.snd.snd.snd.fst, x.snd.snd.snd.snd.snd.snd.snd.snd.snd.snd.snd.snd.fst, x.snd.snd.snd.snd.snd.snd.snd.snd.snd.snd.snd.snd.snd.fst, x.snd.snd.snd.snd.snd.snd.snd.snd.snd.snd.snd.snd.snd.snd.fst, x.snd.snd.snd.snd.snd.snd.snd.snd.snd.snd.snd.snd.snd.snd.snd.fst, x.snd.snd.snd.snd.snd.snd.snd.snd.snd.snd.snd.snd.snd.snd.snd.snd.fst, x.snd.snd.snd.snd.snd.snd.snd.snd.snd.snd.snd.snd.snd.snd.snd.snd.snd.fst, x.snd.snd.snd.snd.snd.snd.snd.snd.snd.snd.snd.snd.snd.snd.snd.snd.snd.snd.fst, x.snd.snd.snd.snd.snd.snd.snd.snd.snd.snd.snd.snd.snd.snd.snd.snd.snd.snd.snd.fst, x.snd.snd.snd.snd.snd.snd.snd.snd.snd.snd.snd.snd.snd.snd.snd.snd.snd.snd.snd.snd.fst, x.snd.snd.snd.snd.snd.snd.snd.snd.snd.snd.snd.snd.snd.snd.snd.snd.snd.snd.snd.snd.snd.fst, ())))
   else
    none
  else
   some (Sum.inr (Sum.inl (x.fst, x.snd.fst, x.snd.snd.fst, x.snd.snd.snd.fst, x.snd.snd.snd.snd.fst, x.snd.snd.snd.snd.snd.fst, x.snd.snd.snd.snd.snd.snd.fst, x.snd.snd.snd.snd.snd.snd.snd.fst, x.snd.snd.snd.snd.snd.snd.snd.snd.fst, x.snd.snd.snd.snd.snd.snd.snd.snd.snd.fst, x.snd.snd.snd.snd.snd.snd.snd.snd.snd.snd.fst, x.snd.snd.snd.snd.snd.snd.snd.snd.snd.snd.snd.fst, x.snd.snd.snd.snd.snd.snd.snd.snd.snd.snd.snd.snd.fst, x.snd.snd.snd.snd.snd.snd.snd.snd.snd.snd.snd.snd.snd.fst, x.snd.snd.snd.snd.snd.snd.snd.snd.snd.snd.snd.snd.snd.snd.fst, x.snd.snd.snd.snd.snd.snd.snd.snd.snd.snd.snd.snd.snd.snd.snd.fst, x.snd.snd.snd.snd.snd.snd.snd.snd.snd.snd.snd.snd.snd.snd.snd.snd.fst, x.snd.snd.snd.snd.snd.snd.snd.snd.snd.snd.snd.snd.snd.snd.snd.snd.snd.fst, x.snd.snd.snd.snd.snd.snd.snd.snd.snd.snd.snd.snd.snd.snd.snd.snd.snd.snd.fst, x.snd.snd.snd.snd.snd.snd.snd.snd.snd.snd.snd.snd.snd.snd.snd.snd.snd.snd.snd.fst, x.snd.snd.snd.snd.snd.snd.snd.snd.snd.snd.snd.snd.snd.snd.snd.snd.snd.snd.snd.snd.fst, x.snd.snd.snd.snd.snd.snd.snd.snd.snd.snd.snd.snd.snd.snd.snd.snd.snd.snd.snd.snd.snd.fst, ())))
 ) fun y2 =>
  Sum.elim (fun y3 =>
   rec (y3.fst, Go.IntKind.wrap Go.IntKind.i64 (y3.snd.fst + 1), y3.snd.snd.fst, y3.snd.snd.snd.fst, y3.snd.snd.snd.snd.fst, y3.snd.snd.snd.snd.snd.fst, y3.snd.snd.snd.snd.snd.snd.fst, y3.snd.snd.snd.snd.snd.snd.snd.fst, y3.snd.snd.snd.snd.snd.snd.snd.snd.fst, y3.snd.snd.snd.snd.snd.snd.snd.snd.snd.fst, y3.snd.snd.snd.snd.snd.snd.snd.snd.snd.snd.fst, y3.snd.snd.snd.snd.snd.snd.snd.snd.snd.snd.snd.fst, y3.snd.snd.snd.snd.snd.snd.snd.snd.snd.snd.snd.snd.fst, y3.snd.snd.snd.snd.snd.snd.snd.snd.snd.snd.snd.snd.snd.fst, y3.snd.snd.snd.snd.snd.snd.snd.snd.snd.snd.snd.snd.snd.snd.fst, y3.snd.snd.snd.snd.snd.snd.snd.snd.snd.snd.snd.snd.snd.snd.snd.fst, y3.snd.snd.snd.snd.snd.snd.snd.snd.snd.snd.snd.snd.snd.snd.snd.snd.fst, y3.snd.snd.snd.snd.snd.snd.snd.snd.snd.snd.snd.snd.snd.snd.snd.snd.snd.fst, y3.snd.snd.snd.snd.snd.snd.snd.snd.snd.snd.snd.snd.snd.snd.snd.snd.snd.snd.fst, y3.snd.snd.snd.snd.snd.snd.snd.snd.snd.snd.snd.snd.snd.snd.snd.snd.snd.snd.snd.fst, y3.snd.snd.snd.snd.snd.snd.snd.snd.snd.snd.snd.snd.snd.snd.snd.snd.snd.snd.snd.snd.fst, y3.snd.snd.snd.snd.snd.snd.snd.snd.snd.snd.snd.snd.snd.snd.snd.snd.snd.snd.snd.snd.snd.fst, ())
  ) (fun z4 =>
   some (z4)
  ) (y2)
 ) (100000000000000000000) (x)
def f15.L2 (x : List Int × Int × Int × Int × Int × Int × Int × Int × Int × Int × Int × Int × Int × Int × Int × Int × Int × Int × Int × List Int × List (Int × Int × Int × Int × Int × Int × Int × Int × Int × Int × Int) × List (Int × Int × Int × Int) × Unit) : Option (Int × Int × Int × Int × Int × Int × Int × Int × Int × Int × Int × Int × Int × Int × Int × Int × List Int × List (Int × Int × Int × Int × Int × Int × Int × Int × Int × Int × Int) × List (Int × Int × Int × Int) × Unit ⊕ Int × Int × Int × Int × Int × Int × Int × Int × List Int × List (Int × Int × Int × Int × Int × Int × Int × Int × Int × Int × Int) × List (Int × Int × Int × Int) × Unit) :=
 it (X := List Int × Int × Int × Int × Int × Int × Int × Int × Int × Int × Int × Int × Int × Int × Int × Int × Int × Int × Int × List Int × List (Int × Int × Int × Int × Int × Int × Int × Int × Int × Int × Int) × List (Int × Int × Int × Int) × Unit) (fun rec x =>
 bif Decidable.decide (x.snd.snd.fst < (↑(List.length x.fst) : Int)) then
  bif Decidable.decide (x.snd.snd.fst < 12) then
   Option.bind (α := List Int × Int × Int × Int × Int × Int × Int × Int × Int × Int × Int × Int × Int × Int × Int × Int × Int × Int × Int × List Int × List (Int × Int × Int × Int × Int × Int × Int × Int × Int × Int × Int) × List (Int × Int × Int × Int) × Unit ⊕ Int × Int × Int × Int × Int × Int × Int × Int × Int × Int × Int × Int × Int × Int × Int × Int × List Int × List (Int × Int × Int × Int × Int × Int × Int × Int × Int × Int × Int) × List (Int × Int × Int × Int) × Unit ⊕ Int × Int × Int × Int × Int × Int × Int × Int × List Int × List (Int × Int × Int × Int × Int × Int × Int × Int × Int × Int × Int) × List (Int × Int × Int × Int) × Unit) (
    f15.L1 ((x.fst, x.snd.fst, x.snd.snd.fst, x.snd.snd.snd.fst, x.snd.snd.snd.snd.fst, x.snd.snd.snd.snd.snd.fst, x.snd.snd.snd.snd.snd.snd.fst, x.snd.snd.snd.snd.snd.snd.snd.fst, x.snd.snd.snd.snd.snd.snd.snd.snd.fst, x.snd.snd.snd.snd.snd.snd.snd.snd.snd.fst, x.snd.snd.snd.snd.snd.snd.snd.snd.snd.snd.fst, x.snd.snd.snd.snd.snd.snd.snd.snd.snd.snd.snd.fst, x.snd.snd.snd.snd.snd.snd.snd.snd.snd.snd.snd.snd.fst, x.snd.snd.snd.snd.snd.snd.snd.snd.snd.snd.snd.snd.snd.fst, x.snd.snd.snd.snd.snd.snd.snd.snd.snd.snd.snd.snd.snd.snd.fst, x.snd.snd.snd.snd.snd.snd.snd.snd.snd.snd.snd.snd.snd.snd.snd.fst, x.snd.snd.snd.snd.snd.snd.snd.snd.snd.snd.snd.snd.snd.snd.snd.snd.fst, x.snd.snd.snd.snd.snd.snd.snd.snd.snd.snd.snd.snd.snd.snd.snd.snd.snd.fst, x.snd.snd.snd.snd.snd.snd.snd.snd.snd.snd.snd.snd.snd.snd.snd.snd.snd.snd.fst, x.snd.snd.snd.snd.snd.snd.snd.snd.snd.snd.snd.snd.snd.snd.snd.snd.snd.snd.snd.fst, x.snd.snd.snd.snd.snd.snd.snd.snd.snd.snd.snd.snd.snd.snd.snd.snd.snd.snd.snd.snd.fst, x.snd.snd.snd.snd.snd.snd.snd.snd.snd.snd.snd.snd.snd.snd.snd.snd.snd.snd.snd.snd.snd.fst, ()))
   ) fun y0 =>
    Sum.elim (fun y1 =>
     bif Decidable.decide (y1.snd.fst ≥ 384) then
      some (Sum.inl (y1.snd.snd.snd.fst, y1.snd.snd.snd.snd.fst, y1.snd.snd.snd.snd.snd.fst, y1.snd.snd.snd.snd.snd.snd.fst, y1.snd.snd.snd.snd.snd.snd.snd.fst, y1.snd.snd.snd.snd.snd.snd.snd.snd.fst, y1.snd.snd.snd.snd.snd.snd.snd.snd.snd.fst, y1.snd.snd.snd.snd.snd.snd.snd.snd.snd.snd.fst, y1.snd.snd.snd.snd.snd.snd.snd.snd.snd.snd.snd.fst, y1.snd.snd.snd.snd.snd.snd.snd.snd.snd.snd.snd.snd.fst, y1.snd.snd.snd.snd.snd.snd.snd.snd.snd.snd.snd.snd.snd.fst, y1.snd.snd.snd.snd.snd.snd.snd.snd.snd.snd.snd.snd.snd.snd.fst, y1.snd.snd.snd.snd.snd.snd.snd.snd.snd.snd.snd.snd.snd.snd.snd.fst, y1.snd.snd.snd.snd.snd.snd.snd.snd.snd.snd.snd.snd.snd.snd.snd.snd.fst, y1.snd.snd.snd.snd.snd.snd.snd.snd.snd.snd.snd.snd.snd.snd.snd.snd.snd.fst, y1.snd.snd.snd.snd.snd.snd.snd.snd.snd.snd.snd.snd.snd.snd.snd.snd.snd.snd.fst, y1.snd.snd.snd.snd.snd.snd.snd.snd.snd.snd.snd.snd.snd.snd.snd.snd.snd.snd.snd.fst, y1.snd.snd.snd.snd.snd.snd.snd.snd.snd.snd.snd.snd.snd.snd.snd.snd.snd.snd.snd.snd.fst, y1.snd.snd.snd.snd.snd.snd.snd.snd.snd.snd.snd.snd.snd.snd.snd.snd.snd.snd.snd.snd.snd.fst, ()))
     else
      bif inRange y1.snd.snd.fst (List.length y1.fst) then
       Option.bind (f9 (List.getD y1.fst (Int.toNat y1.snd.snd.fst) 0) 4) fun y2 =>
        Option.bind (f11 (Go.IntKind.wrap Go.IntKind.i64 (1 + y2.fst))) fun y3 =>
         Option.bind (α := List Int × Int × Int × Int × Int × Int × Int × Int × Int × Int × Int × Int × Int × Int × Int × Int × Int × Int × Int × Int × Int × Int × Int × Int × Int × Int × Int × Int × Int × Int × List Int × List (Int × Int × Int × Int × Int × Int × Int × Int × Int × Int × Int) × List (Int × Int × Int × Int) × Unit ⊕ Int × Int × Int × Int × Int × Int × Int × Int × Int × Int × Int × Int × Int × Int × Int × Int × List Int × List (Int × Int × Int × Int × Int × Int × Int × Int × Int × Int × Int) × List (Int × Int × Int × Int) × Unit ⊕ Int × Int × Int × Int × Int × Int × Int × Int × List Int × List (Int × Int × Int × Int × Int × Int × Int × Int × Int × Int × Int) × List (Int × Int × Int × Int) × Unit) (
          bif y3.fst == 1 then
           bif inRange y1.snd.snd.fst (List.length y1.fst) then
            Option.bind (f9 (Go.IntKind.wrap Go.IntKind.i64 (Int.tdiv (List.getD y1.fst (Int.toNat y1.snd.snd.fst) 0) 4)) 3) fun y4 =>
             Option.bind (f10 y1.snd.snd.snd.snd.snd.snd.snd.snd.snd.snd.snd.snd.snd.snd.snd.snd.snd.snd.snd.snd.fst (Go.IntKind.wrap Go.IntKind.i64 (1 + y4.fst))) fun y5 =>
              bif Decidable.decide (y5.fst ≥ 0) then
               Option.bind (rec (y1.fst, y1.snd.fst, Go.IntKind.wrap Go.IntKind.i64 (y1.snd.snd.fst + 1), y1.snd.snd.snd.fst, y1.snd.snd.snd.snd.fst, y1.snd.snd.snd.snd.snd.fst, y1.snd.snd.snd.snd.snd.snd.fst, y1.snd.snd.snd.snd.snd.snd.snd.fst, y1.snd.snd.snd.snd.snd.snd.snd.snd.fst, y1.snd.snd.snd.snd.snd.snd.snd.snd.snd.fst, y1.snd.snd.snd.snd.snd.snd.snd.snd.snd.snd.fst, y1.snd.snd.snd.snd.snd.snd.snd.snd.snd.snd.snd.fst, y1.snd.snd.snd.snd.snd.snd.snd.snd.snd.snd.snd.snd.fst, y1.snd.snd.snd.snd.snd.snd.snd.snd.snd.snd.snd.snd.snd.fst, y1.snd.snd.snd.snd.snd.snd.snd.snd.snd.snd.snd.snd.snd.snd.fst, y1.snd.snd.snd.snd.snd.snd.snd.snd.snd.snd.snd.snd.snd.snd.snd.fst, y1.snd.snd.snd.snd.snd.snd.snd.snd.snd.snd.snd.snd.snd.snd.snd.snd.fst, y1.snd.snd.snd.snd.snd.snd.snd.snd.snd.snd.snd.snd.snd.snd.snd.snd.snd.fst, y1.snd.snd.snd.snd.snd.snd.snd.snd.snd.snd.snd.snd.snd.snd.snd.snd.snd.snd.fst, y1.snd.snd.snd.snd.snd.snd.snd.snd.snd.snd.snd.snd.snd.snd.snd.snd.snd.snd.snd.fst, y1.snd.snd.snd.snd.snd.snd.snd.snd.snd.snd.snd.snd.snd.snd.snd.snd.snd.snd.snd.snd.fst, y1.snd.snd.snd.snd.snd.snd.snd.snd.snd.snd.snd.snd.snd.snd.snd.snd.snd.snd.snd.snd.snd.fst, ())) fun y6 =>
                some (Sum.inr y6)
              else
               some (Sum.inl (y1.fst, y1.snd.fst, y1.snd.snd.fst, y1.snd.snd.snd.fst, y1.snd.snd.snd.snd.fst, y1.snd.snd.snd.snd.snd.fst, y1.snd.snd.snd.snd.snd.snd.fst, y1.snd.snd.snd.snd.snd.snd.snd.fst, y1.snd.snd.snd.snd.snd.snd.snd.snd.fst, y1.snd.snd.snd.snd.snd.snd.snd.snd.snd.fst, y1.snd.snd.snd.snd.snd.snd.snd.snd.snd.snd.fst, y1.snd.snd.snd.snd.snd.snd.snd.snd.snd.snd.snd.fst, y1.snd.snd.snd.snd.snd.snd.snd.snd.snd.snd.snd.snd.fst, y1.snd.snd.snd.snd.snd.snd.snd.snd.snd.snd.snd.snd.snd.fst, y1.snd.snd.snd.snd.snd.snd.snd.snd.snd.snd.snd.snd.snd.snd.fst, y1.snd.snd.snd.snd.snd.snd.snd.snd.snd.snd.snd.snd.snd.snd.snd.fst, y1.snd.snd.snd.snd.snd.snd.snd.snd.snd.snd.snd.snd.snd.snd.snd.snd.fst, y1.snd.snd.snd.snd.snd.snd.snd.snd.snd.snd.snd.snd.snd.snd.snd.snd.snd.fst, y1.snd.snd.snd.snd.snd.snd.snd.snd.snd.snd.snd.snd.snd.snd.snd.snd.snd.snd.fst, y3.fst, y3.snd.fst, Go.IntKind.wrap Go.IntKind.i64 (1 + y4.fst), y3.snd.snd.snd.fst, y3.snd.snd.snd.snd.fst, y3.snd.snd.snd.snd.snd.fst, y3.snd.snd.snd.snd.snd.snd.fst, y3.snd.snd.snd.snd.snd.snd.snd.fst, y3.snd.snd.snd.snd.snd.snd.snd.snd.fst, y3.snd.snd.snd.snd.snd.snd.snd.snd.snd.fst, y3.snd.snd.snd.snd.snd.snd.snd.snd.snd.snd.fst, y1.snd.snd.snd.snd.snd.snd.snd.snd.snd.snd.snd.snd.snd.snd.snd.snd.snd.snd.snd.fst, y1.snd.snd.snd.snd.snd.snd.snd.snd.snd.snd.snd.snd.snd.snd.snd.snd.snd.snd.snd.snd.fst, y1.snd.snd.snd.snd.snd.snd.snd.snd.snd.snd.snd.snd.snd.snd.snd.snd.snd.snd.snd.snd.snd.fst, ()))
           else
            none
          else
           some (Sum.inl (y1.fst, y1.snd.fst, y1.snd.snd.fst, y1.snd.snd.snd.fst, y1.snd.snd.snd.snd.fst, y1.snd.snd.snd.snd.snd.fst, y1.snd.snd.snd.snd.snd.snd.fst, y1.snd.snd.snd.snd.snd.snd.snd.fst, y1.snd.snd.snd.snd.snd.snd.snd.snd.fst, y1.snd.snd.snd.snd.snd.snd.snd.snd.snd.fst, y1.snd.snd.snd.snd.snd.snd.snd.snd.snd.snd.fst, y1.snd.snd.snd.snd.snd.snd.snd.snd.snd.snd.snd.fst, y1.snd.snd.snd.snd.snd.snd.snd.snd.snd.snd.snd.snd.fst, y1.snd.snd.snd.snd.snd.snd.snd.snd.snd.snd.snd.snd.snd.fst, y1.snd.snd.snd.snd.snd.snd.snd.snd.snd.snd.snd.snd.snd.snd.fst, y1.snd.snd.snd.snd.snd.snd.snd.snd.snd.snd.snd.snd.snd.snd.snd.fst, y1.snd.snd.snd.snd.snd.snd.snd.snd.snd.snd.snd.snd.snd.snd.snd.snd.fst, y1.snd.snd.snd.snd.snd.snd.snd.snd.snd.snd.snd.snd.snd.snd.snd.snd.snd.fst, y1.snd.snd.snd.snd.snd.snd.snd.snd.snd.snd.snd.snd.snd.snd.snd.snd.snd.snd.fst, y3.fst, y3.snd.fst, y3.snd.snd.fst, y3.snd.snd.snd.fst, y3.snd.snd.snd.snd.fst, y3.snd.snd.snd.snd.snd.fst, y3.snd.snd.snd.snd.snd.snd.fst, y3.snd.snd.snd.snd.snd.snd.snd.fst, y3.snd.snd.snd.snd.snd.snd.snd.snd.fst, y3.snd.snd.snd.snd.snd.snd.snd.snd.snd.fst, y3.snd.snd.snd.snd.snd.snd.snd.snd.snd.snd.fst, y1.snd.snd.snd.snd.snd.snd.snd.snd.snd.snd.snd.snd.snd.snd.snd.snd.snd.snd.snd.fst, y1.snd.snd.snd.snd.snd.snd.snd.snd.snd.snd.snd.snd.snd.snd.snd.snd.snd.snd.snd.snd.fst, y1.snd.snd.snd.snd.snd.snd.snd.snd.snd.snd.snd.snd.snd.snd.snd.snd.snd.snd.snd.snd.snd.fst, ()))
         ) fun y7 =>
          Sum.elim (fun y8 =>
           bif inRange y8.snd.snd.fst (List.length y8.fst) then
            Option.bind (f9 (Go.IntKind.wrap Go.IntKind.i64 (Int.tdiv (List.getD y8.fst (Int.toNat y8.snd.snd.fst) 0) 7)) y8.snd.snd.snd.snd.snd.snd.snd.snd.snd.snd.snd.snd.snd.snd.snd.snd.snd.snd.snd.snd.snd.snd.snd.snd.snd.fst) fun y9 =>
             bif inRange y8.snd.snd.fst (List.length y8.fst) then
              Option.bind (f9 (Go.IntKind.wrap Go.IntKind.i64 (Int.tdiv (List.getD y8.fst (Int.toNat y8.snd.snd.fst) 0) 5)) 10) fun y10 =>
               bif inRange y8.snd.snd.fst (List.length y8.fst) then
                Option.bind (f9 (Go.IntKind.wrap Go.IntKind.i64 (Int.tdiv (List.getD y8.fst (Int.toNat y8.snd.snd.fst) 0) 11)) 10) fun y11 =>
                 Option.bind (f13 y8.snd.snd.snd.snd.snd.snd.snd.snd.snd.snd.snd.snd.snd.snd.snd.snd.snd.snd.snd.snd.snd.snd.snd.snd.snd.snd.snd.snd.snd.snd.snd.fst y8.snd.snd.snd.snd.snd.snd.snd.snd.snd.snd.snd.snd.snd.snd.snd.snd.snd.snd.snd.fst y8.snd.snd.snd.snd.snd.snd.snd.snd.snd.snd.snd.snd.snd.snd.snd.snd.snd.snd.snd.snd.fst y8.snd.snd.snd.snd.snd.snd.snd.snd.snd.snd.snd.snd.snd.snd.snd.snd.snd.snd.snd.snd.snd.fst (Int.tmod y8.snd.fst 24) (Go.IntKind.wrap Go.IntKind.i64 (Int.tdiv y8.snd.fst 24)) (Go.IntKind.wrap Go.IntKind.i64 (1 + y9.fst)) y8.snd.snd.snd.snd.snd.snd.snd.snd.snd.snd.snd.snd.snd.snd.snd.snd.snd.snd.snd.snd.snd.snd.snd.snd.snd.fst y8.snd.snd.snd.snd.snd.snd.snd.snd.snd.snd.snd.snd.snd.snd.snd.snd.snd.snd.snd.snd.snd.snd.snd.snd.snd.snd.fst y8.snd.snd.snd.snd.snd.snd.snd.snd.snd.snd.snd.snd.snd.snd.snd.snd.snd.snd.snd.snd.snd.snd.snd.snd.snd.snd.snd.fst y10.fst y11.fst) fun y12 =>
                  Option.bind (α := List Int × Int × Int × Int × Int × Int × Int × Int × Int × Int × Int × Int × Int × Int × Int × Int × Int × Int × Int × List Int × List (Int × Int × Int × Int × Int × Int × Int × Int × Int × Int × Int) × List (Int × Int × Int × Int) × Unit ⊕ Int × Int × Int × Int × Int × Int × Int × Int × Int × Int × Int × Int × Int × Int × Int × Int × List Int × List (Int × Int × Int × Int × Int × Int × Int × Int × Int × Int × Int) × List (Int × Int × Int × Int) × Unit ⊕ Int × Int × Int × Int × Int × Int × Int × Int × List Int × List (Int × Int × Int × Int × Int × Int × Int × Int × Int × Int × Int) × List (Int × Int × Int × Int) × Unit) (
                   bif y12.snd.fst == 0 then
                    some (Sum.inl (y8.fst, y8.snd.fst, y8.snd.snd.fst, y8.snd.snd.snd.fst, y8.snd.snd.snd.snd.fst, y8.snd.snd.snd.snd.snd.fst, y8.snd.snd.snd.snd.snd.snd.fst, y8.snd.snd.snd.snd.snd.snd.snd.fst, y8.snd.snd.snd.snd.snd.snd.snd.snd.fst, y8.snd.snd.snd.snd.snd.snd.snd.snd.snd.fst, y8.snd.snd.snd.snd.snd.snd.snd.snd.snd.snd.fst, y8.snd.snd.snd.snd.snd.snd.snd.snd.snd.snd.snd.fst, y8.snd.snd.snd.snd.snd.snd.snd.snd.snd.snd.snd.snd.fst, y8.snd.snd.snd.snd.snd.snd.snd.snd.snd.snd.snd.snd.snd.fst, y8.snd.snd.snd.snd.snd.snd.snd.snd.snd.snd.snd.snd.snd.snd.fst, y8.snd.snd.snd.snd.snd.snd.snd.snd.snd.snd.snd.snd.snd.snd.snd.fst, y8.snd.snd.snd.snd.snd.snd.snd.snd.snd.snd.snd.snd.snd.snd.snd.snd.fst, y8.snd.snd.snd.snd.snd.snd.snd.snd.snd.snd.snd.snd.snd.snd.snd.snd.snd.fst, y8.snd.snd.snd.snd.snd.snd.snd.snd.snd.snd.snd.snd.snd.snd.snd.snd.snd.snd.fst, y8.snd.snd.snd.snd.snd.snd.snd.snd.snd.snd.snd.snd.snd.snd.snd.snd.snd.snd.snd.snd.snd.snd.snd.snd.snd.snd.snd.snd.snd.snd.fst, y12.snd.snd.fst, y8.snd.snd.snd.snd.snd.snd.snd.snd.snd.snd.snd.snd.snd.snd.snd.snd.snd.snd.snd.snd.snd.snd.snd.snd.snd.snd.snd.snd.snd.snd.snd.snd.fst, ()))
                   else
                    some (Sum.inl (y8.fst, y8.snd.fst, y8.snd.snd.fst, y8.snd.snd.snd.fst, y8.snd.snd.snd.snd.fst, y8.snd.snd.snd.snd.snd.fst, y8.snd.snd.snd.snd.snd.snd.fst, y8.snd.snd.snd.snd.snd.snd.snd.fst, y8.snd.snd.snd.snd.snd.snd.snd.snd.fst, y8.snd.snd.snd.snd.snd.snd.snd.snd.snd.fst, y8.snd.snd.snd.snd.snd.snd.snd.snd.snd.snd.fst, y8.snd.snd.snd.snd.snd.snd.snd.snd.snd.snd.snd.fst, y8.snd.snd.snd.snd.snd.snd.snd.snd.snd.snd.snd.snd.fst, y8.snd.snd.snd.snd.snd.snd.snd.snd.snd.snd.snd.snd.snd.fst, y8.snd.snd.snd.snd.snd.snd.snd.snd.snd.snd.snd.snd.snd.snd.fst, y8.snd.snd.snd.snd.snd.snd.snd.snd.snd.snd.snd.snd.snd.snd.snd.fst, y8.snd.snd.snd.snd.snd.snd.snd.snd.snd.snd.snd.snd.snd.snd.snd.snd.fst, y8.snd.snd.snd.snd.snd.snd.snd.snd.snd.snd.snd.snd.snd.snd.snd.snd.snd.fst, y8.snd.snd.snd.snd.snd.snd.snd.snd.snd.snd.snd.snd.snd.snd.snd.snd.snd.snd.fst, y8.snd.snd.snd.snd.snd.snd.snd.snd.snd.snd.snd.snd.snd.snd.snd.snd.snd.snd.snd.snd.snd.snd.snd.snd.snd.snd.snd.snd.snd.snd.fst, y8.snd.snd.snd.snd.snd.snd.snd.snd.snd.snd.snd.snd.snd.snd.snd.snd.snd.snd.snd.snd.snd.snd.snd.snd.snd.snd.snd.snd.snd.snd.snd.fst, y8.snd.snd.snd.snd.snd.snd.snd.snd.snd.snd.snd.snd.snd.snd.snd.snd.snd.snd.snd.snd.snd.snd.snd.snd.snd.snd.snd.snd.snd.snd.snd.snd.fst, ()))
                  ) fun y13 =>
                   Sum.elim (fun y14 =>
                    bif inRange y14.snd.snd.fst (List.length y14.fst) then
                     Option.bind (f9 (Go.IntKind.wrap Go.IntKind.i64 (Int.tdiv (List.getD y14.fst (Int.toNat y14.snd.snd.fst) 0) 3)) 4) fun y15 =>
                      rec (y14.fst, Go.IntKind.wrap Go.IntKind.i64 (Go.IntKind.wrap Go.IntKind.i64 (y14.snd.fst + 1) + y15.fst), Go.IntKind.wrap Go.IntKind.i64 (y14.snd.snd.fst + 1), y14.snd.snd.snd.fst, y14.snd.snd.snd.snd.fst, y14.snd.snd.snd.snd.snd.fst, y14.snd.snd.snd.snd.snd.snd.fst, y14.snd.snd.snd.snd.snd.snd.snd.fst, y14.snd.snd.snd.snd.snd.snd.snd.snd.fst, y14.snd.snd.snd.snd.snd.snd.snd.snd.snd.fst, y14.snd.snd.snd.snd.snd.snd.snd.snd.snd.snd.fst, y14.snd.snd.snd.snd.snd.snd.snd.snd.snd.snd.snd.fst, y14.snd.snd.snd.snd.snd.snd.snd.snd.snd.snd.snd.snd.fst, y14.snd.snd.snd.snd.snd.snd.snd.snd.snd.snd.snd.snd.snd.fst, y14.snd.snd.snd.snd.snd.snd.snd.snd.snd.snd.snd.snd.snd.snd.fst, y14.snd.snd.snd.snd.snd.snd.snd.snd.snd.snd.snd.snd.snd.snd.snd.fst, y14.snd.snd.snd.snd.snd.snd.snd.snd.snd.snd.snd.snd.snd.snd.snd.snd.fst, y14.snd.snd.snd.snd.snd.snd.snd.snd.snd.snd.snd.snd.snd.snd.snd.snd.snd.fst, y14.snd.snd.snd.snd.snd.snd.snd.snd.snd.snd.snd.snd.snd.snd.snd.snd.snd.snd.fst, y14.snd.snd.snd.snd.snd.snd.snd.snd.snd.snd.snd.snd.snd.snd.snd.snd.snd.snd.snd.fst, y14.snd.snd.snd.snd.snd.snd.snd.snd.snd.snd.snd.snd.snd.snd.snd.snd.snd.snd.snd.snd.fst, y14.snd.snd.snd.snd.snd.snd.snd.snd.snd.snd.snd.snd.snd.snd.snd.snd.snd.snd.snd.snd.snd.fst, ())
                    else
                     none
                   ) (fun z16 =>
                    some (z16)
                   ) (y13)
               else
                none
             else
              none
           else
            none
          ) (fun z17 =>
           some (z17)
          ) (y7)
      else
       none
    ) (fun z18 =>
     some (z18)
    ) (y0)
  else
   some (Sum.inl (x.snd.snd.snd.fst, x.snd.snd.snd.snd.fst, x.snd.snd.snd.snd.snd.fst, x.snd.snd.snd.snd.snd.snd.fst, x.snd.snd.snd.snd.snd.snd.snd.fst, x.snd.snd.snd.snd.snd.snd.snd.snd.fst, x.snd.snd.snd.snd.snd.snd.snd.snd.snd.fst, x.snd.snd.snd.snd.snd.snd.snd.snd.snd.snd.fst, x.snd.snd.snd.snd.snd.snd.snd.snd.snd.snd.snd.fst, x.snd.snd.snd.snd.snd.snd.snd.snd.snd.snd.snd.snd.fst, x.snd.snd.snd.snd.snd.snd.snd.snd.snd.snd.snd.snd.snd.fst, x.snd.snd.snd.snd.snd.snd.snd.snd.snd.snd.snd.snd.snd.snd.fst, x.snd.snd.snd.snd.snd.snd.snd.snd.snd.snd.snd.snd.snd.snd.snd.fst, x.snd.snd.snd.snd.snd.snd.snd.snd.snd.snd.snd.snd.snd.snd.snd.snd.fst, x.snd.snd.snd.snd.snd.snd.snd.snd.snd.snd.snd.snd.snd.snd.snd.snd.snd.fst, x.snd.snd.snd.snd.snd.snd.snd.snd.snd.snd.snd.snd.snd.snd.snd.snd.snd.snd.fst, x.snd.snd.snd.snd.snd.snd.snd.snd.snd.snd.snd.snd.snd.snd.snd.snd.snd.snd.snd.fst, x.snd.snd.snd.snd.snd.snd.snd.snd.snd.snd.snd.snd.snd.snd.snd.snd.snd.snd.snd.snd.fst, x.snd.snd.snd.snd.snd.snd.snd.snd.snd.snd.snd.snd.snd.snd.snd.snd.snd.snd.snd.snd.snd.fst, ()))
 else
  some (Sum.inl (x.snd.snd.snd.fst, x.snd.snd.snd.snd.fst, x.snd.snd.snd.snd.snd.fst, x.snd.snd.snd.snd.snd.snd.fst, x.snd.snd.snd.snd.snd.snd.snd.fst, x.snd.snd.snd.snd.snd.snd.snd.snd.fst, x.snd.snd.snd.snd.snd.snd.snd.snd.snd.fst, x.snd.snd.snd.snd.snd.snd.snd.snd.snd.snd.fst, x.snd.snd.snd.snd.snd.snd.snd.snd.snd.snd.snd.fst, x.snd.snd.snd.snd.snd.snd.snd.snd.snd.snd.snd.snd.fst, x.snd.snd.snd.snd.snd.snd.snd.snd.snd.snd.snd.snd.snd.fst, x.snd.snd.snd.snd.snd.snd.snd.snd.snd.snd.snd.snd.snd.snd.fst, x.snd.snd.snd.snd.snd.snd.snd.snd.snd.snd.snd.snd.snd.snd.snd.fst, x.snd.snd.snd.snd.snd.snd.snd.snd.snd.snd.snd.snd.snd.snd.snd.snd.fst, x.snd.snd.snd.snd.snd.snd.snd.snd.snd.snd.snd.snd.snd.snd.snd.snd.snd.fst, x.snd.snd.snd.snd.snd.snd.snd.snd.snd.snd.snd.snd.snd.snd.snd.snd.snd.snd.fst, x.snd.snd.snd.snd.snd.snd.snd.snd.snd.snd.snd.snd.snd.snd.snd.snd.snd.snd.snd.fst, x.snd.snd.snd.snd.snd.snd.snd.snd.snd.snd.snd.snd.snd.snd.snd.snd.snd.snd.snd.snd.fst, x.snd.snd.snd.snd.snd.snd.snd.snd.snd.snd.snd.snd.snd.snd.snd.snd.snd.snd.snd.snd.snd.fst, ()))
 ) (100000000000000000000) (x)
def f15 (a0 : Int) (a1 : Int) (a2 : List Int) (a3 : List (Int × Int × Int × Int)) (a4 : Int) : Option (Int × Int × Int × Int × Int × Int × Int × Int × List Int × List (Int × Int × Int × Int × Int × Int × Int × Int × Int × Int × Int) × List (Int × Int × Int × Int) × Unit) :=
 Option.bind (f8 a0 a1 0 1 a3 50) fun y0 =>
  Option.bind (f9 a4 1048576) fun y1 =>
   Option.bind (α := Int × Int × Int × Int × Int × Int × Int × Int × Int × Int × Int × Int × Int × Int × Int × Int × List Int × List (Int × Int × Int × Int × Int × Int × Int × Int × Int × Int × Int) × List (Int × Int × Int × Int) × Unit ⊕ Int × Int × Int × Int × Int × Int × Int × Int × List Int × List (Int × Int × Int × Int × Int × Int × Int × Int × Int × Int × Int) × List (Int × Int × Int × Int) × Unit) (
    f15.L2 ((a2, 0, 0, 0, 0, 0, 0, 0, 0, 0, 0, y0.fst, y1.fst, y0.snd.snd.fst, y0.snd.snd.snd.fst, y0.snd.snd.snd.snd.fst, y0.snd.snd.snd.snd.snd.fst, y0.snd.snd.snd.snd.snd.snd.fst, y0.snd.snd.snd.snd.snd.snd.snd.fst, y0.snd.snd.snd.snd.snd.snd.snd.snd.fst, y0.snd.snd.snd.snd.snd.snd.snd.snd.snd.fst, y0.snd.snd.snd.snd.snd.snd.snd.snd.snd.snd.fst, ()))
   ) fun y2 =>
    Sum.elim (fun y3 =>
     some ((y3.snd.snd.snd.snd.snd.snd.snd.snd.fst, y3.snd.snd.snd.snd.snd.snd.snd.snd.snd.fst, y3.snd.snd.snd.snd.snd.snd.snd.snd.snd.snd.fst, y3.snd.snd.snd.snd.snd.snd.snd.snd.snd.snd.snd.fst, y3.snd.snd.snd.snd.snd.snd.snd.snd.snd.snd.snd.snd.fst, y3.snd.snd.snd.snd.snd.snd.snd.snd.snd.snd.snd.snd.snd.fst, y3.snd.snd.snd.snd.snd.snd.snd.snd.snd.snd.snd.snd.snd.snd.fst, y3.snd.snd.snd.snd.snd.snd.snd.snd.snd.snd.snd.snd.snd.snd.snd.fst, y3.snd.snd.snd.snd.snd.snd.snd.snd.snd.snd.snd.snd.snd.snd.snd.snd.fst, y3.snd.snd.snd.snd.snd.snd.snd.snd.snd.snd.snd.snd.snd.snd.snd.snd.snd.fst, y3.snd.snd.snd.snd.snd.snd.snd.snd.snd.snd.snd.snd.snd.snd.snd.snd.snd.snd.fst, ()))
    ) (fun z4 =>
     some (z4)
    ) (y2)
def f15.ins : Shape := ⟨[(0, .c (.int .i64)), (1, .c (.int .i64)), (2, .c (.row (.int .i64))), (3, .c (.row (.prod (.int .i64) (.prod (.int .i64) (.prod (.int .i64) (.int .i64)))))), (4, .c (.int .i64))], []⟩
def f15.outs : List Shape := [⟨[(0, .agg [.int .i64, .int .i64, .int .i64, .int .i64, .own 0, .own 1, .own 2, .int .i64, .int .i64, .int .i64, .int .i64])], [(0, .arr (.int .u8)), (1, .arr (.prod (.int .i64) (.prod (.int .i64) (.prod (.int .i64) (.prod (.int .i64) (.prod (.int .i64) (.prod (.int .i64) (.prod (.int .i64) (.prod (.int .i64) (.prod (.int .i64) (.prod (.int .i64) (.int .i64)))))))))))), (2, .arr (.prod (.int .i64) (.prod (.int .i64) (.prod (.int .i64) (.int .i64)))))]⟩]
def f15.S : FnSpec := ⟨f15.ins, f15.outs, [], fun x => f15 x.1 x.2.1 x.2.2.1 x.2.2.2.1 x.2.2.2.2.1⟩
def f15.E (fuel : Nat) : Env := ⟨tis, [(26, f26.S), (11, f11.S), (8, f8.S), (9, f9.S), (12, f12.S), (10, f10.S), (13, f13.S)], [], [(9, ⟨[(2, .c (.row (.int .i64))), (10, .c (.ptr 0 0)), (11, .c (.ptr 1 0)), (12, .c (.int .i64)), (13, .c (.int .i64))], [(0, .box [.int .i64, .int .i64, .int .i64, .int .i64, .nils, .nils, .nils, .int .i64, .int .i64, .int .i64, .int .i64]), (1, .box [.int .i64, .int .i64, .int .i64, .int .i64, .own 2, .own 3, .own 4, .int .i64, .int .i64, .int .i64, .int .i64]), (2, .arr (.int .u8)), (3, .arr (.prod (.int .i64) (.prod (.int .i64) (.prod (.int .i64) (.prod (.int .i64) (.prod (.int .i64) (.prod (.int .i64) (.prod (.int .i64) (.prod (.int .i64) (.prod (.int .i64) (.prod (.int .i64) (.int .i64)))))))))))), (4, .arr (.prod (.int .i64) (.prod (.int .i64) (.prod (.int .i64) (.int .i64)))))]⟩), (10, ⟨[(2, .c (.row (.int .i64))), (10, .c (.ptr 0 0)), (11, .c (.ptr 1 0)), (12, .c (.int .i64)), (13, .c (.int .i64))], [(0, .box [.int .i64, .int .i64, .int .i64, .int .i64, .nils, .nils, .nils, .int .i64, .int .i64, .int .i64, .int .i64]), (1, .box [.int .i64, .int .i64, .int .i64, .int .i64, .own 2, .own 3, .own 4, .int .i64, .int .i64, .int .i64, .int .i64]), (2, .arr (.int .u8)), (3, .arr (.prod (.int .i64) (.prod (.int .i64) (.prod (.int .i64) (.prod (.int .i64) (.prod (.int .i64) (.prod (.int .i64) (.prod (.int .i64) (.prod (.int .i64) (.prod (.int .i64) (.prod (.int .i64) (.int .i64)))))))))))), (4, .arr (.prod (.int .i64) (.prod (.int .i64) (.prod (.int .i64) (.int .i64)))))]⟩), (15, ⟨[(2, .c (.row (.int .i64))), (10, .c (.ptr 0 0)), (11, .c (.ptr 1 0)), (12, .c (.int .i64)), (13, .c (.int .i64)), (14, .c (.ptr 2 0))], [(0, .box [.int .i64, .int .i64, .int .i64, .int .i64, .nils, .nils, .nils, .int .i64, .int .i64, .int .i64, .int .i64]), (1, .box [.int .i64, .int .i64, .int .i64, .int .i64, .own 3, .own 4, .own 5, .int .i64, .int .i64, .int .i64, .int .i64]), (2, .box [.int .i64, .int .i64, .int .i64, .int .i64, .int .i64, .int .i64, .int .i64, .int .i64, .int .i64, .int .i64, .int .i64]), (3, .arr (.int .u8)), (4, .arr (.prod (.int .i64) (.prod (.int .i64) (.prod (.int .i64) (.prod (.int .i64) (.prod (.int .i64) (.prod (.int .i64) (.prod (.int .i64) (.prod (.int .i64) (.prod (.int .i64) (.prod (.int .i64) (.int .i64)))))))))))), (5, .arr (.prod (.int .i64) (.prod (.int .i64) (.prod (.int .i64) (.int .i64)))))]⟩), (20, ⟨[(2, .c (.row (.int .i64))), (10, .c (.ptr 0 0)), (11, .c (.ptr 1 0)), (12, .c (.int .i64)), (13, .c (.int .i64))], [(0, .box [.int .i64, .int .i64, .int .i64, .int .i64, .nils, .nils, .nils, .int .i64, .int .i64, .int .i64, .int .i64]), (1, .box [.int .i64, .int .i64, .int .i64, .int .i64, .own 2, .own 3, .own 4, .int .i64, .int .i64, .int .i64, .int .i64]), (2, .arr (.int .u8)), (3, .arr (.prod (.int .i64) (.prod (.int .i64) (.prod (.int .i64) (.prod (.int .i64) (.prod (.int .i64) (.prod (.int .i64) (.prod (.int .i64) (.prod (.int .i64) (.prod (.int .i64) (.prod (.int .i64) (.int .i64)))))))))))), (4, .arr (.prod (.int .i64) (.prod (.int .i64) (.prod (.int .i64) (.int .i64)))))]⟩), (21, ⟨[(10, .c (.ptr 0 0)), (11, .c (.ptr 1 0))], [(0, .box [.int .i64, .int .i64, .int .i64, .int .i64, .nils, .nils, .nils, .int .i64, .int .i64, .int .i64, .int .i64]), (1, .box [.int .i64, .int .i64, .int .i64, .int .i64, .own 2, .own 3, .own 4, .int .i64, .int .i64, .int .i64, .int .i64]), (2, .arr (.int .u8)), (3, .arr (.prod (.int .i64) (.prod (.int .i64) (.prod (.int .i64) (.prod (.int .i64) (.prod (.int .i64) (.prod (.int .i64) (.prod (.int .i64) (.prod (.int .i64) (.prod (.int .i64) (.prod (.int .i64) (.int .i64)))))))))))), (4, .arr (.prod (.int .i64) (.prod (.int .i64) (.prod (.int .i64) (.int .i64)))))]⟩)], [(6, ⟨[(2, .c (.row (.int .i64))), (10, .c (.ptr 0 0)), (11, .c (.ptr 1 0)), (12, .c (.int .i64)), (13, .c (.int .i64))], [(0, .box [.int .i64, .int .i64, .int .i64, .int .i64, .nils, .nils, .nils, .int .i64, .int .i64, .int .i64, .int .i64]), (1, .box [.int .i64, .int .i64, .int .i64, .int .i64, .own 2, .own 3, .own 4, .int .i64, .int .i64, .int .i64, .int .i64]), (2, .arr (.int .u8)), (3, .arr (.prod (.int .i64) (.prod (.int .i64) (.prod (.int .i64) (.prod (.int .i64) (.prod (.int .i64) (.prod (.int .i64) (.prod (.int .i64) (.prod (.int .i64) (.prod (.int .i64) (.prod (.int .i64) (.int .i64)))))))))))), (4, .arr (.prod (.int .i64) (.prod (.int .i64) (.prod (.int .i64) (.int .i64)))))]⟩), (8, ⟨[(2, .c (.row (.int .i64))), (10, .c (.ptr 0 0)), (11, .c (.ptr 1 0)), (12, .c (.int .i64)), (13, .c (.int .i64))], [(0, .box [.int .i64, .int .i64, .int .i64, .int .i64, .nils, .nils, .nils, .int .i64, .int .i64, .int .i64, .int .i64]), (1, .box [.int .i64, .int .i64, .int .i64, .int .i64, .own 2, .own 3, .own 4, .int .i64, .int .i64, .int .i64, .int .i64]), (2, .arr (.int .u8)), (3, .arr (.prod (.int .i64) (.prod (.int .i64) (.prod (.int .i64) (.prod (.int .i64) (.prod (.int .i64) (.prod (.int .i64) (.prod (.int .i64) (.prod (.int .i64) (.prod (.int .i64) (.prod (.int .i64) (.int .i64)))))))))))), (4, .arr (.prod (.int .i64) (.prod (.int .i64) (.prod (.int .i64) (.int .i64)))))]⟩)], [], 0, [], fuel⟩
theorem f15.run : ∀ x, runFn (f15.E 100000000000000000000) Go.Proofs.Try.f15 ((Go.Proofs.Try.f15.body).getD .skip) f15.S x = f15.S.f x := by intro x; kernel_rfl
theorem f15.sound : Sound Go.Proofs.Try.prog 15 f15.S := sound_of_run (fun _ => f15.E 100000000000000000000) (by kernel_rfl) (by kernel_rfl) (by kernel_rfl) orders (fun _ => ⟨tis_ok, EqsOk.nil _, (FnsOk.cons f26.sound (FnsOk.cons f11.sound (FnsOk.cons f8.sound (FnsOk.cons f9.sound (FnsOk.cons f12.sound (FnsOk.cons f10.sound (FnsOk.cons f13.sound FnsOk.nil)))))))⟩) (fun _ => rfl) (by kernel_rfl) (by kernel_rfl) (fun x r h => (f15.run x).trans h)
/-! f29: adit/fight.is -/
def f29 (a0 : Int) (a1 : Int) (a2 : Int) (a3 : Int) (a4 : List Int) (a5 : List (Int × Int × Int × Int × Int × Int × Int × Int × Int × Int × Int)) (a6 : List (Int × Int × Int × Int)) (a7 : Int) (a8 : Int) (a9 : Int) (a10 : Int) (a11 : Int) : Option (Bool × Unit) :=
 bif Decidable.decide (a11 ≥ 0) then
  bif Decidable.decide (a11 < (↑(List.length a5) : Int)) then
   bif Decidable.decide (a11 < 32) then
    bif inRange a11 (List.length a5) then
     some (((List.getD a5 (Int.toNat a11) (0, 0, 0, 0, 0, 0, 0, 0, 0, 0, 0)).fst != 0, ()))
    else
     none
   else
    some ((Bool.false, ()))
  else
   some ((Bool.false, ()))
 else
  some ((Bool.false, ()))
def f29.ins : Shape := ⟨[(0, .agg [.int .i64, .int .i64, .int .i64, .int .i64, .row (.int .u8), .row (.prod (.int .i64) (.prod (.int .i64) (.prod (.int .i64) (.prod (.int .i64) (.prod (.int .i64) (.prod (.int .i64) (.prod (.int .i64) (.prod (.int .i64) (.prod (.int .i64) (.prod (.int .i64) (.int .i64))))))))))), .row (.prod (.int .i64) (.prod (.int .i64) (.prod (.int .i64) (.int .i64)))), .int .i64, .int .i64, .int .i64, .int .i64]), (1, .c (.int .i64))], []⟩
def f29.outs : List Shape := [⟨[(0, .c (.bool))], []⟩]
def f29.S : FnSpec := ⟨f29.ins, f29.outs, [], fun x => f29 x.1 x.2.1 x.2.2.1 x.2.2.2.1 x.2.2.2.2.1 x.2.2.2.2.2.1 x.2.2.2.2.2.2.1 x.2.2.2.2.2.2.2.1 x.2.2.2.2.2.2.2.2.1 x.2.2.2.2.2.2.2.2.2.1 x.2.2.2.2.2.2.2.2.2.2.1 x.2.2.2.2.2.2.2.2.2.2.2.1⟩
def f29.E (fuel : Nat) : Env := ⟨tis, [], [], [], [], [], 0, [], fuel⟩
theorem f29.run : ∀ x, runFn (f29.E 100000000000000000000) Go.Proofs.Try.f29 ((Go.Proofs.Try.f29.body).getD .skip) f29.S x = f29.S.f x := by intro x; kernel_rfl
theorem f29.sound : Sound Go.Proofs.Try.prog 29 f29.S := sound_of_run (fun _ => f29.E 100000000000000000000) (by kernel_rfl) (by kernel_rfl) (by kernel_rfl) orders (fun _ => ⟨tis_ok, EqsOk.nil _, FnsOk.nil⟩) (fun _ => rfl) (by kernel_rfl) (by kernel_rfl) (fun x r h => (f29.run x).trans h)
/-! f46: slices.Clone[[]byte,byte] -/
def f46 (a0 : List Int) : Option (List Int × Unit) := cloneF (.int .u8) 1 a0
def f46.S : FnSpec := ⟨cloneIns (.int .u8), cloneOuts (.int .u8), [], fun x => f46 x.1⟩
def f46.E : Env := ⟨tis, [], [], [], [], [], 0, [], 1⟩
theorem f46.sound : Sound Go.Proofs.Try.prog 46 f46.S := clone_sound (fn := Go.Proofs.Try.f46) (t := 23) (q := 5) (u := 4) (bytes := 1) (i := ty23) f46.E (by kernel_rfl) (by kernel_rfl) (by kernel_rfl) orders (by kernel_rfl) ⟨tis_ok, EqsOk.nil _, FnsOk.nil⟩ rfl (by kernel_rfl) (by kernel_rfl) (by intro l A K; kernel_rfl) (by kernel_rfl) (by intro l; kernel_rfl)
/-! f47: slices.Clone[[]adit/api.Ent,adit/api.Ent] -/
def f47 (a0 : List (Int × Int × Int × Int × Int × Int × Int × Int × Int × Int × Int)) : Option (List (Int × Int × Int × Int × Int × Int × Int × Int × Int × Int × Int) × Unit) := cloneF (.prod (.int .i64) (.prod (.int .i64) (.prod (.int .i64) (.prod (.int .i64) (.prod (.int .i64) (.prod (.int .i64) (.prod (.int .i64) (.prod (.int .i64) (.prod (.int .i64) (.prod (.int .i64) (.int .i64))))))))))) 88 a0
def f47.S : FnSpec := ⟨cloneIns (.prod (.int .i64) (.prod (.int .i64) (.prod (.int .i64) (.prod (.int .i64) (.prod (.int .i64) (.prod (.int .i64) (.prod (.int .i64) (.prod (.int .i64) (.prod (.int .i64) (.prod (.int .i64) (.int .i64))))))))))), cloneOuts (.prod (.int .i64) (.prod (.int .i64) (.prod (.int .i64) (.prod (.int .i64) (.prod (.int .i64) (.prod (.int .i64) (.prod (.int .i64) (.prod (.int .i64) (.prod (.int .i64) (.prod (.int .i64) (.int .i64))))))))))), [], fun x => f47 x.1⟩
def f47.E : Env := ⟨tis, [], [], [], [], [], 0, [], 1⟩
theorem f47.sound : Sound Go.Proofs.Try.prog 47 f47.S := clone_sound (fn := Go.Proofs.Try.f47) (t := 24) (q := 33) (u := 4) (bytes := 88) (i := ty24) f47.E (by kernel_rfl) (by kernel_rfl) (by kernel_rfl) orders (by kernel_rfl) ⟨tis_ok, EqsOk.nil _, FnsOk.nil⟩ rfl (by kernel_rfl) (by kernel_rfl) (by intro l A K; kernel_rfl) (by kernel_rfl) (by intro l; kernel_rfl)
/-! f48: slices.Clone[[]adit/api.Item,adit/api.Item] -/
def f48 (a0 : List (Int × Int × Int × Int)) : Option (List (Int × Int × Int × Int) × Unit) := cloneF (.prod (.int .i64) (.prod (.int .i64) (.prod (.int .i64) (.int .i64)))) 32 a0
def f48.S : FnSpec := ⟨cloneIns (.prod (.int .i64) (.prod (.int .i64) (.prod (.int .i64) (.int .i64)))), cloneOuts (.prod (.int .i64) (.prod (.int .i64) (.prod (.int .i64) (.int .i64)))), [], fun x => f48 x.1⟩
def f48.E : Env := ⟨tis, [], [], [], [], [], 0, [], 1⟩
theorem f48.sound : Sound Go.Proofs.Try.prog 48 f48.S := clone_sound (fn := Go.Proofs.Try.f48) (t := 25) (q := 39) (u := 4) (bytes := 32) (i := ty25) f48.E (by kernel_rfl) (by kernel_rfl) (by kernel_rfl) orders (by kernel_rfl) ⟨tis_ok, EqsOk.nil _, FnsOk.nil⟩ rfl (by kernel_rfl) (by kernel_rfl) (by intro l A K; kernel_rfl) (by kernel_rfl) (by intro l; kernel_rfl)
/-! f30: adit/fight.twin -/
def f30 (a0 : Int) (a1 : Int) (a2 : Int) (a3 : Int) (a4 : List Int) (a5 : List (Int × Int × Int × Int × Int × Int × Int × Int × Int × Int × Int)) (a6 : List (Int × Int × Int × Int)) (a7 : Int) (a8 : Int) (a9 : Int) (a10 : Int) : Option (Int × Int × Int × Int × Int × Int × Int × Int × List Int × List (Int × Int × Int × Int × Int × Int × Int × Int × Int × Int × Int) × List (Int × Int × Int × Int) × Unit) :=
 Option.bind (f46 a4) fun y0 =>
  Option.bind (f47 a5) fun y1 =>
   Option.bind (f48 a6) fun y2 =>
    some ((a0, a1, a2, a3, a7, a8, a9, a10, y0.fst, y1.fst, y2.fst, ()))
def f30.ins : Shape := ⟨[(0, .agg [.int .i64, .int .i64, .int .i64, .int .i64, .row (.int .u8), .row (.prod (.int .i64) (.prod (.int .i64) (.prod (.int .i64) (.prod (.int .i64) (.prod (.int .i64) (.prod (.int .i64) (.prod (.int .i64) (.prod (.int .i64) (.prod (.int .i64) (.prod (.int .i64) (.int .i64))))))))))), .row (.prod (.int .i64) (.prod (.int .i64) (.prod (.int .i64) (.int .i64)))), .int .i64, .int .i64, .int .i64, .int .i64])], []⟩
def f30.outs : List Shape := [⟨[(0, .agg [.int .i64, .int .i64, .int .i64, .int .i64, .own 0, .own 1, .own 2, .int .i64, .int .i64, .int .i64, .int .i64])], [(0, .arr (.int .u8)), (1, .arr (.prod (.int .i64) (.prod (.int .i64) (.prod (.int .i64) (.prod (.int .i64) (.prod (.int .i64) (.prod (.int .i64) (.prod (.int .i64) (.prod (.int .i64) (.prod (.int .i64) (.prod (.int .i64) (.int .i64)))))))))))), (2, .arr (.prod (.int .i64) (.prod (.int .i64) (.prod (.int .i64) (.int .i64)))))]⟩]
def f30.S : FnSpec := ⟨f30.ins, f30.outs, [], fun x => f30 x.1 x.2.1 x.2.2.1 x.2.2.2.1 x.2.2.2.2.1 x.2.2.2.2.2.1 x.2.2.2.2.2.2.1 x.2.2.2.2.2.2.2.1 x.2.2.2.2.2.2.2.2.1 x.2.2.2.2.2.2.2.2.2.1 x.2.2.2.2.2.2.2.2.2.2.1⟩
def f30.E (fuel : Nat) : Env := ⟨tis, [(46, f46.S), (47, f47.S), (48, f48.S)], [], [], [], [], 0, [], fuel⟩
theorem f30.run : ∀ x, runFn (f30.E 100000000000000000000) Go.Proofs.Try.f30 ((Go.Proofs.Try.f30.body).getD .skip) f30.S x = f30.S.f x := by intro x; kernel_rfl
theorem f30.sound : Sound Go.Proofs.Try.prog 30 f30.S := sound_of_run (fun _ => f30.E 100000000000000000000) (by kernel_rfl) (by kernel_rfl) (by kernel_rfl) orders (fun _ => ⟨tis_ok, EqsOk.nil _, (FnsOk.cons f46.sound (FnsOk.cons f47.sound (FnsOk.cons f48.sound FnsOk.nil)))⟩) (fun _ => rfl) (by kernel_rfl) (by kernel_rfl) (fun x r h => (f30.run x).trans h)
/-! f60: adit/goods.find$1 -/
def f60 (a0 : Int) (a1 : Int) (a2 : Int) (a3 : Int) (a4 : Int) (a5 : Int) (a6 : Int) : Option (Bool × Unit) :=
 bif a0 != 0 then
  bif a1 == a4 then
   bif a2 == a5 then
    some ((a3 == a6, ()))
   else
    some ((Bool.false, ()))
  else
   some ((Bool.false, ()))
 else
  some ((Bool.false, ()))
def f60.ins : Shape := ⟨[(0, .agg [.int .i64, .int .i64, .int .i64, .int .i64]), (1, .c (.bptr (.int .i64))), (2, .c (.bptr (.int .i64))), (3, .c (.bptr (.int .i64)))], []⟩
def f60.outs : List Shape := [⟨[(0, .c (.bool))], []⟩]
def f60.S : FnSpec := ⟨f60.ins, f60.outs, [], fun x => f60 x.1 x.2.1 x.2.2.1 x.2.2.2.1 x.2.2.2.2.1 x.2.2.2.2.2.1 x.2.2.2.2.2.2.1⟩
def f60.E (fuel : Nat) : Env := ⟨tis, [], [], [], [], [], 0, [], fuel⟩
theorem f60.run : ∀ x, runFn (f60.E 100000000000000000000) Go.Proofs.Try.f60 ((Go.Proofs.Try.f60.body).getD .skip) f60.S x = f60.S.f x := by intro x; kernel_rfl
theorem f60.sound : Sound Go.Proofs.Try.prog 60 f60.S := sound_of_run (fun _ => f60.E 100000000000000000000) (by kernel_rfl) (by kernel_rfl) (by kernel_rfl) orders (fun _ => ⟨tis_ok, EqsOk.nil _, FnsOk.nil⟩) (fun _ => rfl) (by kernel_rfl) (by kernel_rfl) (fun x r h => (f60.run x).trans h)
/-! f59: slices.IndexFunc[[]adit/api.Item,adit/api.Item] -/
def f59.L1 (x : List (Int × Int × Int × Int) × Int × Int × Int × Int × Int × Unit) : Option (Int × Int × Int × Int × Unit) :=
 it (X := List (Int × Int × Int × Int) × Int × Int × Int × Int × Int × Unit) (fun rec x =>
 bif Decidable.decide (x.snd.snd.fst < x.snd.fst) then
  bif inRange x.snd.snd.fst (List.length x.fst) then
   Option.bind (f60 (List.getD x.fst (Int.toNat x.snd.snd.fst) (0, 0, 0, 0)).fst (List.getD x.fst (Int.toNat x.snd.snd.fst) (0, 0, 0, 0)).snd.fst (List.getD x.fst (Int.toNat x.snd.snd.fst) (0, 0, 0, 0)).snd.snd.fst (List.getD x.fst (Int.toNat x.snd.snd.fst) (0, 0, 0, 0)).snd.snd.snd x.snd.snd.snd.fst x.snd.snd.snd.snd.fst x.snd.snd.snd.snd.snd.fst) fun y0 =>
    bif y0.fst then
     some ((x.snd.snd.fst, x.snd.snd.snd.fst, x.snd.snd.snd.snd.fst, x.snd.snd.snd.snd.snd.fst, ()))
    else
     rec (x.fst, x.snd.fst, Go.IntKind.wrap Go.IntKind.i64 (x.snd.snd.fst + 1), x.snd.snd.snd.fst, x.snd.snd.snd.snd.fst, x.snd.snd.snd.snd.snd.fst, ())
  else
   none
 else
  some ((-1, x.snd.snd.snd.fst, x.snd.snd.snd.snd.fst, x.snd.snd.snd.snd.snd.fst, ()))
 ) (100000000000000000000) (x)
def f59 (a0 : List (Int × Int × Int × Int)) (a1 : Int) (a2 : Int) (a3 : Int) : Option (Int × Int × Int × Int × Unit) :=
 f59.L1 ((a0, (↑(List.length a0) : Int), 0, a1, a2, a3, ()))
def f59.ins : Shape := ⟨[(0, .c (.row (.prod (.int .i64) (.prod (.int .i64) (.prod (.int .i64) (.int .i64)))))), (1, .c (.fn 60 [0, 1, 2]))], [(0, .box [.int .i64]), (1, .box [.int .i64]), (2, .box [.int .i64])]⟩
def f59.outs : List Shape := [⟨[(0, .c (.int .i64))], [(0, .box [.int .i64]), (1, .box [.int .i64]), (2, .box [.int .i64])]⟩]
def f59.S : FnSpec := ⟨f59.ins, f59.outs, [0, 1, 2], fun x => f59 x.1 x.2.1 x.2.2.1 x.2.2.2.1⟩
def f59.E (fuel : Nat) : Env := ⟨tis, [(60, f60.S)], [], [], [(3, ⟨[(0, .c (.row (.prod (.int .i64) (.prod (.int .i64) (.prod (.int .i64) (.int .i64)))))), (1, .c (.fn 60 [0, 1, 2])), (7, .c (.int .i64)), (8, .c (.int .i64))], [(0, .box [.int .i64]), (1, .box [.int .i64]), (2, .box [.int .i64])]⟩)], [], 3, [0, 1, 2], fuel⟩
theorem f59.run : ∀ x, runFn (f59.E 100000000000000000000) Go.Proofs.Try.f59 ((Go.Proofs.Try.f59.body).getD .skip) f59.S x = f59.S.f x := by intro x; kernel_rfl
theorem f59.sound : Sound Go.Proofs.Try.prog 59 f59.S := sound_of_run (fun _ => f59.E 100000000000000000000) (by kernel_rfl) (by kernel_rfl) (by kernel_rfl) orders (fun _ => ⟨tis_ok, EqsOk.nil _, (FnsOk.cons f60.sound FnsOk.nil)⟩) (fun _ => rfl) (by kernel_rfl) (by kernel_rfl) (fun x r h => (f59.run x).trans h)
/-! f56: adit/goods.find -/
def f56 (a0 : Int) (a1 : Int) (a2 : Int) (a3 : Int) (a4 : List Int) (a5 : List (Int × Int × Int × Int × Int × Int × Int × Int × Int × Int × Int)) (a6 : List (Int × Int × Int × Int)) (a7 : Int) (a8 : Int) (a9 : Int) (a10 : Int) (a11 : Int) (a12 : Int) (a13 : Int) : Option (Int × Unit) :=
 Option.bind (f59 a6 a11 a12 a13) fun y0 =>
  some ((y0.fst, ()))
def f56.ins : Shape := ⟨[(0, .agg [.int .i64, .int .i64, .int .i64, .int .i64, .row (.int .u8), .row (.prod (.int .i64) (.prod (.int .i64) (.prod (.int .i64) (.prod (.int .i64) (.prod (.int .i64) (.prod (.int .i64) (.prod (.int .i64) (.prod (.int .i64) (.prod (.int .i64) (.prod (.int .i64) (.int .i64))))))))))), .row (.prod (.int .i64) (.prod (.int .i64) (.prod (.int .i64) (.int .i64)))), .int .i64, .int .i64, .int .i64, .int .i64]), (1, .c (.int .i64)), (2, .c (.int .i64)), (3, .c (.int .i64))], []⟩
def f56.outs : List Shape := [⟨[(0, .c (.int .i64))], []⟩]
def f56.S : FnSpec := ⟨f56.ins, f56.outs, [], fun x => f56 x.1 x.2.1 x.2.2.1 x.2.2.2.1 x.2.2.2.2.1 x.2.2.2.2.2.1 x.2.2.2.2.2.2.1 x.2.2.2.2.2.2.2.1 x.2.2.2.2.2.2.2.2.1 x.2.2.2.2.2.2.2.2.2.1 x.2.2.2.2.2.2.2.2.2.2.1 x.2.2.2.2.2.2.2.2.2.2.2.1 x.2.2.2.2.2.2.2.2.2.2.2.2.1 x.2.2.2.2.2.2.2.2.2.2.2.2.2.1⟩
def f56.E (fuel : Nat) : Env := ⟨tis, [(59, f59.S)], [], [], [], [], 0, [], fuel⟩
theorem f56.run : ∀ x, runFn (f56.E 100000000000000000000) Go.Proofs.Try.f56 ((Go.Proofs.Try.f56.body).getD .skip) f56.S x = f56.S.f x := by intro x; kernel_rfl
theorem f56.sound : Sound Go.Proofs.Try.prog 56 f56.S := sound_of_run (fun _ => f56.E 100000000000000000000) (by kernel_rfl) (by kernel_rfl) (by kernel_rfl) orders (fun _ => ⟨tis_ok, EqsOk.nil _, (FnsOk.cons f59.sound FnsOk.nil)⟩) (fun _ => rfl) (by kernel_rfl) (by kernel_rfl) (fun x r h => (f56.run x).trans h)
/-! f49: adit/goods.Bonus -/
def f49 (a0 : Int) (a1 : Int) (a2 : Int) (a3 : Int) (a4 : List Int) (a5 : List (Int × Int × Int × Int × Int × Int × Int × Int × Int × Int × Int)) (a6 : List (Int × Int × Int × Int)) (a7 : Int) (a8 : Int) (a9 : Int) (a10 : Int) (a11 : Int) : Option (Int × Int × Unit) :=
 Option.bind (α := Int × Int × Int × Int × Int × Int × Int × List Int × List (Int × Int × Int × Int × Int × Int × Int × Int × Int × Int × Int) × List (Int × Int × Int × Int) × Int × Int × Int × Int × Unit ⊕ Int × Int × Unit) (
  Option.bind (f56 a0 a1 a2 a3 a4 a5 a6 a7 a8 a9 a10 3 a11 0) fun y7 =>
   bif Decidable.decide (y7.fst ≥ 0) then
    some (Sum.inl (a11, 3, 0, a0, a1, a2, a3, a4, a5, a6, a7, a8, a9, a10, ()))
   else
    some (Sum.inl (a11, 0, 0, a0, a1, a2, a3, a4, a5, a6, a7, a8, a9, a10, ()))
 ) fun y0 =>
  Sum.elim (fun y1 =>
   Option.bind (α := Int × Int × Unit ⊕ Int × Int × Unit) (
    Option.bind (f56 y1.snd.snd.snd.fst y1.snd.snd.snd.snd.fst y1.snd.snd.snd.snd.snd.fst y1.snd.snd.snd.snd.snd.snd.fst y1.snd.snd.snd.snd.snd.snd.snd.fst y1.snd.snd.snd.snd.snd.snd.snd.snd.fst y1.snd.snd.snd.snd.snd.snd.snd.snd.snd.fst y1.snd.snd.snd.snd.snd.snd.snd.snd.snd.snd.fst y1.snd.snd.snd.snd.snd.snd.snd.snd.snd.snd.snd.fst y1.snd.snd.snd.snd.snd.snd.snd.snd.snd.snd.snd.snd.fst y1.snd.snd.snd.snd.snd.snd.snd.snd.snd.snd.snd.snd.snd.fst 3 y1.fst 1) fun y6 =>
     bif Decidable.decide (y6.fst ≥ 0) then
      some (Sum.inl (y1.snd.fst, 2, ()))
     else
      some (Sum.inl (y1.snd.fst, y1.snd.snd.fst, ()))
   ) fun y3 =>
    Sum.elim (fun y4 =>
     some ((y4.fst, y4.snd.fst, ()))
    ) (fun z5 =>
     some (z5)
    ) (y3)
  ) (fun z2 =>
   some (z2)
  ) (y0)
def f49.ins : Shape := ⟨[(0, .agg [.int .i64, .int .i64, .int .i64, .int .i64, .row (.int .u8), .row (.prod (.int .i64) (.prod (.int .i64) (.prod (.int .i64) (.prod (.int .i64) (.prod (.int .i64) (.prod (.int .i64) (.prod (.int .i64) (.prod (.int .i64) (.prod (.int .i64) (.prod (.int .i64) (.int .i64))))))))))), .row (.prod (.int .i64) (.prod (.int .i64) (.prod (.int .i64) (.int .i64)))), .int .i64, .int .i64, .int .i64, .int .i64]), (1, .c (.int .i64))], []⟩
def f49.outs : List Shape := [⟨[(0, .c (.int .i64)), (1, .c (.int .i64))], []⟩]
def f49.S : FnSpec := ⟨f49.ins, f49.outs, [], fun x => f49 x.1 x.2.1 x.2.2.1 x.2.2.2.1 x.2.2.2.2.1 x.2.2.2.2.2.1 x.2.2.2.2.2.2.1 x.2.2.2.2.2.2.2.1 x.2.2.2.2.2.2.2.2.1 x.2.2.2.2.2.2.2.2.2.1 x.2.2.2.2.2.2.2.2.2.2.1 x.2.2.2.2.2.2.2.2.2.2.2.1⟩
def f49.E (fuel : Nat) : Env := ⟨tis, [(56, f56.S)], [], [(5, ⟨[(1, .c (.int .i64)), (2, .c (.ptr 0 0)), (6, .c (.int .i64)), (7, .c (.int .i64))], [(0, .box [.int .i64, .int .i64, .int .i64, .int .i64, .row (.int .u8), .row (.prod (.int .i64) (.prod (.int .i64) (.prod (.int .i64) (.prod (.int .i64) (.prod (.int .i64) (.prod (.int .i64) (.prod (.int .i64) (.prod (.int .i64) (.prod (.int .i64) (.prod (.int .i64) (.int .i64))))))))))), .row (.prod (.int .i64) (.prod (.int .i64) (.prod (.int .i64) (.int .i64)))), .int .i64, .int .i64, .int .i64, .int .i64])]⟩), (7, ⟨[(6, .c (.int .i64)), (7, .c (.int .i64))], []⟩)], [], [], 0, [], fuel⟩
theorem f49.run : ∀ x, runFn (f49.E 100000000000000000000) Go.Proofs.Try.f49 ((Go.Proofs.Try.f49.body).getD .skip) f49.S x = f49.S.f x := by intro x; kernel_rfl
theorem f49.sound : Sound Go.Proofs.Try.prog 49 f49.S := sound_of_run (fun _ => f49.E 100000000000000000000) (by kernel_rfl) (by kernel_rfl) (by kernel_rfl) orders (fun _ => ⟨tis_ok, EqsOk.nil _, (FnsOk.cons f56.sound FnsOk.nil)⟩) (fun _ => rfl) (by kernel_rfl) (by kernel_rfl) (fun x r h => (f49.run x).trans h)
/-! f31: adit/fight.strength -/
def f31 (a0 : Int) (a1 : Int) (a2 : Int) (a3 : Int) (a4 : List Int) (a5 : List (Int × Int × Int × Int × Int × Int × Int × Int × Int × Int × Int)) (a6 : List (Int × Int × Int × Int)) (a7 : Int) (a8 : Int) (a9 : Int) (a10 : Int) (a11 : Int) : Option (Int × Int × Unit) :=
 bif inRange a11 (List.length a5) then
  Option.bind (α := Int × Int × Int × Int × Int × Int × Int × Int × Int × Int × Int × Int × Int × Unit ⊕ Int × Int × Unit) (
   bif (List.getD a5 (Int.toNat a11) (0, 0, 0, 0, 0, 0, 0, 0, 0, 0, 0)).fst == 1 then
    Option.bind (f49 a0 a1 a2 a3 a4 a5 a6 a7 a8 a9 a10 (List.getD a5 (Int.toNat a11) (0, 0, 0, 0, 0, 0, 0, 0, 0, 0, 0)).snd.snd.fst) fun y3 =>
     some (Sum.inl (y3.fst, y3.snd.fst, (List.getD a5 (Int.toNat a11) (0, 0, 0, 0, 0, 0, 0, 0, 0, 0, 0)).fst, (List.getD a5 (Int.toNat a11) (0, 0, 0, 0, 0, 0, 0, 0, 0, 0, 0)).snd.fst, (List.getD a5 (Int.toNat a11) (0, 0, 0, 0, 0, 0, 0, 0, 0, 0, 0)).snd.snd.fst, (List.getD a5 (Int.toNat a11) (0, 0, 0, 0, 0, 0, 0, 0, 0, 0, 0)).snd.snd.snd.fst, (List.getD a5 (Int.toNat a11) (0, 0, 0, 0, 0, 0, 0, 0, 0, 0, 0)).snd.snd.snd.snd.fst, (List.getD a5 (Int.toNat a11) (0, 0, 0, 0, 0, 0, 0, 0, 0, 0, 0)).snd.snd.snd.snd.snd.fst, (List.getD a5 (Int.toNat a11) (0, 0, 0, 0, 0, 0, 0, 0, 0, 0, 0)).snd.snd.snd.snd.snd.snd.fst, (List.getD a5 (Int.toNat a11) (0, 0, 0, 0, 0, 0, 0, 0, 0, 0, 0)).snd.snd.snd.snd.snd.snd.snd.fst, (List.getD a5 (Int.toNat a11) (0, 0, 0, 0, 0, 0, 0, 0, 0, 0, 0)).snd.snd.snd.snd.snd.snd.snd.snd.fst, (List.getD a5 (Int.toNat a11) (0, 0, 0, 0, 0, 0, 0, 0, 0, 0, 0)).snd.snd.snd.snd.snd.snd.snd.snd.snd.fst, (List.getD a5 (Int.toNat a11) (0, 0, 0, 0, 0, 0, 0, 0, 0, 0, 0)).snd.snd.snd.snd.snd.snd.snd.snd.snd.snd, ()))
   else
    some (Sum.inl (0, 0, (List.getD a5 (Int.toNat a11) (0, 0, 0, 0, 0, 0, 0, 0, 0, 0, 0)).fst, (List.getD a5 (Int.toNat a11) (0, 0, 0, 0, 0, 0, 0, 0, 0, 0, 0)).snd.fst, (List.getD a5 (Int.toNat a11) (0, 0, 0, 0, 0, 0, 0, 0, 0, 0, 0)).snd.snd.fst, (List.getD a5 (Int.toNat a11) (0, 0, 0, 0, 0, 0, 0, 0, 0, 0, 0)).snd.snd.snd.fst, (List.getD a5 (Int.toNat a11) (0, 0, 0, 0, 0, 0, 0, 0, 0, 0, 0)).snd.snd.snd.snd.fst, (List.getD a5 (Int.toNat a11) (0, 0, 0, 0, 0, 0, 0, 0, 0, 0, 0)).snd.snd.snd.snd.snd.fst, (List.getD a5 (Int.toNat a11) (0, 0, 0, 0, 0, 0, 0, 0, 0, 0, 0)).snd.snd.snd.snd.snd.snd.fst, (List.getD a5 (Int.toNat a11) (0, 0, 0, 0, 0, 0, 0, 0, 0, 0, 0)).snd.snd.snd.snd.snd.snd.snd.fst, (List.getD a5 (Int.toNat a11) (0, 0, 0, 0, 0, 0, 0, 0, 0, 0, 0)).snd.snd.snd.snd.snd.snd.snd.snd.fst, (List.getD a5 (Int.toNat a11) (0, 0, 0, 0, 0, 0, 0, 0, 0, 0, 0)).snd.snd.snd.snd.snd.snd.snd.snd.snd.fst, (List.getD a5 (Int.toNat a11) (0, 0, 0, 0, 0, 0, 0, 0, 0, 0, 0)).snd.snd.snd.snd.snd.snd.snd.snd.snd.snd, ()))
  ) fun y0 =>
   Sum.elim (fun y1 =>
    some ((Go.IntKind.wrap Go.IntKind.i64 (y1.snd.snd.snd.snd.snd.snd.snd.snd.snd.fst + y1.fst), Go.IntKind.wrap Go.IntKind.i64 (y1.snd.snd.snd.snd.snd.snd.snd.snd.snd.snd.fst + y1.snd.fst), ()))
   ) (fun z2 =>
    some (z2)
   ) (y0)
 else
  none
def f31.ins : Shape := ⟨[(0, .agg [.int .i64, .int .i64, .int .i64, .int .i64, .row (.int .u8), .row (.prod (.int .i64) (.prod (.int .i64) (.prod (.int .i64) (.prod (.int .i64) (.prod (.int .i64) (.prod (.int .i64) (.prod (.int .i64) (.prod (.int .i64) (.prod (.int .i64) (.prod (.int .i64) (.int .i64))))))))))), .row (.prod (.int .i64) (.prod (.int .i64) (.prod (.int .i64) (.int .i64)))), .int .i64, .int .i64, .int .i64, .int .i64]), (1, .c (.int .i64))], []⟩
def f31.outs : List Shape := [⟨[(0, .c (.int .i64)), (1, .c (.int .i64))], []⟩]
def f31.S : FnSpec := ⟨f31.ins, f31.outs, [], fun x => f31 x.1 x.2.1 x.2.2.1 x.2.2.2.1 x.2.2.2.2.1 x.2.2.2.2.2.1 x.2.2.2.2.2.2.1 x.2.2.2.2.2.2.2.1 x.2.2.2.2.2.2.2.2.1 x.2.2.2.2.2.2.2.2.2.1 x.2.2.2.2.2.2.2.2.2.2.1 x.2.2.2.2.2.2.2.2.2.2.2.1⟩
def f31.E (fuel : Nat) : Env := ⟨tis, [(49, f49.S)], [], [(6, ⟨[(6, .c (.ptr 0 0)), (7, .c (.int .i64)), (8, .c (.int .i64))], [(0, .box [.int .i64, .int .i64, .int .i64, .int .i64, .int .i64, .int .i64, .int .i64, .int .i64, .int .i64, .int .i64, .int .i64])]⟩)], [], [], 0, [], fuel⟩
theorem f31.run : ∀ x, runFn (f31.E 100000000000000000000) Go.Proofs.Try.f31 ((Go.Proofs.Try.f31.body).getD .skip) f31.S x = f31.S.f x := by intro x; kernel_rfl
theorem f31.sound : Sound Go.Proofs.Try.prog 31 f31.S := sound_of_run (fun _ => f31.E 100000000000000000000) (by kernel_rfl) (by kernel_rfl) (by kernel_rfl) orders (fun _ => ⟨tis_ok, EqsOk.nil _, (FnsOk.cons f49.sound FnsOk.nil)⟩) (fun _ => rfl) (by kernel_rfl) (by kernel_rfl) (fun x r h => (f31.run x).trans h)
/-! f57: adit/dice.mix -/
def f57 (a0 : Int) : Option (Int × Unit) :=
 some ((Go.IntKind.wrap Go.IntKind.u64 (↑(BitVec.toNat (BitVec.ofInt (Go.IntKind.bits Go.IntKind.u64) (Go.IntKind.wrap Go.IntKind.u64 (Go.IntKind.wrap Go.IntKind.u64 (↑(BitVec.toNat (BitVec.ofInt (Go.IntKind.bits Go.IntKind.u64) (Go.IntKind.wrap Go.IntKind.u64 (Go.IntKind.wrap Go.IntKind.u64 (↑(BitVec.toNat (BitVec.ofInt (Go.IntKind.bits Go.IntKind.u64) a0 ^^^ BitVec.ofInt (Go.IntKind.bits Go.IntKind.u64) (Int.fdiv a0 (2 ^ Min.min 30 (Go.IntKind.bits Go.IntKind.u64))))) : Int) * 13787848793156543929)) ^^^ BitVec.ofInt (Go.IntKind.bits Go.IntKind.u64) (Int.fdiv (Go.IntKind.wrap Go.IntKind.u64 (Go.IntKind.wrap Go.IntKind.u64 (↑(BitVec.toNat (BitVec.ofInt (Go.IntKind.bits Go.IntKind.u64) a0 ^^^ BitVec.ofInt (Go.IntKind.bits Go.IntKind.u64) (Int.fdiv a0 (2 ^ Min.min 30 (Go.IntKind.bits Go.IntKind.u64))))) : Int) * 13787848793156543929)) (2 ^ Min.min 27 (Go.IntKind.bits Go.IntKind.u64))))) : Int) * 10723151780598845931)) ^^^ BitVec.ofInt (Go.IntKind.bits Go.IntKind.u64) (Int.fdiv (Go.IntKind.wrap Go.IntKind.u64 (Go.IntKind.wrap Go.IntKind.u64 (↑(BitVec.toNat (BitVec.ofInt (Go.IntKind.bits Go.IntKind.u64) (Go.IntKind.wrap Go.IntKind.u64 (Go.IntKind.wrap Go.IntKind.u64 (↑(BitVec.toNat (BitVec.ofInt (Go.IntKind.bits Go.IntKind.u64) a0 ^^^ BitVec.ofInt (Go.IntKind.bits Go.IntKind.u64) (Int.fdiv a0 (2 ^ Min.min 30 (Go.IntKind.bits Go.IntKind.u64))))) : Int) * 13787848793156543929)) ^^^ BitVec.ofInt (Go.IntKind.bits Go.IntKind.u64) (Int.fdiv (Go.IntKind.wrap Go.IntKind.u64 (Go.IntKind.wrap Go.IntKind.u64 (↑(BitVec.toNat (BitVec.ofInt (Go.IntKind.bits Go.IntKind.u64) a0 ^^^ BitVec.ofInt (Go.IntKind.bits Go.IntKind.u64) (Int.fdiv a0 (2 ^ Min.min 30 (Go.IntKind.bits Go.IntKind.u64))))) : Int) * 13787848793156543929)) (2 ^ Min.min 27 (Go.IntKind.bits Go.IntKind.u64))))) : Int) * 10723151780598845931)) (2 ^ Min.min 31 (Go.IntKind.bits Go.IntKind.u64))))) : Int), ()))
def f57.ins : Shape := ⟨[(0, .c (.int .u64))], []⟩
def f57.outs : List Shape := [⟨[(0, .c (.int .u64))], []⟩]
def f57.S : FnSpec := ⟨f57.ins, f57.outs, [], fun x => f57 x.1⟩
def f57.E (fuel : Nat) : Env := ⟨tis, [], [], [], [], [], 0, [], fuel⟩
theorem f57.run : ∀ x, runFn (f57.E 100000000000000000000) Go.Proofs.Try.f57 ((Go.Proofs.Try.f57.body).getD .skip) f57.S x = f57.S.f x := by intro x; kernel_rfl
theorem f57.sound : Sound Go.Proofs.Try.prog 57 f57.S := sound_of_run (fun _ => f57.E 100000000000000000000) (by kernel_rfl) (by kernel_rfl) (by kernel_rfl) orders (fun _ => ⟨tis_ok, EqsOk.nil _, FnsOk.nil⟩) (fun _ => rfl) (by kernel_rfl) (by kernel_rfl) (fun x r h => (f57.run x).trans h)
/-! f50: adit/dice.Mix -/
def f50.L1 (x : Int × List Int × Int × Int × Unit) : Option (Int × Unit) :=
 it (X := Int × List Int × Int × Int × Unit) (fun rec x =>
 bif Decidable.decide (x.snd.snd.snd.fst < x.snd.snd.fst) then
  bif inRange x.snd.snd.snd.fst (List.length x.snd.fst) then
   Option.bind (f57 (Go.IntKind.wrap Go.IntKind.u64 (Go.IntKind.wrap Go.IntKind.u64 (↑(BitVec.toNat (BitVec.ofInt (Go.IntKind.bits Go.IntKind.u64) x.fst ^^^ BitVec.ofInt (Go.IntKind.bits Go.IntKind.u64) (Go.IntKind.wrap Go.IntKind.u64 (List.getD x.snd.fst (Int.toNat x.snd.snd.snd.fst) 0)))) : Int) + 11400714819323198485))) fun y0 =>
    rec (y0.fst, x.snd.fst, x.snd.snd.fst, Go.IntKind.wrap Go.IntKind.i64 (x.snd.snd.snd.fst + 1), ())
  else
   none
 else
  some ((x.fst, ()))
 ) (100000000000000000000) (x)
def f50 (a0 : Int) (a1 : List Int) : Option (Int × Unit) :=
 Option.bind (f57 (Go.IntKind.wrap Go.IntKind.u64 (Go.IntKind.wrap Go.IntKind.u64 a0 + 11400714819323198485))) fun y0 =>
  f50.L1 ((y0.fst, a1, (↑(List.length a1) : Int), 0, ()))
def f50.ins : Shape := ⟨[(0, .c (.int .i64)), (1, .c (.row (.int .i64)))], []⟩
def f50.outs : List Shape := [⟨[(0, .c (.int .u64))], []⟩]
def f50.S : FnSpec := ⟨f50.ins, f50.outs, [], fun x => f50 x.1 x.2.1⟩
def f50.E (fuel : Nat) : Env := ⟨tis, [(57, f57.S)], [], [], [(4, ⟨[(5, .c (.int .u64)), (12, .c (.row (.int .i64))), (13, .c (.int .i64)), (14, .c (.int .i64))], []⟩)], [], 0, [], fuel⟩
theorem f50.run : ∀ x, runFn (f50.E 100000000000000000000) Go.Proofs.Try.f50 ((Go.Proofs.Try.f50.body).getD .skip) f50.S x = f50.S.f x := by intro x; kernel_rfl
theorem f50.sound : Sound Go.Proofs.Try.prog 50 f50.S := sound_of_run (fun _ => f50.E 100000000000000000000) (by kernel_rfl) (by kernel_rfl) (by kernel_rfl) orders (fun _ => ⟨tis_ok, EqsOk.nil _, (FnsOk.cons f57.sound FnsOk.nil)⟩) (fun _ => rfl) (by kernel_rfl) (by kernel_rfl) (fun x r h => (f50.run x).trans h)
/-! f32: adit/dice.Die -/
def f32 (a0 : Int) (a1 : Int) (a2 : List Int) : Option (Int × Unit) :=
 bif Decidable.decide (a0 < 1) then
  some ((0, ()))
 else
  Option.bind (f50 a1 a2) fun y0 =>
   bif Decidable.decide (Go.IntKind.wrap Go.IntKind.u64 a0 = 0) then
    none
   else
    some ((Go.IntKind.wrap Go.IntKind.i64 (Int.tmod y0.fst (Go.IntKind.wrap Go.IntKind.u64 a0)), ()))
def f32.ins : Shape := ⟨[(0, .c (.int .i64)), (1, .c (.int .i64)), (2, .c (.row (.int .i64)))], []⟩
def f32.outs : List Shape := [⟨[(0, .c (.int .i64))], []⟩]
def f32.S : FnSpec := ⟨f32.ins, f32.outs, [], fun x => f32 x.1 x.2.1 x.2.2.1⟩
def f32.E (fuel : Nat) : Env := ⟨tis, [(50, f50.S)], [], [], [], [], 0, [], fuel⟩
theorem f32.run : ∀ x, runFn (f32.E 100000000000000000000) Go.Proofs.Try.f32 ((Go.Proofs.Try.f32.body).getD .skip) f32.S x = f32.S.f x := by intro x; kernel_rfl
theorem f32.sound : Sound Go.Proofs.Try.prog 32 f32.S := sound_of_run (fun _ => f32.E 100000000000000000000) (by kernel_rfl) (by kernel_rfl) (by kernel_rfl) orders (fun _ => ⟨tis_ok, EqsOk.nil _, (FnsOk.cons f50.sound FnsOk.nil)⟩) (fun _ => rfl) (by kernel_rfl) (by kernel_rfl) (fun x r h => (f32.run x).trans h)
/-! f52: adit/ents.rows -/
def f52 (a0 : List (Int × Int × Int × Int × Int × Int × Int × Int × Int × Int × Int)) : Option (List (Int × Int × Int × Int × Int × Int × Int × Int × Int × Int × Int) × Unit) :=
 bif Decidable.decide ((0 : Int) ≤ 0 ∧ 0 ≤ minI (↑(List.length a0) : Int) 32 ∧ minI (↑(List.length a0) : Int) 32 ≤ (↑(List.length a0) : Int)) then
  some ((List.drop 0 (List.take (Int.toNat (minI (↑(List.length a0) : Int) 32)) a0), ()))
 else
  none
def f52.ins : Shape := ⟨[(0, .c (.row (.prod (.int .i64) (.prod (.int .i64) (.prod (.int .i64) (.prod (.int .i64) (.prod (.int .i64) (.prod (.int .i64) (.prod (.int .i64) (.prod (.int .i64) (.prod (.int .i64) (.prod (.int .i64) (.int .i64)))))))))))))], []⟩
def f52.outs : List Shape := [⟨[(0, .c (.row (.prod (.int .i64) (.prod (.int .i64) (.prod (.int .i64) (.prod (.int .i64) (.prod (.int .i64) (.prod (.int .i64) (.prod (.int .i64) (.prod (.int .i64) (.prod (.int .i64) (.prod (.int .i64) (.int .i64)))))))))))))], []⟩]
def f52.S : FnSpec := ⟨f52.ins, f52.outs, [], fun x => f52 x.1⟩
def f52.E (fuel : Nat) : Env := ⟨tis, [], [], [], [], [], 0, [], fuel⟩
theorem f52.run : ∀ x, runFn (f52.E 100000000000000000000) Go.Proofs.Try.f52 ((Go.Proofs.Try.f52.body).getD .skip) f52.S x = f52.S.f x := by intro x; kernel_rfl
theorem f52.sound : Sound Go.Proofs.Try.prog 52 f52.S := sound_of_run (fun _ => f52.E 100000000000000000000) (by kernel_rfl) (by kernel_rfl) (by kernel_rfl) orders (fun _ => ⟨tis_ok, EqsOk.nil _, FnsOk.nil⟩) (fun _ => rfl) (by kernel_rfl) (by kernel_rfl) (fun x r h => (f52.run x).trans h)
/-! f36: adit/ents.Free -/
def f36 (a0 : List (Int × Int × Int × Int × Int × Int × Int × Int × Int × Int × Int)) (a1 : Int) : Option (List (Int × Int × Int × Int × Int × Int × Int × Int × Int × Int × Int) × Unit) :=
 Option.bind (f47 a0) fun y0 =>
  Option.bind (α := List (Int × Int × Int × Int × Int × Int × Int × Int × Int × Int × Int) × Unit ⊕ List (Int × Int × Int × Int × Int × Int × Int × Int × Int × Int × Int) × Unit) (
   bif Decidable.decide (a1 ≥ 0) then
    Option.bind (f52 a0) fun y4 =>
     bif Decidable.decide (a1 < (↑(List.length y4.fst) : Int)) then
      bif inRange a1 (List.length a0) then
       bif inRange a1 (List.length y0.fst) then
        let s0 : List (Int × Int × Int × Int × Int × Int × Int × Int × Int × Int × Int) := List.set y0.fst (Int.toNat a1) (0, (List.getD a0 (Int.toNat a1) (0, 0, 0, 0, 0, 0, 0, 0, 0, 0, 0)).snd.fst, 0, 0, 0, 0, 0, 0, 0, 0, 0)
        some (Sum.inl (s0, ()))
       else
        none
      else
       none
     else
      some (Sum.inl (y0.fst, ()))
   else
    some (Sum.inl (y0.fst, ()))
  ) fun y1 =>
   Sum.elim (fun y2 =>
    some ((y2.fst, ()))
   ) (fun z3 =>
    some (z3)
   ) (y1)
def f36.ins : Shape := ⟨[(0, .c (.row (.prod (.int .i64) (.prod (.int .i64) (.prod (.int .i64) (.prod (.int .i64) (.prod (.int .i64) (.prod (.int .i64) (.prod (.int .i64) (.prod (.int .i64) (.prod (.int .i64) (.prod (.int .i64) (.int .i64))))))))))))), (1, .c (.int .i64))], []⟩
def f36.outs : List Shape := [⟨[(0, .c (.own 0))], [(0, .arr (.prod (.int .i64) (.prod (.int .i64) (.prod (.int .i64) (.prod (.int .i64) (.prod (.int .i64) (.prod (.int .i64) (.prod (.int .i64) (.prod (.int .i64) (.prod (.int .i64) (.prod (.int .i64) (.int .i64))))))))))))]⟩]
def f36.S : FnSpec := ⟨f36.ins, f36.outs, [], fun x => f36 x.1 x.2.1⟩
def f36.E (fuel : Nat) : Env := ⟨tis, [(47, f47.S), (52, f52.S)], [], [(5, ⟨[(5, .c (.own 0))], [(0, .arr (.prod (.int .i64) (.prod (.int .i64) (.prod (.int .i64) (.prod (.int .i64) (.prod (.int .i64) (.prod (.int .i64) (.prod (.int .i64) (.prod (.int .i64) (.prod (.int .i64) (.prod (.int .i64) (.int .i64))))))))))))]⟩)], [], [], 0, [], fuel⟩
theorem f36.run : ∀ x, runFn (f36.E 100000000000000000000) Go.Proofs.Try.f36 ((Go.Proofs.Try.f36.body).getD .skip) f36.S x = f36.S.f x := by intro x; kernel_rfl
theorem f36.sound : Sound Go.Proofs.Try.prog 36 f36.S := sound_of_run (fun _ => f36.E 100000000000000000000) (by kernel_rfl) (by kernel_rfl) (by kernel_rfl) orders (fun _ => ⟨tis_ok, EqsOk.nil _, (FnsOk.cons f47.sound (FnsOk.cons f52.sound FnsOk.nil))⟩) (fun _ => rfl) (by kernel_rfl) (by kernel_rfl) (fun x r h => (f36.run x).trans h)
/-! f53: adit/goods.twin -/
def f53 (a0 : Int) (a1 : Int) (a2 : Int) (a3 : Int) (a4 : List Int) (a5 : List (Int × Int × Int × Int × Int × Int × Int × Int × Int × Int × Int)) (a6 : List (Int × Int × Int × Int)) (a7 : Int) (a8 : Int) (a9 : Int) (a10 : Int) : Option (Int × Int × Int × Int × Int × Int × Int × Int × List Int × List (Int × Int × Int × Int × Int × Int × Int × Int × Int × Int × Int) × List (Int × Int × Int × Int) × Unit) :=
 Option.bind (f46 a4) fun y0 =>
  Option.bind (f47 a5) fun y1 =>
   Option.bind (f48 a6) fun y2 =>
    some ((a0, a1, a2, a3, a7, a8, a9, a10, y0.fst, y1.fst, y2.fst, ()))
def f53.ins : Shape := ⟨[(0, .agg [.int .i64, .int .i64, .int .i64, .int .i64, .row (.int .u8), .row (.prod (.int .i64) (.prod (.int .i64) (.prod (.int .i64) (.prod (.int .i64) (.prod (.int .i64) (.prod (.int .i64) (.prod (.int .i64) (.prod (.int .i64) (.prod (.int .i64) (.prod (.int .i64) (.int .i64))))))))))), .row (.prod (.int .i64) (.prod (.int .i64) (.prod (.int .i64) (.int .i64)))), .int .i64, .int .i64, .int .i64, .int .i64])], []⟩
def f53.outs : List Shape := [⟨[(0, .agg [.int .i64, .int .i64, .int .i64, .int .i64, .own 0, .own 1, .own 2, .int .i64, .int .i64, .int .i64, .int .i64])], [(0, .arr (.int .u8)), (1, .arr (.prod (.int .i64) (.prod (.int .i64) (.prod (.int .i64) (.prod (.int .i64) (.prod (.int .i64) (.prod (.int .i64) (.prod (.int .i64) (.prod (.int .i64) (.prod (.int .i64) (.prod (.int .i64) (.int .i64)))))))))))), (2, .arr (.prod (.int .i64) (.prod (.int .i64) (.prod (.int .i64) (.int .i64)))))]⟩]
def f53.S : FnSpec := ⟨f53.ins, f53.outs, [], fun x => f53 x.1 x.2.1 x.2.2.1 x.2.2.2.1 x.2.2.2.2.1 x.2.2.2.2.2.1 x.2.2.2.2.2.2.1 x.2.2.2.2.2.2.2.1 x.2.2.2.2.2.2.2.2.1 x.2.2.2.2.2.2.2.2.2.1 x.2.2.2.2.2.2.2.2.2.2.1⟩
def f53.E (fuel : Nat) : Env := ⟨tis, [(46, f46.S), (47, f47.S), (48, f48.S)], [], [], [], [], 0, [], fuel⟩
theorem f53.run : ∀ x, runFn (f53.E 100000000000000000000) Go.Proofs.Try.f53 ((Go.Proofs.Try.f53.body).getD .skip) f53.S x = f53.S.f x := by intro x; kernel_rfl
theorem f53.sound : Sound Go.Proofs.Try.prog 53 f53.S := sound_of_run (fun _ => f53.E 100000000000000000000) (by kernel_rfl) (by kernel_rfl) (by kernel_rfl) orders (fun _ => ⟨tis_ok, EqsOk.nil _, (FnsOk.cons f46.sound (FnsOk.cons f47.sound (FnsOk.cons f48.sound FnsOk.nil)))⟩) (fun _ => rfl) (by kernel_rfl) (by kernel_rfl) (fun x r h => (f53.run x).trans h)
end
end Go.Proofs.Yteaglfpppihpjaa.Run
